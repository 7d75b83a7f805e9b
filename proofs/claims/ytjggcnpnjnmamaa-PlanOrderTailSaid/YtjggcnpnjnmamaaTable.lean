/-
  printworkslaw4.table: its walk. Own text.
-/
import Derived.Test.YtjggcnpnjnmamaaVerLaw
import Derived.Test.YtjggcnpnjnmamaaPlanLaw
namespace Go.Proofs.Ytjggcnpnjnmamaa
open Go.RowKit
set_option linter.unusedVariables false
/-- The table, cut. -/
def tabV (rows : List (List Int)) : List (List Int) := (rows.take 6).map (List.take 7)
theorem tabV_length (rows : List (List Int)) : (tabV rows).length = min 6 rows.length := by simp [tabV]
theorem tabV_get {rows : List (List Int)} {i : Nat} (h : i < (tabV rows).length) (h2 : i < rows.length) : (tabV rows)[i] = rows[i].take 7 := by simp [tabV]
/-- The rows' headers have room for their elements. -/
def RowsCap (w : World) (oa : Option Addr) (rows : List (List Int)) : Prop :=
  ∀ i (h : i < rows.length), ∃ b off oa' cap, oa = some ⟨b, off, none⟩ ∧ w.cell? ⟨b, off + i, none⟩ = some (.slice oa' rows[i].length cap) ∧ rows[i].length ≤ cap ∧ rows[i].length ≤ maxLen ∧ (oa' = none → cap = 0) ∧ Flat w 1 encInt oa' rows[i]
theorem RowsCap.below {w w' : World} {oa : Option Addr} {rows : List (List Int)} (h : RowsCap w oa rows) (hb : Below w.heap.size w w') : RowsCap w' oa rows := by
  intro i hi
  obtain ⟨b, off, oa', cap, e, h1, h2, h3, h4, h5⟩ := h i hi
  exact ⟨b, off, oa', cap, e, keepCell hb h1, h2, h3, h4, h5.below hb⟩
theorem RowsCap.rows1 {w : World} {oa : Option Addr} {rows : List (List Int)} (h : RowsCap w oa rows) : Rows1 w 1 encInt oa rows := by
  intro i hi
  obtain ⟨b, off, oa', cap, e, h1, h2, h3, h4, h5⟩ := h i hi
  exact ⟨b, off, _, e, h1, oa', cap, rfl, h4, h3, h5⟩
theorem elemInts : ElemType Try.prog 25 (.slice none 0 0) 1 24 := ElemType.mk (by kernel_rfl) rfl (by decide)
def encV (v : Value) : List Value := [v]
/-- The values that were taken so far read as the first rows. -/
def TabTo (w : World) (rows : List (List Int)) (k : Nat) (vs : List Value) : Prop := vs.length = k ∧ ∀ i (h1 : i < vs.length) (h2 : i < (tabV rows).length), IsSlice w 1 encInt vs[i] (tabV rows)[i]
theorem TabTo.below {w w' : World} {rows : List (List Int)} {k : Nat} {vs : List Value} (h : TabTo w rows k vs) (hb : Below w.heap.size w w') : TabTo w' rows k vs := ⟨h.1, fun i h1 h2 => (h.2 i h1 h2).below hb⟩
theorem TabTo.snoc {w : World} {rows : List (List Int)} {k : Nat} {vs : List Value} {v : Value} (h : TabTo w rows k vs) (hk : k < (tabV rows).length) (hv : IsSlice w 1 encInt v (tabV rows)[k]) : TabTo w rows (k + 1) (vs ++ [v]) := by
  refine ⟨by rw [List.length_append, h.1]; rfl, fun i h1 h2 => ?_⟩
  by_cases e : i < vs.length
  · rw [List.getElem_append_left e]; exact h.2 i e h2
  · have hl : i = vs.length := by rw [List.length_append] at h1; simp at h1; omega
    have : i = k := by rw [hl, h.1]
    subst this
    rw [List.getElem_append_right (by omega)]
    simpa [hl] using hv
/-- Returns the cut table in new memory. -/
def RetTab (rows : List (List Int)) (w : World) (e : Ending) (w' : World) : Prop := ∃ oa cap, e = .returned (.slice oa (tabV rows).length cap) ∧ Rows1 w' 1 encInt oa (tabV rows) ∧ Below w.heap.size w w'
theorem Flat.take {w : World} {oa : Option Addr} {xs : List Int} (h : Flat w 1 encInt oa xs) (n : Nat) : Flat w 1 encInt oa (xs.take n) := by
  intro i hi j hj
  rw [List.length_take] at hi
  obtain ⟨v, h1, h2⟩ := h i (by omega) j hj
  exact ⟨v, by rw [List.getElem_take]; exact h1, h2⟩
theorem TabTo.ret {w w0 : World} {rows : List (List Int)} {vs : List Value} {v : Value} (h0 : TabTo w0 rows (tabV rows).length vs) (hown : Own w w0.heap.size 25 1 encV v vs) (hb : Below w0.heap.size w0 w) : RetTab rows w0 (.returned v) w := by
  have h := h0.below hb
  obtain ⟨oa, cap, rfl, _, _, hf⟩ := hown.isSlice (fun _ => rfl)
  rw [h.1]
  refine ⟨oa, cap, rfl, fun i hi => ?_, hb⟩
  obtain ⟨x, hx, b, off, e, hc⟩ := hf i (by rw [h.1]; exact hi) 0 (by omega)
  simp only [encV, List.getElem?_cons_zero, Option.some.injEq] at hx
  subst hx
  have hs := h.2 i (by rw [h.1]; exact hi) hi
  simp only [Nat.mul_one, Nat.add_zero] at hc
  exact ⟨b, off, _, e, hc, hs⟩
set_option maxHeartbeats 4000000 in
theorem table_any (oa : Option Addr) (rows : List (List Int)) (cap : Nat) (w : World) (hm : rows.length ≤ maxLen) (hcap : rows.length ≤ cap) (hx : RowsCap w oa rows) (h0 : oa = none → cap = 0) :
    Calls Try.prog 13 #[.slice oa rows.length cap] w (RetTab rows w) := by
  obtain ⟨n, hn⟩ : ∃ n, n = (tabV rows).length := ⟨_, rfl⟩
  have hn2 := hn
  rw [tabV_length] at hn2
  have hm9 : rows.length ≤ 9223372036854775807 := by unfold maxLen at hm; omega
  have hn6 : n ≤ 6 := by omega
  have hnr : n ≤ rows.length := by omega
  have HN := Lib.hid hn
  have HX := Lib.hid hx
  have HT0 : Hid (∃ vs, Own w w.heap.size 25 1 encV (.slice none 0 0) vs ∧ TabTo w rows 0 vs) := ⟨[], Own.nil _ _ _ _ _, rfl, fun i h1 _ => by simp at h1⟩
  by_cases h6 : 6 < rows.length
  · obtain ⟨b, off, rfl⟩ := hx.rows1.some (by omega)
    have hn3 : n = 6 := by omega
    have hc6 : 6 ≤ cap := by omega
    subst hn3
    clear hn hn2 hx h0
    have hd : decide ((6 : Int) < (rows.length : Int)) = true := decide_eq_true (by omega)
    go_enter Try.func13, Try.ntmps13
    go_wp2
    go_loopw [3, 13] (fun s3 s13 wr => ∃ k : Nat, k ≤ 6 ∧ s13 = .int .i64 k ∧ Hid (Below w.heap.size w wr ∧ ∃ vs, Own wr w.heap.size 25 1 encV s3 vs ∧ TabTo w rows k vs)) (fun _ s13 _ => 6 - (intOf s13).toNat)
    case atStart => exact ⟨0, by omega, rfl, Lib.hid ⟨Below.refl _ _, HT0.out⟩⟩
    case round =>
      obtain ⟨k, hk, rfl, HW⟩ := hrel
      obtain ⟨vs, hown, htt⟩ := HW.out.2
      have HT := Lib.hid htt
      have HB := Lib.hid HW.out.1
      clear htt HW
      by_cases hlt : k < 6
      · have hkr : k < rows.length := by omega
        have hkt : k < (tabV rows).length := by rw [← HN.out]; exact hlt
        obtain ⟨b', off', oak, capk, e, ck0, lc, lm, ln, fk⟩ := HX.out k hkr
        simp only [Option.some.injEq, Addr.mk.injEq, and_true] at e
        obtain ⟨rfl, rfl⟩ := e
        have ck := keepCell HB.out ck0
        obtain ⟨r, hr⟩ : ∃ r, r = rows[k].length := ⟨_, rfl⟩
        rw [← hr] at ck lc
        have hr9 : r ≤ 9223372036854775807 := by rw [hr]; unfold maxLen at lm; omega
        by_cases h7 : 7 < r
        · obtain ⟨bk, offk, rfl⟩ : ∃ bk offk, oak = some ⟨bk, offk, none⟩ := by
            obtain ⟨bk, offk, e, _⟩ := fk.int (i := 0) (by omega)
            exact ⟨bk, offk, e⟩
          have HT2 : Hid (TabTo w rows (k + 1) (vs ++ [.slice (some ⟨bk, offk, none⟩) 7 capk])) := HT.out.snoc hkt ⟨_, _, by rw [tabV_get hkt hkr, List.length_take]; congr 1; omega, (fun h => by cases h), by rw [tabV_get hkt hkr, List.length_take]; omega, by rw [tabV_get hkt hkr]; exact fk.take 7⟩
          have lc7 : 7 ≤ capk := by omega
          clear hr fk ln ck0 lm
          have hown2 := hown.alloc (.cells #[.slice (some ⟨bk, offk, none⟩) 7 capk] 25)
          go_wp2_with (at_builtin; go_must (refine wpList_app1 rfl (.tmp 22) (.tmp 24) 22 rfl elemInts Try.underlying22 w.heap.size _ _ encV rfl hown2 (.slice (some ⟨bk, offk, none⟩) 7 capk) ⟨wr.heap.size, 0, none⟩ 1 rfl rfl ?c1 ?c2 ?c3 ?c4 ?c5 ?_))
          case c1 => exact cell_one_new _ _ _
          case c2 => simp [encV, Value.oneCell']
          case c3 => have := HT.out.1; omega
          case c4 => have := HT.out.1; unfold maxLen; omega
          case c5 => have := HB.out.size; simp; omega
          intro v' w3 hown3 hg3
          have HW3 : Hid (Below w.heap.size w w3 ∧ ∃ vs, Own w3 w.heap.size 25 1 encV v' vs ∧ TabTo w rows (k + 1) vs) := ⟨hown2.grown (balloc HB.out _) (Nat.le_refl _) hg3, _, hown3, HT2.out⟩
          clear hown3 hg3 hown2 hown
          go_wp2
          go_roundw
          case rel => exact ⟨k + 1, by omega, by go_num, HW3⟩
          case measure => simp [intOf]; omega
        · have HT2 : Hid (TabTo w rows (k + 1) (vs ++ [.slice oak r capk])) := HT.out.snoc hkt ⟨_, _, by rw [tabV_get hkt hkr, List.length_take]; congr 1; omega, ln, by rw [tabV_get hkt hkr, List.length_take]; omega, by rw [tabV_get hkt hkr]; exact fk.take 7⟩
          clear hr fk ln ck0 lm
          have hown2 := hown.alloc (.cells #[.slice oak r capk] 25)
          go_wp2_with (at_builtin; go_must (refine wpList_app1 rfl (.tmp 22) (.tmp 24) 22 rfl elemInts Try.underlying22 w.heap.size _ _ encV rfl hown2 (.slice oak r capk) ⟨wr.heap.size, 0, none⟩ 1 rfl rfl ?c1 ?c2 ?c3 ?c4 ?c5 ?_))
          case c1 => exact cell_one_new _ _ _
          case c2 => simp [encV, Value.oneCell']
          case c3 => have := HT.out.1; omega
          case c4 => have := HT.out.1; unfold maxLen; omega
          case c5 => have := HB.out.size; simp; omega
          intro v' w3 hown3 hg3
          have HW3 : Hid (Below w.heap.size w w3 ∧ ∃ vs, Own w3 w.heap.size 25 1 encV v' vs ∧ TabTo w rows (k + 1) vs) := ⟨hown2.grown (balloc HB.out _) (Nat.le_refl _) hg3, _, hown3, HT2.out⟩
          clear hown3 hg3 hown2 hown
          go_wp2
          go_roundw
          case rel => exact ⟨k + 1, by omega, by go_num, HW3⟩
          case measure => simp [intOf]; omega
      · obtain rfl : k = 6 := by omega
        have HF := Lib.hid (TabTo.ret (w0 := w) (rows := rows) (by rw [← HN.out]; exact HT.out) hown HB.out)
        clear hown
        go_wp2
        go_ret
        exact HF.out
  · have hn3 : n = rows.length := by omega
    have HN3 := Lib.hid hn3
    rw [← hn3] at h6 hm9 hcap ⊢
    clear hn hn2 hx h0 hn3 hm
    have hd : decide ((6 : Int) < (n : Int)) = false := decide_eq_false (by omega)
    go_enter Try.func13, Try.ntmps13
    go_wp2
    go_loopw [3, 13] (fun s3 s13 wr => ∃ k : Nat, k ≤ n ∧ s13 = .int .i64 k ∧ Hid (Below w.heap.size w wr ∧ ∃ vs, Own wr w.heap.size 25 1 encV s3 vs ∧ TabTo w rows k vs)) (fun _ s13 _ => n - (intOf s13).toNat)
    case atStart => exact ⟨0, by omega, rfl, Lib.hid ⟨Below.refl _ _, HT0.out⟩⟩
    case round =>
      obtain ⟨k, hk, rfl, HW⟩ := hrel
      obtain ⟨vs, hown, htt⟩ := HW.out.2
      have HT := Lib.hid htt
      have HB := Lib.hid HW.out.1
      clear htt HW
      by_cases hlt : k < n
      · have hkr : k < rows.length := by omega
        have hkt : k < (tabV rows).length := by rw [← HN.out]; exact hlt
        obtain ⟨b', off', oak, capk, e, ck0, lc, lm, ln, fk⟩ := HX.out k hkr
        subst e
        have ck := keepCell HB.out ck0
        obtain ⟨r, hr⟩ : ∃ r, r = rows[k].length := ⟨_, rfl⟩
        rw [← hr] at ck lc
        have hr9 : r ≤ 9223372036854775807 := by rw [hr]; unfold maxLen at lm; omega
        by_cases h7 : 7 < r
        · obtain ⟨bk, offk, rfl⟩ : ∃ bk offk, oak = some ⟨bk, offk, none⟩ := by
            obtain ⟨bk, offk, e, _⟩ := fk.int (i := 0) (by omega)
            exact ⟨bk, offk, e⟩
          have HT2 : Hid (TabTo w rows (k + 1) (vs ++ [.slice (some ⟨bk, offk, none⟩) 7 capk])) := HT.out.snoc hkt ⟨_, _, by rw [tabV_get hkt hkr, List.length_take]; congr 1; omega, (fun h => by cases h), by rw [tabV_get hkt hkr, List.length_take]; omega, by rw [tabV_get hkt hkr]; exact fk.take 7⟩
          have lc7 : 7 ≤ capk := by omega
          clear hr fk ln ck0 lm
          have hown2 := hown.alloc (.cells #[.slice (some ⟨bk, offk, none⟩) 7 capk] 25)
          go_wp2_with (at_builtin; go_must (refine wpList_app1 rfl (.tmp 22) (.tmp 24) 22 rfl elemInts Try.underlying22 w.heap.size _ _ encV rfl hown2 (.slice (some ⟨bk, offk, none⟩) 7 capk) ⟨wr.heap.size, 0, none⟩ 1 rfl rfl ?c1 ?c2 ?c3 ?c4 ?c5 ?_))
          case c1 => exact cell_one_new _ _ _
          case c2 => simp [encV, Value.oneCell']
          case c3 => have := HT.out.1; omega
          case c4 => have := HT.out.1; unfold maxLen; omega
          case c5 => have := HB.out.size; simp; omega
          intro v' w3 hown3 hg3
          have HW3 : Hid (Below w.heap.size w w3 ∧ ∃ vs, Own w3 w.heap.size 25 1 encV v' vs ∧ TabTo w rows (k + 1) vs) := ⟨hown2.grown (balloc HB.out _) (Nat.le_refl _) hg3, _, hown3, HT2.out⟩
          clear hown3 hg3 hown2 hown
          go_wp2
          go_roundw
          case rel => exact ⟨k + 1, by omega, by go_num, HW3⟩
          case measure => simp [intOf]; omega
        · have HT2 : Hid (TabTo w rows (k + 1) (vs ++ [.slice oak r capk])) := HT.out.snoc hkt ⟨_, _, by rw [tabV_get hkt hkr, List.length_take]; congr 1; omega, ln, by rw [tabV_get hkt hkr, List.length_take]; omega, by rw [tabV_get hkt hkr]; exact fk.take 7⟩
          clear hr fk ln ck0 lm
          have hown2 := hown.alloc (.cells #[.slice oak r capk] 25)
          go_wp2_with (at_builtin; go_must (refine wpList_app1 rfl (.tmp 22) (.tmp 24) 22 rfl elemInts Try.underlying22 w.heap.size _ _ encV rfl hown2 (.slice oak r capk) ⟨wr.heap.size, 0, none⟩ 1 rfl rfl ?c1 ?c2 ?c3 ?c4 ?c5 ?_))
          case c1 => exact cell_one_new _ _ _
          case c2 => simp [encV, Value.oneCell']
          case c3 => have := HT.out.1; omega
          case c4 => have := HT.out.1; unfold maxLen; omega
          case c5 => have := HB.out.size; simp; omega
          intro v' w3 hown3 hg3
          have HW3 : Hid (Below w.heap.size w w3 ∧ ∃ vs, Own w3 w.heap.size 25 1 encV v' vs ∧ TabTo w rows (k + 1) vs) := ⟨hown2.grown (balloc HB.out _) (Nat.le_refl _) hg3, _, hown3, HT2.out⟩
          clear hown3 hg3 hown2 hown
          go_wp2
          go_roundw
          case rel => exact ⟨k + 1, by omega, by go_num, HW3⟩
          case measure => simp [intOf]; omega
      · obtain rfl : k = n := by omega
        have HF := Lib.hid (TabTo.ret (w0 := w) (rows := rows) (by rw [← HN.out]; exact HT.out) hown HB.out)
        clear hown
        go_wp2
        go_ret
        exact HF.out
end Go.Proofs.Ytjggcnpnjnmamaa
