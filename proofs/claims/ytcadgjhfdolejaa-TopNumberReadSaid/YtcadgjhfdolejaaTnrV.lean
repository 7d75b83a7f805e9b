/-
  The memory of TopNumberRead's loops: a row of runs, a row of numbers. Own text.
-/
import Derived.Test.YtcadgjhfdolejaaPlZ
namespace Go.Proofs.Ytcadgjhfdolejaa
open Go.RowKit
set_option linter.unusedVariables false
/-- Runs of which the first k are moved. -/
def runC (rs : List (Nat × Nat × Nat)) (k i : Nat) : Nat × Nat × Nat := if i < k then sh3 (rs.getD i (0, 0, 0)) else rs.getD i (0, 0, 0)
def runF (rs : List (Nat × Nat × Nat)) (k j : Nat) : Value := .int .i64 (if j % 3 = 0 then (runC rs k (j / 3)).1 else if j % 3 = 1 then (runC rs k (j / 3)).2.1 else (runC rs k (j / 3)).2.2 : Nat)
def RunT (w : World) (g : Nat) (rs : List (Nat × Nat × Nat)) (k : Nat) : Prop := FTab (fun v : Value => v) w g (rs.length * 3) (runF rs k)
theorem RunT.own {w : World} {base : Nat} {e : TypeId} {v : Value} {rs : List (Nat × Nat × Nat)} (h : Own w base e 3 encRun v rs) (hn : rs ≠ []) : ∃ g cap, v = .slice (some ⟨g, 0, none⟩) rs.length cap ∧ rs.length ≤ cap ∧ base ≤ g ∧ g < w.heap.size ∧ RunT w g rs 0 := by
  obtain ⟨g, cap, rfl, h1, h2, h3⟩ := Own.cap h hn
  obtain ⟨oa, cap2, e2, -, hf⟩ := h.flat (fun _ => rfl)
  cases e2
  refine ⟨g, cap, rfl, h1, h2, h3, fun j hj => ?_, fun o => ?_⟩
  · have hi : j / 3 < rs.length := by omega
    obtain ⟨b, off, e3, c0, c1, c2⟩ := hf.run hi
    cases e3
    have hr : runC rs 0 (j / 3) = rs[j / 3] := by
      unfold runC
      rw [if_neg (by omega), List.getD_eq_getElem?_getD, List.getElem?_eq_getElem hi]
      rfl
    show _ = some (runF rs 0 j)
    unfold runF
    rw [hr]
    by_cases e0 : j % 3 = 0
    · rw [if_pos e0, ← c0]; congr 1; show Addr.mk g j none = Addr.mk g (0 + j / 3 * 3) none; congr 1; omega
    · rw [if_neg e0]
      by_cases e1 : j % 3 = 1
      · rw [if_pos e1, ← c1]; congr 1; show Addr.mk g j none = Addr.mk g (0 + j / 3 * 3 + 1) none; congr 1; omega
      · rw [if_neg e1, ← c2]; congr 1; show Addr.mk g j none = Addr.mk g (0 + j / 3 * 3 + 2) none; congr 1; omega
  · rcases h.2 with ⟨e4, -⟩ | ⟨g', cap', cur, e4, hbg, hg, rest⟩
    · cases e4
    · cases e4
      unfold World.frozen?
      rw [hg]
      simp
theorem RunT.cells {w : World} {g k m : Nat} {rs : List (Nat × Nat × Nat)} (h : RunT w g rs k) (hm : m < rs.length) :
    w.cell? ⟨g, m * 3, none⟩ = some (.int .i64 ((runC rs k m).1 : Nat)) ∧ w.cell? ⟨g, m * 3 + 1, none⟩ = some (.int .i64 ((runC rs k m).2.1 : Nat)) ∧ w.cell? ⟨g, m * 3 + 2, none⟩ = some (.int .i64 ((runC rs k m).2.2 : Nat)) := by
  have h0 := h.at' (m * 3) (by omega)
  have h1 := h.at' (m * 3 + 1) (by omega)
  have h2 := h.at' (m * 3 + 2) (by omega)
  unfold runF at h0 h1 h2
  rw [if_pos (by omega), show m * 3 / 3 = m by omega] at h0
  rw [if_neg (by omega), if_pos (by omega), show (m * 3 + 1) / 3 = m by omega] at h1
  rw [if_neg (by omega), if_neg (by omega), show (m * 3 + 2) / 3 = m by omega] at h2
  exact ⟨h0, h1, h2⟩
theorem runC_at {rs : List (Nat × Nat × Nat)} {k : Nat} (hk : k < rs.length) : runC rs k k = rs[k] ∧ runC rs (k + 1) k = sh3 rs[k] := by
  unfold runC
  rw [if_neg (by omega), if_pos (by omega), List.getD_eq_getElem?_getD, List.getElem?_eq_getElem hk]
  exact ⟨rfl, rfl⟩
theorem RunT.next {w : World} {g k : Nat} {rs : List (Nat × Nat × Nat)} (h : RunT w g rs k) (hk : k < rs.length) :
    RunT (((w.setCell ⟨g, k * 3, none⟩ (.int .i64 (rs[k].1 + 3 : Nat))).setCell ⟨g, k * 3 + 1, none⟩ (.int .i64 (rs[k].2.1 + 3 : Nat))).setCell ⟨g, k * 3 + 2, none⟩ (.int .i64 (rs[k].2.2 + 3 : Nat))) g rs (k + 1) := by
  have e := ((FTab.set h (i := k * 3) (by omega) (.int .i64 (rs[k].1 + 3 : Nat))).set (i := k * 3 + 1) (by omega) (.int .i64 (rs[k].2.1 + 3 : Nat))).set (i := k * 3 + 2) (by omega) (.int .i64 (rs[k].2.2 + 3 : Nat))
  refine FTab.congr e fun j hj => ?_
  have hc := (runC_at hk).2
  by_cases e2 : j = k * 3 + 2
  · rw [if_pos e2]
    unfold runF
    rw [if_neg (by omega), if_neg (by omega), show j / 3 = k by omega, hc]
    rfl
  · rw [if_neg e2]
    by_cases e1 : j = k * 3 + 1
    · rw [if_pos e1]
      unfold runF
      rw [if_neg (by omega), if_pos (by omega), show j / 3 = k by omega, hc]
      rfl
    · rw [if_neg e1]
      by_cases e0 : j = k * 3
      · rw [if_pos e0]
        unfold runF
        rw [if_pos (by omega), show j / 3 = k by omega, hc]
        rfl
      · rw [if_neg e0]
        have : runC rs k (j / 3) = runC rs (k + 1) (j / 3) := by
          unfold runC
          by_cases g : j / 3 < k
          · rw [if_pos g, if_pos (by omega)]
          · rw [if_neg g, if_neg (by omega)]
        unfold runF
        rw [this]
theorem RunT.flat {w : World} {g : Nat} {rs : List (Nat × Nat × Nat)} (h : RunT w g rs rs.length) : Flat w 3 encRun (some ⟨g, 0, none⟩) (rs.map sh3) := by
  intro i hi j hj
  rw [List.length_map] at hi
  have hc := h.cells hi
  have e : (rs.map sh3)[i]'(by rw [List.length_map]; exact hi) = runC rs rs.length i := by
    rw [List.getElem_map]
    unfold runC
    rw [if_pos hi, List.getD_eq_getElem?_getD, List.getElem?_eq_getElem hi]
    rfl
  rw [e]
  match j, hj with
  | 0, _ => exact ⟨_, rfl, g, 0, rfl, by rw [Nat.zero_add, Nat.add_zero]; exact hc.1⟩
  | 1, _ => exact ⟨_, rfl, g, 0, rfl, by rw [Nat.zero_add]; exact hc.2.1⟩
  | 2, _ => exact ⟨_, rfl, g, 0, rfl, by rw [Nat.zero_add]; exact hc.2.2⟩
theorem RunT.below {w w' : World} {g k : Nat} {rs : List (Nat × Nat × Nat)} (h : RunT w g rs k) (hb : Below w.heap.size w w') (hl : g < w.heap.size) : RunT w' g rs k := FTab.below h hb hl
theorem RunT.drewN {w : World} {g k : Nat} {rs : List (Nat × Nat × Nat)} (h : RunT w g rs k) (n : Nat) : RunT (w.drewN n) g rs k := FTab.drewN h n
theorem RunT.drew {w : World} {g k : Nat} {rs : List (Nat × Nat × Nat)} (h : RunT w g rs k) : RunT w.drew g rs k := FTab.drew h
/-- The view's cells. -/
def rawF (a0 a1 a2 a3 a4 a5 a6 : Int) (v7 : Value) : Nat → Value
  | 0 => .int .i64 a0
  | 1 => .int .i64 a1
  | 2 => .int .i64 a2
  | 3 => .int .i64 a3
  | 4 => .int .i64 a4
  | 5 => .int .i64 a5
  | 6 => .int .i64 a6
  | _ => v7
theorem T8.raw (w : World) (a0 a1 a2 a3 a4 a5 a6 : Int) (v7 : Value) (t : TypeId) : FTab (fun v : Value => v) (w.alloc (.cells #[.int .i64 a0, .int .i64 a1, .int .i64 a2, .int .i64 a3, .int .i64 a4, .int .i64 a5, .int .i64 a6, v7] t)) w.heap.size 8 (rawF a0 a1 a2 a3 a4 a5 a6 v7) := by
  refine ⟨fun i hi => ?_, fun o => ?_⟩
  · rw [cell_of_row _ w.heap.size i _ _ (0, 0) (heap_alloc_new w _)]
    match i, hi with
    | 0, _ => rfl
    | 1, _ => rfl
    | 2, _ => rfl
    | 3, _ => rfl
    | 4, _ => rfl
    | 5, _ => rfl
    | 6, _ => rfl
    | 7, _ => rfl
  · unfold World.frozen?
    rw [heap_alloc_new]
    simp
theorem rawF_is {f : Nat → Value} {a0 a1 a2 a3 a4 a5 a6 : Int} {v7 : Value} (h0 : f 0 = .int .i64 a0) (h1 : f 1 = .int .i64 a1) (h2 : f 2 = .int .i64 a2) (h3 : f 3 = .int .i64 a3) (h4 : f 4 = .int .i64 a4) (h5 : f 5 = .int .i64 a5) (h6 : f 6 = .int .i64 a6) (h7 : f 7 = v7) : ∀ i, i < 8 → f i = rawF a0 a1 a2 a3 a4 a5 a6 v7 i := fun i hi => by
  match i, hi with
  | 0, _ => exact h0
  | 1, _ => exact h1
  | 2, _ => exact h2
  | 3, _ => exact h3
  | 4, _ => exact h4
  | 5, _ => exact h5
  | 6, _ => exact h6
  | 7, _ => exact h7
/-- The view's box, the print. -/
structure CamS (w0 W : World) (gb dq cq W6 h10 : Nat) (Q : Plane) (bx : Nat → Value) : Prop where
  bx : FTab (fun v : Value => v) W w0.heap.size 8 bx
  t : T3 W gb (.int .i64 W6) (.int .i64 h10) (.slice (some ⟨dq, 0, none⟩) (strV W6 * h10) cq)
  d : Dat W dq W6 h10 Q
  bel : Below w0.heap.size w0 W
  lt : w0.heap.size < gb ∧ gb < W.heap.size ∧ w0.heap.size < dq ∧ dq < W.heap.size
section
variable {w0 W W' : World} {gb dq cq W6 h10 : Nat} {Q : Plane} {bx : Nat → Value}
theorem CamS.set (h : CamS w0 W gb dq cq W6 h10 Q bx) {i : Nat} (hi : i < 8) (v : Value) : CamS w0 (W.setCell ⟨w0.heap.size, i, none⟩ v) gb dq cq W6 h10 Q (fun j => if j = i then v else bx j) := by
  have ho := Only.set W w0.heap.size i v
  obtain ⟨l1, l2, l3, l4⟩ := h.lt
  exact ⟨FTab.set h.bx hi v, h.t.heap (ho.hp gb (by omega)), h.d.heap (ho.hp dq (by omega)), ho.bel h.bel (Nat.le_refl _), l1, by rw [ho.sz]; exact l2, l3, by rw [ho.sz]; exact l4⟩
theorem CamS.drew (h : CamS w0 W gb dq cq W6 h10 Q bx) : CamS w0 W.drew gb dq cq W6 h10 Q bx := ⟨FTab.drew h.bx, h.t.drew, h.d.drew, h.bel.drew, h.lt⟩
theorem CamS.below (h : CamS w0 W gb dq cq W6 h10 Q bx) (hb : Below W.heap.size W W') : CamS w0 W' gb dq cq W6 h10 Q bx := by
  obtain ⟨l1, l2, l3, l4⟩ := h.lt
  have hs := hb.size
  exact ⟨FTab.below h.bx hb (FTab.lt h.bx (by omega)), h.t.below hb, h.d.below hb l4, bthen h.bel hb, l1, by omega, l3, by omega⟩
theorem CamS.congr (h : CamS w0 W gb dq cq W6 h10 Q bx) {bx' : Nat → Value} (he : ∀ i, i < 8 → bx i = bx' i) : CamS w0 W gb dq cq W6 h10 Q bx' := ⟨FTab.congr h.bx he, h.t, h.d, h.bel, h.lt⟩
end
/-- The noise of the first k numbers. -/
def noisK (bl : Nat) (ns : List Int) (k : Nat) : List Int := if bl = 0 then (ns.take k).map fun x => x % 29 - 14 else []
theorem noisK_all (bl : Nat) (ns : List Int) : noisK bl ns (min ns.length 20) = nois1 bl ns := by
  unfold noisK nois1
  by_cases h : ns.length ≤ 20
  · rw [show min ns.length 20 = ns.length by omega, List.take_of_length_le (Nat.le_refl _), List.take_of_length_le h]
  · rw [show min ns.length 20 = 20 by omega]
theorem noisK_zero (bl : Nat) (ns : List Int) : noisK bl ns 0 = [] := by
  unfold noisK
  split <;> rfl
theorem noisK_none {bl : Nat} (h : bl ≠ 0) (ns : List Int) (k : Nat) : noisK bl ns k = [] := if_neg h
theorem noisK_succ {bl : Nat} (h : bl = 0) {ns : List Int} {k : Nat} (hk : k < ns.length) : noisK bl ns (k + 1) = noisK bl ns k ++ [ns[k] % 29 - 14] := by
  unfold noisK
  rw [if_pos h, if_pos h, List.take_succ_eq_append_getElem hk, List.map_append]
  rfl
theorem noisK_len (bl : Nat) (ns : List Int) (k : Nat) : (noisK bl ns k).length ≤ k := by
  unfold noisK
  split
  · rw [List.length_map, List.length_take]; omega
  · simp
theorem Own.otherI {w : World} {base : Nat} {v : Value} {xs : List Int} (h : Own w base 3 1 encInt v xs) {b o : Nat} (hb : b < base) (x : Value) : Own (w.setCell ⟨b, o, none⟩ x) base 3 1 encInt v xs := by
  refine ⟨h.1, ?_⟩
  rcases h.2 with hn | ⟨g, cap, cur, rfl, hbg, hg, rest⟩
  · exact .inl hn
  · refine .inr ⟨g, cap, cur, rfl, hbg, ?_, rest⟩
    rw [Below.heap_setCell _ _ _ _ (show g ≠ b by omega)]
    exact hg
theorem turnN_dims (s : Bm) : ∀ n, ((turnN s n).W = s.W ∧ (turnN s n).H = s.H) ∨ ((turnN s n).W = s.H ∧ (turnN s n).H = s.W)
  | 0 => .inl ⟨rfl, rfl⟩
  | n + 1 => by
    rcases turnN_dims s n with ⟨h1, h2⟩ | ⟨h1, h2⟩
    · exact .inr ⟨h2, h1⟩
    · exact .inl ⟨h2, h1⟩
end Go.Proofs.Ytcadgjhfdolejaa
