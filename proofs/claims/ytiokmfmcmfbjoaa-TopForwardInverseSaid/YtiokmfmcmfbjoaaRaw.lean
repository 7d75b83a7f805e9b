/-
  The walk of grid.Raw. Own text.
-/
import Derived.Test.YtiokmfmcmfbjoaaRawV
import Derived.Deep.LoopGhost
import Derived.RegionTactic
import Derived.BigRegion
import Derived.Deep.CutBlock
import Derived.Deep.DeepCutAuto
import Derived.Deep.RegionLaw
import Derived.Handy
namespace Go.Proofs.Ytiokmfmcmfbjoaa
open Go.RowKit
set_option linter.unusedVariables false
theorem step_facts {s : Int} (h : SizeOk s) : 1 ≤ stepOf s ∧ stepOf s ≤ 65280 ∧ stepOf s * (s - 1) = 65280 ∧ 2 ≤ s ∧ s ≤ 9 ∧ 65280 / (s - 1) = stepOf s := by
  unfold stepOf
  unfold SizeOk at h
  rcases h with h | h | h | h | h | h | h <;> subst h <;> decide
/-- The arrays cell, part and axis behind k axes. -/
structure SortedTo (w : World) (S : Int) (xs : List Int) (k : Nat) (W : World) : Prop where
  bel : Below w.heap.size w W
  size : W.heap.size = w.heap.size + 1 + 1 + 1
  cell : FTab (Value.int .i64) W w.heap.size 4 (fun i => if i < k then cellV S xs i else 0)
  part : FTab (Value.int .i64) W (w.heap.size + 1) 4 (fun i => if i < k then partOf S xs i else 0)
  axis : ∃ T : Nat → Int, FTab (Value.int .i64) W (w.heap.size + 1 + 1) 4 T ∧ ∀ i, i < k → T i = (((axesTo (partOf S xs) xs.length k).getD i 0 : Nat) : Int)
theorem FTab.lit4 {w : World} {g : Nat} {e : TypeId} (h : w.heap[g]? = some (.cells #[.int .i64 0, .int .i64 0, .int .i64 0, .int .i64 0] e)) : FTab (Value.int .i64) w g 4 (fun _ => 0) := by
  refine ⟨fun i hi => ?_, fun o => ?_⟩
  · rw [cell_of_row _ g i _ e (0, 0) h]
    match i, hi with
    | 0, _ => rfl
    | 1, _ => rfl
    | 2, _ => rfl
    | 3, _ => rfl
  · unfold World.frozen?
    rw [h]
    simp
theorem SortedTo.start (w : World) (S : Int) (xs : List Int) (t : TypeId) : SortedTo w S xs 0 (((w.alloc (.cells #[.int .i64 0, .int .i64 0, .int .i64 0, .int .i64 0] t)).alloc (.cells #[.int .i64 0, .int .i64 0, .int .i64 0, .int .i64 0] t)).alloc (.cells #[.int .i64 0, .int .i64 0, .int .i64 0, .int .i64 0] t)) := by
  have s1 : (w.alloc (.cells #[.int .i64 0, .int .i64 0, .int .i64 0, .int .i64 0] t)).heap.size = w.heap.size + 1 := World.size_alloc _ _
  have s2 : ((w.alloc (.cells #[.int .i64 0, .int .i64 0, .int .i64 0, .int .i64 0] t)).alloc (.cells #[.int .i64 0, .int .i64 0, .int .i64 0, .int .i64 0] t)).heap.size = w.heap.size + 1 + 1 := by rw [World.size_alloc, s1]
  refine ⟨balloc (balloc (balloc (Below.refl _ _) _) _) _, by rw [World.size_alloc, s2], ?_, ?_, fun _ => 0, ?_, fun i hi => by omega⟩
  · refine (FTab.lit4 (e := t) ?_).congr fun i hi => (if_neg (by omega)).symm
    rw [heap_alloc_old _ _ (by omega), heap_alloc_old _ _ (by omega), heap_alloc_new]
  · refine (FTab.lit4 (e := t) ?_).congr fun i hi => (if_neg (by omega)).symm
    rw [heap_alloc_old _ _ (by omega), ← s1, heap_alloc_new]
  · refine FTab.lit4 (e := t) ?_
    rw [← s2, heap_alloc_new]
/-- Axis k under way: the hole is at place j. -/
structure ShiftAt (w : World) (S : Int) (xs : List Int) (k j : Nat) (W : World) : Prop where
  bel : Below w.heap.size w W
  size : W.heap.size = w.heap.size + 1 + 1 + 1
  cell : FTab (Value.int .i64) W w.heap.size 4 (fun i => if i < k + 1 then cellV S xs i else 0)
  part : FTab (Value.int .i64) W (w.heap.size + 1) 4 (fun i => if i < k + 1 then partOf S xs i else 0)
  to' : slot (ltP (partOf S xs)) k (axesTo (partOf S xs) xs.length k) j = slot (ltP (partOf S xs)) k (axesTo (partOf S xs) xs.length k) k
  axis : ∃ T : Nat → Int, FTab (Value.int .i64) W (w.heap.size + 1 + 1) 4 T ∧ (∀ i, i < j → T i = (((axesTo (partOf S xs) xs.length k).getD i 0 : Nat) : Int)) ∧ ∀ i, j < i → i ≤ k → T i = (((axesTo (partOf S xs) xs.length k).getD (i - 1) 0 : Nat) : Int)
theorem ShiftAt.drewN {w : World} {S : Int} {xs : List Int} {k j : Nat} {W : World} (h : ShiftAt w S xs k j W) (q : Nat) : ShiftAt w S xs k j (W.drewN q) := by
  obtain ⟨h1, h2, h3, h4, h5, T, h6, h7⟩ := h
  exact ⟨bdrewN h1 q, h2, h3.drewN q, h4.drewN q, h5, T, h6.drewN q, h7⟩
theorem SortedTo.next {w : World} {S : Int} {xs : List Int} {k : Nat} {W : World} (h : SortedTo w S xs k W) (hk : k < 4) : ShiftAt w S xs k k ((W.setCell ⟨w.heap.size, k, none⟩ (.int .i64 (cellV S xs k))).setCell ⟨w.heap.size + 1, k, none⟩ (.int .i64 (partOf S xs k))) := by
  obtain ⟨h1, h2, h3, h4, T, h5, h6⟩ := h
  refine ⟨(h1.setCell (p := ⟨w.heap.size, k, none⟩) (Nat.le_refl _) _).setCell (p := ⟨w.heap.size + 1, k, none⟩) (by simp) _, by simp [h2], ?_, ?_, rfl, T, ?_, h6, fun i h7 h8 => by omega⟩
  · refine ((h3.set hk (cellV S xs k)).other (by omega) _).congr fun i hi => ?_
    by_cases e : i = k
    · subst e; rw [if_pos rfl, if_pos (by omega)]
    · rw [if_neg e]
      by_cases e2 : i < k
      · rw [if_pos e2, if_pos (by omega)]
      · rw [if_neg e2, if_neg (by omega)]
  · refine ((h4.other (by omega) _).set hk (partOf S xs k)).congr fun i hi => ?_
    by_cases e : i = k
    · subst e; rw [if_pos rfl, if_pos (by omega)]
    · rw [if_neg e]
      by_cases e2 : i < k
      · rw [if_pos e2, if_pos (by omega)]
      · rw [if_neg e2, if_neg (by omega)]
  · exact (h5.other (by omega) _).other (by omega) _
theorem ShiftAt.shift {w : World} {S : Int} {xs : List Int} {k j : Nat} {W : World} (h : ShiftAt w S xs k (j + 1) W) (hk : k < 4) (hj : j < k) (hkx : k ≤ xs.length) (hlt : partOf S xs ((axesTo (partOf S xs) xs.length k).getD j 0) < partOf S xs k) :
    ShiftAt w S xs k j (W.setCell ⟨w.heap.size + 1 + 1, j + 1, none⟩ (.int .i64 (((axesTo (partOf S xs) xs.length k).getD j 0 : Nat) : Int))) := by
  obtain ⟨h1, h2, h3, h4, h5, T, h6, h7, h8⟩ := h
  refine ⟨h1.setCell (p := ⟨w.heap.size + 1 + 1, j + 1, none⟩) (by simp; omega) _, by simp [h2], h3.other (by omega) _, h4.other (by omega) _, ?_, _, h6.set (by omega) _, fun i hi => ?_, fun i hi hi2 => ?_⟩
  · rw [← h5]
    show _ = if ltP (partOf S xs) k ((axesTo (partOf S xs) xs.length k).getD j default) then _ else _
    have e : ltP (partOf S xs) k ((axesTo (partOf S xs) xs.length k).getD j default) = true := decide_eq_true hlt
    rw [if_pos e]
  · rw [if_neg (by omega)]
    exact h7 i (by omega)
  · by_cases e : i = j + 1
    · subst e; rw [if_pos rfl]; rfl
    · rw [if_neg e]
      exact h8 i (by omega) hi2
theorem ShiftAt.stop {w : World} {S : Int} {xs : List Int} {k j : Nat} {W : World} (h : ShiftAt w S xs k j W) (hk : k < 4) (hjk : j ≤ k) (hkx : k < xs.length) (hs : slot (ltP (partOf S xs)) k (axesTo (partOf S xs) xs.length k) j = j) :
    SortedTo w S xs (k + 1) (W.setCell ⟨w.heap.size + 1 + 1, j, none⟩ (.int .i64 (k : Int))) := by
  obtain ⟨h1, h2, h3, h4, h5, T, h6, h7, h8⟩ := h
  refine ⟨h1.setCell (p := ⟨w.heap.size + 1 + 1, j, none⟩) (by simp; omega) _, by simp [h2], h3.other (by omega) _, h4.other (by omega) _, _, h6.set (by omega) _, fun i hi => ?_⟩
  have hL : (axesTo (partOf S xs) xs.length k).length = k := axesTo_len _ _ _
  rw [axesTo_succ _ hkx]
  unfold insL
  rw [hL, ← h5, hs]
  unfold insAt
  have hlt : ((axesTo (partOf S xs) xs.length k).take j).length = j := by rw [List.length_take, hL]; omega
  rw [List.getD_eq_getElem?_getD]
  by_cases e : i = j
  · subst e
    rw [if_pos rfl, List.getElem?_append_right (by omega), hlt, Nat.sub_self]
    rfl
  · rw [if_neg e]
    by_cases e2 : i < j
    · rw [h7 i e2, List.getElem?_append_left (by omega), List.getElem?_take, if_pos e2, ← List.getD_eq_getElem?_getD]
    · rw [h8 i (by omega) (by omega), List.getElem?_append_right (by omega), hlt]
      obtain ⟨q, hq⟩ : ∃ q, i - j = q + 1 := ⟨i - j - 1, by omega⟩
      rw [hq, List.getElem?_cons_succ, List.getElem?_drop, show j + q = i - 1 by omega, ← List.getD_eq_getElem?_getD]
/-- The memory of the second loop. -/
structure RawMem (w : World) (S : Int) (xs : List Int) (c A : Nat → Int) (W : World) : Prop where
  bel : Below w.heap.size w W
  lt : w.heap.size + 1 + 1 + 1 < W.heap.size
  cell : FTab (Value.int .i64) W w.heap.size 4 c
  part : FTab (Value.int .i64) W (w.heap.size + 1) 4 (partOf S xs)
  axis : ∃ T : Nat → Int, FTab (Value.int .i64) W (w.heap.size + 1 + 1) 4 T ∧ ∀ i, i < xs.length → T i = ((axisV S xs i : Nat) : Int)
  acc : FTab (Value.int .i64) W (w.heap.size + 1 + 1 + 1) 3 A
theorem RawMem.drewN {w : World} {S : Int} {xs : List Int} {c A : Nat → Int} {W : World} (h : RawMem w S xs c A W) (q : Nat) : RawMem w S xs c A (W.drewN q) := by
  obtain ⟨h1, h2, h3, h4, ⟨T, h5, h6⟩, h7⟩ := h
  exact ⟨bdrewN h1 q, h2, h3.drewN q, h4.drewN q, ⟨T, h5.drewN q, h6⟩, h7.drewN q⟩
theorem RawMem.congr {w : World} {S : Int} {xs : List Int} {c A A' : Nat → Int} {W : World} (h : RawMem w S xs c A W) (he : ∀ o, o < 3 → A o = A' o) : RawMem w S xs c A' W := by
  obtain ⟨h1, h2, h3, h4, h5, h7⟩ := h
  exact ⟨h1, h2, h3, h4, h5, h7.congr he⟩
theorem RawMem.start {w : World} {S : Int} {xs : List Int} {W : World} (h : SortedTo w S xs xs.length W) (t : TypeId) : RawMem w S xs (cellV S xs) (fun _ => 0) (W.alloc (.cells (madeArr (.int .i64 0) 3) t)) := by
  obtain ⟨h1, h2, h3, h4, T, h5, h6⟩ := h
  refine ⟨balloc h1 _, by rw [World.size_alloc]; omega, (h3.alloc (by omega) _).congr fun i hi => ?_, (h4.alloc (by omega) _).congr fun i hi => ?_, ⟨T, h5.alloc (by omega) _, h6⟩, ?_⟩
  · by_cases e : i < xs.length
    · rw [if_pos e]
    · rw [if_neg e, cellV_out (by omega)]
  · by_cases e : i < xs.length
    · rw [if_pos e]
    · rw [if_neg e, partOf_out (by omega)]
  · have := FTab.made (Value.int .i64) W 3 0 t
    rw [h2] at this
    exact this
theorem RawMem.setA {w : World} {S : Int} {xs : List Int} {c A : Nat → Int} {W : World} (h : RawMem w S xs c A W) {q : Nat} (hq : q < 3) (v : Int) : RawMem w S xs c (fun o => if o = q then v else A o) (W.setCell ⟨w.heap.size + 1 + 1 + 1, q, none⟩ (.int .i64 v)) := by
  obtain ⟨h1, h2, h3, h4, ⟨T, h5, h6⟩, h7⟩ := h
  exact ⟨h1.setCell (p := ⟨w.heap.size + 1 + 1 + 1, q, none⟩) (by simp; omega) _, by simpa using h2, h3.other (by omega) _, h4.other (by omega) _, ⟨T, h5.other (by omega) _, h6⟩, h7.set hq v⟩
theorem RawMem.bumpC {w : World} {S : Int} {xs : List Int} {c A : Nat → Int} {W : World} (h : RawMem w S xs c A W) {a : Nat} (ha : a < 4) : RawMem w S xs (bump c a) A (W.setCell ⟨w.heap.size, a, none⟩ (.int .i64 (c a + 1))) := by
  obtain ⟨h1, h2, h3, h4, ⟨T, h5, h6⟩, h7⟩ := h
  refine ⟨h1.setCell (p := ⟨w.heap.size, a, none⟩) (Nat.le_refl _) _, by simpa using h2, (h3.set ha _).congr fun i _ => ?_, h4.other (by omega) _, ⟨T, h5.other (by omega) _, h6⟩, h7.other (by omega) _⟩
  unfold bump
  by_cases e : i = a
  · subst e; rfl
  · rw [if_neg e, if_neg e]
def mixA (A : Nat → Int) (k : Int) (V : Nat → Int) (q o : Nat) : Int := if o < q then addA A k V o else A o
def RawFin (P : Prof) (xs : List Int) (w W : World) : Prop := FTab (Value.int .i64) W (w.heap.size + 1 + 1 + 1) 3 (fun o => rawV P xs o) ∧ Below w.heap.size w W ∧ w.heap.size + 1 + 1 + 1 < W.heap.size
/-- The first d cells of an array of four. -/
theorem run_cut4 (W : World) (g d : Nat) (hd : d ≤ 4) : (Instr.sliceAt 71 (.pointer (some ⟨g, 0, none⟩)) none (some (.int .i64 (d : Int))) none).run Try.prog W = .ok (.slice (some ⟨g, 0, none⟩) d 4) W := by
  have hal : Try.prog.arrayLen 71 = 4 := by kernel_rfl
  rw [run_sliceAt_array_h (P := Try.prog) W 71 ⟨g, 0, none⟩ (by kernel_rfl) .i64 (d : Int) (by omega) (by rw [hal]; omega)]
  go_simp
/-- What a round of the second loop starts from. -/
structure RawRound (P : Prof) (w : World) (S : Int) (xs : List Int) (j : Nat) (wt : Int) (c A : Nat → Int) (W : World) : Prop where
  inv : RawInv P xs S j wt c A
  mem : RawMem w S xs c A W
set_option maxRecDepth 100000 in
set_option maxHeartbeats 4000000 in
theorem raw_any (b : Nat) (P : Prof) (oi : Option Addr) (ci : Nat) (oc : Option Addr) (cc : Nat) (ov : Option Addr) (cv : Nat) (ox : Option Addr) (xs : List Int) (cx : Nat) (w : World) (hh : HeldAt w b P oi ci oc cc ov cv) (hok : OkProf P) (hx : Flat w 1 encInt ox xs) (hl : xs.length = P.inks.length) (hr : ∀ i (h : i < xs.length), 0 ≤ xs[i] ∧ xs[i] ≤ 65280) :
    Calls Try.prog 24 #[.pointer (some ⟨b, 3, none⟩), .slice ox xs.length cx] w (RetRow 3 (fun o => rawV P xs o) w) := by
  have c3 := hh.inn
  have c4 := hh.out
  have c5 := hh.size
  have c6 := hh.vals
  have hsz := hok.grid.shape.2.1
  have hst := step_facts hsz
  obtain ⟨s1, s2, s3, s4, s5, s6⟩ := hst
  have hf := hok.few
  obtain ⟨d, hd⟩ : ∃ d : Nat, xs.length = d := ⟨_, rfl⟩
  have hinn : P.inn = (d : Int) := by rw [hok.axes.1, ← hl, hd]
  have hout : P.out = 3 := hok.axes.2
  rw [hinn] at c3
  rw [hout] at c4
  have d1 : 1 ≤ d := by omega
  have d4 : d ≤ 4 := by omega
  obtain ⟨S, hS⟩ : ∃ S, S = stepOf P.size := ⟨_, rfl⟩
  rw [← hS] at s1 s2 s3 s6
  have hnz : ¬ P.size - 1 = 0 := by omega
  obtain ⟨size, hsize⟩ : ∃ s, s = P.size := ⟨_, rfl⟩
  rw [← hsize] at c5 s3 s4 s5 s6 hnz
  have HH := Lib.hid hh
  have HOK := Lib.hid hok
  have HX := Lib.hid hx
  have HR := Lib.hid hr
  have HE := Lib.hid (And.intro hd (And.intro hS (And.intro hsize (And.intro hinn hout))))
  rw [hd]
  clear hh hok hx hr hd hS hsize hsz hf hl hinn hout
  have mk : ∀ w : World, (Instr.makeSlice 24 (.int .i64 3) (.int .i64 3)).run Try.prog w = .ok (.slice (some ⟨w.heap.size, 0, none⟩) 3 3) (w.alloc (.cells (madeArr (.int .i64 0) 3) 3)) := run_makeArr (P := Try.prog) elemInt Try.underlying24 (.int .i64 0) rfl 3 (by omega) (by omega)
  have hbw := cell?_lt c3
  simp only at hbw
  have hbw1 : b < w.heap.size + 1 := by omega
  have hbw2 : b < w.heap.size + 1 + 1 := by omega
  have hbw3 : b < w.heap.size + 1 + 1 + 1 := by omega
  go_enter Try.func24, Try.ntmps24
  go_wp2
  rw [s6]
  have H0 : Hid (SortedTo w S xs 0 (((w.alloc (.cells #[.int .i64 0, .int .i64 0, .int .i64 0, .int .i64 0] 71)).alloc (.cells #[.int .i64 0, .int .i64 0, .int .i64 0, .int .i64 0] 71)).alloc (.cells #[.int .i64 0, .int .i64 0, .int .i64 0, .int .i64 0] 71))) := SortedTo.start w S xs 71
  go_loopw [32] (fun i wr => ∃ k : Nat, k ≤ d ∧ i = .int .i64 k ∧ Hid (SortedTo w S xs k wr)) (fun i _ => d - (intOf i).toNat)
  case atStart => exact ⟨0, by omega, rfl, H0⟩
  case round =>
    clear H0
    obtain ⟨k, hk, rfl, HK⟩ := hrel
    by_cases hlt : k < d
    · have hkx : k < xs.length := by have := HE.out.1; omega
      obtain ⟨bx, ofx, rfl, e1⟩ := (HX.out.below HK.out.bel).int hkx
      obtain ⟨x0, x1⟩ := HR.out k hkx
      have hgd : xs.getD k 0 = xs[k] := by rw [List.getD_eq_getElem?_getD, List.getElem?_eq_getElem hkx]; rfl
      obtain ⟨C, hC⟩ : ∃ C, C = cellV S xs k := ⟨_, rfl⟩
      obtain ⟨Q, hQ⟩ : ∃ Q, Q = partOf S xs k := ⟨_, rfl⟩
      obtain ⟨x, hx⟩ : ∃ x, x = xs[k] := ⟨_, rfl⟩
      rw [← hx] at e1 x0 x1 hgd
      have q1 : x / S = C := by rw [hC]; unfold cellV; rw [hgd]
      have q2 : x % S = Q := by rw [hQ]; unfold partOf; rw [hgd]
      have q3 : x.tdiv S = C := by rw [Int.tdiv_eq_ediv_of_nonneg x0]; exact q1
      have q4 : x.tmod S = Q := by rw [Int.tmod_eq_emod_of_nonneg x0]; exact q2
      have q5 : ¬ S = 0 := by omega
      have q6 : 0 ≤ C ∧ C ≤ 65280 := by
        rw [← q1]
        exact ⟨Int.ediv_nonneg x0 (by omega), by
          have := Int.ediv_le_self S x0
          omega⟩
      have q7 : 0 ≤ Q ∧ Q < S := by rw [← q2]; exact ⟨Int.emod_nonneg x q5, Int.emod_lt_of_pos x (by omega)⟩
      have hk4 : k < 4 := by omega
      have k3 : (0 : Int) ≤ (k : Int) := by omega
      have k5 : (k : Int) < 4 := by omega
      have f1 := HK.out.cell.at' k hk4
      have f2 := HK.out.part.at' k hk4
      have f3 := HK.out.cell.fz k
      have f4 := HK.out.part.fz k
      have hsz := HK.out.size
      have HNX : Hid (ShiftAt w S xs k k ((wr.setCell ⟨w.heap.size, k, none⟩ (.int .i64 C)).setCell ⟨w.heap.size + 1, k, none⟩ (.int .i64 Q))) := by rw [hC, hQ]; exact HK.out.next hk4
      have HCQ := Lib.hid (And.intro hC (And.intro hQ hx))
      clear hC hQ hx hgd
      go_wp2
      go_cut [11] (fun s11 wx => s11 = .int .i64 x ∧ Hid (ShiftAt w S xs k k wx))
      case first =>
        go_region
        all_goals
          go_wp2_with fail
          go_meet
        exact ⟨rfl, HNX.out.drewN 1⟩
      case rest =>
        obtain ⟨rfl, HS⟩ := hcut
        clear HNX f1 f2 f3 f4 hsz e1 q1 q2 q3 q4 q6 HK
        obtain ⟨wo, rfl⟩ : ∃ wo : World, wo = wr := ⟨_, rfl⟩
        go_wp2
        go_loopw [12] (fun i wr => ∃ j : Nat, j ≤ k ∧ i = .int .i64 j ∧ Hid (ShiftAt w S xs k j wr)) (fun i _ => (intOf i).toNat)
        case atStart => exact ⟨k, by omega, rfl, HS⟩
        case round =>
          clear HS
          obtain ⟨j, hj, rfl, HJ⟩ := hrel
          by_cases hj0 : j = 0
          · have hsl : Hid (slot (ltP (partOf S xs)) k (axesTo (partOf S xs) xs.length k) j = j) := by subst hj0; exact Lib.hid rfl
            subst hj0
            rw [show ((0 : Nat) : Int) = 0 from rfl]
            go_wp2
            go_quiet (fail)
            have HQ := Lib.hid (HJ.out.drewN nq)
            generalize wr.drewN nq = W1 at *
            obtain ⟨T, hT, _, _⟩ := HQ.out.axis
            have f1 := hT.at' 0 (by omega)
            have f2 := hT.fz 0
            have hsz := HQ.out.size
            have HST : Hid (SortedTo w S xs (k + 1) (W1.setCell ⟨w.heap.size + 1 + 1, 0, none⟩ (.int .i64 (k : Int)))) := HQ.out.stop hk4 hj hkx hsl.out
            clear hT
            go_wp2
            go_roundw
            case rel => exact ⟨k + 1, by omega, by go_num, HST⟩
            case measure => simp [intOf]; omega
          · obtain ⟨i, rfl⟩ : ∃ i, j = i + 1 := ⟨j - 1, by omega⟩
            obtain ⟨T, hT, hT2, _⟩ := HJ.out.axis
            have hL : (axesTo (partOf S xs) xs.length k).length = k := axesTo_len _ _ _
            obtain ⟨a, ha⟩ : ∃ a, a = (axesTo (partOf S xs) xs.length k).getD i 0 := ⟨_, rfl⟩
            have hak : a < k := by
              rw [ha]
              refine (axesTo_mem (partOf S xs) (d := xs.length) (by omega)).1 ?_
              rw [List.getD_eq_getElem?_getD, List.getElem?_eq_getElem (by omega)]
              exact List.getElem_mem _
            have f1 := hT.at' i (by omega)
            rw [hT2 i (by omega), ← ha] at f1
            have f2 := HJ.out.part.at' a (by omega)
            rw [if_pos (by omega)] at f2
            have f3 := HJ.out.part.at' k (by omega)
            rw [if_pos (by omega)] at f3
            have hsz := HJ.out.size
            obtain ⟨Pa, hPa⟩ : ∃ p, p = partOf S xs a := ⟨_, rfl⟩
            obtain ⟨Pk, hPk⟩ : ∃ p, p = partOf S xs k := ⟨_, rfl⟩
            rw [← hPa] at f2
            rw [← hPk] at f3
            have r1 : ((i + 1 : Nat) : Int) = (i : Int) + 1 := by omega
            have r2 : (0 : Int) < (i : Int) + 1 := by omega
            have r3 : (0 : Int) ≤ (i : Int) := by omega
            have r4 : (i : Int) < 4 := by omega
            have r5 : (i : Int) + 1 < 4 := by omega
            have r6 : (0 : Int) ≤ (a : Int) := by omega
            have r7 : (a : Int) < 4 := by omega
            have r8 : (0 : Int) ≤ (i : Int) + 1 := by omega
            have HA := Lib.hid ha
            have HPa := Lib.hid hPa
            have HPk := Lib.hid hPk
            rw [r1]
            clear hT hT2 hL ha hPa hPk hj0
            by_cases hc : Pa < Pk
            · go_wp2
              go_quiet (fail)
              have HQ := Lib.hid (HJ.out.drewN nq)
              generalize wr.drewN nq = W1 at *
              obtain ⟨T, hT, hT2, _⟩ := HQ.out.axis
              have f4 := hT.at' i (by omega)
              rw [hT2 i (by omega), ← HA.out] at f4
              have f5 := hT.at' (i + 1) (by omega)
              have f6 := hT.fz (i + 1)
              have hsz := HQ.out.size
              have HST : Hid (ShiftAt w S xs k i (W1.setCell ⟨w.heap.size + 1 + 1, i + 1, none⟩ (.int .i64 (a : Int)))) := by
                rw [HA.out]
                exact HQ.out.shift hk4 (by omega) (by omega) (by rw [← HA.out, ← HPa.out, ← HPk.out]; exact hc)
              clear hT hT2
              go_wp2
              go_roundw
              case rel => exact ⟨i, by omega, by go_num, HST⟩
              case measure => simp [intOf]
            · go_wp2
              go_quiet (fail)
              have HQ := Lib.hid (HJ.out.drewN nq)
              generalize wr.drewN nq = W1 at *
              obtain ⟨T, hT, hT2, _⟩ := HQ.out.axis
              have f5 := hT.at' (i + 1) (by omega)
              have f6 := hT.fz (i + 1)
              have hsz := HQ.out.size
              have HST : Hid (SortedTo w S xs (k + 1) (W1.setCell ⟨w.heap.size + 1 + 1, i + 1, none⟩ (.int .i64 (k : Int)))) := by
                refine HQ.out.stop hk4 hj hkx ?_
                show (if ltP (partOf S xs) k ((axesTo (partOf S xs) xs.length k).getD i default) then _ else _) = _
                have e : ltP (partOf S xs) k ((axesTo (partOf S xs) xs.length k).getD i default) = false := decide_eq_false (by
                  show ¬ partOf S xs ((axesTo (partOf S xs) xs.length k).getD i 0) < _
                  rw [← HA.out, ← HPa.out, ← HPk.out]; omega)
                rw [if_neg (by rw [e]; simp)]
              clear hT hT2
              go_wp2
              go_roundw
              case rel => exact ⟨k + 1, by omega, by go_num, HST⟩
              case measure => simp [intOf]; omega
    · obtain rfl : d = k := by omega
      have hsz := HK.out.size
      have hbel := HK.out.bel
      have f1 : wr.cell? ⟨b, 4, none⟩ = some (.int .i64 3) := keepCell hbel c4
      have HL := HE.out.1
      have HI0 : Hid (RawInv P xs S 0 S (cellV S xs) (fun _ => 0)) := RawInv.start (by omega) HE.out.2.1 (by rw [← HE.out.2.2.1]; exact s3) HR.out
      have HM0 : Hid (RawMem w S xs (cellV S xs) (fun _ => 0) (wr.alloc (.cells (madeArr (.int .i64 0) 3) 3))) := RawMem.start (by rw [HL]; exact HK.out) _
      replace HL := Lib.hid HL
      clear hbel HK
      go_wp2
      generalize wr.alloc (.cells (madeArr (.int .i64 0) 3) 3) = w2 at *
      go_loopw [14, 15] (fun s14 s15 wr => ∃ j : Nat, s15 = .int .i64 j ∧ j ≤ d + 1 ∧ ((j ≤ d ∧ ∃ (wt : Int) (c A : Nat → Int), s14 = .int .i64 wt ∧ Hid (RawRound P w S xs j wt c A wr)) ∨ (d < j ∧ Hid (RawFin P xs w wr)))) (fun _ s15 _ => d + 1 - (intOf s15).toNat)
      case atStart => exact ⟨0, rfl, by omega, .inl ⟨by omega, S, _, _, rfl, ⟨HI0.out, HM0.out⟩⟩⟩
      case round =>
        clear HI0 HM0 f1 mk
        obtain ⟨wo, rfl⟩ : ∃ wo : World, wo = wr := ⟨_, rfl⟩
        obtain ⟨j, rfl, hj, ⟨hjd, wt, c, A, rfl, HRR⟩ | ⟨hjd, HF⟩⟩ := hrel
        · have w0 := HRR.out.inv.w0
          have w1 := HRR.out.inv.w1
          have hnb := nextP_bd (by omega) HRR.out.inv
          have hbw4 : w.heap.size + 1 + 1 + 1 < wo.heap.size := HRR.out.mem.lt
          have HV : Hid (∃ n : Nat, nodeV P.size ((List.range d).map c) = (n : Int) ∧ n * 3 + 2 < P.vals.length ∧ n ≤ 10922 ∧ ∀ o (ho : o < 3), ∃ h : n * 3 + o < P.vals.length, valAt P d o c = P.vals[n * 3 + o] ∧ -65535 ≤ valAt P d o c ∧ valAt P d o c ≤ 65535) :=
            valAt_in HOK.out.grid HE.out.2.2.2.1 HE.out.2.2.2.2 (fun i hi => HRR.out.inv.inb i (by rw [HL.out]; exact hi))
          obtain ⟨p, hp⟩ : ∃ p, p = nextP S xs j := ⟨_, rfl⟩
          rw [← hp] at hnb
          have HP := Lib.hid hp
          clear hp
          go_upto_if 87 with fail
          go_cut [16] (fun s16 wx => s16 = .int .i64 p ∧ Hid (RawRound P w S xs j wt c A wx))
          case first =>
            by_cases hlt : j < d
            · obtain ⟨T, hT, hT2⟩ := HRR.out.mem.axis
              have hxl : j < xs.length := by rw [HL.out]; omega
              have e1 := hT.at' j (by omega)
              rw [hT2 j hxl] at e1
              have ha : axisV S xs j < xs.length := axisV_lt hxl
              rw [HL.out] at ha
              have e2 := HRR.out.mem.part.at' (axisV S xs j) (by omega)
              have e3 : partOf S xs (axisV S xs j) = p := by rw [HP.out]; exact (if_pos hxl).symm
              rw [e3] at e2
              obtain ⟨a, ha'⟩ : ∃ a, a = axisV S xs j := ⟨_, rfl⟩
              rw [← ha'] at e1 e2 ha
              have a4 : a < 4 := by omega
              clear hT hT2 e3 ha'
              go_wp2_with fail
              go_meet
              exact ⟨rfl, HRR⟩
            · obtain rfl : p = 0 := by rw [HP.out]; exact if_neg (by rw [HL.out]; omega)
              go_wp2_with fail
              go_meet
              exact ⟨rfl, HRR⟩
          case rest =>
            obtain ⟨rfl, HR2⟩ := hcut
            clear HRR
            have g1 : IntKind.i64.wrap (wt - p) = wt - p := IntWalk.i64_in _ (by omega)
            obtain ⟨k, hk⟩ : ∃ k, k = wt - p := ⟨_, rfl⟩
            have k0 : 0 ≤ k := by omega
            have k1 : k ≤ 65280 := by omega
            obtain ⟨w5, rfl⟩ : ∃ w5 : World, w5 = wc := ⟨_, rfl⟩
            go_upto_if 97 with fail
            rw [← hk]
            have HKE := Lib.hid hk
            clear hk
            go_cut [18] (fun s18 wx => Hid (RawMem w S xs c (addA A k (fun o => valAt P d o c)) wx))
            case first =>
              by_cases hk0 : 0 < k
              · have hpw : p < wt := by have := HKE.out; omega
                obtain ⟨n, hn, hn2, hn3, hnv⟩ := HV.out
                obtain ⟨m, hm⟩ : ∃ m, m = n * 3 := ⟨_, rfl⟩
                have hat : Hid (∀ W, RawMem w S xs c A W → Calls Try.prog 30 #[.pointer (some ⟨b, 3, none⟩), .slice (some ⟨w.heap.size, 0, none⟩) d 4] W fun e w' => e = .returned (.int .i64 m) ∧ W = w') := fun W hW => by
                  have hs : 1 ≤ P.size ∧ P.size ≤ 9 := by rw [← HE.out.2.2.1]; omega
                  have hin : InNodes P.size ((List.range d).map c) := fun i hi => by
                    rw [List.length_map, List.length_range] at hi
                    rw [List.getElem_map, List.getElem_range]
                    exact HR2.out.inv.inb i (by rw [HL.out]; exact hi)
                  have h := at_any b P.size 3 (some ⟨w.heap.size, 0, none⟩) ((List.range d).map c) 4 W (keepCell hW.bel c4) (by rw [← HE.out.2.2.1]; exact keepCell hW.bel c5) (FTab.flat ⟨fun i hi => hW.cell.at' i (by omega), hW.cell.fz⟩) (by simp; omega) hs.1 hs.2 (by omega) (by omega) hin
                  rw [List.length_map, List.length_range, hn, show (n : Int) * 3 = (m : Int) by omega] at h
                  exact h
                have m1 : m ≤ 32766 := by omega
                rw [← hm] at hn2 hnv
                have hcut4 := run_cut4 w5 w.heap.size d d4
                clear hn hm hn3 HV
                go_wp2_with (go_at_call 30; refine (hat.out _ HR2.out.mem).mono ?_; rintro e w2 ⟨rfl, rfl⟩)
                have HNV := Lib.hid hnv
                clear hat hnv
                go_loopw [104] (fun i wr => ∃ q : Nat, q ≤ 3 ∧ i = .int .i64 q ∧ Hid (RawMem w S xs c (mixA A k (fun o => valAt P d o c) q) wr)) (fun i _ => 3 - (intOf i).toNat)
                case atStart => exact ⟨0, by omega, rfl, HR2.out.mem.congr fun o _ => (if_neg (by omega)).symm⟩
                case round =>
                  obtain ⟨q, hq, rfl, HQ⟩ := hrel
                  by_cases hq3 : q < 3
                  · obtain ⟨hlen, hval, hv1, hv2⟩ := HNV.out q hq3
                    have hlen2 : m + q < P.vals.length := hlen
                    have f1 := HQ.out.acc.at' q hq3
                    have e0 : mixA A k (fun o => valAt P d o c) q q = A q := if_neg (by omega)
                    rw [e0] at f1
                    have f2 := HQ.out.acc.fz q
                    obtain ⟨bv, offv, rfl, f3⟩ := (HH.out.prof.vals.below HQ.out.bel).int hlen
                    rw [← hval] at f3
                    have f4 := keepCell HQ.out.bel c6
                    have f5 := HQ.out.lt
                    have hb := addA_bd w0 w1 hnb.1 hnb.2 ⟨hv1, hv2⟩ (HR2.out.inv.bd q hq3)
                    rw [← HKE.out] at hb
                    have HNX : Hid (RawMem w S xs c (mixA A k (fun o => valAt P d o c) (q + 1)) (wr.setCell ⟨w.heap.size + 1 + 1 + 1, q, none⟩ (.int .i64 (A q + k * valAt P d q c)))) := by
                      refine (HQ.out.setA hq3 (A q + k * valAt P d q c)).congr fun o _ => ?_
                      unfold mixA
                      by_cases e : o = q
                      · subst e
                        rw [if_pos rfl, if_pos (by omega)]
                        exact (if_pos hk0).symm
                      · rw [if_neg e]
                        by_cases e2 : o < q
                        · rw [if_pos e2, if_pos (by omega)]
                        · rw [if_neg e2, if_neg (by omega)]
                    generalize A q = a at *
                    generalize valAt P d q c = V at *
                    have gm : IntKind.i64.wrap (k * V) = k * V := IntWalk.i64_in _ (by omega)
                    have ga : IntKind.i64.wrap (a + k * V) = a + k * V := IntWalk.i64_in _ (by omega)
                    obtain ⟨r, hr⟩ : ∃ r, r = m + q := ⟨_, rfl⟩
                    have gr : IntKind.i64.wrap ((m : Int) + (q : Int)) = (r : Int) := by rw [IntWalk.i64_in _ (by omega)]; omega
                    rw [← hr] at f3 hlen2
                    obtain ⟨N, hN⟩ : ∃ N, N = P.vals.length := ⟨_, rfl⟩
                    rw [← hN] at f4 hlen2
                    have r1 : (r : Int) < (N : Int) := by omega
                    have r2 : (0 : Int) ≤ (r : Int) := by omega
                    have r3 : (q : Int) < 3 := by omega
                    have r4 : (0 : Int) ≤ (q : Int) := by omega
                    clear hval hlen hN hr hb e0 hn2
                    go_wp2
                    go_region
                    all_goals
                      go_wp2
                      go_roundw
                      case rel => exact ⟨q + 1, by omega, by go_num, HNX.out.drewN 1⟩
                      case measure => simp [intOf]; omega
                  · obtain rfl : q = 3 := by omega
                    have HFN : Hid (RawMem w S xs c (addA A k (fun o => valAt P d o c)) wr) := HQ.out.congr fun o ho => if_pos ho
                    go_wp2_with fail
                    go_meet
                    exact HFN
              · have HFN : Hid (RawMem w S xs c (addA A k (fun o => valAt P d o c)) w5) := HR2.out.mem.congr fun o _ => (if_neg hk0).symm
                have hpw : ¬ p < wt := by have := HKE.out; omega
                clear hk0
                go_wp2_with fail
                go_meet
                exact HFN
            case rest =>
              have hwc : w.heap.size + 1 + 1 + 1 < wc.heap.size := hcut.out.lt
              by_cases hlt : j < d
              · have hxl : j < xs.length := by rw [HL.out]; exact hlt
                by_cases hp0 : p = 0
                · have HFN : Hid (RawFin P xs w wc) := ⟨hcut.out.acc.congr fun o ho => by
                    have := RawInv.last (by omega) HR2.out.inv (by rw [← HP.out]; exact hp0) ho
                    rw [← HP.out, ← HKE.out, HL.out] at this
                    exact this, hcut.out.bel, hcut.out.lt⟩
                  subst hp0
                  clear hcut
                  go_wp2
                  go_ret
                  exact ⟨_, rfl, by omega, HFN.out.2.2, HFN.out.1, HFN.out.2.1⟩
                · obtain ⟨T, hT, hT2⟩ := hcut.out.axis
                  have e1 := hT.at' j (by omega)
                  rw [hT2 j hxl] at e1
                  have ha : axisV S xs j < xs.length := axisV_lt hxl
                  rw [HL.out] at ha
                  have e2 := hcut.out.cell.at' (axisV S xs j) (by omega)
                  have e3 := hcut.out.cell.fz (axisV S xs j)
                  have hci := HR2.out.inv.inb (axisV S xs j) (by rw [HL.out]; exact ha)
                  rw [← HE.out.2.2.1] at hci
                  have HNI : Hid (RawInv P xs S (j + 1) p (bump c (axisV S xs j)) (addA A k (fun o => valAt P d o c))) := by
                    have hvb := HV.out
                    obtain ⟨_, _, _, _, hnv⟩ := hvb
                    have h := RawInv.next (by omega) (by rw [← HE.out.2.2.1]; exact s3) HR.out (fun o ho => by rw [HL.out]; obtain ⟨_, _, h1, h2⟩ := hnv o ho; exact ⟨h1, h2⟩) HR2.out.inv hxl (by rw [← HP.out]; exact hp0)
                    rw [← HP.out, ← HKE.out, HL.out] at h
                    exact h
                  have HNM : Hid (RawMem w S xs (bump c (axisV S xs j)) (addA A k (fun o => valAt P d o c)) (wc.setCell ⟨w.heap.size, axisV S xs j, none⟩ (.int .i64 (c (axisV S xs j) + 1)))) := hcut.out.bumpC (by omega)
                  obtain ⟨a, ha'⟩ : ∃ a, a = axisV S xs j := ⟨_, rfl⟩
                  rw [← ha'] at e1 e2 e3 ha hci HNI HNM
                  have a4 : a < 4 := by omega
                  obtain ⟨ca, hca⟩ : ∃ ca, ca = c a := ⟨_, rfl⟩
                  rw [← hca] at e2 hci HNM
                  clear hT hT2 ha' hca hcut
                  go_wp2
                  go_roundw
                  case rel => exact ⟨j + 1, by go_num, by omega, .inl ⟨by omega, p, _, _, rfl, ⟨HNI.out, HNM.out⟩⟩⟩
                  case measure => simp [intOf]; omega
              · obtain rfl : d = j := by omega
                have hp0 : p = 0 := by rw [HP.out]; exact if_neg (by rw [HL.out]; omega)
                have HFN : Hid (RawFin P xs w wc) := ⟨hcut.out.acc.congr fun o ho => by
                  have := RawInv.last (by omega) HR2.out.inv (by rw [← HP.out]; exact hp0) ho
                  rw [← HP.out, ← HKE.out, HL.out] at this
                  exact this, hcut.out.bel, hcut.out.lt⟩
                clear hcut
                go_wp2
                go_roundw
                case rel => exact ⟨d + 1, by go_num, by omega, .inr ⟨by omega, HFN⟩⟩
                case measure => simp [intOf]
        · obtain rfl : j = d + 1 := by omega
          have hn : ((d + 1 : Nat) : Int) = (d : Int) + 1 := by omega
          rw [hn]
          go_wp2
          go_ret
          exact ⟨_, rfl, by omega, HF.out.2.2, HF.out.1, HF.out.2.1⟩
end Go.Proofs.Ytiokmfmcmfbjoaa
