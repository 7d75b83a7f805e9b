/-
  Copies without faults: the plain law; slices.Contains at parts. Own text.
-/
import Derived.Test.YtemldminpndemaaColl4
import Derived.Test.YtemldminpndemaaRowsB
namespace Go.Proofs.Ytemldminpndemaa
open Go.RowKit
set_option linter.unusedVariables false
def strip (l : List Pt) : List Pt := (l.filter fun x => decide (0 < x.copy)).map fun x => ⟨x.copy, false⟩
def stripTo (fs : List (List Pt)) (k : Nat) : List (List Pt) := (fs.take k).map strip
theorem stripTo_len (fs : List (List Pt)) (k : Nat) (h : k ≤ fs.length) : (stripTo fs k).length = k := by simp [stripTo]; omega
theorem stripTo_succ (fs : List (List Pt)) (k : Nat) (h : k < fs.length) : stripTo fs (k + 1) = stripTo fs k ++ [strip fs[k]] := by
  unfold stripTo
  rw [List.take_succ_eq_append_getElem h, List.map_append]
  rfl
theorem strip_succ (l : List Pt) (j : Nat) (h : j < l.length) : strip (l.take (j + 1)) = strip (l.take j) ++ (if 0 < l[j].copy then [⟨l[j].copy, false⟩] else []) := by
  unfold strip
  rw [List.take_succ_eq_append_getElem h, List.filter_append, List.map_append]
  congr 1
  by_cases e : 0 < l[j].copy
  · simp [e]
  · simp [e]
theorem strip_len (l : List Pt) : (strip l).length ≤ l.length := by
  unfold strip
  rw [List.length_map]
  exact List.length_filter_le _ _
theorem strip_mem {l : List Pt} {x : Pt} (h : x ∈ strip l) : 0 < x.copy ∧ x.spoil = false := by
  unfold strip at h
  simp only [List.mem_map, List.mem_filter, decide_eq_true_eq] at h
  obtain ⟨y, ⟨_, h0⟩, rfl⟩ := h
  exact ⟨h0, rfl⟩
/-! ### The copies that all have -/
def hasC (l : List Pt) (x : Int) : Bool := l.any fun y => y.copy == x
def allTo (L : List (List Pt)) (x : Int) (k : Nat) : Bool := ((L.drop 1).take k).all fun l => hasC l x
theorem allTo_succ (L : List (List Pt)) (x : Int) (k : Nat) (h : k + 1 < L.length) : allTo L x (k + 1) = (allTo L x k && hasC L[k + 1] x) := by
  unfold allTo
  have h2 : k < (L.drop 1).length := by rw [List.length_drop]; omega
  rw [List.take_succ_eq_append_getElem h2, List.all_append]
  simp [Nat.add_comm 1 k]
def wantTo (L : List (List Pt)) (i : Nat) : List Int := (((L.getD 0 []).take i).filter fun p => allTo L p.copy (L.length - 1)).map Pt.copy
theorem wantTo_succ (L : List (List Pt)) (i : Nat) (h : i < (L.getD 0 []).length) : wantTo L (i + 1) = wantTo L i ++ (if allTo L (L.getD 0 [])[i].copy (L.length - 1) = true then [(L.getD 0 [])[i].copy] else []) := by
  unfold wantTo
  rw [List.take_succ_eq_append_getElem h, List.filter_append, List.map_append]
  congr 1
  by_cases e : allTo L (L.getD 0 [])[i].copy (L.length - 1) = true
  · rw [if_pos e, List.filter_cons, if_pos e]; rfl
  · rw [if_neg e, List.filter_cons, if_neg e]; rfl
theorem wantTo_len (L : List (List Pt)) (i : Nat) : (wantTo L i).length ≤ i := by
  unfold wantTo
  rw [List.length_map]
  refine Nat.le_trans (List.length_filter_le _ _) ?_
  rw [List.length_take]
  omega
theorem want_is {L : List (List Pt)} (hok : FeedOk L) (hs : ∀ l ∈ L, ∀ x ∈ l, 0 < x.copy ∧ x.spoil = false) {c : Nat} {a : Nat → Nat} {g : List Int} {p : List (List Int)} (h : Runs L [] 0 (fun _ => 0) [] [] c a g p) : g = wantTo L (L.getD 0 []).length := by
  have hI : Inc L := inc_of hok fun l hl x hx => (hs l hl x hx).1
  have h1 := hok.one
  have h0 : L.getD 0 [] = L[0] := by rw [List.getD_eq_getElem?_getD, List.getElem?_eq_getElem (by omega)]; rfl
  refine h.alls hI (fun k hk i hi => ?_) ?_ fun x => ?_
  · rw [ln_get L k hk] at hi
    unfold sp
    rw [ptAt_get L k i hk hi]
    exact (hs _ (List.getElem_mem hk) _ (List.getElem_mem hi)).2
  · unfold wantTo
    rw [List.take_length, h0, List.pairwise_map]
    refine List.Pairwise.filter _ ?_
    have hinc := (hok.rows _ (List.getElem_mem (show 0 < L.length by omega))).inc
    refine hinc.imp_of_mem fun {x y} hx hy hxy => hxy ?_
    have := (hs _ (List.getElem_mem (show 0 < L.length by omega)) y hy).1
    omega
  · unfold wantTo
    rw [List.take_length, h0]
    simp only [List.mem_map, List.mem_filter]
    constructor
    · rintro ⟨y, ⟨hy, hall⟩, rfl⟩ k hk
      have hmem : ∃ z ∈ L[k], z.copy = y.copy := by
        by_cases e : k = 0
        · subst e; exact ⟨y, hy, rfl⟩
        · unfold allTo at hall
          rw [List.take_of_length_le (by rw [List.length_drop]; omega)] at hall
          have h2 := List.all_eq_true.1 hall L[k] (by
            obtain ⟨j, rfl⟩ : ∃ j, k = 1 + j := ⟨k - 1, by omega⟩
            rw [← List.getElem_drop (h := by rw [List.length_drop]; omega)]
            exact List.getElem_mem _)
          unfold hasC at h2
          simpa using h2
      obtain ⟨z, hz, e⟩ := hmem
      obtain ⟨i, hi, rfl⟩ := List.mem_iff_getElem.1 hz
      exact ⟨i, Nat.zero_le _, by rw [ln_get L k hk]; exact hi, by rw [cp_get L k i hk hi]; exact e⟩
    · intro hr
      obtain ⟨i, _, hi, e⟩ := hr 0 (by omega)
      rw [ln_get L 0 (by omega)] at hi
      rw [cp_get L 0 i (by omega) hi] at e
      refine ⟨L[0][i], ⟨List.getElem_mem hi, ?_⟩, e⟩
      unfold allTo
      rw [List.take_of_length_le (by rw [List.length_drop]; omega), List.all_eq_true]
      intro l hl
      obtain ⟨j, hj, rfl⟩ := List.mem_iff_getElem.1 hl
      rw [List.length_drop] at hj
      obtain ⟨i2, _, hi2, e2⟩ := hr (1 + j) (by omega)
      rw [ln_get L (1 + j) (by omega)] at hi2
      rw [cp_get L (1 + j) i2 (by omega) hi2] at e2
      unfold hasC
      rw [List.any_eq_true, List.getElem_drop]
      exact ⟨_, List.getElem_mem hi2, by rw [e, ← e2]; simp⟩
theorem hasC_succ (l : List Pt) (x : Int) (q : Nat) (h : q < l.length) : hasC (l.take (q + 1)) x = (hasC (l.take q) x || (l[q].copy == x)) := by
  unfold hasC
  rw [List.take_succ_eq_append_getElem h, List.any_append]
  simp
/-! ### slices.Contains at parts -/
def RetIdx (l : List Pt) (x : Int) (w : World) (e : Ending) (w' : World) : Prop := ∃ r : Int, e = .returned (.int .i64 r) ∧ decide (r ≥ 0) = hasC l x ∧ Below w.heap.size w w'
set_option maxRecDepth 100000 in
set_option maxHeartbeats 4000000 in
theorem indexPt_any (oa : Option Addr) (l : List Pt) (x : Int) (ca : Nat) (w : World) (hm : l.length ≤ maxLen) (hf : Flat w 2 encPt oa l) (hs : ∀ y ∈ l, y.spoil = false) :
    Calls Try.prog 32 #[.slice oa l.length ca, .agg #[.int .i64 x, .bool false]] w (RetIdx l x w) := by
  have HF := Lib.hid hf
  have HS := Lib.hid hs
  obtain ⟨n, hn⟩ : ∃ n, n = l.length := ⟨_, rfl⟩
  have HN := Lib.hid hn
  rw [← hn] at hm ⊢
  have hm9 : n ≤ 9223372036854775807 := by unfold maxLen at hm; omega
  clear hf hs hn hm
  have hb0 : Hid (Below w.heap.size w (w.alloc (.cells #[.int .i64 x, .bool false] 41)) ∧ (w.alloc (.cells #[.int .i64 x, .bool false] 41)).cell? ⟨w.heap.size, 0, none⟩ = some (.int .i64 x) ∧ (w.alloc (.cells #[.int .i64 x, .bool false] 41)).cell? ⟨w.heap.size, 1, none⟩ = some (.bool false)) := by
    refine ⟨balloc (Below.refl _ w) _, ?_, ?_⟩
    · rw [cell_of_row _ w.heap.size 0 _ _ (0, 0) (heap_alloc_new w _)]; rfl
    · rw [cell_of_row _ w.heap.size 1 _ _ (0, 0) (heap_alloc_new w _)]; rfl
  go_enter Try.func32, Try.ntmps32
  go_wp2
  go_loopw [8] (fun i wr => ∃ q : Nat, q ≤ n ∧ i = .int .i64 q ∧ Hid (Below w.heap.size w wr ∧ wr.cell? ⟨w.heap.size, 0, none⟩ = some (.int .i64 x) ∧ wr.cell? ⟨w.heap.size, 1, none⟩ = some (.bool false) ∧ hasC (l.take q) x = false)) (fun i _ => n - (intOf i).toNat)
  case atStart => exact ⟨0, by omega, rfl, hb0.out.1, hb0.out.2.1, hb0.out.2.2, rfl⟩
  case round =>
    clear hb0
    obtain ⟨q, hq, rfl, HX⟩ := hrel
    have d0 := HX.out.2.1
    have d1 := HX.out.2.2.1
    by_cases hlt : q < n
    · have hqx : q < l.length := by have := HN.out; omega
      obtain ⟨b, off, rfl, i0, i1⟩ := (HF.out.below HX.out.1).pt hqx
      rw [HS.out _ (List.getElem_mem hqx)] at i1
      have HSU := Lib.hid (hasC_succ l x q hqx)
      obtain ⟨y, hy⟩ : ∃ y, y = l[q].copy := ⟨_, rfl⟩
      rw [← hy] at i0 HSU
      have HYM : Hid (∃ z ∈ l, z.copy = y) := ⟨_, List.getElem_mem hqx, hy.symm⟩
      have kd : (q : Int) < (n : Int) := by omega
      have k0 : (0 : Int) ≤ (q : Int) := by omega
      clear hy
      by_cases hxy : x = y
      · subst hxy
        have HF2 : Hid (∀ nq, RetIdx l x w (.returned (.int .i64 (q : Int))) (wr.drewN nq)) := fun nq => by
          refine ⟨q, rfl, ?_, bdrewN HX.out.1 nq⟩
          have h1 : hasC l x = true := by
            obtain ⟨z, hz, e⟩ := HYM.out
            unfold hasC
            rw [List.any_eq_true]
            exact ⟨z, hz, by simp [e]⟩
          rw [h1]
          simp
        clear HX HSU
        go_wp2
        go_quiet (fail)
        go_wp2
        go_ret
        exact HF2.out _
      · have e1 : (x == y) = false := by simpa using hxy
        have HNX : Hid (∀ nq, Below w.heap.size w (wr.drewN nq) ∧ (wr.drewN nq).cell? ⟨w.heap.size, 0, none⟩ = some (.int .i64 x) ∧ (wr.drewN nq).cell? ⟨w.heap.size, 1, none⟩ = some (.bool false) ∧ hasC (l.take (q + 1)) x = false) := fun nq => by
          refine ⟨bdrewN HX.out.1 nq, d0, d1, ?_⟩
          rw [HSU.out, HX.out.2.2.2]
          have : (y == x) = false := by simp; omega
          rw [this]
          rfl
        clear HX HSU hxy
        go_wp2
        go_quiet (fail)
        go_wp2
        go_roundw
        case rel => exact ⟨q + 1, by omega, by go_num, HNX.out _⟩
        case measure => simp [intOf]; omega
    · obtain rfl : n = q := by omega
      have HF2 : Hid (RetIdx l x w (.returned (.int .i64 (-1))) wr) := by
        refine ⟨-1, rfl, ?_, HX.out.1⟩
        have h := HX.out.2.2.2
        rw [HN.out, List.take_length] at h
        rw [h]
        decide
      clear HX d0 d1
      go_wp2
      go_ret
      exact HF2.out
set_option maxRecDepth 100000 in
set_option maxHeartbeats 4000000 in
theorem containsPt_any (oa : Option Addr) (l : List Pt) (x : Int) (ca : Nat) (w : World) (hm : l.length ≤ maxLen) (hf : Flat w 2 encPt oa l) (hs : ∀ y ∈ l, y.spoil = false) :
    Calls Try.prog 17 #[.slice oa l.length ca, .agg #[.int .i64 x, .bool false]] w fun e w' => e = .returned (.bool (hasC l x)) ∧ Below w.heap.size w w' := by
  have HI := Lib.hid (indexPt_any oa l x ca (w.alloc (.cells #[.int .i64 x, .bool false] 41)) hm (hf.below (balloc (Below.refl _ _) _)) hs)
  have HBB : Hid (Below w.heap.size w (w.alloc (.cells #[.int .i64 x, .bool false] 41))) := balloc (Below.refl _ _) _
  obtain ⟨n, hn⟩ : ∃ n, n = l.length := ⟨_, rfl⟩
  rw [← hn] at HI ⊢
  obtain ⟨b, hb⟩ : ∃ b, b = hasC l x := ⟨_, rfl⟩
  rw [← hb]
  have HB := Lib.hid hb
  clear hf hs hm hn hb
  go_enter Try.func17, Try.ntmps17
  go_wp2_with fail
  refine HI.out.mono ?_
  rintro e w2 ⟨r, rfl, hr, hb2⟩
  have HR : Hid (decide (r ≥ 0) = b) := by show _ = _; rw [hr, HB.out]
  have HB2 : Hid (Below w.heap.size w w2) := HBB.out.trans (hb2.mono HBB.out.size)
  clear hr hb2 HI
  go_wp2
  go_ret
  exact ⟨by rw [← HR.out]; try rfl, HB2.out⟩
/-- A row of numbers under way. -/
structure KX (w3 wr : World) (v : Value) (xs : List Int) : Prop where
  bel : Below w3.heap.size w3 wr
  own : Own wr w3.heap.size 3 1 encInt v xs
theorem KX.start (w3 : World) : KX w3 w3 (.slice none 0 0) [] := ⟨Below.refl _ _, Own.nil _ _ _ _ _⟩
theorem KX.below {w3 wr w' : World} {v : Value} {xs : List Int} (h : KX w3 wr v xs) (hb : Below wr.heap.size wr w') : KX w3 w' v xs := ⟨h.bel.trans (hb.mono h.bel.size), h.own.below hb⟩
theorem KX.add {w3 wr w' : World} {v v' : Value} {xs xs' : List Int} (h : KX w3 wr v xs) (hown : Own w' w3.heap.size 3 1 encInt v' xs') (hg : wr.grownBy w' v.ownBlock) : KX w3 w' v' xs' :=
  ⟨h.bel.grown hg h.bel.size fun j hj => (h.own.lt hj).1, hown⟩
theorem runErr_nil (fs : List (List Pt)) : runErr fs [] = checkV fs := by
  unfold runErr
  by_cases h : checkV fs = 0
  · rw [if_pos h, h]; rfl
  · rw [if_neg h]
end Go.Proofs.Ytemldminpndemaa
