/-
  The walk of gang.Forms: its first half. Own text.
-/
import Derived.Test.YtimofofaeedcoaaFormsM
import Derived.IntWalk
import Derived.RegionTactic
import Derived.BigRegion
import Derived.StillTailTactics
import Derived.Deep.LoopGhost
import Derived.Deep.DeepCutAuto
import Derived.Deep.CutBlock
import Derived.Deep.RegionLaw
import Derived.Deep.RegionHeld3
namespace Go.Proofs.Ytimofofaeedcoaa
open Go.RowKit
set_option linter.unusedVariables false
/-- Allot, what it returns said as memory of the call's own. -/
def RetOwn (ys : List Int) (r : Int) (w : World) (e : Ending) (w' : World) : Prop :=
  ∃ v, e = .returned (.tuple #[v, .int .i64 r, .int .i64 0]) ∧ Own w' w.heap.size 3 1 encInt v ys ∧ Below w.heap.size w w'
set_option maxHeartbeats 1000000 in
theorem allot_own (oa : Option Addr) (xs : List Int) (cap : Nat) (s : Int) (w : World) (hm : xs.length ≤ maxLen) (hx : Flat w 1 encInt oa xs) (hc : gchk xs s = 0) (hs : (xs.length : Int) ≤ s) :
    Calls Try.prog 19 #[.slice oa xs.length cap, .int .i64 s] w (RetOwn (allotV xs (leastV xs s)) (leastV xs s) w) := by
  obtain ⟨l1, l2, hd, s1, s2⟩ := gchk_zero hc
  have hle := leastV_isLeast hd hs
  have HD := Lib.hid hd; clear hd
  have HC := Lib.hid hc; clear hc
  have hr1 := hle.1.1
  have hr2 := hle.2
  clear hle
  generalize hr : leastV xs s = r at *
  have HR := Lib.hid hr; clear hr
  have hr0 : (r == 0) = false := by simp; omega
  go_enter Try.func19, Try.ntmps19
  go_wp2_with (first | (go_at_call 13; refine (gcheck_any _ _ _ _ _ hm hx).mono ?_; rintro e w' ⟨rfl, rfl⟩; rw [HC.out]) | (go_at_call 18; refine (least_any _ _ _ _ _ (by omega) l1 hx HD.out).mono ?_; rintro e w' ⟨rfl, rfl⟩; rw [HR.out]))
  go_loopw [9, 25] (fun out i wr => ∃ k : Nat, k ≤ xs.length ∧ i = .int .i64 k ∧ Own wr w.heap.size 3 1 encInt out (allotV (xs.take k) r) ∧ Below w.heap.size w wr) (fun _ i _ => xs.length - (intOf i).toNat)
  case atStart => exact ⟨0, by omega, rfl, Own.nil _ _ _ _ _, Below.refl _ _⟩
  case round =>
    obtain ⟨k, hk, rfl, hown, hb⟩ := hrel
    by_cases hlt : k < xs.length
    · obtain ⟨b, off, rfl, hc1⟩ := (hx.below hb).int hlt
      have hd := HD.out xs[k] (List.getElem_mem hlt)
      have E2 : Hid (allotV (xs.take (k + 1)) r = allotV (xs.take k) r ++ [cl xs[k] r]) := by
        show allotV (xs.take (k + 1)) r = allotV (xs.take k) r ++ [cl xs[k] r]
        unfold allotV
        rw [List.take_succ_eq_append_getElem hlt, List.map_append]
        rfl
      have hlen : (allotV (xs.take k) r).length ≤ 12 := by unfold allotV; rw [List.length_map, List.length_take]; omega
      go_wp2_with (first | (go_at_call 28; refine (gup_any _ _ _ (by omega) (by omega) (by omega) (by omega)).mono ?_; rintro e w2 ⟨rfl, rfl⟩) | (at_builtin; go_must (refine wpList_app1 rfl (.tmp 29) (.tmp 33) 23 rfl elemInt Try.underlying23 w.heap.size _ _ encInt rfl (hown.alloc _) (cl xs[k] r) ⟨wr.heap.size, 0, none⟩ 1 rfl rfl ?c1 ?c2 ?c3 ?c4 ?c5 ?_)))
      case c1 => exact cell_one_new _ _ _
      case c2 => simp [encInt, Value.oneCell']
      case c3 => omega
      case c4 => unfold maxLen; omega
      case c5 => have := hb.size; simp; omega
      intro v' w3 hown3 hg3
      have hb5 := (hown.alloc _).grown (balloc hb _) (Nat.le_refl _) hg3
      rw [← E2.out] at hown3
      clear hg3 hown
      go_wp2
      go_roundw
      case rel => exact ⟨k + 1, by omega, by go_num, hown3, hb5⟩
      case measure => simp [intOf]; omega
    · have E := Lib.hid (show xs.take k = xs from List.take_of_length_le (by omega))
      rw [E.out] at hown
      have HF := Lib.hid (show RetOwn (allotV xs r) r w _ wr from ⟨_, rfl, hown, hb⟩)
      clear hown
      go_wp2
      go_ret3
      exact HF.out
/-- A plate's places: a new row of n ints. -/
def RetPlate (n : Nat) (ys : List Int) (r : Int) (w : World) (e : Ending) (w' : World) : Prop :=
  ∃ g c, e = .returned (.tuple #[.slice (some ⟨g, 0, none⟩) n c, .int .i64 r, .int .i64 0]) ∧ Flat w' 1 encInt (some ⟨g, 0, none⟩) ys ∧ w.heap.size ≤ g ∧ g < w'.heap.size ∧ Below w.heap.size w w'
theorem allot_plate (oa : Option Addr) (xs : List Int) (cap n : Nat) (s r : Int) (ys : List Int) (w : World) (hn : xs.length = n) (hm : xs.length ≤ maxLen) (hx : Flat w 1 encInt oa xs) (hc : gchk xs s = 0) (hs : (xs.length : Int) ≤ s) (hr : r = leastV xs s) (hy : ys = allotV xs r) :
    Calls Try.prog 19 #[.slice oa n cap, .int .i64 s] w (RetPlate n ys r w) := by
  subst hn hr hy
  have h1 := (gchk_zero hc).1
  have hl : (allotV xs (leastV xs s)).length = xs.length := by unfold allotV; rw [List.length_map]
  refine (allot_own oa xs cap s w hm hx hc hs).mono ?_
  rintro e w' ⟨v, rfl, hown, hb⟩
  obtain ⟨g, c, rfl, ha⟩ := Own.arr hown (by rw [hl]; exact h1)
  exact ⟨g, c, by rw [hl], ha.flat, ha.lt.1, ha.lt.2, hb⟩
/-! ### Plates -/
def formV (ds : List Int) (s : Int) (i k : Nat) : Form := ⟨(seg (ordV ds) i k).map (fun x : Nat => (x : Int)), allotV (seg (vals ds) i k) (runV (vals ds) s i k), runV (vals ds) s i k⟩
/-- Where plate a begins. -/
def pos (N : Nat → Nat) : Nat → Nat
  | 0 => 0
  | a + 1 => N (pos N a)
def formsV (ds : List Int) (s : Int) (N : Nat → Nat) (m : Nat) : List Form := (List.range m).map fun a => formV ds s (pos N a) (pos N (a + 1))
theorem formsV_len (ds : List Int) (s : Int) (N : Nat → Nat) (m : Nat) : (formsV ds s N m).length = m := by simp [formsV]
theorem formsV_succ (ds : List Int) (s : Int) (N : Nat → Nat) (m : Nat) : formsV ds s N (m + 1) = formsV ds s N m ++ [formV ds s (pos N m) (pos N (m + 1))] := by
  unfold formsV
  rw [List.range_succ, List.map_append]
  rfl
/-- What Forms returns. -/
def RetForms (ds : List Int) (s p : Int) (w : World) (e : Ending) (w' : World) : Prop :=
  ∃ (B : Nat → Int) (N : Nat → Nat) (m : Nat) (oa : Option Addr) (cap : Nat), e = .returned (.tuple #[.slice oa m cap, .int .i64 (B 0), .int .i64 0]) ∧ BestFrom (vals ds) s p B N 0 ∧ m ≤ ds.length ∧ pos N m = ds.length ∧ (∀ a, a < m → pos N a < ds.length) ∧ FormsAt w' oa (formsV ds s N m) ∧ Below w.heap.size w w'
theorem jobs_eq {ds : List Int} {i k : Nat} (h1 : i ≤ k) (h2 : k ≤ ds.length) : (List.range (k - i)).map (fun q => (((ordV ds).getD (q + 0 + i) 0 : Nat) : Int)) = (seg (ordV ds) i k).map (fun x : Nat => (x : Int)) := by
  have hl : (seg (ordV ds) i k).length = k - i := seg_len h1 (by rw [ordV_len]; exact h2)
  refine List.ext_getElem (by rw [List.length_map, List.length_map, List.length_range, hl]) (fun j j1 j2 => ?_)
  rw [List.length_map, List.length_range] at j1
  rw [List.getElem_map, List.getElem_map, List.getElem_range, seg_get h1 (by rw [ordV_len]; exact h2), (ordV_at ds (show j + 0 + i < ds.length by omega)).2]
  simp only [Nat.add_zero, Nat.add_comm j i]
/-- The list of plates with one more. -/
theorem plate_more {base : Nat} {wr w3 w5 W w9 : World} {v v' : Value} {ds : List Int} {s R : Int} {N : Nat → Nat} {a i k gj cj gu cu : Nat} {xs : List FormC} {ys : List Int} (HL : FormsIn base wr v (formsV ds s N a) xs) (hb3 : Below wr.heap.size wr w3) (hz5 : Below w3.heap.size w3 w5) (hzW : Below w5.heap.size w5 W)
    (hgj : w3.heap.size ≤ gj) (hgj2 : gj < w5.heap.size) (hTj : FTab (Value.int .i64) w5 gj (k - i) (fun j => (((ordV ds).getD (j + i) 0 : Nat) : Int))) (hgu : wr.heap.size ≤ gu) (hgu2 : gu < w3.heap.size) (hf3 : Flat w3 1 encInt (some ⟨gu, 0, none⟩) ys)
    (hi : i = pos N a) (hk : k = N i) (hR : R = leastV (seg (vals ds) i k) s ∧ ys = allotV (seg (vals ds) i k) R) (hik : i < k) (hkn : k ≤ ds.length)
    (hown : Own w9 base 34 3 encF v' (xs ++ [(.slice (some ⟨gj, 0, none⟩) (k - i) cj, .slice (some ⟨gu, 0, none⟩) (k - i) cu, R)])) (hg : W.grownBy w9 v.ownBlock) (hr : v'.ownBlock = v.ownBlock ∨ v'.ownBlock = some W.heap.size) :
    FormsIn base w9 v' (formsV ds s N (a + 1)) (xs ++ [(.slice (some ⟨gj, 0, none⟩) (k - i) cj, .slice (some ⟨gu, 0, none⟩) (k - i) cu, R)]) := by
  obtain ⟨hR, hys⟩ := hR
  have e1 : formsV ds s N (a + 1) = formsV ds s N a ++ [formV ds s i k] := by
    rw [formsV_succ]
    show _ ++ [formV ds s (pos N a) (N (pos N a))] = _
    rw [← hi, ← hk]
  have hjl : (formV ds s i k).jobs.length = k - i := by
    show ((seg (ordV ds) i k).map _).length = _
    rw [List.length_map, seg_len (by omega) (by rw [ordV_len]; exact hkn)]
  have hul : (formV ds s i k).ups.length = k - i := by
    show (allotV (seg (vals ds) i k) _).length = _
    unfold allotV
    rw [List.length_map, seg_len (by omega) (by rw [vals_len]; exact hkn)]
  have hrun : (formV ds s i k).run = R := hR.symm
  have hups : (formV ds s i k).ups = ys := by
    show allotV (seg (vals ds) i k) (leastV (seg (vals ds) i k) s) = _
    rw [← hR, hys]
  have hjobs : (formV ds s i k).jobs = (List.range (k - i)).map (fun q => (((ordV ds).getD (q + 0 + i) 0 : Nat) : Int)) := (jobs_eq (by omega) hkn).symm
  have hsz := hz5.size
  have hszW := hzW.size
  have hsz3 := hb3.size
  rw [e1]
  refine FormsIn.snoc (((HL.below hb3).below hz5).below hzW) ⟨gj, 0, cj, gu, 0, cu, by rw [hjl, hul, hrun], ?_, ?_, by omega, by omega, ?_, ?_⟩ hown hg hr
  · rw [hjobs]
    exact (hTj.flat 0 (by omega)).below hzW
  · rw [hups]
    exact (hf3.below hz5).below hzW
  · intro e
    have := (World.ownsRow.lt HL.own gj e).2
    omega
  · intro e
    have := (World.ownsRow.lt HL.own gu e).2
    omega
section
variable {P : Program} {w : World} {ops : Array Oper} {o : Oper} {a : Act} {K : Act → World → Prop} {Q : Exit → Act → World → Prop} {E : Prop}
/-- An append of one element in a region that draws, and where the new slice lies. -/
theorem step_app1L {α : Type} (hgd : o.guard = none) (s x : Operand) (t : TypeId)
    (ho : o.op = .call { callee := .builtin .append, args := #[s, x], argTypes := #[t, t] })
    {e : TypeId} {z : Value} {size bytes : Nat} (hE : ElemType P e z size bytes) (ht : P.underlying t = some (.slice e))
    (base : Nat) (v : Value) (xs : List α) (enc : α → List Value) (hs : a.eval s = v) (hown : Own w base e size enc v xs) (y : α)
    (ad : Addr) (c : Nat) (hx : a.eval x = .slice (some ad) 1 c) (hl : (enc y).length = size) (hnews : ∀ j u, (enc y)[j]? = some u → w.cell? (ad.add j) = some u) (h1 : ∀ u ∈ enc y, u.oneCell' = true)
    (hbytes : (xs.length + 1) * bytes ≤ 140737488355328) (h63 : xs.length + 1 ≤ maxLen) (hbase : base ≤ w.heap.size)
    (h : ∀ g cap w', Own w' base e size enc (.slice (some ⟨g, 0, none⟩) (xs.length + 1) cap) (xs ++ [y]) → w.grownBy w' v.ownBlock → (v.ownBlock = some g ∨ g = w.heap.size) → K (a.put o.dst (.slice (some ⟨g, 0, none⟩) (xs.length + 1) cap)) w') : if Region.wanted o (yielded ops a.tmps) = true then Oper.wp P o a w K Q else E := by
  obtain ⟨i, hi, hz, hsz, hby, hzs, h0⟩ := hE
  refine step_append_lies w hgd s x t ho base e i z size bytes ht hi hz hsz hby hzs h0 v xs.length (xs.flatMap enc) hs hown ad 1 c (enc y) hx (by rw [hl, Nat.one_mul]) hnews h1 (by omega) h63 hbytes hbase w.heap.size rfl ?_
  intro g cap w' hown' hg hat _
  refine h g cap w' ?_ hg hat
  unfold Own
  rw [List.length_append, List.flatMap_append]
  simpa using hown'
end
theorem below_app {base : Nat} {w3 w5 w9 : World} {v : Value} {fs : List Form} {xs : List FormC} {o : Obj} (h : FormsIn base w3 v fs xs) (hz : Below w3.heap.size w3 w5) (hB : base ≤ w3.heap.size) (hg : (w5.alloc o).grownBy w9 v.ownBlock) : Below base w3 w9 :=
  ((hz.mono hB).alloc (Nat.le_trans hB hz.size) o).grown hg (by rw [World.size_alloc]; have := hz.size; omega) (fun k e => (World.ownsRow.lt h.own k e).1)
theorem hat_own {v : Value} {g n c : Nat} {sz : Nat} (h : v.ownBlock = some g ∨ g = sz) : (Value.slice (some ⟨g, 0, none⟩) n c).ownBlock = v.ownBlock ∨ (Value.slice (some ⟨g, 0, none⟩) n c).ownBlock = some sz := by
  rcases h with h | h
  · exact .inl h.symm
  · exact .inr (by rw [h]; rfl)
def FormOk (f : Form) : Prop := i64ok f.run ∧ (∀ x ∈ f.jobs, i64ok x) ∧ (∀ x ∈ f.ups, i64ok x) ∧ f.jobs.length ≤ maxLen ∧ f.ups.length ≤ maxLen
theorem FormsIn.at' {base : Nat} {w : World} {v : Value} {fs : List Form} {xs : List FormC} (h : FormsIn base w v fs xs) (hok : ∀ f ∈ fs, FormOk f) : ∃ oa cap, v = .slice oa fs.length cap ∧ FormsAt w oa fs := by
  obtain ⟨oa, cap, e, _, hf⟩ := h.own.flat (fun _ => rfl)
  refine ⟨oa, cap, by rw [e, h.len], fun i hi => ?_⟩
  have hi' : i < xs.length := by rw [h.len]; exact hi
  obtain ⟨gj, oj, cj, gu, ou, cu, e1, h1, h2, _⟩ := h.rel i hi' hi
  obtain ⟨k1, k2, k3, k4, k5⟩ := hok fs[i] (List.getElem_mem hi)
  obtain ⟨v0, hv0, b, off, eo, hc0⟩ := hf i hi' 0 (by omega)
  refine ⟨b, off, encF xs[i], eo, rfl, fun j u hu => ?_, some ⟨gj, oj, none⟩, cj, some ⟨gu, ou, none⟩, cu, by rw [e1]; rfl, k4, k5, h1, h2, k1, k2, k3⟩
  have hj : j < 3 := (List.getElem?_eq_some_iff.1 hu).1
  obtain ⟨v1, hv1, b', off', eo', hc1⟩ := hf i hi' j hj
  rw [eo] at eo'
  cases eo'
  rw [hu] at hv1
  cases hv1
  exact hc1
theorem formV_ok {ds : List Int} {s : Int} {i k : Nat} (hd : Demands (vals ds)) (hn : ds.length ≤ 12) (hik : i < k) (hk : k ≤ ds.length) (hs : ((k - i : Nat) : Int) ≤ s) : FormOk (formV ds s i k) := by
  obtain ⟨_, r1, r2⟩ := runV_least hd (Nat.le_of_lt hik) (by rw [vals_len]; exact hk) hs
  refine ⟨?_, fun x hx => ?_, fun x hx => ?_, ?_, ?_⟩
  · show i64ok (runV (vals ds) s i k)
    unfold i64ok; omega
  · obtain ⟨q, hq, rfl⟩ := List.mem_map.1 hx
    have := ordV_lt ds (seg_mem hq)
    unfold i64ok; omega
  · obtain ⟨d, hq, rfl⟩ := List.mem_map.1 hx
    have h1 := hd d (seg_mem hq)
    have := cl_bd h1.1 r1
    unfold i64ok; omega
  · show ((seg (ordV ds) i k).map _).length ≤ _
    rw [List.length_map, seg_len (by omega) (by rw [ordV_len]; exact hk)]
    unfold maxLen; omega
  · show (allotV (seg (vals ds) i k) _).length ≤ _
    unfold allotV maxLen
    rw [List.length_map, seg_len (by omega) (by rw [vals_len]; exact hk)]
    omega
theorem formsV_ok {ds : List Int} {s p : Int} {B : Nat → Int} {N : Nat → Nat} {m : Nat} (hd : Demands (vals ds)) (hn : ds.length ≤ 12) (hB : BestFrom (vals ds) s p B N 0) (hm : ∀ a, a < m → pos N a < ds.length) : ∀ f ∈ formsV ds s N m, FormOk f := by
  intro f hf
  obtain ⟨a, ha, rfl⟩ := List.mem_map.1 hf
  have hlt := hm a (List.mem_range.1 ha)
  have h := hB.at' (pos N a) (Nat.zero_le _) (by rw [vals_len]; exact hlt)
  have hhi := h.hi
  rw [vals_len] at hhi
  exact formV_ok hd hn h.lo hhi h.fit
/-! ### Two makes, in any order -/
inductive At2 (w1 : World) (o1 o2 : Obj) : Nat → Obj → Prop where
  | a : At2 w1 o1 o2 w1.heap.size o1
  | b : At2 w1 o1 o2 (w1.heap.size + 1) o2
theorem At2.heap {w1 : World} {o1 o2 : Obj} {i : Nat} {o : Obj} (h : At2 w1 o1 o2 i o) : ((w1.alloc o1).alloc o2).drew.heap[i]? = some o ∧ w1.heap.size ≤ i := by
  have s1 : (w1.alloc o1).heap.size = w1.heap.size + 1 := World.size_alloc _ _
  show ((w1.alloc o1).alloc o2).heap[i]? = some o ∧ w1.heap.size ≤ i
  cases h with
  | a => exact ⟨by rw [heap_alloc_old _ _ (by omega), heap_alloc_new], Nat.le_refl _⟩
  | b => exact ⟨by rw [← s1, heap_alloc_new], by omega⟩
theorem FTab.block {α : Type} {f : α → Value} {w : World} {g n : Nat} {z : α} {e : TypeId} (h : w.heap[g]? = some (.cells (madeArr (f z) n) e)) : FTab f w g n (fun _ => z) := by
  refine ⟨fun i hi => ?_, fun o => ?_⟩
  · rw [cell_of_row _ g i _ e (0, 0) h]
    exact madeArr_get _ hi
  · unfold World.frozen?
    rw [h]
    simp
/-- Before the tables are there. -/
structure OMem (w0 : World) (bd bo go : Nat) (od : Option Addr) (ds : List Int) (cd : Nat) (T : Nat → Int) (w : World) : Prop where
  bel : Below w0.heap.size w0 w
  co : w.cell? ⟨bo, 0, none⟩ = some (.slice (some ⟨go, 0, none⟩) ds.length ds.length)
  cd : w.cell? ⟨bd, 0, none⟩ = some (.slice od ds.length cd)
  ot : FTab (Value.int .i64) w go ds.length T
  lt : go < w.heap.size
theorem OMem.below {w0 w w' : World} {bd bo go : Nat} {od : Option Addr} {ds : List Int} {cd : Nat} {T : Nat → Int} (h : OMem w0 bd bo go od ds cd T w) (hb : Below w.heap.size w w') : OMem w0 bd bo go od ds cd T w' :=
  ⟨bthen h.bel hb, keepCell hb h.co, keepCell hb h.cd, h.ot.below hb h.lt, Nat.lt_of_lt_of_le h.lt hb.size⟩
theorem close2 {w0 w1 : World} {o1 o2 : Obj} {bd bo go bb nb N1 n cd : Nat} {od : Option Addr} {ds : List Int} (hN : N1 = ds.length + 1) (hn : n = ds.length) (h : OMem w0 bd bo go od ds cd (fun i => (((ordV ds).getD i 0 : Nat) : Int)) w1)
    (l1 : w0.heap.size ≤ bd) (l2 : w0.heap.size ≤ bo) (l3 : w0.heap.size ≤ go) (d1 : bd ≠ go) (d2 : bo ≠ go) (h1 : At2 w1 o1 o2 bb (.cells (madeArr (.int .i64 0) N1) 3)) (h2 : At2 w1 o1 o2 nb (.cells (madeArr (.int .i64 0) n) 3)) (hne : nb ≠ bb) :
    FApart w0.heap.size bd bo go bb nb ∧ FMem w0 bd bo go bb nb od ds cd (fun _ => 0) (fun _ => 0) ((w1.alloc o1).alloc o2).drew := by
  subst hN hn
  obtain ⟨a1, b1⟩ := h1.heap
  obtain ⟨a2, b2⟩ := h2.heap
  have k1 := cell?_lt h.co
  have k2 := cell?_lt h.cd
  have k3 := h.lt
  have k4 := h.bel.size
  have hb : Below w1.heap.size w1 ((w1.alloc o1).alloc o2).drew := (balloc (balloc (Below.refl _ _) _) _).drew
  simp only at k1 k2
  exact ⟨⟨l1, l2, l3, by omega, by omega, d1, d2, by omega, by omega, by omega, by omega, by omega, by omega, hne⟩, ⟨bthen h.bel hb, keepCell hb h.co, keepCell hb h.cd, h.ot.below hb h.lt, FTab.block a1, FTab.block (f := natV) (z := 0) a2⟩⟩
set_option maxHeartbeats 1000000 in
theorem forms_bad (od : Option Addr) (ds : List Int) (cd : Nat) (s p : Int) (w : World) (hm : ds.length ≤ maxLen) (hx : Flat w 1 encInt od ds) (hc : (gchk ds s != 0) = true) :
    Calls Try.prog 6 #[.slice od ds.length cd, .int .i64 s, .int .i64 p] w fun e w' => e = .returned (.tuple #[.slice none 0 0, .int .i64 0, .int .i64 (gchk ds s)]) ∧ Below w.heap.size w w' := by
  have hb0 := Lib.hid (balloc (Below.refl _ w) (.cells #[.slice od ds.length cd] 23))
  have hx1 := hx.below hb0.out
  have hB := Lib.hid hx1
  go_enter Try.func6, Try.ntmps6
  go_wp2_with (go_at_call 13; refine (gcheck_any _ _ _ _ _ hm hx1).mono ?_; rintro e w' ⟨rfl, rfl⟩)
  go_ret3
  exact ⟨rfl, hb0.out⟩
set_option maxHeartbeats 1000000 in
theorem forms_far (od : Option Addr) (ds : List Int) (cd : Nat) (s p : Int) (w : World) (hm : ds.length ≤ maxLen) (hx : Flat w 1 encInt od ds) (hc : gchk ds s = 0) (hp : p < 0 ∨ 1048576 < p) :
    Calls Try.prog 6 #[.slice od ds.length cd, .int .i64 s, .int .i64 p] w fun e w' => e = .returned (.tuple #[.slice none 0 0, .int .i64 0, .int .i64 3]) ∧ Below w.heap.size w w' := by
  have hb0 := Lib.hid (balloc (Below.refl _ w) (.cells #[.slice od ds.length cd] 23))
  have hx1 := hx.below hb0.out
  have HC := Lib.hid hc; clear hc
  rcases hp with hp | hp
  · go_enter Try.func6, Try.ntmps6
    go_wp2_with (go_at_call 13; refine (gcheck_any _ _ _ _ _ hm hx1).mono ?_; rintro e w' ⟨rfl, rfl⟩; rw [HC.out])
    go_ret3
    exact ⟨rfl, hb0.out⟩
  · have hp0 : ¬ p < 0 := by omega
    go_enter Try.func6, Try.ntmps6
    go_wp2_with (go_at_call 13; refine (gcheck_any _ _ _ _ _ hm hx1).mono ?_; rintro e w' ⟨rfl, rfl⟩; rw [HC.out])
    go_ret3
    exact ⟨rfl, hb0.out⟩
end Go.Proofs.Ytimofofaeedcoaa
