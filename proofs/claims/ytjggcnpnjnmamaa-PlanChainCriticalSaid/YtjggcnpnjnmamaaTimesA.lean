/-
  plan.Times: its memory. Own text.
-/
import Derived.Test.YtjggcnpnjnmamaaTimesY
import Derived.Test.YtjggcnpnjnmamaaReverseI
import Derived.Test.YtjggcnpnjnmamaaPlans
namespace Go.Proofs.Ytjggcnpnjnmamaa
open Go.RowKit
set_option linter.unusedVariables false
/-- The times of a network with an error. -/
def noTimes (x : Int) : Ending := .returned (.tuple #[.agg #[.slice none 0 0, .slice none 0 0, .int .i64 0, .slice none 0 0], .int .i64 x])
set_option maxRecDepth 100000 in
set_option maxHeartbeats 2000000 in
theorem times_bad (oa : Option Addr) (l : List Task) (cap : Nat) (w : World) (hm : l.length ≤ maxLen) (hx : TasksAt w oa l) (hc : tasksErr l ≠ 0) :
    Calls Try.prog 24 #[.slice oa l.length cap] w fun e w' => e = noTimes (tasksErr l) ∧ Below w.heap.size w w' := by
  have hx1 := Lib.hid (hx.below (balloc (Below.refl _ w) (.cells #[.slice none 0 0, .slice none 0 0, .int .i64 0, .slice none 0 0] 43)))
  obtain ⟨x, hx2⟩ : ∃ x, x = tasksErr l := ⟨_, rfl⟩
  have hxx : (x != 0) = true := by rw [hx2]; exact bne_iff_ne.2 hc
  replace hx2 := Lib.hid hx2
  have hch := Lib.hid (checkTasks_any oa l cap (w.alloc (.cells #[.slice none 0 0, .slice none 0 0, .int .i64 0, .slice none 0 0] 43)) hm hx1.out)
  rw [← hx2.out] at hch
  clear hx hc
  go_enter Try.func24, Try.ntmps24
  go_wp2_with (go_at_call 26; refine (hch.out).mono ?_; rintro e w' ⟨rfl, hb⟩; obtain ⟨r0, r1, r2, r3, rz⟩ := resCells hb; have HB := Lib.hid hb; clear hb)
  obtain ⟨y0, y1, y2, y3⟩ := setRes (.slice none 0 0) (.slice none 0 0) (.int .i64 0) (.slice none 0 0) r0 r1 r2 r3 rz
  generalize hwz : (((w'.setCell ⟨w.heap.size, 0, none⟩ (.slice none 0 0)).setCell ⟨w.heap.size, 1, none⟩ (.slice none 0 0)).setCell ⟨w.heap.size, 2, none⟩ (.int .i64 0)).setCell ⟨w.heap.size, 3, none⟩ (.slice none 0 0) = wz at *
  replace hwz := Lib.hid hwz
  refine bodyPost_ret (v := .tuple #[.agg #[.slice none 0 0, .slice none 0 0, .int .i64 0, .slice none 0 0], .int .i64 x]) (by simp [results, Try.results24, go_sem, y0, y1, y2, y3]) rfl ⟨by rw [← hx2.out]; rfl, ?_⟩
  rw [← hwz.out]
  exact ((((balloc_lt w _ HB.out).setCell (p := ⟨w.heap.size, 0, none⟩) (Nat.le_refl _) _).setCell (p := ⟨w.heap.size, 1, none⟩) (Nat.le_refl _) _).setCell (p := ⟨w.heap.size, 2, none⟩) (Nat.le_refl _) _).setCell (p := ⟨w.heap.size, 3, none⟩) (Nat.le_refl _) _
/-- Three new blocks. -/
inductive At3 (w1 : World) (o1 o2 o3 : Obj) : Nat → Obj → Prop where
  | a : At3 w1 o1 o2 o3 w1.heap.size o1
  | b : At3 w1 o1 o2 o3 (w1.heap.size + 1) o2
  | c : At3 w1 o1 o2 o3 (w1.heap.size + 1 + 1) o3
theorem At3.heap {w1 : World} {o1 o2 o3 : Obj} {i : Nat} {o : Obj} (h : At3 w1 o1 o2 o3 i o) : (((w1.alloc o1).alloc o2).alloc o3).heap[i]? = some o ∧ w1.heap.size ≤ i := by
  have s1 : (w1.alloc o1).heap.size = w1.heap.size + 1 := World.size_alloc _ _
  have s2 : ((w1.alloc o1).alloc o2).heap.size = w1.heap.size + 1 + 1 := by rw [World.size_alloc, s1]
  cases h with
  | a => exact ⟨by rw [heap_alloc_old _ _ (by omega), heap_alloc_old _ _ (by omega), heap_alloc_new], Nat.le_refl _⟩
  | b => exact ⟨by rw [heap_alloc_old _ _ (by omega), ← s1, heap_alloc_new], by omega⟩
  | c => exact ⟨by rw [← s2, heap_alloc_new], by omega⟩
structure Apart3 (s bt gb gl : Nat) : Prop where
  l0 : s ≤ bt
  l1 : s ≤ gb
  l2 : s ≤ gl
  d1 : bt ≠ gb
  d2 : bt ≠ gl
  d3 : gb ≠ gl
/-- The times under way: the struct at bt, the tables at gb and gl. -/
structure TW (w1 : World) (bt gb gl n : Nat) (B L : Nat → Int) (E : Int) (ch : Value) (w : World) : Prop where
  bel : Below w1.heap.size w1 w
  c0 : w.cell? ⟨bt, 0, none⟩ = some (.slice (some ⟨gb, 0, none⟩) n n)
  c1 : w.cell? ⟨bt, 1, none⟩ = some (.slice (some ⟨gl, 0, none⟩) n n)
  c2 : w.cell? ⟨bt, 2, none⟩ = some (.int .i64 E)
  c3 : w.cell? ⟨bt, 3, none⟩ = some ch
  fz : ∀ o, w.frozen? ⟨bt, o, none⟩ = false
  tb : FTab (Value.int .i64) w gb n B
  tl : FTab (Value.int .i64) w gl n L
  lb : bt < w.heap.size
  lg : gb < w.heap.size
  ll : gl < w.heap.size
theorem close3 {w1 : World} {o1 o2 o3 : Obj} {bt gb gl n : Nat} {e : TypeId}
    (h0 : At3 w1 o1 o2 o3 bt (.cells #[.slice (some ⟨gb, 0, none⟩) n n, .slice (some ⟨gl, 0, none⟩) n n, .int .i64 0, .slice none 0 0] e)) (h1 : At3 w1 o1 o2 o3 gb (.cells (madeArr (.int .i64 0) n) 3))
    (h2 : At3 w1 o1 o2 o3 gl (.cells (madeArr (.int .i64 0) n) 3)) (d1 : bt ≠ gb) (d2 : bt ≠ gl) (d3 : gb ≠ gl) :
    Apart3 w1.heap.size bt gb gl ∧ TW w1 bt gb gl n (fun _ => 0) (fun _ => 0) 0 (.slice none 0 0) (((w1.alloc o1).alloc o2).alloc o3).drew := by
  obtain ⟨a0, b0⟩ := h0.heap
  obtain ⟨a1, b1⟩ := h1.heap
  obtain ⟨a2, b2⟩ := h2.heap
  have hb : Below w1.heap.size w1 (((w1.alloc o1).alloc o2).alloc o3).drew := (balloc (balloc (balloc (Below.refl _ w1) o1) o2) o3).drew
  generalize hw : (((w1.alloc o1).alloc o2).alloc o3) = w' at *
  have a0' : w'.drew.heap[bt]? = _ := a0
  have a1' : w'.drew.heap[gb]? = _ := a1
  have a2' : w'.drew.heap[gl]? = _ := a2
  generalize w'.drew = w2 at *
  refine ⟨⟨b0, b1, b2, d1, d2, d3⟩, ⟨hb, ?_, ?_, ?_, ?_, fun o => ?_, FTab.block a1', FTab.block a2', (Array.getElem?_eq_some_iff.1 a0').1, (Array.getElem?_eq_some_iff.1 a1').1, (Array.getElem?_eq_some_iff.1 a2').1⟩⟩
  · rw [cell_of_row _ bt 0 _ e (0, 0) a0']; rfl
  · rw [cell_of_row _ bt 1 _ e (0, 0) a0']; rfl
  · rw [cell_of_row _ bt 2 _ e (0, 0) a0']; rfl
  · rw [cell_of_row _ bt 3 _ e (0, 0) a0']; rfl
  · unfold World.frozen?
    rw [a0']
    simp
section
variable {w1 w : World} {bt gb gl n : Nat} {B L : Nat → Int} {E : Int} {ch : Value}
theorem TW.drew (h : TW w1 bt gb gl n B L E ch w) : TW w1 bt gb gl n B L E ch w.drew := ⟨h.bel.drew, h.c0, h.c1, h.c2, h.c3, h.fz, h.tb.drew, h.tl.drew, h.lb, h.lg, h.ll⟩
theorem TW.drewN (h : TW w1 bt gb gl n B L E ch w) (q : Nat) : TW w1 bt gb gl n B L E ch (w.drewN q) := ⟨bdrewN h.bel q, h.c0, h.c1, h.c2, h.c3, h.fz, h.tb.drewN q, h.tl.drewN q, h.lb, h.lg, h.ll⟩
theorem TW.congr {B' L' : Nat → Int} (h : TW w1 bt gb gl n B L E ch w) (hB : ∀ i, i < n → B i = B' i) (hL : ∀ i, i < n → L i = L' i) : TW w1 bt gb gl n B' L' E ch w := ⟨h.bel, h.c0, h.c1, h.c2, h.c3, h.fz, h.tb.congr hB, h.tl.congr hL, h.lb, h.lg, h.ll⟩
theorem TW.setB (h : TW w1 bt gb gl n B L E ch w) (a : Apart3 w1.heap.size bt gb gl) {i : Nat} (hi : i < n) (y : Int) : TW w1 bt gb gl n (fun j => if j = i then y else B j) L E ch (w.setCell ⟨gb, i, none⟩ (.int .i64 y)) :=
  ⟨h.bel.setCell (p := ⟨gb, i, none⟩) a.l1 _, cell_other a.d1 h.c0, cell_other a.d1 h.c1, cell_other a.d1 h.c2, cell_other a.d1 h.c3, fun o => frozen_set (h.fz o), h.tb.set hi y, h.tl.other a.d3 _, by rw [World.size_setCell]; exact h.lb, by rw [World.size_setCell]; exact h.lg, by rw [World.size_setCell]; exact h.ll⟩
theorem TW.setL (h : TW w1 bt gb gl n B L E ch w) (a : Apart3 w1.heap.size bt gb gl) {i : Nat} (hi : i < n) (y : Int) : TW w1 bt gb gl n B (fun j => if j = i then y else L j) E ch (w.setCell ⟨gl, i, none⟩ (.int .i64 y)) :=
  ⟨h.bel.setCell (p := ⟨gl, i, none⟩) a.l2 _, cell_other a.d2 h.c0, cell_other a.d2 h.c1, cell_other a.d2 h.c2, cell_other a.d2 h.c3, fun o => frozen_set (h.fz o), h.tb.other a.d3.symm _, h.tl.set hi y, by rw [World.size_setCell]; exact h.lb, by rw [World.size_setCell]; exact h.lg, by rw [World.size_setCell]; exact h.ll⟩
theorem TW.setE (h : TW w1 bt gb gl n B L E ch w) (a : Apart3 w1.heap.size bt gb gl) (y : Int) : TW w1 bt gb gl n B L y ch (w.setCell ⟨bt, 2, none⟩ (.int .i64 y)) :=
  ⟨h.bel.setCell (p := ⟨bt, 2, none⟩) a.l0 _, cell_off (by omega) h.c0, cell_off (by omega) h.c1, cell_self h.c2 (h.fz 2), cell_off (by omega) h.c3, fun o => frozen_set (h.fz o), h.tb.other a.d1 _, h.tl.other a.d2 _, by rw [World.size_setCell]; exact h.lb, by rw [World.size_setCell]; exact h.lg, by rw [World.size_setCell]; exact h.ll⟩
theorem TW.setC (h : TW w1 bt gb gl n B L E ch w) (a : Apart3 w1.heap.size bt gb gl) (y : Value) : TW w1 bt gb gl n B L E y (w.setCell ⟨bt, 3, none⟩ y) :=
  ⟨h.bel.setCell (p := ⟨bt, 3, none⟩) a.l0 _, cell_off (by omega) h.c0, cell_off (by omega) h.c1, cell_off (by omega) h.c2, cell_self h.c3 (h.fz 3), fun o => frozen_set (h.fz o), h.tb.other a.d1 _, h.tl.other a.d2 _, by rw [World.size_setCell]; exact h.lb, by rw [World.size_setCell]; exact h.lg, by rw [World.size_setCell]; exact h.ll⟩
theorem TW.below {w' : World} {s : Nat} (h : TW w1 bt gb gl n B L E ch w) (hb : Below s w w') (hs : w1.heap.size ≤ s) (l0 : bt < s) (l1 : gb < s) (l2 : gl < s) : TW w1 bt gb gl n B L E ch w' :=
  ⟨h.bel.trans (hb.mono hs), by rw [hb.cell (p := ⟨bt, 0, none⟩) l0]; exact h.c0, by rw [hb.cell (p := ⟨bt, 1, none⟩) l0]; exact h.c1, by rw [hb.cell (p := ⟨bt, 2, none⟩) l0]; exact h.c2, by rw [hb.cell (p := ⟨bt, 3, none⟩) l0]; exact h.c3, fun o => by rw [hb.frozen (p := ⟨bt, o, none⟩) l0]; exact h.fz o, h.tb.below hb l1, h.tl.below hb l2, Nat.lt_of_lt_of_le h.lb hb.size, Nat.lt_of_lt_of_le h.lg hb.size, Nat.lt_of_lt_of_le h.ll hb.size⟩
theorem TW.lt (h : TW w1 bt gb gl n B L E ch w) : bt < w.heap.size ∧ gb < w.heap.size ∧ gl < w.heap.size := ⟨h.lb, h.lg, h.ll⟩
theorem TW.alloc (h : TW w1 bt gb gl n B L E ch w) (o : Obj) : TW w1 bt gb gl n B L E ch (w.alloc o) :=
  h.below (balloc (Below.refl _ w) o) h.bel.size h.lb h.lg h.ll
end
set_option maxHeartbeats 2000000 in
theorem reverse_nil (w : World) : Calls Try.prog 40 #[.slice none 0 0] w fun e w' => e = .returned (.tuple #[]) ∧ w = w' := by
  go_enter Try.func40, Try.ntmps40
  go_wp2
  go_rounds 1
  go_wp2
  go_returns
  exact ⟨rfl, rfl⟩
/-- The reversed chain in memory. -/
def RevAt (s : Nat) (xs : List Int) (oc : Option Addr) (d : Nat) (w : World) : Prop := (oc = none ∧ d = 0) ∨ ∃ g, oc = some ⟨g, 0, none⟩ ∧ s ≤ g ∧ FTab (Value.int .i64) w g d (fun i => xs.getD (d - 1 - i) 0)
/-- What reversing the chain does. -/
def RetRev (w1 : World) (bt gb gl n : Nat) (B L : Nat → Int) (E : Int) (xs : List Int) (oc : Option Addr) (d cc : Nat) (e : Ending) (w' : World) : Prop := e = .returned (.tuple #[]) ∧ TW w1 bt gb gl n B L E (.slice oc d cc) w' ∧ RevAt w1.heap.size xs oc d w'
theorem rev_chain {w1 wr : World} {bt gb gl n d base : Nat} {B L : Nat → Int} {E : Int} {v : Value} {xs : List Int} (h : TW w1 bt gb gl n B L E v wr) (hown : Own wr base 3 1 encInt v xs) (hb : bt < base ∧ gb < base ∧ gl < base) (hl : xs.length = d) (hs : w1.heap.size ≤ base) (hd : d ≤ maxLen) :
    ∃ oc cc, v = .slice oc d cc ∧ Calls Try.prog 40 #[.slice oc d cc] wr (RetRev w1 bt gb gl n B L E xs oc d cc) := by
  rcases hown.ftab with ⟨hx, rfl⟩ | ⟨g, cc, rfl, hg, ht⟩
  · subst hx
    simp only [List.length_nil] at hl
    subst hl
    refine ⟨none, 0, rfl, (reverse_nil wr).mono ?_⟩
    rintro e w' ⟨rfl, rfl⟩
    exact ⟨rfl, h, .inl ⟨rfl, rfl⟩⟩
  · rw [hl] at ht h ⊢
    refine ⟨_, cc, rfl, (reverse_tab g d cc _ wr ht hd).mono ?_⟩
    rintro e w' ⟨rfl, h1, h2, h3⟩
    exact ⟨rfl, h.below h1 (by omega) (by omega) (by omega) (by omega), .inr ⟨g, rfl, by omega, h3⟩⟩
theorem RevAt.drewN {s d q : Nat} {xs : List Int} {oc : Option Addr} {w : World} (h : RevAt s xs oc d w) : RevAt s xs oc d (w.drewN q) := by
  rcases h with h | ⟨g, a, b, c⟩
  · exact .inl h
  · exact .inr ⟨g, a, b, c.drewN q⟩
theorem RevAt.other {s d b o : Nat} {xs : List Int} {oc : Option Addr} {w : World} (h : RevAt s xs oc d w) (hb : b < s) (v : Value) : RevAt s xs oc d (w.setCell ⟨b, o, none⟩ v) := by
  rcases h with h | ⟨g, a, b, c⟩
  · exact .inl h
  · exact .inr ⟨g, a, b, c.other (by omega) v⟩
theorem RevAt.flat {s d : Nat} {xs : List Int} {oc : Option Addr} {w : World} (h : RevAt s xs oc d w) (hl : xs.length = d) : Flat w 1 encInt oc xs.reverse := by
  rcases h with ⟨_, h⟩ | ⟨g, rfl, _, c⟩
  · subst h
    rw [List.eq_nil_of_length_eq_zero hl]
    exact fun i hi => by simp at hi
  · refine c.list _ (by rw [List.length_reverse]; exact hl) (fun i hi => ?_)
    rw [List.length_reverse] at hi
    rw [List.getElem_reverse, List.getD_eq_getElem?_getD, List.getElem?_eq_getElem (by omega)]
    simp [hl]
end Go.Proofs.Ytjggcnpnjnmamaa
