/-
  (*matcher).augment: its walk. Own text.
-/
import Derived.Test.YtjggcnpnjnmamaaRows
import Derived.Test.YtjggcnpnjnmamaaHungG
import Derived.Test.YtjggcnpnjnmamaaAugV
import Derived.Test.YtjggcnpnjnmamaaCheck
import Derived.Handy
import Derived.IntWalk
import Derived.RegionTactic
import Derived.BigRegion
import Derived.StillTailTactics
import Derived.Deep.LoopGhost
import Derived.Deep.DeepCutAuto
import Derived.Deep.CutBlock
namespace Go.Proofs.Ytjggcnpnjnmamaa
open Go.RowKit
set_option linter.unusedVariables false
theorem elemInt : ElemType Try.prog 3 (.int .i64 0) 1 8 := ElemType.mk (by kernel_rfl) rfl (by decide)
theorem elemBool : ElemType Try.prog 4 (.bool false) 1 1 := ElemType.mk (by kernel_rfl) rfl (by decide)
/-- The first k entries are filled. -/
def fillT (k j : Nat) : Int := if j < k then 1099511627776 else 0
theorem fillT_succ (k j : Nat) : (if j = k then 1099511627776 else fillT k j) = fillT (k + 1) j := by
  unfold fillT
  by_cases e : j = k
  · rw [if_pos e, if_pos (by omega)]
  · rw [if_neg e]
    by_cases h : j < k
    · rw [if_pos h, if_pos (by omega)]
    · rw [if_neg h, if_neg (by omega)]
theorem fillT_full {k j : Nat} (h : j < k) : fillT k j = 1099511627776 := if_pos h
theorem newTabs1 {bm gu gv gr gf q m : Nat} {w : World} {far : Nat → Int} {e1 e2 : TypeId} (hq : q = m + 1) (h : FTab (Value.int .i64) w gf q far) (hl : gf < w.heap.size) :
    SW bm gu gv gr gf w.heap.size (w.heap.size + 1) m far (fun _ => 0) [] ((w.alloc (.cells (madeArr (.int .i64 0) q) e1)).alloc (.cells (madeArr (.bool false) q) e2)).drew := by
  subst hq
  have h2 := FTab.made natV w (m + 1) 0 e1
  have h3 := FTab.made Value.bool (w.alloc (.cells (madeArr (natV 0) (m + 1)) e1)) (m + 1) false e2
  have hs : (w.alloc (.cells (madeArr (natV 0) (m + 1)) e1)).heap.size = w.heap.size + 1 := by simp
  rw [hs] at h3
  exact ⟨((h.alloc hl _).alloc (by rw [World.size_alloc]; omega) _).drew, (h2.alloc (by rw [World.size_alloc]; omega) _).drew, (h3.congr fun j _ => by simp).drew⟩
theorem newTabs2 {bm gu gv gr gf q m : Nat} {w : World} {far : Nat → Int} {e1 e2 : TypeId} (hq : q = m + 1) (h : FTab (Value.int .i64) w gf q far) (hl : gf < w.heap.size) :
    SW bm gu gv gr gf (w.heap.size + 1) w.heap.size m far (fun _ => 0) [] ((w.alloc (.cells (madeArr (.bool false) q) e2)).alloc (.cells (madeArr (.int .i64 0) q) e1)).drew := by
  subst hq
  have h2 := FTab.made Value.bool w (m + 1) false e2
  have h3 := FTab.made natV (w.alloc (.cells (madeArr (.bool false) (m + 1)) e2)) (m + 1) 0 e1
  have hs : (w.alloc (.cells (madeArr (.bool false) (m + 1)) e2)).heap.size = w.heap.size + 1 := by simp
  rw [hs] at h3
  exact ⟨((h.alloc hl _).alloc (by rw [World.size_alloc]; omega) _).drew, h3.drew, ((h2.alloc (by rw [World.size_alloc]; omega) _).congr fun j _ => by simp).drew⟩
/-- A cost in memory. -/
theorem costCell {w0 w : World} {b off m r q : Nat} {rows : List (List Int)} (hx : Rows1 w0 1 encInt (some ⟨b, off, none⟩) rows) (hG : GoodCosts rows m) (hb : Below w0.heap.size w0 w) (hr : r < rows.length) (hq : q < m) :
    ∃ bk offk capk, w.cell? ⟨b, off + r, none⟩ = some (.slice (some ⟨bk, offk, none⟩) m capk) ∧ w.cell? ⟨bk, offk + q, none⟩ = some (.int .i64 (cOf rows (r + 1) (q + 1))) := by
  obtain ⟨oa, cap, h1, h2, h3⟩ := (hx.below hb).at hr
  have hl := hG.len r hr
  obtain ⟨bk, offk, rfl, h4⟩ := h3.int (i := q) (by omega)
  refine ⟨bk, offk, cap, by rw [h1, hl], ?_⟩
  rw [cOf_at hr (by omega)]
  exact h4
/-- One more row is matched. -/
def RetAug (w0 : World) (bm gu gv gr : Nat) (cv : Value) (N m k : Nat) (c : Nat → Nat → Int) (V0 : Int) (e : Ending) (w' : World) : Prop :=
  e = .returned (.tuple #[]) ∧ ∃ u v row, Matched N m (k + 1) c u v row ∧ MW w0 bm gu gv gr cv N m u v row w' ∧ V0 - 1048576 ≤ v 0 ∧ v 0 ≤ V0 ∧ (∀ r, 1 ≤ r → r ≤ N → 0 ≤ u r ∧ u r ≤ 1048576) ∧ (∀ j, 1 ≤ j → j ≤ m → -1048576 ≤ v j ∧ v j ≤ 0)
/-- At the head of the search's loop. -/
def AtHead (w0 : World) (bm gu gv gr gf gs gd : Nat) (cv : Value) (N m k : Nat) (c : Nat → Nat → Int) (row : Nat → Nat) (V0 : Int) (g : Nat) (at' : Value) (wr : World) : Prop :=
  ∃ (D : List Nat) (p : Nat) (u v far : Nat → Int) (fr : Nat → Nat), at' = .int .i64 p ∧ g = m + 1 - D.length ∧ D.length ≤ m + 1 ∧ Search N m k c u v row D p far fr ∧ MW w0 bm gu gv gr cv N m u v row wr ∧ SW bm gu gv gr gf gs gd m far fr D wr ∧ v 0 + u (k + 1) = V0
/-- In the look from the column p. -/
def Look (w0 : World) (bm gu gv gr gf gs gd : Nat) (cv : Value) (N m : Nat) (c : Nat → Nat → Int) (u v : Nat → Int) (row : Nat → Nat) (D : List Nat) (p : Nat) (far : Nat → Int) (fr : Nat → Nat) (q next : Nat) (delta : Int) (wr : World) : Prop :=
  Near m (p :: D) (farR c u v row D p far q) q next delta ∧ MW w0 bm gu gv gr cv N m u v row wr ∧ SW bm gu gv gr gf gs gd m (farR c u v row D p far q) (frR c u v row D p far fr q) (p :: D) wr
section
variable {w0 : World} {bm gu gv gr gf gs gd : Nat} {cv : Value} {N m : Nat} {c : Nat → Nat → Int} {u v : Nat → Int} {row : Nat → Nat} {D : List Nat} {p : Nat} {far : Nat → Int} {fr : Nat → Nat} {q next : Nat} {delta : Int} {w : World} {x f : Int}
theorem Look.drewN (h : Look w0 bm gu gv gr gf gs gd cv N m c u v row D p far fr q next delta w) (n : Nat) : Look w0 bm gu gv gr gf gs gd cv N m c u v row D p far fr q next delta (w.drewN n) := ⟨h.1, h.2.1.drewN n, h.2.2.drewN n⟩
theorem Look.setAll (h : Look w0 bm gu gv gr gf gs gd cv N m c u v row D p far fr q next delta w) (a : Apart7 w0.heap.size bm gu gv gr gf gs gd) (h1 : 1 ≤ q) (h2 : q ∉ p :: D) (hq : q < m + 1) (hx : c (row p) q - u (row p) - v q = x) (hf : f = far q) (hlt : x < f) :
    farR c u v row D p far (q + 1) q = x ∧ MW w0 bm gu gv gr cv N m u v row ((w.setCell ⟨gf, q, none⟩ (.int .i64 x)).setCell ⟨gs, q, none⟩ (.int .i64 p)) ∧ SW bm gu gv gr gf gs gd m (farR c u v row D p far (q + 1)) (frR c u v row D p far fr (q + 1)) (p :: D) ((w.setCell ⟨gf, q, none⟩ (.int .i64 x)).setCell ⟨gs, q, none⟩ (.int .i64 p)) := by
  subst hx hf
  refine ⟨farR_new_lt h1 h2 hlt, (SW.otherM a (SW.otherM a h.2.1 q _).1 q _).2.1, ((h.2.2.setF a hq _).setS a hq p).congr (fun j _ => farR_set h1 h2 hlt j) (fun j _ => frR_set h1 h2 hlt j)⟩
theorem Look.setKeep (h : Look w0 bm gu gv gr gf gs gd cv N m c u v row D p far fr q next delta w) (a : Apart7 w0.heap.size bm gu gv gr gf gs gd) (h1 : 1 ≤ q) (h2 : q ∉ p :: D) (hq : q < m + 1) (hx : c (row p) q - u (row p) - v q = x) (hf : f = far q) (hlt : x < f) (hd : ¬ x < delta) :
    Look w0 bm gu gv gr gf gs gd cv N m c u v row D p far fr (q + 1) next delta ((w.setCell ⟨gf, q, none⟩ (.int .i64 x)).setCell ⟨gs, q, none⟩ (.int .i64 p)) := by
  obtain ⟨e, hM, hS⟩ := h.setAll a h1 h2 hq hx hf hlt
  exact ⟨h.1.grown.keep (by rw [e]; exact hd), hM, hS⟩
theorem Look.setTake (h : Look w0 bm gu gv gr gf gs gd cv N m c u v row D p far fr q next delta w) (a : Apart7 w0.heap.size bm gu gv gr gf gs gd) (h1 : 1 ≤ q) (h2 : q ∉ p :: D) (hq : q < m + 1) (hx : c (row p) q - u (row p) - v q = x) (hf : f = far q) (hlt : x < f) (hd : x < delta) (n : Nat) :
    Look w0 bm gu gv gr gf gs gd cv N m c u v row D p far fr (q + 1) q x (((w.setCell ⟨gf, q, none⟩ (.int .i64 x)).setCell ⟨gs, q, none⟩ (.int .i64 p)).drewN n) := by
  obtain ⟨e, hM, hS⟩ := h.setAll a h1 h2 hq hx hf hlt
  have := h.1.grown.take h1 h2 (by rw [e]; exact hd)
  rw [e] at this
  exact ⟨this, hM.drewN n, hS.drewN n⟩
theorem Look.keepAll (h : Look w0 bm gu gv gr gf gs gd cv N m c u v row D p far fr q next delta w) (hx : c (row p) q - u (row p) - v q = x) (hf : f = far q) (hlt : ¬ x < f) :
    farR c u v row D p far (q + 1) q = f ∧ SW bm gu gv gr gf gs gd m (farR c u v row D p far (q + 1)) (frR c u v row D p far fr (q + 1)) (p :: D) w := by
  subst hx hf
  have hno : ¬ (1 ≤ q ∧ q ∉ p :: D ∧ c (row p) q - u (row p) - v q < far q) := fun e => hlt e.2.2
  exact ⟨by rw [farR_skip hno, farR_self], h.2.2.congr (fun j _ => (farR_skip hno j).symm) (fun j _ => (frR_skip hno j).symm)⟩
theorem Look.keepKeep (h : Look w0 bm gu gv gr gf gs gd cv N m c u v row D p far fr q next delta w) (hx : c (row p) q - u (row p) - v q = x) (hf : f = far q) (hlt : ¬ x < f) (hd : ¬ f < delta) :
    Look w0 bm gu gv gr gf gs gd cv N m c u v row D p far fr (q + 1) next delta w := by
  obtain ⟨e, hS⟩ := h.keepAll hx hf hlt
  exact ⟨h.1.grown.keep (by rw [e]; exact hd), h.2.1, hS⟩
theorem Look.keepTake (h : Look w0 bm gu gv gr gf gs gd cv N m c u v row D p far fr q next delta w) (h1 : 1 ≤ q) (h2 : q ∉ p :: D) (hx : c (row p) q - u (row p) - v q = x) (hf : f = far q) (hlt : ¬ x < f) (hd : f < delta) (n : Nat) :
    Look w0 bm gu gv gr gf gs gd cv N m c u v row D p far fr (q + 1) q f (w.drewN n) := by
  obtain ⟨e, hS⟩ := h.keepAll hx hf hlt
  have := h.1.grown.take h1 h2 (by rw [e]; exact hd)
  rw [e] at this
  exact ⟨this, h.2.1.drewN n, hS.drewN n⟩
end
/-- In the move of the prices. -/
def Move (w0 : World) (bm gu gv gr gf gs gd : Nat) (cv : Value) (N m : Nat) (u v : Nat → Int) (row : Nat → Nat) (D : List Nat) (far : Nat → Int) (fr : Nat → Nat) (delta : Int) (q : Nat) (wr : World) : Prop :=
  MW w0 bm gu gv gr cv N m (uTo row D delta u q) (vTo D delta v q) row wr ∧ SW bm gu gv gr gf gs gd m (fTo D delta far q) fr D wr
section
variable {w0 : World} {bm gu gv gr gf gs gd : Nat} {cv : Value} {N m : Nat} {u v : Nat → Int} {row : Nat → Nat} {D : List Nat} {far : Nat → Int} {fr : Nat → Nat} {q : Nat} {delta : Int} {w : World} {x y f : Int} {r : Nat}
theorem Move.yes1 (h : Move w0 bm gu gv gr gf gs gd cv N m u v row D far fr delta q w) (a : Apart7 w0.heap.size bm gu gv gr gf gs gd) (hD : q ∈ D) (inj : ∀ j, j ∈ D → row j = row q → j = q) (hq : q < m + 1) (hrr : r = row q) (hr : r < N + 1) (hx : x = uTo row D delta u q r) :
    MW w0 bm gu gv gr cv N m (uTo row D delta u (q + 1)) (vTo D delta v q) row (w.setCell ⟨gu, r, none⟩ (.int .i64 (x + delta))) ∧ SW bm gu gv gr gf gs gd m (fTo D delta far (q + 1)) fr D (w.setCell ⟨gu, r, none⟩ (.int .i64 (x + delta))) := by
  subst hx hrr
  exact ⟨(h.1.setU a.a4 hr _).congr (fun j _ => uTo_set hD inj j) (fun _ _ => rfl) (fun _ _ => rfl), (h.2.setU a _ _).congr (fun j _ => (fTo_skip hD j).symm) (fun _ _ => rfl)⟩
theorem Move.yes2 (hM : MW w0 bm gu gv gr cv N m (uTo row D delta u (q + 1)) (vTo D delta v q) row w) (hS : SW bm gu gv gr gf gs gd m (fTo D delta far (q + 1)) fr D w) (a : Apart7 w0.heap.size bm gu gv gr gf gs gd) (hD : q ∈ D) (hq : q < m + 1) (hy : y = vTo D delta v q q) :
    Move w0 bm gu gv gr gf gs gd cv N m u v row D far fr delta (q + 1) (w.setCell ⟨gv, q, none⟩ (.int .i64 (y - delta))) := by
  subst hy
  exact ⟨(hM.setV a.a4 hq _).congr (fun _ _ => rfl) (fun j _ => vTo_set hD j) (fun _ _ => rfl), hS.setV a _ _⟩
theorem Move.no (h : Move w0 bm gu gv gr gf gs gd cv N m u v row D far fr delta q w) (a : Apart7 w0.heap.size bm gu gv gr gf gs gd) (hD : q ∉ D) (hq : q < m + 1) (hf : f = fTo D delta far q q) :
    Move w0 bm gu gv gr gf gs gd cv N m u v row D far fr delta (q + 1) (w.setCell ⟨gf, q, none⟩ (.int .i64 (f - delta))) := by
  subst hf
  exact ⟨(SW.otherM a h.1 q _).1.congr (fun j _ => (uTo_skip hD j).symm) (fun j _ => (vTo_skip hD j).symm) (fun _ _ => rfl), (h.2.setF a hq _).congr (fun j _ => fTo_set hD j) (fun _ _ => rfl)⟩
end
theorem Move.drew {w0 : World} {bm gu gv gr gf gs gd : Nat} {cv : Value} {N m : Nat} {u v : Nat → Int} {row : Nat → Nat} {D : List Nat} {far : Nat → Int} {fr : Nat → Nat} {q : Nat} {delta : Int} {w : World} (h : Move w0 bm gu gv gr gf gs gd cv N m u v row D far fr delta q w) : Move w0 bm gu gv gr gf gs gd cv N m u v row D far fr delta q w.drew := ⟨h.1.drew, h.2.drew⟩
/-- On the way back. -/
def Back (w0 : World) (bm gu gv gr gs : Nat) (cv : Value) (N m k : Nat) (c : Nat → Nat → Int) (u v : Nat → Int) (row : Nat → Nat) (fr : Nat → Nat) (g : Nat) (at' : Value) (wr : World) : Prop :=
  ∃ (p : Nat) (E : List Nat) (row' : Nat → Nat), at' = .int .i64 p ∧ g = E.length ∧ Flip N m k c u v row fr p E row' ∧ MW w0 bm gu gv gr cv N m u v row' wr ∧ FTab natV wr gs (m + 1) fr
set_option maxRecDepth 100000 in
set_option maxHeartbeats 8000000 in
theorem augment_any (w0 : World) (bm gu gv gr : Nat) (b off cap : Nat) (rows : List (List Int)) (N m k k1 : Nat) (u v : Nat → Int) (row : Nat → Nat) (w : World) (hk1 : k1 = k + 1) (hA : Apart4 w0.heap.size bm gu gv gr)
    (hNN : N = rows.length) (hG : GoodCosts rows m) (hx : Rows1 w0 1 encInt (some ⟨b, off, none⟩) rows) (hM : MW w0 bm gu gv gr (.slice (some ⟨b, off, none⟩) N cap) N m u v row w)
    (hk : k + 1 ≤ N) (hm : Matched N m k (cOf rows) u v row) (hv0 : -13631488 ≤ v 0 ∧ v 0 ≤ 0) :
    Calls Try.prog 37 #[.pointer (some ⟨bm, 0, none⟩), .int .i64 k1] w (RetAug w0 bm gu gv gr (.slice (some ⟨b, off, none⟩) N cap) N m k (cOf rows) (v 0)) := by
  have hm12 := hG.n12
  have hn1 := hG.r1
  have hrn := hG.rn
  have hcb := Lib.hid hG.c
  obtain ⟨n, hn⟩ : ∃ n, n = m + 1 := ⟨_, rfl⟩
  rw [← hNN] at hn1 hrn
  have hn2 : n ≤ 13 := by omega
  have hlt := hM.lt
  obtain ⟨lt1, lt2, lt3, lt4⟩ := hlt
  have HM := Lib.hid hM
  have Hm := Lib.hid hm
  have HX := Lib.hid hx
  have k2 := hM.c2
  rw [← hn] at k2
  have hnn := Lib.hid hn
  have hkk : k1 ≤ 13 := by omega
  have HK1 := Lib.hid hk1
  have HNN := Lib.hid hNN
  have mk1 := run_makeArr (P := Try.prog) elemInt Try.underlying25 (.int .i64 0) rfl n (by omega) (by omega)
  have mk2 := run_makeArr (P := Try.prog) elemBool Try.underlying33 (.bool false) rfl n (by omega) (by omega)
  clear hM hm hx hn hNN hk1
  go_enter Try.func37, Try.ntmps37
  go_wp2
  have HF : Hid (FTab (Value.int .i64) (w.alloc (.cells (madeArr (.int .i64 0) n) 3)) w.heap.size n (fillT 0)) := (FTab.made (Value.int .i64) w n 0 3).congr fun i _ => rfl
  have HM1 := Lib.hid (HM.out.alloc (.cells (madeArr (.int .i64 0) n) 3))
  have hsz : w.heap.size < (w.alloc (.cells (madeArr (.int .i64 0) n) 3)).heap.size := by simp
  have hgB : w0.heap.size ≤ w.heap.size := HM.out.bel.size
  generalize w.alloc (.cells (madeArr (.int .i64 0) n) 3) = w1 at *
  go_loopw [24] (fun i wr => ∃ q : Nat, q ≤ n ∧ i = .int .i64 q ∧ Hid (FTab (Value.int .i64) wr w.heap.size n (fillT q) ∧ MW w0 bm gu gv gr (.slice (some ⟨b, off, none⟩) N cap) N m u v row wr) ∧ w.heap.size < wr.heap.size) (fun i _ => n - (intOf i).toNat)
  case atStart => exact ⟨0, by omega, rfl, Lib.hid ⟨HF.out, HM1.out⟩, hsz⟩
  case round =>
    obtain ⟨q, hq, rfl, HR, hsr⟩ := hrel
    have hfz := HR.out.1.fz q
    by_cases hlt : q < n
    · have hcq := HR.out.1.at' q hlt
      have HR2 : Hid (FTab (Value.int .i64) (wr.setCell ⟨w.heap.size, q, none⟩ (.int .i64 1099511627776)) w.heap.size n (fillT (q + 1)) ∧ MW w0 bm gu gv gr (.slice (some ⟨b, off, none⟩) N cap) N m u v row (wr.setCell ⟨w.heap.size, q, none⟩ (.int .i64 1099511627776))) :=
        ⟨(HR.out.1.set hlt 1099511627776).congr fun j _ => fillT_succ q j, HR.out.2.other hgB (by omega) (by omega) (by omega) (by omega) _⟩
      go_wp2
      go_roundw
      case rel => exact ⟨q + 1, by omega, by go_num, HR2, by simpa using hsr⟩
      case measure => simp [intOf]; omega
    · obtain rfl : n = q := by omega
      go_upto_region 7 with fail
      go_cut [7, 8] (fun s7 s8 wx => ∃ gs gd : Nat, s7 = .slice (some ⟨gs, 0, none⟩) n n ∧ s8 = .slice (some ⟨gd, 0, none⟩) n n ∧ w.heap.size < gs ∧ w.heap.size < gd ∧ gs ≠ gd ∧ Hid (SW bm gu gv gr w.heap.size gs gd m (fun _ => 1099511627776) (fun _ => 0) [] wx ∧ MW w0 bm gu gv gr (.slice (some ⟨b, off, none⟩) N cap) N m u v row wx))
      case first =>
        go_region
        all_goals
          go_wp2_with fail
          go_meet
        all_goals
          have hF1 := HR.out.1.congr (fun j hj => fillT_full hj)
        · exact ⟨_, _, rfl, rfl, hsr, by omega, by omega, newTabs1 hnn.out hF1 hsr, ((HR.out.2.alloc _).alloc _).drew⟩
        · exact ⟨_, _, rfl, rfl, by omega, hsr, by omega, newTabs2 hnn.out hF1 hsr, ((HR.out.2.alloc _).alloc _).drew⟩
      case rest =>
        obtain ⟨gs, gd, rfl, rfl, l1, l2, hsd, HS⟩ := hcut
        clear HF HM1 HR hsz mk1 mk2 hfz hsr k2 HM hlt hq
        obtain ⟨gf, hgf⟩ : ∃ g, g = w.heap.size := ⟨_, rfl⟩
        have A7 : Hid (Apart7 w0.heap.size bm gu gv gr w.heap.size gs gd) := ⟨hA, hgB, by omega, by omega, by omega, by omega, by omega, by omega, by omega, by omega, by omega, by omega, by omega, by omega, by omega, by omega, by omega, by omega, hsd⟩
        have k3 := HS.out.2.c3
        have k4 := HS.out.2.tr.at' 0 (by omega)
        have k5 := HS.out.2.tr.fz 0
        rw [← hnn.out] at k3
        have hn0 : 0 < n := by have := hnn.out; omega
        unfold natV at k4
        have e1 := hA.d3
        have e2 := A7.out.f4
        have e3 := A7.out.s4
        have e4 := A7.out.d4
        have HS2 : Hid (SW bm gu gv gr w.heap.size gs gd m (fun _ => 1099511627776) (fun _ => 0) [] (wc.setCell ⟨gr, 0, none⟩ (.int .i64 k1)) ∧ MW w0 bm gu gv gr (.slice (some ⟨b, off, none⟩) N cap) N m u v (fun j => if j = 0 then k1 else row j) (wc.setCell ⟨gr, 0, none⟩ (.int .i64 k1))) :=
          ⟨HS.out.1.setR A7.out 0 _, HS.out.2.setR hA (by omega) k1⟩
        go_wp2
        generalize wc.setCell ⟨gr, 0, none⟩ (.int .i64 k1) = w2 at *
        clear k3 k4 k5 HS
        have HB : Hid (Search N m k (cOf rows) u v (fun j => if j = 0 then k1 else row j) [] 0 (fun _ => 1099511627776) (fun _ => 0)) := by
          rw [HK1.out]
          exact Hm.out.begin hk
        have HU : Hid (u k1 = 0) := Hm.out.uz _ (by rw [HK1.out]; omega) (by rw [HK1.out]; exact hk)
        obtain ⟨row1, hrow1⟩ : ∃ f, f = (fun j => if j = 0 then k1 else row j) := ⟨_, rfl⟩
        rw [← hrow1] at HB HS2
        clear hrow1
        go_loopg [9] (m + 1) (fun g at' wr => AtHead w0 bm gu gv gr w.heap.size gs gd (.slice (some ⟨b, off, none⟩) N cap) N m k (cOf rows) row1 (v 0) g at' wr)
        case atStart => exact ⟨[], 0, u, v, _, _, rfl, rfl, by simp, HB.out, HS2.out.2, HS2.out.1, by rw [← HK1.out, HU.out]; omega⟩
        case round =>
          clear HS2 HB HU Hm
          obtain ⟨D, p, u1, v1, far, fr, rfl, hg, hDl, hS, hM, hW, hV⟩ := hrel
          have hpm := hS.pm
          have hdn := hnn.out
          have hcs := hG.c
          have k3 := hM.c3
          have kr := hM.tr.at' p (by omega)
          have hpn : p < n := by omega
          rw [← hdn] at k3
          unfold natV at kr
          obtain ⟨r, hr⟩ : ∃ r, r = row1 p := ⟨_, rfl⟩
          rw [← hr] at kr
          have HS := Lib.hid hS
          have HM := Lib.hid hM
          have HW := Lib.hid hW
          have HV := Lib.hid hV
          have HR := Lib.hid hr
          have HCS := Lib.hid hcs
          have HDL := Lib.hid hDl
          have HGK := Lib.hid hg
          clear hS hM hW hV hr hdn hcs hDl hg
          by_cases hr0 : r = 0
          · have hne : ((r : Int) != 0) = false := by simp; omega
            have hrow : Hid (row1 p = 0) := by show row1 p = 0; rw [← HR.out]; exact hr0
            have HBK : Hid (Back w0 bm gu gv gr gs (.slice (some ⟨b, off, none⟩) N cap) N m k (cOf rows) u1 v1 row1 fr D.length (.int .i64 p) wr) := ⟨p, D, row1, rfl, rfl, HS.out.back hrow.out, HM.out, HW.out.ts⟩
            have HBD := Lib.hid (HS.out.bounds hrn hcb.out)
            have HKN := Lib.hid HS.out.kN
            clear hr0
            obtain ⟨w5, rfl⟩ : ∃ w5 : World, w5 = wr := ⟨_, rfl⟩
            go_wp2
            clear hne kr k3
            go_loopg [9] D.length (fun g at' wr => Back w0 bm gu gv gr gs (.slice (some ⟨b, off, none⟩) N cap) N m k (cOf rows) u1 v1 row1 fr g at' wr)
            case atStart => exact HBK.out
            case round =>
              clear HBK
              obtain ⟨p', E, row', rfl, hgE, hFl, hMB, hTB⟩ := hrel
              have HGE := Lib.hid hgE
              have HFl := Lib.hid hFl
              have HMB := Lib.hid hMB
              have HTB := Lib.hid hTB
              clear hgE hFl hMB hTB
              by_cases hp0 : p' = 0
              · have hne : ((p' : Int) != 0) = false := by simp; omega
                subst hp0
                go_wp2
                go_end0
                have h1 := HBD.out.1 (k + 1) (by omega) HKN.out
                have h2 := HV.out
                exact ⟨rfl, u1, v1, row', HFl.out.done, HMB.out, by omega, by omega, HBD.out.1, HBD.out.2⟩
              · have hne : ((p' : Int) != 0) = true := by simp; omega
                have hpm' := HFl.out.pm
                have hdn := hnn.out
                obtain ⟨f1, f2, E', f3, f4⟩ := HFl.out.step hp0
                have k3 := HMB.out.c3
                have kp := HMB.out.tr.at' p' (by omega)
                have zp := HMB.out.tr.fz p'
                have kq := HMB.out.tr.at' (fr p') (by omega)
                have ks := HTB.out.at' p' (by omega)
                obtain ⟨f, hf⟩ : ∃ f, f = fr p' := ⟨_, rfl⟩
                rw [← hdn] at k3
                rw [← hf] at kq ks f2 f4
                unfold natV at kp kq ks
                have hpn' : p' < n := by omega
                have hfn : f < n := by omega
                have HF4 := Lib.hid f4
                have HLn := Lib.hid (HMB.out.setR hA (by omega) (row' f) : MW w0 bm gu gv gr (.slice (some ⟨b, off, none⟩) N cap) N m u1 v1 (fun j => if j = p' then row' f else row' j) (wr.setCell ⟨gr, p', none⟩ (.int .i64 (row' f : Nat))))
                have HLs := Lib.hid (HTB.out.other A7.out.s4.symm (.int .i64 (row' f : Nat)) : FTab natV (wr.setCell ⟨gr, p', none⟩ (.int .i64 (row' f : Nat))) gs (m + 1) fr)
                replace hf := Lib.hid hf
                clear f1 f4 hdn hp0 HMB HTB
                go_wp2
                go_region
                go_wp2
                go_roundg E'.length
                case measure => have := HGE.out; omega
                case rel => exact ⟨f, E', _, rfl, rfl, HF4.out, HLn.out.drew, HLs.out.drew⟩
          · have hne : ((r : Int) != 0) = true := by simp; omega
            have hrow : Hid (row1 p ≠ 0) := by show row1 p ≠ 0; rw [← HR.out]; exact hr0
            have kd : wr.cell? ⟨gd, p, none⟩ = some (.bool false) := by rw [HW.out.td.at' p (by omega)]; simp [HS.out.pD]
            have kz := HW.out.td.fz p
            have HR1 : Hid (MW w0 bm gu gv gr (.slice (some ⟨b, off, none⟩) N cap) N m u1 v1 row1 (wr.setCell ⟨gd, p, none⟩ (.bool true)) ∧ SW bm gu gv gr w.heap.size gs gd m far fr (p :: D) (wr.setCell ⟨gd, p, none⟩ (.bool true))) :=
              ⟨HM.out.other A7.out.d0 A7.out.d1 A7.out.d2 A7.out.d3 A7.out.d4 _, HW.out.setD A7.out (by omega)⟩
            go_wp2
            generalize wr.setCell ⟨gd, p, none⟩ (.bool true) = w3 at *
            clear kr kd kz k3 hne HM HW
            have HL0 : Hid (Look w0 bm gu gv gr w.heap.size gs gd (.slice (some ⟨b, off, none⟩) N cap) N m (cOf rows) u1 v1 row1 D p far fr 1 0 1125899906842624 w3) :=
              ⟨Near.one, HR1.out.1, HR1.out.2.congr (fun j _ => (farR_one j).symm) (fun j _ => (frR_one j).symm)⟩
            go_loopw [10, 11, 12] (fun s10 s11 s12 wi => ∃ (q next : Nat) (delta : Int), 1 ≤ q ∧ q ≤ n ∧ s12 = .int .i64 q ∧ s10 = .int .i64 next ∧ s11 = .int .i64 delta ∧ Hid (Look w0 bm gu gv gr w.heap.size gs gd (.slice (some ⟨b, off, none⟩) N cap) N m (cOf rows) u1 v1 row1 D p far fr q next delta wi)) (fun _ _ s12 _ => n - (intOf s12).toNat)
            case atStart => exact ⟨1, 0, _, by omega, by omega, by go_num, by go_num, rfl, HL0⟩
            case round =>
              clear HL0 HR1
              obtain ⟨q, next, delta, hq1, hq2, rfl, rfl, rfl, HL⟩ := hrel
              have hdn := hnn.out
              by_cases hlt : q < n
              · have hqm : q ≤ m := by omega
                by_cases hd : q ∈ p :: D
                · have kd : wr.cell? ⟨gd, q, none⟩ = some (.bool true) := by rw [HL.out.2.2.td.at' q (by omega)]; simp only [hd, decide_true]
                  have HL2 : Hid (Look w0 bm gu gv gr w.heap.size gs gd (.slice (some ⟨b, off, none⟩) N cap) N m (cOf rows) u1 v1 row1 D p far fr (q + 1) next delta wr) := by
                    have hno : ¬ (1 ≤ q ∧ q ∉ p :: D ∧ cOf rows (row1 p) q - u1 (row1 p) - v1 q < far q) := fun e => e.2.1 hd
                    exact ⟨HL.out.1.grown.skip hd, HL.out.2.1, HL.out.2.2.congr (fun j _ => (farR_skip hno j).symm) (fun j _ => (frR_skip hno j).symm)⟩
                  clear hdn hd
                  go_wp2
                  go_roundw
                  case rel => exact ⟨q + 1, next, delta, by omega, by omega, by go_num, rfl, rfl, HL2⟩
                  case measure => simp [intOf]; omega
                · have kd : wr.cell? ⟨gd, q, none⟩ = some (.bool false) := by rw [HL.out.2.2.td.at' q (by omega)]; simp only [hd, decide_false]
                  obtain ⟨s1, s2, s3, s4, s5, s6, s7, s8⟩ := HS.out.slack hrn hcb.out hrow.out hq1 hqm
                  rw [← HR.out] at s1 s2 s3 s4 s7 s8
                  obtain ⟨r', hr'⟩ : ∃ r', r = r' + 1 := ⟨r - 1, by omega⟩
                  obtain ⟨q', hq'⟩ : ∃ q', q = q' + 1 := ⟨q - 1, by omega⟩
                  have hrr : r' < N := by omega
                  have hqq : q' < m := by omega
                  obtain ⟨bk, offk, capk, kc1, kc2⟩ := costCell HX.out hG HL.out.2.1.bel (by rw [← HNN.out]; exact hrr) hqq
                  rw [← hr', ← hq'] at kc2
                  have k0 := HL.out.2.1.c0
                  have k1' := HL.out.2.1.c1
                  have k2 := HL.out.2.1.c2
                  have k3 := HL.out.2.1.c3
                  have kr := HL.out.2.1.tr.at' p (by omega)
                  have ku := HL.out.2.1.tu.at' r (by omega)
                  have kv := HL.out.2.1.tv.at' q (by omega)
                  have kf := HL.out.2.2.tf.at' q (by omega)
                  have ks := HL.out.2.2.ts.at' q (by omega)
                  have zf := HL.out.2.2.tf.fz q
                  have zs := HL.out.2.2.ts.fz q
                  rw [farR_self] at kf
                  rw [← hdn] at k2 k3
                  unfold natV at kr ks
                  rw [← HR.out] at kr
                  obtain ⟨N1, hN1⟩ : ∃ N1, N1 = N + 1 := ⟨_, rfl⟩
                  rw [← hN1] at k1'
                  have hrN1 : r < N1 := by omega
                  have hN13 : N1 ≤ 13 := by omega
                  have g1 : IntKind.i64.wrap ((r : Int) - 1) = (r' : Int) := by rw [IntWalk.i64_in _ (by omega)]; omega
                  have g2 : IntKind.i64.wrap ((q : Int) - 1) = (q' : Int) := by rw [IntWalk.i64_in _ (by omega)]; omega
                  have HQD : Hid (q ∉ p :: D) := hd
                  replace hN1 := Lib.hid hN1
                  replace hr' := Lib.hid hr'
                  replace hq' := Lib.hid hq'
                  have x1 : Hid (cOf rows r q = cOf rows (row1 p) q) := by show _ = _; rw [HR.out]
                  generalize cOf rows r q = X at *
                  obtain ⟨U, hU⟩ : ∃ U, U = u1 r := ⟨_, rfl⟩
                  obtain ⟨V, hVV⟩ : ∃ V, V = v1 q := ⟨_, rfl⟩
                  obtain ⟨F, hF⟩ : ∃ F, F = far q := ⟨_, rfl⟩
                  have HX1 : Hid (cOf rows (row1 p) q - u1 (row1 p) - v1 q = X - U - V) := by show _ = _; rw [x1.out, hU, hVV, HR.out]
                  rw [← hU] at ku s3 s4
                  rw [← hVV] at kv s5 s6
                  rw [← hF] at kf
                  have HF := Lib.hid hF
                  clear hU hVV hF hdn hd
                  have g3 : IntKind.i64.wrap (X - U) = X - U := IntWalk.i64_in _ (by omega)
                  have g4 : IntKind.i64.wrap (X - U - V) = X - U - V := IntWalk.i64_in _ (by omega)
                  go_wp2
                  go_quiet (fail)
                  have HLq := Lib.hid (HL.out.drewN nq)
                  have kf2 : (wr.drewN nq).cell? ⟨w.heap.size, q, none⟩ = some (.int .i64 F) := kf
                  have ks2 : (wr.drewN nq).cell? ⟨gs, q, none⟩ = some (.int .i64 (frR (cOf rows) u1 v1 row1 D p far fr q q)) := ks
                  have zf2 : (wr.drewN nq).frozen? ⟨w.heap.size, q, none⟩ = false := zf
                  have zs2 : (wr.drewN nq).frozen? ⟨gs, q, none⟩ = false := zs
                  clear HL kf ks zf zs k0 k1' k2 k3 kr ku kv kc1 kc2 g1 g2 g3 g4 kd
                  generalize wr.drewN nq = wq at *
                  by_cases hcf : X - U - V < F
                  · by_cases hfd : X - U - V < delta
                    · have HLn := fun nq2 => Lib.hid (HLq.out.setTake A7.out hq1 HQD.out (by omega) HX1.out HF.out hcf hfd nq2)
                      replace HLn := Lib.hid HLn
                      go_wp2
                      go_quiet (fail)
                      have HL3 := Lib.hid (HLn.out nq).out
                      go_wp2
                      go_roundw
                      case rel => exact ⟨q + 1, q, _, by omega, by omega, by go_num, rfl, rfl, HL3⟩
                      case measure => simp [intOf]; omega
                    · have HLn := Lib.hid (HLq.out.setKeep A7.out hq1 HQD.out (by omega) HX1.out HF.out hcf hfd)
                      go_wp2
                      go_roundw
                      case rel => exact ⟨q + 1, next, _, by omega, by omega, by go_num, rfl, rfl, HLn⟩
                      case measure => simp [intOf]; omega
                  · by_cases hfd : F < delta
                    · have HLn := fun nq2 => Lib.hid (HLq.out.keepTake hq1 HQD.out HX1.out HF.out hcf hfd nq2)
                      replace HLn := Lib.hid HLn
                      go_wp2
                      go_quiet (fail)
                      have HL3 := Lib.hid (HLn.out nq).out
                      go_wp2
                      go_roundw
                      case rel => exact ⟨q + 1, q, _, by omega, by omega, by go_num, rfl, rfl, HL3⟩
                      case measure => simp [intOf]; omega
                    · have HLn := Lib.hid (HLq.out.keepKeep HX1.out HF.out hcf hfd)
                      go_wp2
                      go_roundw
                      case rel => exact ⟨q + 1, next, _, by omega, by omega, by go_num, rfl, rfl, HLn⟩
                      case measure => simp [intOf]; omega
              · obtain rfl : n = q := by omega
                have hNear : Near m (p :: D) (farR (cOf rows) u1 v1 row1 D p far (m + 1)) (m + 1) next delta := by
                  have := HL.out.1
                  rw [hdn] at this
                  exact this
                obtain ⟨n1, n2, n3, n4, n5, n6⟩ := HS.out.near hrn hcb.out hrow.out hNear
                have HNEAR := Lib.hid hNear
                have HMV : Hid (Move w0 bm gu gv gr w.heap.size gs gd (.slice (some ⟨b, off, none⟩) N cap) N m u1 v1 row1 (p :: D) (farR (cOf rows) u1 v1 row1 D p far (m + 1)) (frR (cOf rows) u1 v1 row1 D p far fr (m + 1)) delta 0 wr) := by
                  have h1 := HL.out.2.1
                  have h2 := HL.out.2.2
                  rw [hdn] at h2
                  exact ⟨h1.congr (fun j _ => (uTo_zero row1 (p :: D) delta u1 j).symm) (fun j _ => (vTo_zero (p :: D) delta v1 j).symm) (fun _ _ => rfl), h2.congr (fun j _ => (fTo_zero (p :: D) delta _ j).symm) (fun _ _ => rfl)⟩
                clear hNear HL hdn n3 n4 hlt hq1 hq2
                obtain ⟨w4, rfl⟩ : ∃ w4 : World, w4 = wr := ⟨_, rfl⟩
                go_wp2
                go_loopw [127] (fun s127 wi => ∃ q : Nat, q ≤ n ∧ s127 = .int .i64 q ∧ Hid (Move w0 bm gu gv gr w.heap.size gs gd (.slice (some ⟨b, off, none⟩) N cap) N m u1 v1 row1 (p :: D) (farR (cOf rows) u1 v1 row1 D p far (m + 1)) (frR (cOf rows) u1 v1 row1 D p far fr (m + 1)) delta q wi)) (fun s127 _ => n - (intOf s127).toNat)
                case atStart => exact ⟨0, by omega, rfl, HMV⟩
                case round =>
                  clear HMV
                  obtain ⟨q, hq2, rfl, HMQ⟩ := hrel
                  have hdn := hnn.out
                  by_cases hlt : q < n
                  · have hqm : q ≤ m := by omega
                    by_cases hd : q ∈ p :: D
                    · obtain ⟨t1, t2, t3, t4, t5, t6⟩ := HS.out.moved hrn hcb.out hrow.out hd (by rw [HV.out]; exact hv0)
                      have hinj := HS.out.injD hrow.out hd
                      have kd : wr.cell? ⟨gd, q, none⟩ = some (.bool true) := by rw [HMQ.out.2.td.at' q (by omega)]; simp only [hd, decide_true]
                      have k1' := HMQ.out.1.c1
                      have k2 := HMQ.out.1.c2
                      have k3 := HMQ.out.1.c3
                      have kr := HMQ.out.1.tr.at' q (by omega)
                      unfold natV at kr
                      obtain ⟨rq, hrq⟩ : ∃ rq, rq = row1 q := ⟨_, rfl⟩
                      have ku := HMQ.out.1.tu.at' rq (by omega)
                      have zu := HMQ.out.1.tu.fz rq
                      have kv := HMQ.out.1.tv.at' q (by omega)
                      have zv := HMQ.out.1.tv.fz q
                      have ku2 : uTo row1 (p :: D) delta u1 q rq = u1 (row1 q) := by rw [hrq]; exact uTo_at hd hinj
                      have kv2 : vTo (p :: D) delta v1 q q = v1 q := vTo_at
                      obtain ⟨U, hU⟩ : ∃ U, U = uTo row1 (p :: D) delta u1 q rq := ⟨_, rfl⟩
                      obtain ⟨V, hVV⟩ : ∃ V, V = vTo (p :: D) delta v1 q q := ⟨_, rfl⟩
                      rw [← hrq] at kr t5 t6
                      rw [← hU] at ku
                      rw [← hVV] at kv
                      rw [← ku2, ← hU] at t1 t2
                      rw [← kv2, ← hVV] at t3 t4
                      rw [← hdn] at k2 k3
                      obtain ⟨N1, hN1⟩ : ∃ N1, N1 = N + 1 := ⟨_, rfl⟩
                      rw [← hN1] at k1'
                      have hrN1 : rq < N1 := by omega
                      have hN13 : N1 ≤ 13 := by omega
                      obtain ⟨y1, y2⟩ := HMQ.out.yes1 A7.out hd hinj (by omega) hrq (by omega) hU
                      have Y1 := Lib.hid y1
                      have Y2 := Lib.hid y2
                      have HD : Hid (q ∈ p :: D) := hd
                      replace hrq := Lib.hid hrq
                      replace hU := Lib.hid hU
                      replace hVV := Lib.hid hVV
                      replace hN1 := Lib.hid hN1
                      have g1 : IntKind.i64.wrap (U + delta) = U + delta := IntWalk.i64_in _ (by omega)
                      have g2 : IntKind.i64.wrap (V - delta) = V - delta := IntWalk.i64_in _ (by omega)
                      have e5 := hA.d4
                      have e6 := hA.d1
                      have e7 := hA.d5
                      clear y1 y2 ku2 kv2 hinj hd HMQ hdn
                      go_wp2
                      have HLn := Lib.hid (Move.yes2 Y1.out Y2.out A7.out HD.out (by omega) hVV.out).drew
                      go_region
                      go_wp2
                      go_roundw
                      case rel => exact ⟨q + 1, by omega, by go_num, HLn⟩
                      case measure => simp [intOf]; omega
                    · have kd : wr.cell? ⟨gd, q, none⟩ = some (.bool false) := by rw [HMQ.out.2.td.at' q (by omega)]; simp only [hd, decide_false]
                      have hq0 : q ≠ 0 := fun e => hd (by rw [e]; exact HS.out.zeroD)
                      have hb := (HS.out.look hrn hcb.out hrow.out q (by omega) hqm hd).2.2
                      have kf := HMQ.out.2.tf.at' q (by omega)
                      have zf := HMQ.out.2.tf.fz q
                      have kf2 : fTo (p :: D) delta (farR (cOf rows) u1 v1 row1 D p far (m + 1)) q q = farR (cOf rows) u1 v1 row1 D p far (m + 1) q := fTo_at
                      rw [← kf2] at hb
                      obtain ⟨F, hF⟩ : ∃ F, F = fTo (p :: D) delta (farR (cOf rows) u1 v1 row1 D p far (m + 1)) q q := ⟨_, rfl⟩
                      rw [← hF] at kf hb
                      obtain ⟨hb1, hb2⟩ := hb
                      have HLn := Lib.hid (HMQ.out.no A7.out hd (by omega) hF)
                      have g1 : IntKind.i64.wrap (F - delta) = F - delta := IntWalk.i64_in _ (by omega)
                      clear kf2 hF hd HMQ hdn hq0
                      go_wp2
                      go_roundw
                      case rel => exact ⟨q + 1, by omega, by go_num, HLn⟩
                      case measure => simp [intOf]; omega
                  · obtain rfl : n = q := by omega
                    have hnd : (p :: D).length ≤ m + 1 := nodup_length (m + 1) (p :: D) (List.nodup_cons.2 ⟨HS.out.pD, HS.out.nd⟩) (fun j hj => by have := (HS.out.inD hrow.out j hj).1; omega)
                    have HND := Lib.hid hnd
                    have HSN := Lib.hid (HS.out.onward hrn hcb.out hrow.out HNEAR.out)
                    have HSM := Lib.hid (HS.out.sum0 (delta := delta) hrow.out)
                    have HM2 : Hid (Move w0 bm gu gv gr w.heap.size gs gd (.slice (some ⟨b, off, none⟩) N cap) N m u1 v1 row1 (p :: D) (farR (cOf rows) u1 v1 row1 D p far (m + 1)) (frR (cOf rows) u1 v1 row1 D p far fr (m + 1)) delta (m + 1) wr) := by
                      have := HMQ.out
                      rw [hdn] at this
                      exact this
                    clear hnd hdn HMQ
                    go_wp2
                    go_roundg (m + 1 - (p :: D).length)
                    case measure => have := HND.out; have := HGK.out; simp only [List.length_cons] at *; omega
                    case rel => exact ⟨p :: D, next, _, _, _, _, rfl, rfl, HND.out, HSN.out, HM2.out.1, HM2.out.2, by rw [HSM.out]; exact HV.out⟩
end Go.Proofs.Ytjggcnpnjnmamaa
