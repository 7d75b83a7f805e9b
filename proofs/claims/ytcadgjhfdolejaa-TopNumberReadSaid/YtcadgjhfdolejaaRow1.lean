/-
  The runs of a row, plain. The walks of bitmap.Row and of the iterator that it returns. Own text.
-/
import Derived.Test.YtcadgjhfdolejaaBitW
import Derived.RangeFuncNested
import Derived.RangeFuncBound
import Derived.RangeFuncCalls
import Derived.RangeFuncLeaves
import Derived.RangeFuncBox
import Derived.Shelf.Abstract
import Derived.Shelf.RegionOpen
import Derived.OwnWalkIn
import Derived.TacticsInMore
import Derived.LoopNIn
import Derived.LoopIn
import Derived.Maps.AppendAt
namespace Go.Proofs.Ytcadgjhfdolejaa
open Go.RowKit
set_option linter.unusedVariables false
/-- The runs of a row from x on. -/
inductive Runs (r : Nat → Bool) (W : Nat) : Nat → List (Nat × Nat) → Prop
  | done {x : Nat} (h : ∀ i, x ≤ i → i < W → r i = false) : Runs r W x []
  | run {x a b : Nat} {zs : List (Nat × Nat)} (h1 : x ≤ a) (h2 : a < b) (h3 : b ≤ W) (h4 : ∀ i, x ≤ i → i < a → r i = false) (h5 : ∀ i, a ≤ i → i < b → r i = true) (h6 : b < W → r b = false) (h7 : Runs r W b zs) : Runs r W x ((a, b) :: zs)
theorem Runs.end_nil {r : Nat → Bool} {W x : Nat} {zs : List (Nat × Nat)} (h : Runs r W x zs) (hx : W ≤ x) : zs = [] := by
  cases h with
  | done => rfl
  | run h1 h2 h3 => omega
theorem Runs.skip {r : Nat → Bool} {W x : Nat} {zs : List (Nat × Nat)} (h : Runs r W x zs) (hx : x < W) (hr : r x = false) : Runs r W (x + 1) zs := by
  cases h with
  | done h => exact .done fun i h1 h2 => h i (by omega) h2
  | run h1 h2 h3 h4 h5 h6 h7 =>
    rename_i a b zs
    have : x ≠ a := fun e => by
      have := h5 a (Nat.le_refl _) h2
      rw [← e, hr] at this
      cases this
    exact .run (by omega) h2 h3 (fun i g1 g2 => h4 i (by omega) g2) h5 h6 h7
theorem Runs.hit {r : Nat → Bool} {W x : Nat} {zs : List (Nat × Nat)} (h : Runs r W x zs) (hx : x < W) (hr : r x = true) : ∃ b ys, zs = (x, b) :: ys ∧ x < b ∧ b ≤ W ∧ (∀ i, x ≤ i → i < b → r i = true) ∧ (b < W → r b = false) ∧ Runs r W b ys := by
  cases h with
  | done h =>
    have := h x (Nat.le_refl _) hx
    rw [hr] at this
    cases this
  | run h1 h2 h3 h4 h5 h6 h7 =>
    rename_i a b zs
    have : x = a := by
      refine Nat.le_antisymm h1 (Nat.le_of_not_lt fun hl => ?_)
      have := h4 x (Nat.le_refl _) hl
      rw [hr] at this
      cases this
    subst this
    exact ⟨b, zs, rfl, h2, h3, h5, h6, h7⟩
theorem Runs.back {r : Nat → Bool} {W x : Nat} {zs : List (Nat × Nat)} (h : Runs r W (x + 1) zs) (hr : r x = false) : Runs r W x zs := by
  have key : ∀ i, x ≤ i → (x + 1 ≤ i → r i = false) → r i = false := fun i h1 h2 => by
    by_cases e : i = x
    · rw [e, hr]
    · exact h2 (by omega)
  cases h with
  | done h => exact .done fun i h1 h2 => key i h1 fun h3 => h i h3 h2
  | run h1 h2 h3 h4 h5 h6 h7 => exact .run (by omega) h2 h3 (fun i g1 g2 => key i g1 fun g3 => h4 i g3 g2) h5 h6 h7
theorem Runs.exists (r : Nat → Bool) (W : Nat) : ∀ n x, W - x ≤ n → ∃ zs, Runs r W x zs
  | 0, x, h => ⟨[], .done fun i h1 h2 => by omega⟩
  | n + 1, x, h => by
    by_cases hx : x < W
    · cases hr : r x with
      | false =>
        obtain ⟨zs, hz⟩ := Runs.exists r W n (x + 1) (by omega)
        exact ⟨zs, hz.back hr⟩
      | true =>
        have hend : ∀ m b, W - b ≤ m → x < b → b ≤ W → (∀ i, x ≤ i → i < b → r i = true) → ∃ c, x < c ∧ c ≤ W ∧ (∀ i, x ≤ i → i < c → r i = true) ∧ (c < W → r c = false) := by
          intro m
          induction m with
          | zero => exact fun b hb h1 h2 h3 => ⟨b, h1, h2, h3, fun h => by omega⟩
          | succ m ih =>
            intro b hb h1 h2 h3
            by_cases hbW : b < W
            · cases hrb : r b with
              | false => exact ⟨b, h1, h2, h3, fun _ => hrb⟩
              | true =>
                have key : ∀ i, x ≤ i → i < b + 1 → r i = true := fun i g1 g2 => by
                  by_cases e : i = b
                  · rw [e, hrb]
                  · exact h3 i g1 (by omega)
                exact ih (b + 1) (by omega) (by omega) (by omega) key
            · exact ⟨b, h1, h2, h3, fun h => by omega⟩
        obtain ⟨c, c1, c2, c3, c4⟩ := hend W (x + 1) (by omega) (by omega) (by omega) fun i g1 g2 => by
          rw [show i = x by omega, hr]
        obtain ⟨zs, hz⟩ := Runs.exists r W n c (by omega)
        exact ⟨(x, c) :: zs, .run (Nat.le_refl _) c1 c2 (fun i g1 g2 => by omega) c3 c4 hz⟩
    · exact ⟨[], .done fun i h1 h2 => by omega⟩
theorem Runs.length {r : Nat → Bool} {W x : Nat} {zs : List (Nat × Nat)} (h : Runs r W x zs) : zs.length ≤ W - x := by
  induction h with
  | done => exact Nat.zero_le _
  | run h1 h2 h3 h4 h5 h6 h7 ih => rw [List.length_cons]; omega
/-- A row of a plane. -/
def rowP (p : Plane) (y : Nat) : Nat → Bool := fun x => p x y
def encR (y : Nat) (x : Nat × Nat) : Array Value := #[.agg #[.int .i64 y, .int .i64 x.1, .int .i64 x.2]]
/-- What a round keeps: whatever lies below n₀, and the two boxes that the iterator reads. -/
def KpC (n₀ B1 B2 : Nat) (W W' : World) : Prop := Below n₀ W W' ∧ (∀ v, W.cell? ⟨B1, 0, none⟩ = some v → W'.cell? ⟨B1, 0, none⟩ = some v) ∧ ∀ v, W.cell? ⟨B2, 0, none⟩ = some v → W'.cell? ⟨B2, 0, none⟩ = some v
theorem kpC_t {n₀ B1 B2 : Nat} {A B C : World} (h : KpC n₀ B1 B2 A B) (k : KpC n₀ B1 B2 B C) : KpC n₀ B1 B2 A C := ⟨h.1.trans k.1, fun v e => k.2.1 v (h.2.1 v e), fun v e => k.2.2 v (h.2.2 v e)⟩
theorem putObj_cell {W : World} {l b : Nat} {o o' : Obj} {v : Value} (h : W.heap[l]? = some o) (hc : o.isCells = false) (e : W.cell? ⟨b, 0, none⟩ = some v) : (W.putObj l o').cell? ⟨b, 0, none⟩ = some v := by
  rw [World.cell?_of_block (w := W) (a := ⟨b, 0, none⟩)]
  · exact e
  · refine World.putObj_heap_other fun e2 => ?_
    unfold World.cell? at e
    simp only at e
    have e3 : b = l := e2
    rw [e3, h] at e
    cases o <;> simp [Obj.isCells] at hc e
theorem kpC_b {n₀ B1 B2 : Nat} {w : World} (hn : n₀ ≤ w.heap.size) (W : World) (l : Nat) (o o' : Obj) (hl : w.heap.size ≤ l) (h : W.heap[l]? = some o) (hc : o.isCells = false) (hw : o.isWalk = false) : KpC n₀ B1 B2 W (W.putObj l o') :=
  ⟨belowK_b hn W l o o' hl h hc hw, fun v e => putObj_cell h hc e, fun v e => putObj_cell h hc e⟩
theorem grown_drewN (w : World) (n : Nat) (row : Option Nat) : w.grownBy (w.drewN n) row := ⟨rfl, rfl, rfl, Nat.le_refl _, fun _ _ _ => rfl⟩
theorem kpC_drewN {n₀ B1 B2 : Nat} (W : World) (n : Nat) : KpC n₀ B1 B2 W (W.drewN n) := ⟨bdrewN (Below.refl _ _) n, fun v e => e, fun v e => e⟩
section
variable {J Jx : List (Nat × Nat) → World → Prop}
/-- The state of the walk at x: what has come, and what is still to come. -/
def RowSt (zs : List (Nat × Nat)) (r : Nat → Bool) (W : Nat) (J : List (Nat × Nat) → World → Prop) (x : Nat) (wr : World) : Prop := ∃ pre rest, zs = pre ++ rest ∧ Runs r W x rest ∧ J pre wr
end
set_option maxRecDepth 100000 in
set_option maxHeartbeats 8000000 in
theorem row1_in (n : Nat) (hn : 1 ≤ n) (l B1 B2 n₀ g d c W H y : Nat) (p : Plane) (hW : W ≤ 1024) (hH : H ≤ 1024) (zs : List (Nat × Nat)) (hz : Runs (rowP p y) W 0 zs) (J Jx : List (Nat × Nat) → World → Prop)
    (hJ : ∀ pre Wd k, J pre Wd → J pre (Wd.drewN k))
    (hY : ∀ pre x Wd, J pre Wd → pre.length < zs.length → YieldAt Fence.wide (n - 1) Try.prog l (encR y x) Wd fun e W' =>
      (e = .returned (.bool true) ∧ J (pre ++ [x]) W' ∧ KpC n₀ B1 B2 Wd W') ∨ (e = .returned (.bool false) ∧ Jx (pre ++ [x]) W'))
    (Wd : World) (h1 : Wd.cell? ⟨B1, 0, none⟩ = some (.pointer (some ⟨g, 0, none⟩))) (h2 : Wd.cell? ⟨B2, 0, none⟩ = some (.int .i64 y)) (hb : ∀ W', Below n₀ Wd W' → BitsAt W' g d c W H p) (h0 : J [] Wd) :
    CallsIn Fence.wide n Try.prog 36 #[.func (.yield l) #[] #[], .pointer (some ⟨B1, 0, none⟩), .pointer (some ⟨B2, 0, none⟩)] Wd fun e W' => (∃ v, e = .returned v) ∧
      ((∃ ys, ys = zs ∧ J ys W') ∨ (∃ pre, True ∧ Jx pre W')) := by
  have HIS : Hid (∀ (X : Nat) Wq, KpC n₀ B1 B2 Wd Wq → Calls Try.prog 21 #[.pointer (some ⟨g, 0, none⟩), .int .i64 X, .int .i64 y] Wq (Quiet (.bool (rowP p y X)) Wq)) := fun X Wq hk => is_any g d c W H p hW hH X y Wq (hb Wq hk.1)
  have HC : Hid (∀ Wq, KpC n₀ B1 B2 Wd Wq → Wq.cell? ⟨B1, 0, none⟩ = some (.pointer (some ⟨g, 0, none⟩)) ∧ Wq.cell? ⟨B2, 0, none⟩ = some (.int .i64 y) ∧ Wq.cell? ⟨g, 0, none⟩ = some (.int .i64 W)) := fun Wq hk => ⟨hk.2.1 _ h1, hk.2.2 _ h2, (hb Wq hk.1).c0⟩
  obtain ⟨r, hr⟩ : ∃ r, r = rowP p y := ⟨_, rfl⟩
  rw [← hr] at hz HIS
  clear hr hb h1 h2
  refine callsIn_of_wp Try.func36 rfl trivial ?_ rfl
  simp only [Try.ntmps36, List.size_toArray, List.length_cons, List.length_nil, Nat.reduceAdd, Nat.reduceSub, Array.replicate_succ, Array.replicate_zero, List.push_toArray, List.append_toArray, List.nil_append, List.cons_append]
  gi_wp2
  gi_loopw [4] (fun i wr => ∃ x : Nat, x ≤ W ∧ i = .int .i64 x ∧ Hid (RowSt zs r W J x wr ∧ KpC n₀ B1 B2 Wd wr)) (fun i _ => W - (intOf i).toNat)
  case atStart => exact ⟨0, by omega, rfl, ⟨[], zs, rfl, hz, h0⟩, Below.refl _ _, fun v e => e, fun v e => e⟩
  case round =>
    obtain ⟨x, hx, rfl, HX⟩ := hrel
    obtain ⟨wa, rfl⟩ : ∃ wa : World, wa = wr := ⟨_, rfl⟩
    obtain ⟨c1, c2, c3⟩ := HC.out wa HX.out.2
    by_cases hlt : x < W
    · have kd : (x : Int) < (W : Int) := by omega
      have HI1 := Lib.hid (HIS.out x wa HX.out.2)
      obtain ⟨b, hb⟩ : ∃ b, b = r x := ⟨_, rfl⟩
      rw [← hb] at HI1
      have HBB := Lib.hid hb
      clear hb
      gi_wp2_with fail
      refine ⟨trivial, ?_⟩
      refine (callsIn_wide.2 HI1.out).mono ?_
      rintro e w1 ⟨rfl, nq, rfl⟩
      obtain ⟨⟨pre, rest, hzs, hrs, hJs⟩, hkp⟩ := HX.out
      have hkp1 := kpC_t hkp (kpC_drewN wa nq)
      have hJ1 := hJ pre wa nq hJs
      cases b with
      | false =>
        have HNX : Hid (RowSt zs r W J (x + 1) (wa.drewN nq) ∧ KpC n₀ B1 B2 Wd (wa.drewN nq)) := ⟨⟨pre, rest, hzs, hrs.skip hlt HBB.out.symm, hJ1⟩, hkp1⟩
        have hx1 : IntKind.i64.wrap ((x : Int) + 1) = (x : Int) + 1 := IntWalk.i64_in _ (by omega)
        clear hzs hrs hJs hkp hkp1 hJ1 HX HI1
        gi_wp2
        go_roundw
        case rel => exact ⟨x + 1, by omega, by go_num, HNX⟩
        case measure => simp [intOf]; omega
      | true =>
        obtain ⟨bE, ys, rfl, hb1, hb2, hb3, hb4, hb5⟩ := hrs.hit hlt HBB.out.symm
        have HE : Hid ((zs = pre ++ (x, bE) :: ys) ∧ Runs r W bE ys ∧ (∀ i, x ≤ i → i < bE → r i = true) ∧ (bE < W → r bE = false)) := ⟨hzs, hb5, hb3, hb4⟩
        have HJ0 : Hid (J pre (wa.drewN nq) ∧ KpC n₀ B1 B2 Wd (wa.drewN nq)) := ⟨hJ1, hkp1⟩
        clear hzs hrs hJs hkp hkp1 hJ1 HX HI1 hb3 hb4 hb5
        gi_wp2
        gi_loopw [4] (fun i wr => ∃ q : Nat, x ≤ q ∧ q ≤ bE ∧ i = .int .i64 q ∧ Hid (J pre wr ∧ KpC n₀ B1 B2 Wd wr)) (fun i _ => bE - (intOf i).toNat)
        case atStart => exact ⟨x, by omega, by omega, rfl, HJ0⟩
        case round =>
          clear HJ0
          obtain ⟨q, hq1, hq2, rfl, HQ⟩ := hrel
          obtain ⟨wb, rfl⟩ : ∃ wb : World, wb = wr := ⟨_, rfl⟩
          obtain ⟨d1, d2, d3⟩ := HC.out wb HQ.out.2
          clear c1 c2 c3
          by_cases hql : q < bE
          · have hqW : q < W := by omega
            have kq : (q : Int) < (W : Int) := by omega
            have HI2 : Hid (Calls Try.prog 21 #[.pointer (some ⟨g, 0, none⟩), .int .i64 q, .int .i64 y] wb (Quiet (.bool true) wb)) := by
              have h := HIS.out q wb HQ.out.2
              rw [HE.out.2.2.1 q hq1 hql] at h
              exact h
            have hx1 : IntKind.i64.wrap ((q : Int) + 1) = (q : Int) + 1 := IntWalk.i64_in _ (by omega)
            gi_wp2_with fail
            refine ⟨trivial, ?_⟩
            refine (callsIn_wide.2 HI2.out).mono ?_
            rintro e w1 ⟨rfl, nq2, rfl⟩
            have HNX : Hid (J pre (wb.drewN nq2) ∧ KpC n₀ B1 B2 Wd (wb.drewN nq2)) := ⟨hJ pre wb nq2 HQ.out.1, kpC_t HQ.out.2 (kpC_drewN wb nq2)⟩
            clear HQ HI2
            gi_wp2
            go_roundw
            case rel => exact ⟨q + 1, by omega, by omega, by go_num, HNX⟩
            case measure => simp [intOf]; omega
          · obtain rfl : bE = q := by omega
            by_cases hqW : bE < W
            · have kq : (bE : Int) < (W : Int) := by omega
              have HI2 : Hid (Calls Try.prog 21 #[.pointer (some ⟨g, 0, none⟩), .int .i64 bE, .int .i64 y] wb (Quiet (.bool false) wb)) := by
                have h := HIS.out bE wb HQ.out.2
                rw [HE.out.2.2.2 hqW] at h
                exact h
              gi_wp2_with fail
              refine ⟨trivial, ?_⟩
              refine (callsIn_wide.2 HI2.out).mono ?_
              rintro e w1 ⟨rfl, nq2, rfl⟩
              have hkN := kpC_t HQ.out.2 (kpC_drewN wb nq2)
              obtain ⟨c1, c2, c3⟩ := HC.out _ hkN
              obtain ⟨fn, tmps, assign, body, hy, hR⟩ := hY pre (x, bE) (wb.drewN nq2) (hJ pre wb nq2 HQ.out.1) (by rw [HE.out.1, List.length_append, List.length_cons]; omega)
              dsimp only [encR] at hy
              have HK := Lib.hid (hkN)
              gi_wp2_with fail
              refine hR.mono ?_
              rintro e W3 (⟨rfl, hJ3, hk3⟩ | ⟨rfl, hJx3⟩)
              · have HNX : Hid (RowSt zs r W J bE W3 ∧ KpC n₀ B1 B2 Wd W3) := ⟨⟨pre ++ [(x, bE)], ys, by rw [HE.out.1]; simp, HE.out.2.1, hJ3⟩, kpC_t HK.out hk3⟩
                clear hJ3 hk3
                gi_wp2
                go_roundw
                case rel => exact ⟨bE, by omega, by go_num, HNX⟩
                case measure => simp [intOf]; omega
              · gi_wp2
                refine bodyPost_ret (results_none rfl _ _ _) rfl ?_
                exact ⟨⟨_, rfl⟩, .inr ⟨_, trivial, hJx3⟩⟩
            · have kq : ¬ (bE : Int) < (W : Int) := by omega
              obtain ⟨fn, tmps, assign, body, hy, hR⟩ := hY pre (x, bE) (wb) (HQ.out.1) (by rw [HE.out.1, List.length_append, List.length_cons]; omega)
              dsimp only [encR] at hy
              have HK := Lib.hid (HQ.out.2)
              gi_wp2_with fail
              refine ⟨trivial, ?_⟩
              gi_wp2_with fail
              refine hR.mono ?_
              rintro e W3 (⟨rfl, hJ3, hk3⟩ | ⟨rfl, hJx3⟩)
              · have HNX : Hid (RowSt zs r W J bE W3 ∧ KpC n₀ B1 B2 Wd W3) := ⟨⟨pre ++ [(x, bE)], ys, by rw [HE.out.1]; simp, HE.out.2.1, hJ3⟩, kpC_t HK.out hk3⟩
                clear hJ3 hk3
                gi_wp2
                go_roundw
                case rel => exact ⟨bE, by omega, by go_num, HNX⟩
                case measure => simp [intOf]; omega
              · gi_wp2
                refine bodyPost_ret (results_none rfl _ _ _) rfl ?_
                exact ⟨⟨_, rfl⟩, .inr ⟨_, trivial, hJx3⟩⟩
    · obtain rfl : W = x := by omega
      obtain ⟨⟨pre, rest, hzs, hrs, hJs⟩, hkp⟩ := HX.out
      have hr0 := hrs.end_nil (Nat.le_refl _)
      rw [hr0, List.append_nil] at hzs
      subst hzs
      clear HX hrs hkp
      gi_wp2
      go_end0
      exact ⟨⟨_, rfl⟩, .inl ⟨_, rfl, hJs⟩⟩
set_option maxHeartbeats 1000000 in
theorem row_in (n : Nat) (g y : Nat) (w : World) :
    CallsIn Fence.wide n Try.prog 18 #[.pointer (some ⟨g, 0, none⟩), .int .i64 y] w fun e w' => e = .returned (.func (.func 36) #[] #[.pointer (some ⟨w.heap.size, 0, none⟩), .pointer (some ⟨w.heap.size + 1, 0, none⟩)]) ∧ w' = (w.alloc (.cells #[.pointer (some ⟨g, 0, none⟩)] 59)).alloc (.cells #[.int .i64 y] 3) := by
  refine callsIn_of_wp Try.func18 rfl trivial ?_ rfl
  simp only [Try.ntmps18, List.size_toArray, List.length_cons, List.length_nil, Nat.reduceAdd, Nat.reduceSub, Array.replicate_succ, Array.replicate_zero, List.push_toArray, List.append_toArray, List.nil_append, List.cons_append]
  gi_wp2
  go_ret
  exact ⟨rfl, rfl⟩
/-- bitmap.Row hands back a value with the iterator's contract. -/
theorem row_stops (n : Nat) (hn : 1 ≤ n) (B1 B2 n₀ g d c W H y : Nat) (p : Plane) (hW : W ≤ 1024) (hH : H ≤ 1024) (zs : List (Nat × Nat)) (hz : Runs (rowP p y) W 0 zs) (w : World) (h1 : B1 < w.heap.size) (h2 : B2 < w.heap.size) (hn₀ : n₀ ≤ w.heap.size)
    (c1 : w.cell? ⟨B1, 0, none⟩ = some (.pointer (some ⟨g, 0, none⟩))) (c2 : w.cell? ⟨B2, 0, none⟩ = some (.int .i64 y)) (hb : ∀ W', Below n₀ w W' → BitsAt W' g d c W H p) :
    SeqStopsK Fence.wide n Try.prog 36 #[.pointer (some ⟨B1, 0, none⟩), .pointer (some ⟨B2, 0, none⟩)] (encR y) (KpC n₀ B1 B2) (fun ys => ys = zs) (fun _ => True) zs.length w := fun l J Jx Wd hWd hJ _ hY h0 =>
  row1_in n hn l B1 B2 n₀ g d c W H y p hW hH zs hz J Jx (fun pre Wq k hj => hJ pre Wq (Wq.drewN k) none hj (grown_drewN Wq k none) (fun r e => by cases e)) hY Wd ((hWd.cell (p := ⟨B1, 0, none⟩) h1).trans c1) ((hWd.cell (p := ⟨B2, 0, none⟩) h2).trans c2) (fun W' hb' => hb W' ((hWd.mono hn₀).trans hb')) h0
end Go.Proofs.Ytcadgjhfdolejaa
