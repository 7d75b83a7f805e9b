/-
  cut.Best: its walk. Own text.
-/
import Derived.Test.YtmfmpmemdplloaaBestTree
import Derived.Test.YtmfmpmemdplloaaArr
import Derived.Test.YtmfmpmemdplloaaPiled
import Derived.Deep.RegionHeld3
namespace Go.Proofs.Ytmfmpmemdplloaa
open Go.RowKit
set_option linter.unusedVariables false
theorem elemChoice : ElemType Try.prog 51 (.agg #[.int .i64 0, .int .i64 0, .int .i64 0, .int .i64 0]) 4 32 := ElemType.mk (by kernel_rfl) rfl (by decide)
theorem made4 (z : Value) (m j : Nat) (hj : j < m) : (madeCells #[z, z, z, z] m).toList[j]? = some z := by
  have h4 : j % 4 < 4 := Nat.mod_lt _ (by omega)
  have h : j % 4 = 0 ∨ j % 4 = 1 ∨ j % 4 = 2 ∨ j % 4 = 3 := by omega
  rcases h with h | h | h | h <;> simp [madeCells, hj, h]
section
variable {w : World} {ops : Array Oper} {rest : List Oper} {o : Oper} {a : Act} {Q : Exit → Act → World → Prop}
theorem wpList_makeTab (hgd : o.guard = none) (l c : Operand) (hop : o.op = Op.makeSlice 47 l c)
    (L C : Int) (n : Nat) (hl : a.eval l = .int .i64 L) (hc : a.eval c = .int .i64 C) (hL : L = (n : Int)) (hC : C = (n : Int)) (hn : n ≤ 1681)
    (h : ∀ w', Tab w' w.heap.size n (fun _ => .zero) → Below w.heap.size w w' → wpList Try.prog ops Q rest (a.put o.dst (.slice (some ⟨w.heap.size, 0, none⟩) n n)) w') : wpList Try.prog ops Q (o :: rest) a w := by
  obtain ⟨i, hi, hz, hsz, hby, hzs, h0⟩ := elemChoice
  refine wpList_make_full w hgd l c 47 hop w.heap.size 51 i _ 4 Try.underlying47 hi hz hsz .i64 .i64 L C n hl hc hL hC (by rw [hby]; omega) (by unfold maxLen; omega) (Nat.le_refl _) ?_
  intro w' hown hg
  refine h w' ⟨fun i hi => ?_, fun o => World.ownsRow.frozenAt hown o⟩ ((Below.refl _ _).grown hg (Nat.le_refl _) (fun k hk => by cases hk))
  have e : (Value.agg #[Value.int .i64 0, .int .i64 0, .int .i64 0, .int .i64 0]).cells = #[Value.int .i64 0, .int .i64 0, .int .i64 0, .int .i64 0] := rfl
  rw [e] at hown
  refine ⟨?_, ?_, ?_, ?_⟩
  all_goals
    rw [World.ownsRow.cellAt hown _ (by omega), made4 _ _ _ (by omega)]
    rfl
end
/-- The table behind all choices ahead of (xx, yy). -/
def tabTo (items : List Item) (H xx yy : Nat) (idx : Nat) : Choice :=
  if idx / (H + 1) < xx ∨ (idx / (H + 1) = xx ∧ idx % (H + 1) < yy) then bv items (idx / (H + 1)) (idx % (H + 1)) else .zero
theorem divmod {H a b : Nat} (hb : b ≤ H) : (a * (H + 1) + b) / (H + 1) = a ∧ (a * (H + 1) + b) % (H + 1) = b := by
  constructor
  · rw [Nat.add_comm, Nat.add_mul_div_right _ _ (by omega), Nat.div_eq_of_lt (by omega), Nat.zero_add]
  · rw [Nat.add_comm, Nat.add_mul_mod_self_right, Nat.mod_eq_of_lt (by omega)]
theorem tabTo_at {items : List Item} {H xx yy a b : Nat} (hb : b ≤ H) (h : a < xx ∨ (a = xx ∧ b < yy)) : tabTo items H xx yy (a * (H + 1) + b) = bv items a b := by
  unfold tabTo
  rw [(divmod hb).1, (divmod hb).2, if_pos h]
theorem Tab.congr {w : World} {g n : Nat} {f f' : Nat → Choice} (h : Tab w g n f) (he : ∀ i, i < n → f i = f' i) : Tab w g n f' := ⟨fun i hi => by rw [← he i hi]; exact h.at' i hi, h.fz⟩
theorem tabTo_start (items : List Item) (H i : Nat) : Choice.zero = tabTo items H 1 0 i := by
  unfold tabTo
  split
  · rename_i h
    rw [bv_zero items (.inl (by rcases h with h | h; exact Nat.lt_one_iff.1 h; exact absurd h.2 (Nat.not_lt_zero _)))]
  · rfl
theorem tabTo_row (items : List Item) (H x i : Nat) : tabTo items H x 0 i = tabTo items H x 1 i := by
  unfold tabTo
  by_cases h1 : i / (H + 1) < x
  · rw [if_pos (.inl h1), if_pos (.inl h1)]
  · rw [if_neg (by omega)]
    split
    · rename_i h2
      rw [bv_zero items (by omega)]
    · rfl
theorem tabTo_next (items : List Item) (H x i : Nat) : tabTo items H x (H + 1) i = tabTo items H (x + 1) 0 i := by
  have h := Nat.mod_lt i (show 0 < H + 1 by omega)
  unfold tabTo
  by_cases h1 : i / (H + 1) < x ∨ i / (H + 1) = x
  · rw [if_pos (by omega), if_pos (by omega)]
  · rw [if_neg (by omega), if_neg (by omega)]
theorem tabTo_set (items : List Item) (H x y i : Nat) (hy : y ≤ H) : (if i = x * (H + 1) + y then bv items x y else tabTo items H x y i) = tabTo items H x (y + 1) i := by
  obtain ⟨d1, d2⟩ := divmod (a := x) hy
  by_cases e : i = x * (H + 1) + y
  · subst e
    rw [if_pos rfl, tabTo_at hy (.inr ⟨rfl, by omega⟩)]
  · rw [if_neg e]
    have hne : ¬ (i / (H + 1) = x ∧ i % (H + 1) = y) := by
      rintro ⟨h1, h2⟩
      apply e
      have := Nat.div_add_mod i (H + 1)
      rw [h1, h2, Nat.mul_comm] at this
      exact this.symm
    unfold tabTo
    by_cases h1 : i / (H + 1) < x ∨ (i / (H + 1) = x ∧ i % (H + 1) < y)
    · rw [if_pos h1, if_pos (by omega)]
    · rw [if_neg h1, if_neg (by omega)]
/-- What Best returns. -/
def RetBest (items : List Item) (W H : Nat) (w : World) (e : Ending) (w' : World) : Prop :=
  Below w.heap.size w w' ∧ ∃ k a i kids oa cap, treeV items 80 W H = .mk k a i kids ∧ e = .returned (.tuple #[.agg #[.int .i64 k, .int .i64 a, .int .i64 i, .slice oa kids.length cap], .int .i64 (bval items W H), .int .i64 0]) ∧ TreeAt w' (treeV items 80 W H) [.int .i64 k, .int .i64 a, .int .i64 i, .slice oa kids.length cap]
theorem itemsErr_zero {l : List Item} (h : itemsErr l = 0) : l.length ≤ 8 ∧ ∀ j (hj : j < l.length), 1 ≤ l[j].w ∧ l[j].w ≤ 40 ∧ 1 ≤ l[j].h ∧ l[j].h ≤ 40 ∧ 0 ≤ l[j].value ∧ l[j].value ≤ 1000 := by
  unfold itemsErr at h
  split at h
  · omega
  · split at h
    · rename_i h1 h2
      exact ⟨by omega, fun j hj => of_decide_eq_true (List.all_eq_true.1 h2 _ (List.getElem_mem hj))⟩
    · omega
set_option maxRecDepth 100000 in
set_option maxHeartbeats 4000000 in
theorem best_err (W H : Int) (oi : Option Addr) (items : List Item) (ci : Nat) (w : World) (hm : items.length ≤ maxLen) (hx : Flat w 4 encItem oi items) (hz : ¬ beginV W H items = 0) :
    Calls Try.prog 4 #[.int .i64 W, .int .i64 H, .slice oi items.length ci] w fun e w' => e = .returned (.tuple #[.agg #[.int .i64 0, .int .i64 0, .int .i64 0, .slice none 0 0], .int .i64 0, .int .i64 (beginV W H items)]) ∧ Below w.heap.size w w' := by
  have hz1 : (beginV W H items != 0) = true := by simpa using hz
  have hb0 : Below w.heap.size w (w.alloc (.cells #[.int .i64 0, .int .i64 0, .int .i64 0, .slice none 0 0] 27)) := balloc (Below.refl _ w) _
  have hx1 := Lib.hid (hx.below hb0)
  have g0 : (w.alloc (.cells #[.int .i64 0, .int .i64 0, .int .i64 0, .slice none 0 0] 27)).cell? ⟨w.heap.size, 0, none⟩ = some (.int .i64 0) := by go_simp
  have g1 : (w.alloc (.cells #[.int .i64 0, .int .i64 0, .int .i64 0, .slice none 0 0] 27)).cell? ⟨w.heap.size, 1, none⟩ = some (.int .i64 0) := by go_simp
  have g2 : (w.alloc (.cells #[.int .i64 0, .int .i64 0, .int .i64 0, .slice none 0 0] 27)).cell? ⟨w.heap.size, 2, none⟩ = some (.int .i64 0) := by go_simp
  have g3 : (w.alloc (.cells #[.int .i64 0, .int .i64 0, .int .i64 0, .slice none 0 0] 27)).cell? ⟨w.heap.size, 3, none⟩ = some (.slice none 0 0) := by go_simp
  have gf : ∀ j, (w.alloc (.cells #[.int .i64 0, .int .i64 0, .int .i64 0, .slice none 0 0] 27)).frozen? ⟨w.heap.size, j, none⟩ = false := fun j => by go_simp
  have lt : w.heap.size < (w.alloc (.cells #[.int .i64 0, .int .i64 0, .int .i64 0, .slice none 0 0] 27)).heap.size := by simp
  have gf := Lib.hid gf
  have lt := Lib.hid lt
  have hb0 := Lib.hid hb0
  clear hz
  go_enter Try.func4, Try.ntmps4
  go_wp2_with fail
  refine (begin_any _ _ _ _ _ _ hm hx1.out).mono ?_
  rintro e w1 ⟨rfl, hb1⟩
  have m0 := keepCell hb1 g0; have m1 := keepCell hb1 g1; have m2 := keepCell hb1 g2; have m3 := keepCell hb1 g3
  have mf : ∀ j, w1.frozen? ⟨w.heap.size, j, none⟩ = false := fun j => (hb1.frozen (p := ⟨w.heap.size, j, none⟩) lt.out).trans (gf.out j)
  have mf0 := mf 0; have mf1 := mf 1; have mf2 := mf 2; have mf3 := mf 3
  have hzz := Lib.hid (bthen hb0.out hb1)
  clear g0 g1 g2 g3 mf hb1
  go_wp2
  try simp only [Exit.inBlock, Exit.then]
  have hres : Try.f4.results = #[.cell 6 27, .tmp 7, .tmp 8] := rfl
  refine bodyPost_ret (v := .tuple #[.agg #[.int .i64 0, .int .i64 0, .int .i64 0, .slice none 0 0], .int .i64 0, .int .i64 (beginV W H items)]) (by simp only [results, hres]; go_simp) rfl ?_
  have hzF := hzz.out
  exact ⟨rfl, by go_grown⟩
set_option maxRecDepth 100000 in
set_option maxHeartbeats 4000000 in
theorem best_ok (W H : Nat) (oi : Option Addr) (items : List Item) (ci : Nat) (w : World) (hm : items.length ≤ maxLen) (hx : Flat w 4 encItem oi items) (hz : beginV W H items = 0) :
    Calls Try.prog 4 #[.int .i64 W, .int .i64 H, .slice oi items.length ci] w (RetBest items W H w) := by
  obtain ⟨_, _, hie⟩ := beginV_in hz
  have hbx := beginV_zero hz
  unfold Box at hbx
  obtain ⟨hm8, hall⟩ := itemsErr_zero hie
  have hl : Hid (∀ j (hj : j < items.length), items[j].value ≤ 1000) := fun j hj => (hall j hj).2.2.2.2.2
  have hw1 : 1 ≤ W := by omega
  have hw2 : W ≤ 40 := by omega
  have hh1 : 1 ≤ H := by omega
  have hh2 : H ≤ 40 := by omega
  have HZ := Lib.hid hz
  obtain ⟨n, hn⟩ : ∃ n, n = (W + 1) * (H + 1) := ⟨_, rfl⟩
  have hn2 : n ≤ 1681 := by rw [hn]; exact Nat.mul_le_mul (show W + 1 ≤ 41 by omega) (show H + 1 ≤ 41 by omega)
  have gn : IntKind.i64.wrap (((W : Int) + 1) * ((H : Int) + 1)) = (n : Int) := by
    have e : ((W : Int) + 1) * ((H : Int) + 1) = (n : Int) := by rw [hn]; simp
    rw [e]; exact IntWalk.i64_in _ (by omega)
  have HN := Lib.hid hn
  clear hn hz hall hie hbx
  have hb0 : Below w.heap.size w (w.alloc (.cells #[.int .i64 0, .int .i64 0, .int .i64 0, .slice none 0 0] 27)) := balloc (Below.refl _ w) _
  have hx1 := Lib.hid (hx.below hb0)
  have HX := Lib.hid hx
  have hb0 := Lib.hid hb0
  clear hx
  go_enter Try.func4, Try.ntmps4
  go_wp2_with fail
  refine (begin_any _ _ _ _ _ _ hm hx1.out).mono ?_
  rw [HZ.out]
  rintro e w1 ⟨rfl, hb1⟩
  have hz1 := Lib.hid (bthen hb0.out hb1)
  have g0 : (w.alloc (.cells #[.int .i64 0, .int .i64 0, .int .i64 0, .slice none 0 0] 27)).cell? ⟨w.heap.size, 0, none⟩ = some (.int .i64 0) := by go_simp
  have g1 : (w.alloc (.cells #[.int .i64 0, .int .i64 0, .int .i64 0, .slice none 0 0] 27)).cell? ⟨w.heap.size, 1, none⟩ = some (.int .i64 0) := by go_simp
  have g2 : (w.alloc (.cells #[.int .i64 0, .int .i64 0, .int .i64 0, .slice none 0 0] 27)).cell? ⟨w.heap.size, 2, none⟩ = some (.int .i64 0) := by go_simp
  have g3 : (w.alloc (.cells #[.int .i64 0, .int .i64 0, .int .i64 0, .slice none 0 0] 27)).cell? ⟨w.heap.size, 3, none⟩ = some (.slice none 0 0) := by go_simp
  have gf : ∀ j, (w.alloc (.cells #[.int .i64 0, .int .i64 0, .int .i64 0, .slice none 0 0] 27)).frozen? ⟨w.heap.size, j, none⟩ = false := fun j => by go_simp
  have lt0 : w.heap.size < (w.alloc (.cells #[.int .i64 0, .int .i64 0, .int .i64 0, .slice none 0 0] 27)).heap.size := by simp
  have M0 := Lib.hid (keepCell hb1 g0); have M1 := Lib.hid (keepCell hb1 g1); have M2 := Lib.hid (keepCell hb1 g2); have M3 := Lib.hid (keepCell hb1 g3)
  have MF : Hid (∀ j, w1.frozen? ⟨w.heap.size, j, none⟩ = false) := fun j => (hb1.frozen (p := ⟨w.heap.size, j, none⟩) lt0).trans (gf j)
  clear g0 g1 g2 g3 gf lt0
  go_wp2_with (at_make; go_must (refine wpList_makeTab rfl (.tmp 26) (.tmp 26) rfl _ _ n rfl rfl rfl rfl hn2 ?_))
  intro w2 hT2 hb2
  have hgb : w1.heap.size < w2.heap.size := (hT2.at' 0 (by rw [HN.out]; exact Nat.mul_pos (by omega) (by omega))).lt
  go_wp2
  have hz3 : Below w1.heap.size w1 (w2.alloc (.cells #[.int .i64 H, .slice (some ⟨w1.heap.size, 0, none⟩) n n] 49)) := balloc hb2 _
  have hT3 : Tab (w2.alloc (.cells #[.int .i64 H, .slice (some ⟨w1.heap.size, 0, none⟩) n n] 49)) w1.heap.size n (tabTo items H 1 0) := (hT2.below (balloc (Below.refl _ w2) _) hgb).congr fun i _ => tabTo_start items H i
  have t0 : (w2.alloc (.cells #[.int .i64 H, .slice (some ⟨w1.heap.size, 0, none⟩) n n] 49)).cell? ⟨w2.heap.size, 0, none⟩ = some (.int .i64 H) := by go_simp
  have t1 : (w2.alloc (.cells #[.int .i64 H, .slice (some ⟨w1.heap.size, 0, none⟩) n n] 49)).cell? ⟨w2.heap.size, 1, none⟩ = some (.slice (some ⟨w1.heap.size, 0, none⟩) n n) := by go_simp
  revert hz3 hT3 t0 t1
  generalize World.alloc w2 _ = w3
  intro hz3 hT3 t0 t1
  have hwg : w.heap.size < w1.heap.size := by
    have h0 : w.heap.size < (w.alloc (.cells #[.int .i64 0, .int .i64 0, .int .i64 0, .slice none 0 0] 27)).heap.size := by simp
    exact Nat.lt_of_lt_of_le h0 hb1.size
  have hz3 := Lib.hid hz3
  have hT3 := Lib.hid hT3
  have T0 := Lib.hid t0
  have T1 := Lib.hid t1
  clear t0 t1 hT2 hb2 hb1
  have hwg1 : w.heap.size + 1 ≤ w1.heap.size := hwg
  go_loopw [11, 12] (fun xs ys wr => ∃ x : Nat, 1 ≤ x ∧ x ≤ W + 1 ∧ xs = .int .i64 x ∧ Below w1.heap.size w1 wr ∧ Tab wr w1.heap.size n (tabTo items H x 0) ∧ wr.cell? ⟨w2.heap.size, 0, none⟩ = some (.int .i64 H) ∧ wr.cell? ⟨w2.heap.size, 1, none⟩ = some (.slice (some ⟨w1.heap.size, 0, none⟩) n n)) (fun xs _ _ => W + 1 - (intOf xs).toNat)
  case atStart => exact ⟨1, by omega, by omega, by go_num, hz3.out, hT3.out, T0.out, T1.out⟩
  case round =>
    obtain ⟨x, hx1, hx2, rfl, hbr, hT, t0, t1⟩ := hrel
    clear hz3 hT3 T0 T1
    have hBR := Lib.hid hbr
    have hT := Lib.hid hT
    have T0 := Lib.hid t0
    have T1 := Lib.hid t1
    clear hbr t0 t1
    by_cases hlt : x ≤ W
    · obtain ⟨r, hr⟩ : ∃ r, r = x * (H + 1) := ⟨_, rfl⟩
      have hrn : r + H < n := by
        have h1 : (x + 1) * (H + 1) ≤ (W + 1) * (H + 1) := Nat.mul_le_mul_right _ (by omega)
        have h2 : (x + 1) * (H + 1) = x * (H + 1) + (H + 1) := Nat.succ_mul _ _
        have h3 := HN.out
        omega
      have gr : IntKind.i64.wrap ((x : Int) * ((H : Int) + 1)) = (r : Int) := by
        have e : ((x : Int) * ((H : Int) + 1)) = (r : Int) := by rw [hr]; simp
        rw [e]; exact IntWalk.i64_in _ (by omega)
      have gr2 : wrap64 ((x : Int) * ((H : Int) + 1)) = (r : Int) := by
        have e : ((x : Int) * ((H : Int) + 1)) = (r : Int) := by rw [hr]; simp
        rw [e]; exact IntWalk.wrap64_in _ (by omega)
      have HR := Lib.hid hr
      have GR := Lib.hid gr
      have GR2 := Lib.hid gr2
      clear hr gr gr2
      obtain ⟨wo, rfl⟩ : ∃ wo : World, wo = wr := ⟨_, rfl⟩
      go_wp2
      go_loopw [12] (fun ys wi => ∃ y : Nat, 1 ≤ y ∧ y ≤ H + 1 ∧ ys = .int .i64 y ∧ Below w1.heap.size w1 wi ∧ Tab wi w1.heap.size n (tabTo items H x y) ∧ wi.cell? ⟨w2.heap.size, 0, none⟩ = some (.int .i64 H) ∧ wi.cell? ⟨w2.heap.size, 1, none⟩ = some (.slice (some ⟨w1.heap.size, 0, none⟩) n n)) (fun ys _ => H + 1 - (intOf ys).toNat)
      case atStart => exact ⟨1, by omega, by omega, by go_num, hBR.out, hT.out.congr fun i _ => tabTo_row items H x i, T0.out, T1.out⟩
      case round =>
        obtain ⟨y, hy1, hy2, rfl, hbi, hTi, t0, t1⟩ := hrel
        clear hT T0 T1 hBR
        by_cases hlty : y ≤ H
        · have gs : IntKind.i64.wrap ((r : Int) + (y : Int)) = (r : Int) + (y : Int) := IntWalk.i64_in _ (by omega)
          have hiy : Hid (x * (H + 1) + y < n) := by show _ < _; rw [← HR.out]; omega
          have hTd : Hid (Tab wr.drew w1.heap.size n (tabTo items H x y)) := hTi.below (Below.refl wr.heap.size wr).drew (hTi.at' _ hiy.out).lt
          have hXd : Hid (Flat wr.drew 4 encItem oi items) := (HX.out.below (hz1.out.trans (hbi.mono (Nat.le_of_lt hwg)))).below (Below.refl wr.heap.size wr).drew
          have hgl : w1.heap.size < wr.heap.size := (hTi.at' _ hiy.out).lt
          have hFF : Hid (∀ a b, a ≤ x → b ≤ y → a + b < x + y → (tabTo items H x y (a * (H + 1) + b)).value = bval items a b ∧ a * (H + 1) + b < n) := by
            intro a b ha hb hab
            rw [tabTo_at (by omega) (by omega)]
            refine ⟨rfl, ?_⟩
            have h1 : a * (H + 1) ≤ x * (H + 1) := Nat.mul_le_mul_right _ ha
            have h2 := hiy.out
            omega
          have hbe2 : Hid (fillV (bval items) items x y = bv items x y) := (bv_eq items hx1 hy1).symm
          have hx40 : x ≤ 40 := by omega
          have hry : r + y < n := by omega
          have hgw : w1.heap.size ≠ w2.heap.size := by omega
          have hgw2 : w2.heap.size ≠ w1.heap.size := by omega
          have hbi := Lib.hid hbi
          clear hTi
          have gh : IntKind.i64.wrap ((H : Int) + 1) = (H : Int) + 1 := IntWalk.i64_in _ (by clear gs; omega)
          have j1 : (0 : Int) ≤ (r : Int) + (y : Int) := by clear gs gh; omega
          have j2 : (r : Int) + (y : Int) < (n : Int) := by clear gs gh; omega
          have j3 : ((r : Int) + (y : Int)).toNat = r + y := by clear gs gh; omega
          have gr := GR.out
          go_wp2
          go_region_held3 (fun w' => Below w1.heap.size wr w' ∧ w'.cell? ⟨w2.heap.size, 0, none⟩ = some (.int .i64 H) ∧ w'.cell? ⟨w2.heap.size, 1, none⟩ = some (.slice (some ⟨w1.heap.size, 0, none⟩) n n))
            ((refine ⟨by go_grown, by go_simp, by go_simp⟩))
            (first | fail | (go_simp; go_at_call 11; (with_reducible refine (fill_any H x y w1.heap.size n n (tabTo items H x y) oi items ci _ hTd.out hh2 hx1 hx40 hy1 hlty hn2 hiy.out hm8 hl.out hXd.out hFF.out).mono ?_); rintro e w6 ⟨rfl, hb6⟩; simp only [hbe2.out]; have hz6 : Below w1.heap.size wr w6 := ((Below.refl w1.heap.size wr).drew).trans (hb6.mono (Nat.le_of_lt hgl)); have hT6 := hTd.out.below hb6 hgl; have HT6 := Lib.hid hT6; obtain ⟨c1, c2, c3, c4⟩ := hT6.at' (r + y) hry; have f0 := hT6.fz ((r + y) * 4); have f1 := hT6.fz ((r + y) * 4 + 1); have f2 := hT6.fz ((r + y) * 4 + 2); have f3 := hT6.fz ((r + y) * 4 + 3); clear hT6; have z0 := keepCell hb6 (show wr.drew.cell? _ = _ from t0); have z1 := keepCell hb6 (show wr.drew.cell? _ = _ from t1)))
          clear gh gr gs j1 j2 j3
          have hb7 := Lib.hid (hbi.out.trans hz6)
          go_wp2
          go_roundw
          case rel =>
            refine ⟨y + 1, by omega, by omega, by go_num, ?_, ?_, ?_, ?_⟩
            · have hb8 := hb7.out
              go_grown
            · refine (HT6.out.set (i := r + y) (by omega) (bv items x y)).congr fun i _ => ?_
              show (if i = r + y then bv items x y else tabTo items H x y i) = _
              rw [HR.out]
              exact tabTo_set items H x y i hlty
            · go_simp
            · go_simp
          case measure => simp [intOf]; omega
        · obtain rfl : y = H + 1 := by omega
          have hTn := Lib.hid (hTi.congr fun i _ => tabTo_next items H x i)
          have hbi := Lib.hid hbi
          clear hTi
          go_wp2
          go_roundw
          case rel => exact ⟨x + 1, by omega, by omega, by go_num, hbi.out, hTn.out, t0, t1⟩
          case measure => simp [intOf]; omega
    · have hxW : Hid (x = W + 1) := by show x = W + 1; omega
      have hTr := hT.out
      rw [hxW.out] at hTr
      have hbr := hBR.out
      have hgl : w1.heap.size < wr.heap.size := by
        have h1 := HN.out
        have h2 : 0 < (W + 1) * (H + 1) := Nat.mul_pos (by omega) (by omega)
        exact (hTr.at' 0 (by omega)).lt
      have hTd : Hid (Tab wr.drew w1.heap.size n (tabTo items H (W + 1) 0)) := hTr.below (Below.refl wr.heap.size wr).drew hgl
      have hFF : Hid (∀ a b, 1 ≤ a → a ≤ W → 1 ≤ b → b ≤ H → tabTo items H (W + 1) 0 (a * (H + 1) + b) = bv items a b ∧ a * (H + 1) + b < n) := by
        intro a b _ ha _ hb
        refine ⟨tabTo_at hb (by omega), ?_⟩
        have h1 : (a + 1) * (H + 1) ≤ (W + 1) * (H + 1) := Nat.mul_le_mul_right _ (by omega)
        have h2 : (a + 1) * (H + 1) = a * (H + 1) + (H + 1) := Nat.succ_mul _ _
        have h3 := HN.out
        omega
      have hv := Lib.hid (hFF.out W H hw1 (Nat.le_refl _) hh1 (Nat.le_refl _))
      have r0 := (hbr.cell (p := ⟨w.heap.size, 0, none⟩) hwg).trans M0.out; have r1 := (hbr.cell (p := ⟨w.heap.size, 1, none⟩) hwg).trans M1.out; have r2 := (hbr.cell (p := ⟨w.heap.size, 2, none⟩) hwg).trans M2.out; have r3 := (hbr.cell (p := ⟨w.heap.size, 3, none⟩) hwg).trans M3.out
      have RF : Hid (∀ j, wr.frozen? ⟨w.heap.size, j, none⟩ = false) := fun j => (hbr.frozen (p := ⟨w.heap.size, j, none⟩) hwg).trans (MF.out j)
      have t0 := T0.out
      have t1 := T1.out
      have hle : W + H ≤ 80 + 1 := by omega
      have hwl : w.heap.size < wr.heap.size := Nat.lt_trans hwg hgl
      have hne1 : w2.heap.size ≠ w.heap.size := by omega
      have hne2 : w.heap.size ≠ w2.heap.size := by omega
      have hfd := field0
      have hzw := Lib.hid (hz1.out.trans (hbr.mono (Nat.le_of_lt hwg)))
      clear hTr hbr hT hBR T0 T1
      go_wp2
      go_region_held3 (fun w' => Below w.heap.size wr w' ∧ w'.cell? ⟨w2.heap.size, 0, none⟩ = some (.int .i64 H) ∧ w'.cell? ⟨w2.heap.size, 1, none⟩ = some (.slice (some ⟨w1.heap.size, 0, none⟩) n n))
        ((refine ⟨by go_grown, by go_simp, by go_simp⟩))
        (first | fail | (go_simp; go_at_call 12; (with_reducible refine (tree_any items hm8 H W w1.heap.size n n (tabTo items H (W + 1) 0) hh2 hw2 hn2 hFF.out 80 W H _ _ _ rfl rfl hTd.out hw1 (Nat.le_refl _) hh1 (Nat.le_refl _) hle).mono ?_); rintro e w6 ⟨hb6, k6, a6, i6, l6, o6, p6, hTe, rfl, hT6⟩; have hTe := Lib.hid hTe; have hT6 := Lib.hid hT6; have hT7 := Lib.hid (hTd.out.below hb6 hgl); have hz6 : Below w.heap.size wr w6 := ((Below.refl w.heap.size wr).drew).trans (hb6.mono (Nat.le_of_lt hwl)); have z0 := keepCell hb6 (show wr.drew.cell? _ = _ from t0); have z1 := keepCell hb6 (show wr.drew.cell? _ = _ from t1)) | (go_simp; go_at_call 13; (with_reducible refine (of_any H W H _ _ rfl rfl w1.heap.size n n (tabTo items H (W + 1) 0) _ hT7.out hh2 hw2 hh2 hn2 hv.out.2).mono ?_); rintro e w7 ⟨rfl, hb7⟩; simp only [hv.out.1]; have sz6 : wr.heap.size ≤ w6.heap.size := hb6.size; have hz7 : Below w.heap.size wr w7 := hz6.trans (hb7.mono (Nat.le_trans (Nat.le_of_lt hwl) sz6)); have y0 := keepCell hb7 z0; have y1 := keepCell hb7 z1; have q0 := keepCell hb7 (keepCell hb6 (show wr.drew.cell? _ = _ from r0)); have q1 := keepCell hb7 (keepCell hb6 (show wr.drew.cell? _ = _ from r1)); have q2 := keepCell hb7 (keepCell hb6 (show wr.drew.cell? _ = _ from r2)); have q3 := keepCell hb7 (keepCell hb6 (show wr.drew.cell? _ = _ from r3)); have qf : ∀ j, w7.frozen? ⟨w.heap.size, j, none⟩ = false := (fun j => (hb7.frozen (p := ⟨w.heap.size, j, none⟩) (Nat.lt_of_lt_of_le hwl sz6)).trans ((hb6.frozen (p := ⟨w.heap.size, j, none⟩) hwl).trans (RF.out j))); have qf0 := qf 0; have qf1 := qf 1; have qf2 := qf 2; have qf3 := qf 3; clear qf))
      have hT8 := Lib.hid (hT6.out.under hb7 (Nat.le_refl _))
      have hz8 := Lib.hid (hzw.out.trans hz7)
      clear hfd hT6 hT7 hb6 hb7 hz6 hz7 y0 y1 z0 z1
      go_wp2
      try simp only [Exit.inBlock, Exit.then]
      have hres : Try.f4.results = #[.cell 6 27, .tmp 7, .tmp 8] := rfl
      refine bodyPost_ret (v := .tuple #[.agg #[.int .i64 k6, .int .i64 a6, .int .i64 i6, .slice o6 l6.length p6], .int .i64 (bv items W H).value, .int .i64 0]) (by simp only [results, hres]; go_simp) rfl ?_
      have hz9 := hz8.out
      refine ⟨by go_grown, k6, a6, i6, l6, o6, p6, hTe.out, rfl, TreeB.toAt ((((hT8.out.setCell (.inl ?_) _).setCell (.inl ?_) _).setCell (.inl ?_) _).setCell (.inl ?_) _)⟩
      all_goals exact hwl
end Go.Proofs.Ytmfmpmemdplloaa
