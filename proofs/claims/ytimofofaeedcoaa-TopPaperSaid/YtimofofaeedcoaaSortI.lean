/-
  The comparison of gang.Forms; the library's sort of its order. Own text.
-/
import Derived.Test.YtimofofaeedcoaaSortL
import Derived.Test.YtimofofaeedcoaaFTab
import Derived.Test.YtimofofaeedcoaaIn
import Derived.Test.YtimofofaeedcoaaRegion
import Derived.Test.YtimofofaeedcoaaNest
import Derived.Lib.OwnBridge
import Derived.Handy
namespace Go.Proofs.Ytimofofaeedcoaa
open Go.RowKit Go.Shelf Go.Lib Go.Sort
set_option linter.unusedVariables false
def cmpV (x y : Int) : Int := if x < y then -1 else if y < x then 1 else 0
set_option maxHeartbeats 1000000 in
theorem isnan_any (x : Int) (w : World) : Calls Try.prog 25 #[.int .i64 x] w fun e w' => e = .returned (.bool false) ∧ w = w' := by
  go_enter Try.func25, Try.ntmps25
  go_wp2
  go_ret
  exact ⟨by simp, rfl⟩
set_option maxHeartbeats 1000000 in
theorem compare_any (x y : Int) (w : World) : Calls Try.prog 16 #[.int .i64 x, .int .i64 y] w fun e w' => e = .returned (.int .i64 (cmpV x y)) ∧ w = w' := by
  rcases Int.lt_trichotomy x y with h | h | h
  · have E : Hid (cmpV x y = -1) := if_pos h
    go_enter Try.func16, Try.ntmps16
    go_wp2_with (go_at_call 25; refine (isnan_any _ _).mono ?_; rintro e w' ⟨rfl, rfl⟩)
    go_ret
    exact ⟨by rw [E.out]; rfl, rfl⟩
  · have E : Hid (cmpV x y = 0) := by show cmpV x y = 0; unfold cmpV; rw [if_neg (by omega), if_neg (by omega)]
    have h1 : ¬ x < y := by omega
    have h2 : ¬ y < x := by omega
    clear h
    go_enter Try.func16, Try.ntmps16
    go_wp2_with (go_at_call 25; refine (isnan_any _ _).mono ?_; rintro e w' ⟨rfl, rfl⟩)
    go_ret
    exact ⟨by rw [E.out]; rfl, rfl⟩
  · have h1 : ¬ x < y := by omega
    have E : Hid (cmpV x y = 1) := by show cmpV x y = 1; unfold cmpV; rw [if_neg h1, if_pos h]
    go_enter Try.func16, Try.ntmps16
    go_wp2_with (go_at_call 25; refine (isnan_any _ _).mono ?_; rintro e w' ⟨rfl, rfl⟩)
    go_ret
    exact ⟨by rw [E.out]; rfl, rfl⟩
set_option maxHeartbeats 1000000 in
/-- The comparison: the demands of b and of a. -/
theorem cmp_any (bd : Nat) (od : Option Addr) (ds : List Int) (cd : Nat) (i j : Nat) (W : World) (hi : i < ds.length) (hj : j < ds.length) (hm : ds.length ≤ 1000) (hc : W.cell? ⟨bd, 0, none⟩ = some (.slice od ds.length cd)) (hx : Flat W 1 encInt od ds) :
    Calls Try.prog 15 #[.int .i64 i, .int .i64 j, .pointer (some ⟨bd, 0, none⟩)] W fun e w' => e = .returned (.int .i64 (cmpV ds[j] ds[i])) ∧ ∃ q, w' = W.drewN q := by
  obtain ⟨b, off, rfl, c1⟩ := hx.int hi
  obtain ⟨b2, off2, e2, c2⟩ := hx.int hj
  obtain ⟨rfl, rfl⟩ : b2 = b ∧ off2 = off := by simpa [eq_comm] using e2
  clear e2
  go_enter Try.func15, Try.ntmps15
  go_wp2
  go_quiet ((go_at_call 16; exact quiet_eq (compare_any _ _ _)))
  go_wp2
  go_ret
  exact ⟨rfl, _, rfl⟩
/-- The numbers of the library's sort in this program. -/
def renS : Ren := ⟨fun x => if x = 20 then 29 else x, fun x => if x = 0 then 0 else if x = 3 then 3 else if x = 4 then 4 else if x = 22 then 23 else if x = 24 then 3 else if x = 25 then 45 else x, fun x => x⟩
theorem layS : SlLaysF.n20 Try.prog renS := {
  mixed := by kernel_rfl
  f20 := ⟨ "slices.insertionSortCmpFunc[int]", by decide, by kernel_rfl⟩
  t0 := by kernel_rfl
  a0 := fun w => by kernel_rfl
  z0 := fun w => by kernel_rfl
  v0 := fun w => by kernel_rfl
  t3 := by kernel_rfl
  a3 := fun w => by kernel_rfl
  z3 := fun w => by kernel_rfl
  v3 := fun w => by kernel_rfl
  t4 := by kernel_rfl
  a4 := fun w => by kernel_rfl
  z4 := fun w => by kernel_rfl
  v4 := fun w => by kernel_rfl
  t22 := by kernel_rfl
  a22 := fun w => by kernel_rfl
  z22 := fun w => by kernel_rfl
  v22 := fun w => by kernel_rfl
  a24 := fun w => by kernel_rfl
  z24 := fun w => by kernel_rfl
  t25 := by kernel_rfl
  a25 := fun w => by kernel_rfl
  z25 := fun w => by kernel_rfl
  v25 := fun w => by kernel_rfl }
def encFin {m : Nat} (i : Fin (m + 1)) : Value := .int .i64 (i.val : Int)
/-- The order by the demands. -/
def ltD (ds : List Int) (i j : Nat) : Bool := decide (ds.getD j 0 < ds.getD i 0)
theorem sort_cell {α : Type} [Inhabited α] (enc : α → Value) (w : World) (blk off m : Nat) (dk : Array α) (os : Array Obj) {a : Addr} (h : a.block ≠ blk) (hl : a.block < w.heap.size) : (sortWorld enc w blk off m dk os).cell? a = w.cell? a := by
  unfold sortWorld
  rw [cell?_grow _ _ _ (by rw [size_putRow]; exact hl), cell?_putRow_other _ _ _ _ _ _ (.inl h)]
  rfl
theorem cmp_reads {m : Nat} (bd : Nat) (od : Option Addr) (ds : List Int) (cd g : Nat) (w : World) (hl : ds.length = m + 1) (hm : ds.length ≤ 1000) (hc : w.cell? ⟨bd, 0, none⟩ = some (.slice od ds.length cd)) (hx : Flat w 1 encInt od ds)
    (hbd : bd ≠ g) (hod : ∀ b off, od = some ⟨b, off, none⟩ → b ≠ g) :
    CmpReads Try.prog 15 #[.pointer (some ⟨bd, 0, none⟩)] (encFin (m := m)) (fun i j => cmpV (ds.getD j.val 0) (ds.getD i.val 0)) g 0 (m + 1) w := by
  intro q os dk hdk i j
  have hi : i.val < ds.length := by rw [hl]; exact i.isLt
  have hj : j.val < ds.length := by rw [hl]; exact j.isLt
  have h := cmp_any bd od ds cd i.val j.val (sortWorld encFin w g 0 q dk os) hi hj hm (by rw [sort_cell _ _ _ _ _ _ _ hbd (cell?_lt hc)]; exact hc) (by
    intro k hk r hr
    obtain ⟨v, hv, b, off, e, hcc⟩ := hx k hk r hr
    exact ⟨v, hv, b, off, e, by rw [sort_cell _ _ _ _ _ _ _ (hod b off e) (cell?_lt hcc)]; exact hcc⟩)
  have e1 : ds.getD i.val 0 = ds[i.val] := by simp [List.getD_eq_getElem?_getD, hi]
  have e2 : ds.getD j.val 0 = ds[j.val] := by simp [List.getD_eq_getElem?_getD, hj]
  refine h.mono ?_
  rintro e w' ⟨rfl, hq⟩
  refine ⟨?_, hq⟩
  show _ = Ending.returned (.int .i64 (cmpV (ds.getD j.val 0) (ds.getD i.val 0)))
  rw [e1, e2]
theorem cmpV_neg (x y : Int) : decide (cmpV x y < 0) = decide (x < y) := by
  unfold cmpV
  by_cases h : x < y
  · simp [h]
  · rw [if_neg h]
    split <;> simp [h]
/-- The order of the jobs. -/
def ordV (ds : List Int) : List Nat := sortTo (ltD ds) (List.range ds.length) ds.length
theorem ordV_len (ds : List Int) : (ordV ds).length = ds.length := sortTo_len _ _ _
theorem insertion_any {m : Nat} (bd : Nat) (od : Option Addr) (ds : List Int) (cd g cap : Nat) (w : World) (hl : ds.length = m + 1) (hm : ds.length ≤ 1000) (hc : w.cell? ⟨bd, 0, none⟩ = some (.slice od ds.length cd)) (hx : Flat w 1 encInt od ds)
    (hbd : bd ≠ g) (hod : ∀ b off, od = some ⟨b, off, none⟩ → b ≠ g) (hT : FTab (Value.int .i64) w g ds.length (fun i => (i : Int))) :
    Calls Try.prog 29 #[.slice (some ⟨g, 0, none⟩) ds.length cap, .int .i64 0, .int .i64 ds.length, .func (.func 15) #[] #[.pointer (some ⟨bd, 0, none⟩)]] w
      fun e w' => e = .returned (.tuple #[]) ∧ Below g w w' ∧ (∀ a : Addr, a.block ≠ g → w'.cell? a = w.cell? a) ∧ w'.heap.size = w.heap.size ∧ FTab (Value.int .i64) w' g ds.length (fun i => (((ordV ds).getD i 0 : Nat) : Int)) := by
  obtain ⟨xs, hxs⟩ : ∃ xs : List (Fin (m + 1)), xs = List.ofFn (fun i => i) := ⟨_, rfl⟩
  have hxl : xs.length = m + 1 := by rw [hxs, List.length_ofFn]
  have hxg : ∀ i (hi : i < xs.length), xs[i].val = i := by subst hxs; intro i hi; simp only [List.getElem_ofFn]
  have hxm : xs.map (fun i => i.val) = List.range (m + 1) := by
    refine List.ext_getElem (by rw [List.length_map, List.length_range, hxl]) (fun i h1 h2 => ?_)
    rw [List.getElem_map, hxg, List.getElem_range]
  have hH : Holds encFin w g 0 xs.toArray := by
    intro j hj
    have hj' : j < xs.length := by simpa using hj
    refine ⟨?_, ?_⟩
    · rw [Nat.zero_add, hT.at' j (by omega), getElem!_pos _ j hj]
      simp only [List.getElem_toArray, encFin, hxg]
    · rw [Nat.zero_add]; exact hT.fz j
  have hO : OneCell (encFin (m := m)) := fun _ => rfl
  have hcmp := cmp_reads (m := m) bd od ds cd g w hl hm hc hx hbd hod
  have hsz : xs.toArray.size = m + 1 := by simpa using hxl
  have hcon := Any.insertionSortCmpFunc_one layS encFin hO _ _ _ g 0 cap 0 (m + 1) xs.toArray w (fun _ _ => by kernel_rfl) (by rw [hsz]; exact hcmp) hH (by omega) (by omega) (by omega)
  rw [hsz] at hcon
  have hordl := ordV_len ds
  rw [hl]
  refine hcon.mono ?_
  rintro e w' ⟨rfl, q, rfl⟩
  obtain ⟨R, hR⟩ : ∃ R, R = insertionSort (ltOf fun i j : Fin (m + 1) => cmpV (ds.getD j.val 0) (ds.getD i.val 0)) xs.toArray 0 (m + 1) := ⟨_, rfl⟩
  rw [← hR]
  have hRl : R.toList = sortTo (ltOf fun i j : Fin (m + 1) => cmpV (ds.getD j.val 0) (ds.getD i.val 0)) xs xs.length := by
    have := insertionSort_list (ltOf fun i j : Fin (m + 1) => cmpV (ds.getD j.val 0) (ds.getD i.val 0)) xs (by omega) xs.toArray rfl
    rw [hR]
    rw [hxl] at this ⊢
    exact this
  have hRs : R.size = m + 1 := by
    have := congrArg List.length hRl
    rw [sortTo_len, hxl] at this
    simpa using this
  have hRm : R.toList.map (fun i => i.val) = ordV ds := by
    rw [hRl, sortTo_map (lt' := ltD ds) (f := fun i : Fin (m + 1) => i.val) (fun x y => by unfold ltOf ltD; exact cmpV_neg _ _) xs xs.length (Nat.le_refl _), hxm, hxl, ← hl]
    rfl
  have hhold := holds_putRow encFin w g 0 xs.toArray R hH (hRs.trans hsz.symm)
  have hbw : RowKit.Below g w (putRow encFin (Sort.ahead w 0) g 0 R) := Lib.below_putRow (Below.refl _ _) (Nat.le_refl _)
  refine ⟨rfl, bdrewN hbw q, fun a ha => ?_, ?_, fun i hi => ?_, fun o => ?_⟩
  · rw [World.cell?_drewN, cell?_putRow_other _ _ _ _ _ _ (.inl ha)]
  · exact size_putRow _ _ _ _ _
  · have h1 := (hhold i (by omega)).1
    rw [Nat.zero_add] at h1
    rw [World.cell?_drewN, h1]
    have h2 : (ordV ds).getD i 0 = (R[i]!).val := by
      rw [← hRm, getElem!_pos R i (by omega)]
      simp [List.getD_eq_getElem?_getD, show i < R.size by omega]
    rw [h2]
    rfl
  · rw [World.frozen?_drewN, frozen?_putRow]
    exact hT.fz o
/-- What the sort leaves. -/
def Sorted0 (ds : List Int) (g : Nat) (w : World) (e : Ending) (w' : World) : Prop :=
  e = .returned (.tuple #[]) ∧ Below g w w' ∧ (∀ a : Addr, a.block ≠ g → w'.cell? a = w.cell? a) ∧ w'.heap.size = w.heap.size ∧ FTab (Value.int .i64) w' g ds.length (fun i => (((ordV ds).getD i 0 : Nat) : Int))
set_option maxHeartbeats 1000000 in
theorem stable_any {m : Nat} (bd : Nat) (od : Option Addr) (ds : List Int) (cd g cap : Nat) (w : World) (hl : ds.length = m + 1) (hm : ds.length ≤ 12) (hc : w.cell? ⟨bd, 0, none⟩ = some (.slice od ds.length cd)) (hx : Flat w 1 encInt od ds)
    (hbd : bd ≠ g) (hod : ∀ b off, od = some ⟨b, off, none⟩ → b ≠ g) (hT : FTab (Value.int .i64) w g ds.length (fun i => (i : Int))) :
    Calls Try.prog 24 #[.slice (some ⟨g, 0, none⟩) ds.length cap, .int .i64 ds.length, .func (.func 15) #[] #[.pointer (some ⟨bd, 0, none⟩)]] w (Sorted0 ds g w) := by
  have hI := Lib.hid (insertion_any (m := m) bd od ds cd g cap w hl (by omega) hc hx hbd hod hT)
  clear hc hx hbd hod hT hl
  go_enter Try.func24, Try.ntmps24
  go_wp2
  go_loopw [7, 8] (fun a b wr => a = .int .i64 0 ∧ b = .int .i64 20 ∧ wr = w) (fun _ _ _ => 0)
  case atStart => exact ⟨rfl, rfl, rfl⟩
  case round =>
    obtain ⟨rfl, rfl, rfl⟩ := hrel
    go_wp2_with (go_at_call 29; refine hI.out.mono ?_; rintro e w1 ⟨rfl, hS⟩)
    have hS := Lib.hid hS
    go_loopw [6] (fun a wr => a = .int .i64 20 ∧ wr = w1) (fun _ _ => 0)
    case atStart => exact ⟨rfl, rfl⟩
    case round =>
      obtain ⟨rfl, rfl⟩ := hrel
      go_wp2
      go_returns
      exact ⟨rfl, hS.out⟩
set_option maxHeartbeats 1000000 in
theorem sortStable_any {m : Nat} (bd : Nat) (od : Option Addr) (ds : List Int) (cd g cap : Nat) (w : World) (hl : ds.length = m + 1) (hm : ds.length ≤ 12) (hc : w.cell? ⟨bd, 0, none⟩ = some (.slice od ds.length cd)) (hx : Flat w 1 encInt od ds)
    (hbd : bd ≠ g) (hod : ∀ b off, od = some ⟨b, off, none⟩ → b ≠ g) (hT : FTab (Value.int .i64) w g ds.length (fun i => (i : Int))) :
    Calls Try.prog 14 #[.slice (some ⟨g, 0, none⟩) ds.length cap, .func (.func 15) #[] #[.pointer (some ⟨bd, 0, none⟩)]] w (Sorted0 ds g w) := by
  have hI := Lib.hid (stable_any (m := m) bd od ds cd g cap w hl hm hc hx hbd hod hT)
  clear hc hx hbd hod hT hl
  have hS9 : ds.length ≤ 9223372036854775807 := by omega
  go_enter Try.func14, Try.ntmps14
  go_wp2_with (go_at_call 24; refine hI.out.mono ?_; rintro e w1 ⟨rfl, hS⟩)
  go_returns
  exact ⟨rfl, hS⟩
end Go.Proofs.Ytimofofaeedcoaa
