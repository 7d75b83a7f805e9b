/-
  slices.Clone and SortFunc of faults. Own text.
-/
import Derived.Test.YtcpjpmijfjdifaaGreatDoorFlt
import Derived.Shelf.SlSortCmp.WholeK
import Derived.Shelf.SlSortCmp.NoneTotal
namespace Go.Proofs.YtcpjpmijfjdifaaGreatDoor
open Go.RowKit
set_option linter.unusedVariables false
instance : Inhabited Ft := ⟨⟨0, 0, false⟩⟩
section
variable {α : Type} [Inhabited α] {enc : α → List Value} {k : Nat}
theorem flatK_at (hl : ∀ x, (enc x).length = k) (hk : 0 < k) (ys : List α) (t : Nat) (h : t < ys.length * k) : (ys.flatMap enc)[t]? = some ((Go.Sort.flatK enc k ys.toArray)[t]!) := by
  have h1 : t / k < ys.length := (Nat.div_lt_iff_lt_mul hk).2 h
  have h2 : t % k < k := Nat.mod_lt _ hk
  have h3 := flatMap_get hl ys (t / k) h1 (t % k) h2
  have e : t / k * k + t % k = t := by rw [Nat.mul_comm]; exact Nat.div_add_mod t k
  rw [e] at h3
  rw [h3, Go.Sort.get_flatK enc k ys.toArray t (by simpa using h)]
  have h4 : t % k < (enc ys[t / k]).length := by rw [hl]; exact h2
  rw [List.getElem?_eq_getElem h4]
  simp only [List.getElem!_toArray, getElem!_pos, h1, h4]
theorem holdsK_of_own {w : World} {Z : Nat} {e : TypeId} {g n cap : Nat} {xs : List α} (hl : ∀ x, (enc x).length = k) (hk : 0 < k) (h : Own w Z e k enc (.slice (some ⟨g, 0, none⟩) n cap) xs) : Go.Sort.HoldsK enc k w g 0 xs.toArray := by
  rcases h.2 with ⟨e0, _⟩ | ⟨g1, cap1, cur, e0, hb, hg, hn, hm, hs, ht⟩
  · cases e0
  · simp only [Value.slice.injEq, Option.some.injEq, Addr.mk.injEq, and_true, true_and] at e0
    obtain ⟨rfl, -, -⟩ := e0
    intro j hj
    have hj' : j < xs.length * k := by simpa using hj
    refine ⟨?_, by unfold World.frozen?; rw [hg]; simp⟩
    rw [Nat.zero_add, cell_of_row w g j cur e (0, 0) hg]
    have h1 := flatK_at hl hk xs j hj'
    rw [← ht, List.getElem?_take, if_pos hj', Array.getElem?_toList] at h1
    exact h1
theorem own_sortWorldK {w : World} {Z : Nat} {e : TypeId} {g n cap m : Nat} {xs ys : List α} {os : Array Obj} (hl : ∀ x, (enc x).length = k) (hk : 0 < k) (h : Own w Z e k enc (.slice (some ⟨g, 0, none⟩) n cap) xs) (hy : ys.length = xs.length) :
    Own (Go.Proofs.sortWorldK enc k w g 0 m ys.toArray os) Z e k enc (.slice (some ⟨g, 0, none⟩) n cap) ys := by
  have hp : Own (Go.Sort.putRowK enc k (Go.Sort.ahead w m) g 0 ys.toArray) Z e k enc (.slice (some ⟨g, 0, none⟩) n cap) ys := by
    rcases h.2 with ⟨e0, _⟩ | ⟨g1, cap1, cur, e0, hb, hg, hn, hm, hs, ht⟩
    · cases e0
    · simp only [Value.slice.injEq, Option.some.injEq, Addr.mk.injEq, and_true, true_and] at e0
      obtain ⟨rfl, e1, rfl⟩ := e0
      refine ⟨flatMap_length hl ys, .inr ⟨g, cap, Go.Sort.putCells id 0 (Go.Sort.flatK enc k ys.toArray) cur, by rw [hy, e1], hb, ?_, by omega, hm, by simpa [Go.Sort.putCells] using hs, ?_⟩⟩
      · simp [Go.Sort.putRowK, Go.Sort.putRow, Go.Sort.mapBlock, Go.Sort.ahead, Array.getElem?_modify, hg, Go.Sort.onCells]
      · apply List.ext_getElem?
        intro j
        rw [List.getElem?_take, Array.getElem?_toList]
        by_cases hj : j < ys.length * k
        · have hjc : j < cur.size := by
            have h2 : xs.length * k ≤ cap * k := Nat.mul_le_mul_right k hn
            rw [hs]
            rw [hy] at hj
            omega
          rw [if_pos hj, flatK_at hl hk ys j hj]
          simp only [Go.Sort.putCells, Array.getElem?_mapIdx, Array.getElem?_eq_getElem hjc, Option.map_some]
          rw [if_pos (by simp; exact hj)]
          simp
        · rw [if_neg hj, List.getElem?_eq_none (by rw [flatMap_length hl]; omega)]
  have hw : Go.Proofs.sortWorldK enc k w g 0 m ys.toArray os = Go.Sort.grow (Go.Sort.putRowK enc k (Go.Sort.ahead w m) g 0 ys.toArray) os := rfl
  rw [hw]
  exact hp.below (below_growW _ os)
theorem below_sortWorldK {w0 w : World} {B g m : Nat} {d : Array α} {os : Array Obj} (h : Below B w0 w) (hg : B ≤ g) (hl : g < w.heap.size) : Below B w0 (Go.Proofs.sortWorldK enc k w g 0 m d os) := by
  have hsz : (Go.Sort.putRow id (Go.Sort.ahead w m) g 0 (Go.Sort.flatK enc k d)).heap.size = w.heap.size := by simp [Go.Sort.putRow, Go.Sort.mapBlock, Go.Sort.ahead]
  have h1 : Below B w0 (Go.Sort.putRow id (Go.Sort.ahead w m) g 0 (Go.Sort.flatK enc k d)) := Go.Lib.below_putRow h hg
  exact h1.trans ((below_growW _ os).mono (by omega))
end
theorem elemFt : ElemType Tryz.prog 55 (.agg #[.int .i64 0, .int .i64 0, .bool false]) 3 24 := ElemType.mk (by kernel_rfl) rfl (by decide)
def RetRows {α : Type} (e0 : TypeId) (k : Nat) (enc : α → List Value) (xs : List α) (w : World) (e : Ending) (w' : World) : Prop := ∃ v, e = .returned v ∧ Own w' w.heap.size e0 k enc v xs ∧ Below w.heap.size w w'
set_option maxHeartbeats 1000000 in
theorem cloneF (ad : Addr) (xs : List Ft) (cap : Nat) (w : World) (hm : xs.length ≤ 1000000000) (hx : Flat w 3 encFt (some ad) xs) :
    Calls Tryz.prog 19 #[.slice (some ad) xs.length cap] w (RetRows 55 3 encFt xs w) := by
  have hq : ∀ (w : World) (a : Option Addr) (n c n' c' : Nat), (binOp .eql 52 (.slice a n c) (.slice none n' c')).run Tryz.prog w = .ok (.bool a.isNone) w := fun w a n c n' c' => Lib.run_eql_slice_nil w _ _ a n c n' c' Tryz.underlying52
  have hb0 := balloc (Below.refl _ w) (.cells #[] 55)
  have hown := Own.lit w w.heap.size 3 encFt [] 55 (fun _ => rfl) (by decide) (Nat.le_refl _)
  have hxa := hx.below hb0
  have HS := Lib.hid (show IsSlice (w.alloc (.cells #[] 55)) 3 encFt (.slice (some ad) xs.length cap) xs from ⟨_, _, rfl, (fun h => by cases h), by unfold maxLen; omega, hxa⟩)
  clear hx hxa
  go_enter Tryz.func19, Tryz.ntmps19
  go_wp2_with (at_builtin; refine wpList_appRow rfl (.tmp 5) (.tmp 6) 52 rfl elemFt Tryz.underlying52 w.heap.size _ [] encFt rfl hown xs _ rfl HS.out (fun _ => rfl) ?c1 ?c2 ?c3 ?c4 ?_)
  case c1 => intro y; simp [encFt, Value.oneCell']
  case c2 => simp; omega
  case c3 => simp; unfold maxLen; omega
  case c4 => simp
  intro v' w3 hown3 hg3
  have HF : Hid (RetRows 55 3 encFt xs w (.returned v') w3) := ⟨v', rfl, hown3, hown.grown hb0 (Nat.le_refl _) hg3⟩
  clear hown3 hg3 hown
  go_wp2
  go_ret
  exact HF.out
theorem cloneF_nil (w : World) :
    Calls Tryz.prog 19 #[.slice none 0 0] w (RetRows 55 3 encFt [] w) := by
  have hq : ∀ (w : World) (a : Option Addr) (n c n' c' : Nat), (binOp .eql 52 (.slice a n c) (.slice none n' c')).run Tryz.prog w = .ok (.bool a.isNone) w := fun w a n c n' c' => Lib.run_eql_slice_nil w _ _ a n c n' c' Tryz.underlying52
  go_enter Tryz.func19, Tryz.ntmps19
  go_wp2
  go_ret
  exact ⟨_, rfl, Own.nil _ _ _ _ _, Below.refl _ _⟩
/-! ### The sort -/
def cmpF (x y : Ft) : Int := Go.Lib.compareInt x.cyc y.cyc
theorem ltF (x y : Ft) : Go.Proofs.ltOf cmpF x y = decide (x.cyc < y.cyc) := by
  unfold Go.Proofs.ltOf cmpF Go.Lib.compareInt
  by_cases h1 : x.cyc < y.cyc
  · simp [h1]
  · by_cases h2 : y.cyc < x.cyc <;> simp [h1, h2]
theorem swoF : Go.Sort.SWO (Go.Proofs.ltOf cmpF) where
  irrefl x := by rw [ltF]; simp
  trans x y z h1 h2 := by rw [ltF] at *; simp at *; omega
  ntrans x y z h1 h2 := by rw [ltF] at *; simp at *; omega
theorem compare_any (x y : Int) (w : World) : Calls Tryz.prog 22 #[.int .i64 x, .int .i64 y] w fun e w' => e = .returned (.int .i64 (Go.Lib.compareInt x y)) ∧ w' = w := Tryz.cmp_Compare_int x y w
set_option maxHeartbeats 1000000 in
theorem closureF (x y : Ft) (W : World) : Calls Tryz.prog 21 #[.agg #[.int .i64 x.cyc, .int .i64 x.fdr, .bool x.dbl], .agg #[.int .i64 y.cyc, .int .i64 y.fdr, .bool y.dbl]] W fun e w' => e = .returned (.int .i64 (cmpF x y)) ∧ ∃ q os', w' = Go.Sort.grow (W.drewN q) os' := by
  have hcon := Lib.hid (fun W' => compare_any x.cyc y.cyc W')
  obtain ⟨r, hr⟩ : ∃ r, r = cmpF x y := ⟨_, rfl⟩
  have hr' : Go.Lib.compareInt x.cyc y.cyc = r := hr.symm
  rw [hr'] at hcon
  rw [← hr]
  clear hr hr'
  go_enter Tryz.func21, Tryz.ntmps21
  go_wp2_with fail
  refine (hcon.out _).mono ?_
  rintro e w' ⟨rfl, rfl⟩
  go_wp2
  go_ret
  exact ⟨rfl, 0, _, by rw [Go.Sort.alloc_eq_grow, Go.Sort.alloc_eq_grow, Go.Sort.grow_grow]; rfl⟩
theorem cmpLaysF (blk off size : Nat) (w : World) : Go.Proofs.CmpLays Tryz.prog 21 #[] encFt 3 cmpF blk off size w :=
  fun _ _ _ _ x y => closureF x y _
def RetSortF (Z : Nat) (v : Value) (xs : List Ft) (w : World) (e : Ending) (w' : World) : Prop :=
  ∃ ys : List Ft, e = .returned (.tuple #[]) ∧ ys.Perm xs ∧ ys.Pairwise (fun x y => x.cyc ≤ y.cyc) ∧ Own w' Z 55 3 encFt v ys ∧ ∀ B w0, B ≤ Z → Below B w0 w → Below B w0 w'
theorem sortF_any (Z : Nat) (v : Value) (xs : List Ft) (w : World) (h : Own w Z 55 3 encFt v xs) (hm : xs.length ≤ 512) :
    Calls Tryz.prog 20 #[v, .func (.func 21) #[] #[]] w (RetSortF Z v xs w) := by
  have h0 := h
  rcases h.2 with ⟨rfl, hn⟩ | ⟨g, cap, cur, rfl, hb, hg, hn, hcm, hs, ht⟩
  · obtain rfl : xs = [] := List.eq_nil_of_length_eq_zero hn
    refine (AnyF.slices_SortFunc_none { Tryz.sortFt with } none 0 (.func (.func 21) #[] #[]) w).mono ?_
    rintro e w' ⟨rfl, rfl⟩
    exact ⟨[], rfl, List.Perm.refl _, List.Pairwise.nil, h, fun _ _ _ hb => hb⟩
  · have hlt := (h0.lt (g := g) rfl)
    have eg : ∀ args w, (callFunc 21 args).run Tryz.prog w = .ok (.enter 21 args) w := enters_of Tryz.func21 (by kernel_rfl) rfl
    have hcon := AnyQ.slices_SortFunc Tryz.sortFt 3 Tryz.isAgg55 Tryz.sizeOf55 encFt (fun _ => rfl) (fun x v hv => by simp [encFt] at hv; rcases hv with rfl | rfl | rfl <;> rfl) cmpF swoF 21 #[] g 0 cap xs.toArray w eg (cmpLaysF g 0 xs.toArray.size w) (holdsK_of_own (fun _ => rfl) (by omega) h0) hlt.2 (by simp; omega)
    refine hcon.mono ?_
    rintro e w' ⟨rfl, d', n, os, hp, hso, rfl⟩
    have hp1 : d'.size = xs.length := by have := hp.1; simpa using this
    have hperm : d'.toList.Perm xs := by
      have h1 := hp.2.2
      have e1 : (d'.extract 0 xs.toArray.size).toList = d'.toList := by
        rw [show xs.toArray.size = d'.size by simp [hp1]]
        simp
      have e2 : (xs.toArray.extract 0 xs.toArray.size).toList = xs := by simp
      rw [e1, e2] at h1
      exact h1
    refine ⟨d'.toList, rfl, hperm, ?_, ?_, fun B w0 hB hbw => below_sortWorldK hbw (Nat.le_trans hB hlt.1) hlt.2⟩
    · rw [List.pairwise_iff_getElem]
      intro i j hi hj hij
      have hj2 : j < xs.toArray.size := by rw [Array.length_toList] at hj; rw [List.size_toArray]; omega
      have h1 := hso i j (Nat.zero_le _) hij hj2
      rw [ltF] at h1
      have hi' : i < d'.size := by simpa using hi
      have hj' : j < d'.size := by simpa using hj
      simp only [getElem!_pos, hi', hj', decide_eq_false_iff_not] at h1
      simp only [Array.getElem_toList]
      omega
    · have h2 := own_sortWorldK (k := 3) (enc := encFt) (xs := xs) (ys := d'.toList) (m := n) (os := os) (fun _ => rfl) (by omega) h0 (by simp [hp1])
      have e3 : d'.toList.toArray = d' := by simp
      rw [e3] at h2
      exact h2
end Go.Proofs.YtcpjpmijfjdifaaGreatDoor
