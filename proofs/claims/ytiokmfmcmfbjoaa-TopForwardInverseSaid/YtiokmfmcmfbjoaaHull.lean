/-
  The walk of grid.Hull. Own text.
-/
import Derived.Test.YtiokmfmcmfbjoaaHullV
namespace Go.Proofs.Ytiokmfmcmfbjoaa
open Go.RowKit
set_option linter.unusedVariables false
def fromV (S : Int) (low : List Int) (i : Nat) : Int := low.getD i 0 / S
def toV (S : Int) (high : List Int) (i : Nat) : Int := (high.getD i 0 + S - 1) / S
theorem fromV_out {S : Int} {low : List Int} {i : Nat} (h : low.length ≤ i) : fromV S low i = 0 := by
  unfold fromV
  rw [List.getD_eq_getElem?_getD, List.getElem?_eq_none h]
  exact Int.zero_ediv S
/-- The arrays from and to behind k axes. -/
structure HullA (w : World) (S : Int) (low high : List Int) (k : Nat) (W : World) : Prop where
  bel : Below w.heap.size w W
  size : W.heap.size = w.heap.size + 1 + 1 + 1
  fr : FTab (Value.int .i64) W w.heap.size 4 (fun i => if i < k then fromV S low i else 0)
  up : FTab (Value.int .i64) W (w.heap.size + 1) 4 (fun i => if i < k then toV S high i else 0)
  idx : FTab (Value.int .i64) W (w.heap.size + 1 + 1) 4 (fun _ => 0)
theorem HullA.start (w : World) (S : Int) (low high : List Int) (t : TypeId) : HullA w S low high 0 (((w.alloc (.cells #[.int .i64 0, .int .i64 0, .int .i64 0, .int .i64 0] t)).alloc (.cells #[.int .i64 0, .int .i64 0, .int .i64 0, .int .i64 0] t)).alloc (.cells #[.int .i64 0, .int .i64 0, .int .i64 0, .int .i64 0] t)) := by
  have s1 : (w.alloc (.cells #[.int .i64 0, .int .i64 0, .int .i64 0, .int .i64 0] t)).heap.size = w.heap.size + 1 := World.size_alloc _ _
  have s2 : ((w.alloc (.cells #[.int .i64 0, .int .i64 0, .int .i64 0, .int .i64 0] t)).alloc (.cells #[.int .i64 0, .int .i64 0, .int .i64 0, .int .i64 0] t)).heap.size = w.heap.size + 1 + 1 := by rw [World.size_alloc, s1]
  refine ⟨balloc (balloc (balloc (Below.refl _ _) _) _) _, by rw [World.size_alloc, s2], ?_, ?_, ?_⟩
  · refine (FTab.lit4 (e := t) ?_).congr fun i hi => (if_neg (by omega)).symm
    rw [heap_alloc_old _ _ (by omega), heap_alloc_old _ _ (by omega), heap_alloc_new]
  · refine (FTab.lit4 (e := t) ?_).congr fun i hi => (if_neg (by omega)).symm
    rw [heap_alloc_old _ _ (by omega), ← s1, heap_alloc_new]
  · refine FTab.lit4 (e := t) ?_
    rw [← s2, heap_alloc_new]
theorem HullA.drewN {w : World} {S : Int} {low high : List Int} {k : Nat} {W : World} (h : HullA w S low high k W) (q : Nat) : HullA w S low high k (W.drewN q) :=
  ⟨bdrewN h.bel q, h.size, h.fr.drewN q, h.up.drewN q, h.idx.drewN q⟩
theorem HullA.next {w : World} {S : Int} {low high : List Int} {k : Nat} {W : World} (h : HullA w S low high k W) (hk : k < 4) : HullA w S low high (k + 1) ((W.setCell ⟨w.heap.size, k, none⟩ (.int .i64 (fromV S low k))).setCell ⟨w.heap.size + 1, k, none⟩ (.int .i64 (toV S high k))) := by
  obtain ⟨h1, h2, h3, h4, h5⟩ := h
  refine ⟨(h1.setCell (p := ⟨w.heap.size, k, none⟩) (Nat.le_refl _) _).setCell (p := ⟨w.heap.size + 1, k, none⟩) (by simp) _, by simp [h2], ?_, ?_, (h5.other (by omega) _).other (by omega) _⟩
  · refine ((h3.set hk (fromV S low k)).other (by omega) _).congr fun i hi => ?_
    by_cases e : i = k
    · subst e; rw [if_pos rfl, if_pos (by omega)]
    · rw [if_neg e]
      by_cases e2 : i < k
      · rw [if_pos e2, if_pos (by omega)]
      · rw [if_neg e2, if_neg (by omega)]
  · refine ((h4.other (by omega) _).set hk (toV S high k)).congr fun i hi => ?_
    by_cases e : i = k
    · subst e; rw [if_pos rfl, if_pos (by omega)]
    · rw [if_neg e]
      by_cases e2 : i < k
      · rw [if_pos e2, if_pos (by omega)]
      · rw [if_neg e2, if_neg (by omega)]
/-- The memory of the odometer. -/
structure HullM (w : World) (d : Nat) (F T e lo hi : Nat → Int) (gl gm : Nat) (W : World) : Prop where
  bel : Below w.heap.size w W
  ll : gl < W.heap.size
  lm : gm < W.heap.size
  fr : FTab (Value.int .i64) W w.heap.size d F
  up : FTab (Value.int .i64) W (w.heap.size + 1) d T
  idx : FTab (Value.int .i64) W (w.heap.size + 1 + 1) d e
  lo : FTab (Value.int .i64) W gl 3 lo
  hi : FTab (Value.int .i64) W gm 3 hi
section
variable {w : World} {d : Nat} {F T e lo hi : Nat → Int} {gl gm : Nat} {W : World}
theorem HullM.drewN (h : HullM w d F T e lo hi gl gm W) (q : Nat) : HullM w d F T e lo hi gl gm (W.drewN q) := ⟨bdrewN h.bel q, h.ll, h.lm, h.fr.drewN q, h.up.drewN q, h.idx.drewN q, h.lo.drewN q, h.hi.drewN q⟩
theorem HullM.congr {e' lo' hi' : Nat → Int} (h : HullM w d F T e lo hi gl gm W) (h1 : ∀ i, i < d → e i = e' i) (h2 : ∀ o, o < 3 → lo o = lo' o) (h3 : ∀ o, o < 3 → hi o = hi' o) : HullM w d F T e' lo' hi' gl gm W := ⟨h.bel, h.ll, h.lm, h.fr, h.up, h.idx.congr h1, h.lo.congr h2, h.hi.congr h3⟩
theorem HullM.setIdx (h : HullM w d F T e lo hi gl gm W) (l1 : w.heap.size + 3 ≤ gl) (l2 : w.heap.size + 3 ≤ gm) {k : Nat} (hk : k < d) (v : Int) : HullM w d F T (fun i => if i = k then v else e i) lo hi gl gm (W.setCell ⟨w.heap.size + 1 + 1, k, none⟩ (.int .i64 v)) :=
  ⟨h.bel.setCell (p := ⟨w.heap.size + 1 + 1, k, none⟩) (by simp; omega) _, by simpa using h.ll, by simpa using h.lm, h.fr.other (by omega) _, h.up.other (by omega) _, h.idx.set hk v, h.lo.other (by omega) _, h.hi.other (by omega) _⟩
theorem HullM.setLo (h : HullM w d F T e lo hi gl gm W) (l1 : w.heap.size + 3 ≤ gl) (l2 : w.heap.size + 3 ≤ gm) (hne : gl ≠ gm) {k : Nat} (hk : k < 3) (v : Int) : HullM w d F T e (fun i => if i = k then v else lo i) hi gl gm (W.setCell ⟨gl, k, none⟩ (.int .i64 v)) :=
  ⟨h.bel.setCell (p := ⟨gl, k, none⟩) (by simp; omega) _, by simpa using h.ll, by simpa using h.lm, h.fr.other (by omega) _, h.up.other (by omega) _, h.idx.other (by omega) _, h.lo.set hk v, h.hi.other hne _⟩
theorem HullM.setHi (h : HullM w d F T e lo hi gl gm W) (l1 : w.heap.size + 3 ≤ gl) (l2 : w.heap.size + 3 ≤ gm) (hne : gl ≠ gm) {k : Nat} (hk : k < 3) (v : Int) : HullM w d F T e lo (fun i => if i = k then v else hi i) gl gm (W.setCell ⟨gm, k, none⟩ (.int .i64 v)) :=
  ⟨h.bel.setCell (p := ⟨gm, k, none⟩) (by simp; omega) _, by simpa using h.ll, by simpa using h.lm, h.fr.other (by omega) _, h.up.other (by omega) _, h.idx.other (by omega) _, h.lo.other hne.symm _, h.hi.set hk v⟩
end
/-- Behind the first loop, the copy and the two new rows. -/
theorem HullM.start {w : World} {S : Int} {low high : List Int} {W : World} (h : HullA w S low high low.length W) (hd : low.length ≤ 4) :
    FTab (Value.int .i64) W w.heap.size 4 (fromV S low) ∧ FTab (Value.int .i64) W (w.heap.size + 1) low.length (toV S high) := by
  refine ⟨h.fr.congr fun i hi => ?_, ⟨fun i hi => ?_, h.up.fz⟩⟩
  · by_cases e : i < low.length
    · rw [if_pos e]
    · rw [if_neg e, fromV_out (by omega)]
  · rw [h.up.at' i (by omega), if_pos hi]
theorem fill4 {W : World} {g : Nat} {t : Nat → Int} {v0 v1 v2 v3 : Int} (h : FTab (Value.int .i64) W g 4 t) {F : Nat → Int} (h0 : v0 = F 0) (h1 : v1 = F 1) (h2 : v2 = F 2) (h3 : v3 = F 3) :
    FTab (Value.int .i64) ((((W.setCell ⟨g, 0, none⟩ (.int .i64 v0)).setCell ⟨g, 1, none⟩ (.int .i64 v1)).setCell ⟨g, 2, none⟩ (.int .i64 v2)).setCell ⟨g, 3, none⟩ (.int .i64 v3)) g 4 F := by
  refine ((((h.set (i := 0) (by omega) v0).set (i := 1) (by omega) v1).set (i := 2) (by omega) v2).set (i := 3) (by omega) v3).congr fun i hi => ?_
  match i, hi with
  | 0, _ => exact h0
  | 1, _ => exact h1
  | 2, _ => exact h2
  | 3, _ => exact h3
/-- The two new rows, in either order. -/
theorem HullM.two {w : World} {d : Nat} {F T e : Nat → Int} {W : World} (hb : Below w.heap.size w W) (hs : w.heap.size + 1 + 1 < W.heap.size) (h1 : FTab (Value.int .i64) W w.heap.size d F) (h2 : FTab (Value.int .i64) W (w.heap.size + 1) d T) (h3 : FTab (Value.int .i64) W (w.heap.size + 1 + 1) d e) (t : TypeId) :
    HullM w d F T e (fun _ => 0) (fun _ => 0) W.heap.size (W.heap.size + 1) ((W.alloc (.cells (madeArr (.int .i64 0) 3) t)).alloc (.cells (madeArr (.int .i64 0) 3) t)) ∧ HullM w d F T e (fun _ => 0) (fun _ => 0) (W.heap.size + 1) W.heap.size ((W.alloc (.cells (madeArr (.int .i64 0) 3) t)).alloc (.cells (madeArr (.int .i64 0) 3) t)) := by
  have s1 : (W.alloc (.cells (madeArr (.int .i64 0) 3) t)).heap.size = W.heap.size + 1 := World.size_alloc _ _
  have s2 : ((W.alloc (.cells (madeArr (.int .i64 0) 3) t)).alloc (.cells (madeArr (.int .i64 0) 3) t)).heap.size = W.heap.size + 1 + 1 := by rw [World.size_alloc, s1]
  have ha := (FTab.made (Value.int .i64) W 3 0 t).alloc (by rw [s1]; omega) (.cells (madeArr (.int .i64 0) 3) t)
  have hb2 := FTab.made (Value.int .i64) (W.alloc (.cells (madeArr (.int .i64 0) 3) t)) 3 0 t
  rw [s1] at hb2
  have hbb := balloc (balloc hb (.cells (madeArr (.int .i64 0) 3) t)) (.cells (madeArr (.int .i64 0) 3) t)
  have k1 := (h1.alloc (by omega) (.cells (madeArr (.int .i64 0) 3) t)).alloc (by rw [s1]; omega) (.cells (madeArr (.int .i64 0) 3) t)
  have k2 := (h2.alloc (by omega) (.cells (madeArr (.int .i64 0) 3) t)).alloc (by rw [s1]; omega) (.cells (madeArr (.int .i64 0) 3) t)
  have k3 := (h3.alloc (by omega) (.cells (madeArr (.int .i64 0) 3) t)).alloc (by rw [s1]; omega) (.cells (madeArr (.int .i64 0) 3) t)
  exact ⟨⟨hbb, by omega, by omega, k1, k2, k3, ha, hb2⟩, ⟨hbb, by omega, by omega, k1, k2, k3, hb2, ha⟩⟩
/-- What Hull returns. -/
def RetHull (d : Nat) (F T : Nat → Int) (V : Nat → (Nat → Int) → Int) (w : World) (e : Ending) (w' : World) : Prop := ∃ (gl gm : Nat) (lo hi : Nat → Int), e = .returned (.tuple #[.slice (some ⟨gl, 0, none⟩) 3 3, .slice (some ⟨gm, 0, none⟩) 3 3]) ∧ FTab (Value.int .i64) w' gl 3 lo ∧ FTab (Value.int .i64) w' gm 3 hi ∧
  (∀ o, o < 3 → (-65535 ≤ lo o ∧ lo o ≤ 65535) ∧ -65535 ≤ hi o ∧ hi o ≤ 65535) ∧ Cov d F T V (fun _ => True) lo hi ∧ Below w.heap.size w w'
def loQ (f : Bool) (lo : Nat → Int) (v : Nat → Int) (q o : Nat) : Int := if o < q then loV f (lo o) (v o) else lo o
def hiQ (f : Bool) (hi : Nat → Int) (v : Nat → Int) (q o : Nat) : Int := if o < q then hiV f (hi o) (v o) else hi o
def mixE (c F : Nat → Int) (j i : Nat) : Int := if i < j then c i else F i
/-- The state of the odometer, without the memory. -/
structure HullI (d : Nat) (size : Int) (F T : Nat → Int) (V : Nat → (Nat → Int) → Int) (f : Bool) (c lo hi : Nat → Int) : Prop where
  inb : InB d F T c
  fst : f = true → ∀ c', InB d F T c' → ¬ LexB d c' c
  cov : Cov d F T V (fun c' => LexB d c' c) lo hi ∨ f = true
  bd : ∀ o, o < 3 → (-65535 ≤ lo o ∧ lo o ≤ 65535) ∧ -65535 ≤ hi o ∧ hi o ≤ 65535
theorem loV_bd {f : Bool} {l v : Int} (h1 : -65535 ≤ l ∧ l ≤ 65535) (h2 : -65535 ≤ v ∧ v ≤ 65535) : -65535 ≤ loV f l v ∧ loV f l v ≤ 65535 := by
  unfold loV; split <;> assumption
theorem hiV_bd {f : Bool} {l v : Int} (h1 : -65535 ≤ l ∧ l ≤ 65535) (h2 : -65535 ≤ v ∧ v ≤ 65535) : -65535 ≤ hiV f l v ∧ hiV f l v ≤ 65535 := by
  unfold hiV; split <;> assumption
theorem loQ_set {f : Bool} {lo v : Nat → Int} {q o : Nat} {x : Int} (hx : x = loV f (lo q) (v q)) : (if o = q then x else loQ f lo v q o) = loQ f lo v (q + 1) o := by
  unfold loQ
  by_cases e : o = q
  · subst e; rw [if_pos rfl, if_pos (by omega), hx]
  · rw [if_neg e]
    by_cases e2 : o < q
    · rw [if_pos e2, if_pos (by omega)]
    · rw [if_neg e2, if_neg (by omega)]
theorem loQ_skip {f : Bool} {lo v : Nat → Int} {q o : Nat} (hx : lo q = loV f (lo q) (v q)) : loQ f lo v q o = loQ f lo v (q + 1) o := by
  rw [← loQ_set hx]
  by_cases e : o = q
  · subst e; rw [if_pos rfl]; exact if_neg (by omega)
  · rw [if_neg e]
theorem hiQ_set {f : Bool} {lo v : Nat → Int} {q o : Nat} {x : Int} (hx : x = hiV f (lo q) (v q)) : (if o = q then x else hiQ f lo v q o) = hiQ f lo v (q + 1) o := by
  unfold hiQ
  by_cases e : o = q
  · subst e; rw [if_pos rfl, if_pos (by omega), hx]
  · rw [if_neg e]
    by_cases e2 : o < q
    · rw [if_pos e2, if_pos (by omega)]
    · rw [if_neg e2, if_neg (by omega)]
theorem hiQ_skip {f : Bool} {lo v : Nat → Int} {q o : Nat} (hx : lo q = hiV f (lo q) (v q)) : hiQ f lo v q o = hiQ f lo v (q + 1) o := by
  rw [← hiQ_set hx]
  by_cases e : o = q
  · subst e; rw [if_pos rfl]; exact if_neg (by omega)
  · rw [if_neg e]
/-- grid.at at the index of the odometer. -/
theorem at_box {b g d n m : Nat} {size : Int} {c : Nat → Int} {W : World} (c4 : W.cell? ⟨b, 4, none⟩ = some (.int .i64 3)) (c5 : W.cell? ⟨b, 5, none⟩ = some (.int .i64 size)) (hT : FTab (Value.int .i64) W g d c) (hd : d ≤ 4) (hs : 1 ≤ size) (hs9 : size ≤ 9) (hin : ∀ i, i < d → 0 ≤ c i ∧ c i ≤ size - 1) (hn : nodeV size ((List.range d).map c) = (n : Int)) (hm : m = n * 3) :
    Calls Try.prog 30 #[.pointer (some ⟨b, 3, none⟩), .slice (some ⟨g, 0, none⟩) d 4] W fun e w' => e = .returned (.int .i64 m) ∧ W = w' := by
  have h := at_any b size 3 (some ⟨g, 0, none⟩) ((List.range d).map c) 4 W c4 c5 hT.flat (by simp; omega) hs hs9 (by omega) (by omega) (fun i hi => by
    rw [List.length_map, List.length_range] at hi
    rw [List.getElem_map, List.getElem_range]
    exact hin i hi)
  rw [List.length_map, List.length_range, hn, show (n : Int) * 3 = (m : Int) by omega] at h
  exact h
theorem toV_le {S size : Int} {high : List Int} {i : Nat} (hS : 1 ≤ S) (hm : S * (size - 1) = 65280) (h : high.getD i 0 ≤ 65280) : toV S high i ≤ size - 1 := by
  unfold toV
  have h1 : (high.getD i 0 + S - 1) / S < size := by
    refine Int.ediv_lt_of_lt_mul (by omega) ?_
    rw [Int.mul_comm]
    have : S * size = S * (size - 1) + S := by rw [Int.mul_sub, Int.mul_one]; omega
    omega
  omega
set_option maxRecDepth 100000 in
set_option maxHeartbeats 4000000 in
theorem hull_any (b : Nat) (P : Prof) (oi : Option Addr) (ci : Nat) (oc : Option Addr) (cc : Nat) (ov : Option Addr) (cv : Nat) (ol : Option Addr) (low : List Int) (cl : Nat) (oh : Option Addr) (high : List Int) (ch : Nat) (w : World) (hh : HeldAt w b P oi ci oc cc ov cv) (hok : OkProf P) (hxl : Flat w 1 encInt ol low) (hxh : Flat w 1 encInt oh high)
    (hl : low.length = P.inks.length) (hl2 : high.length = low.length) (hr : ∀ i (h : i < low.length), 0 ≤ low.getD i 0 ∧ low.getD i 0 ≤ high.getD i 0 ∧ high.getD i 0 ≤ 65280) :
    Calls Try.prog 32 #[.pointer (some ⟨b, 3, none⟩), .slice ol low.length cl, .slice oh high.length ch] w (RetHull low.length (fromV (stepOf P.size) low) (toV (stepOf P.size) high) (fun o => valAt P low.length o) w) := by
  have c3 := hh.inn
  have c4 := hh.out
  have c5 := hh.size
  have c6 := hh.vals
  obtain ⟨s1, s2, s3, s4, s5, s6⟩ := hok.step
  have hf := hok.few
  rw [hl2]
  obtain ⟨d, hd⟩ : ∃ d : Nat, low.length = d := ⟨_, rfl⟩
  have hinn : P.inn = (d : Int) := by rw [hok.axes.1, ← hl, hd]
  have hout : P.out = 3 := hok.axes.2
  rw [hinn] at c3
  rw [hout] at c4
  have d1 : 1 ≤ d := by omega
  have d4 : d ≤ 4 := by omega
  obtain ⟨S, hS⟩ : ∃ S, S = stepOf P.size := ⟨_, rfl⟩
  rw [← hS] at s1 s2 s3 s6
  have hnz : ¬ P.size - 1 = 0 := by omega
  obtain ⟨size, hsize⟩ : ∃ s, s = P.size := ⟨_, rfl⟩
  rw [← hsize] at c5 s3 s4 s5 s6 hnz
  have HH := Lib.hid hh
  have HOK := Lib.hid hok
  have HX := Lib.hid hxl
  have HY := Lib.hid hxh
  have HR := Lib.hid hr
  have HE := Lib.hid (And.intro hd (And.intro hS (And.intro hsize (And.intro hinn (And.intro hout hl2)))))
  rw [hd]
  rw [← hS]
  clear hh hok hxl hxh hr hd hS hsize hf hl hinn hout hl2
  have mk : ∀ w : World, (Instr.makeSlice 24 (.int .i64 3) (.int .i64 3)).run Try.prog w = .ok (.slice (some ⟨w.heap.size, 0, none⟩) 3 3) (w.alloc (.cells (madeArr (.int .i64 0) 3) 3)) := run_makeArr (P := Try.prog) elemInt Try.underlying24 (.int .i64 0) rfl 3 (by omega) (by omega)
  have hbw := cell?_lt c3
  simp only at hbw
  have hbw1 : b < w.heap.size + 1 := by omega
  have hbw2 : b < w.heap.size + 1 + 1 := by omega
  have hbw3 : b < w.heap.size + 1 + 1 + 1 := by omega
  go_enter Try.func32, Try.ntmps32
  go_wp2
  rw [s6]
  have H0 : Hid (HullA w S low high 0 (((w.alloc (.cells #[.int .i64 0, .int .i64 0, .int .i64 0, .int .i64 0] 71)).alloc (.cells #[.int .i64 0, .int .i64 0, .int .i64 0, .int .i64 0] 71)).alloc (.cells #[.int .i64 0, .int .i64 0, .int .i64 0, .int .i64 0] 71))) := HullA.start w S low high 71
  go_loopw [28] (fun i wr => ∃ k : Nat, k ≤ d ∧ i = .int .i64 k ∧ Hid (HullA w S low high k wr)) (fun i _ => d - (intOf i).toNat)
  case atStart => exact ⟨0, by omega, rfl, H0⟩
  case round =>
    clear H0
    obtain ⟨k, hk, rfl, HK⟩ := hrel
    by_cases hlt : k < d
    · have hkl : k < low.length := by have := HE.out.1; omega
      have hkh : k < high.length := by have := HE.out.2.2.2.2.2; omega
      obtain ⟨bx, ofx, rfl, e1⟩ := (HX.out.below HK.out.bel).int hkl
      obtain ⟨by', ofy, rfl, e2⟩ := (HY.out.below HK.out.bel).int hkh
      have hby : by' < w.heap.size := by
        obtain ⟨b2, o2, e, e3⟩ := HY.out.int hkh
        cases e
        exact cell?_lt e3
      have hbx : bx < w.heap.size := by
        obtain ⟨b2, o2, e, e3⟩ := HX.out.int hkl
        cases e
        exact cell?_lt e3
      have hby1 : by' ≠ w.heap.size := by omega
      have hbx1 : bx ≠ w.heap.size := by omega
      have hby2 : by' ≠ w.heap.size + 1 := by omega
      have hbx2 : bx ≠ w.heap.size + 1 := by omega
      obtain ⟨r0, r1, r2⟩ := HR.out k hkl
      have hg1 : low.getD k 0 = low[k] := by rw [List.getD_eq_getElem?_getD, List.getElem?_eq_getElem hkl]; rfl
      have hg2 : high.getD k 0 = high[k] := by rw [List.getD_eq_getElem?_getD, List.getElem?_eq_getElem hkh]; rfl
      obtain ⟨x, hx⟩ : ∃ x, x = low[k] := ⟨_, rfl⟩
      obtain ⟨y, hy⟩ : ∃ y, y = high[k] := ⟨_, rfl⟩
      rw [hg1, ← hx] at r0 r1
      rw [hg2, ← hy] at r1 r2
      rw [← hx] at e1 hg1
      rw [← hy] at e2 hg2
      obtain ⟨C, hC⟩ : ∃ C, C = fromV S low k := ⟨_, rfl⟩
      obtain ⟨Q, hQ⟩ : ∃ Q, Q = toV S high k := ⟨_, rfl⟩
      have q1 : x / S = C := by rw [hC]; unfold fromV; rw [hg1]
      have q2 : (y + S - 1) / S = Q := by rw [hQ]; unfold toV; rw [hg2]
      have q3 : x.tdiv S = C := by rw [Int.tdiv_eq_ediv_of_nonneg r0]; exact q1
      have q4 : (y + S - 1).tdiv S = Q := by rw [Int.tdiv_eq_ediv_of_nonneg (by omega)]; exact q2
      have q5 : ¬ S = 0 := by omega
      have q6 : 0 ≤ C ∧ C ≤ 65280 := by
        rw [← q1]
        exact ⟨Int.ediv_nonneg r0 (by omega), by
          have := Int.ediv_le_self S r0
          omega⟩
      have q7 : 0 ≤ Q ∧ Q ≤ 130560 := by
        rw [← q2]
        exact ⟨Int.ediv_nonneg (by omega) (by omega), by
          have := Int.ediv_le_self S (show 0 ≤ y + S - 1 by omega)
          omega⟩
      have hk4 : k < 4 := by omega
      have k3 : (0 : Int) ≤ (k : Int) := by omega
      have k5 : (k : Int) < 4 := by omega
      have f1 := HK.out.fr.at' k hk4
      have f2 := HK.out.up.at' k hk4
      have f3 := HK.out.fr.fz k
      have f4 := HK.out.up.fz k
      have hsz := HK.out.size
      have HNX : Hid (HullA w S low high (k + 1) ((wr.setCell ⟨w.heap.size, k, none⟩ (.int .i64 C)).setCell ⟨w.heap.size + 1, k, none⟩ (.int .i64 Q))) := by rw [hC, hQ]; exact HK.out.next hk4
      clear hC hQ hx hy hg1 hg2
      go_wp2
      go_region
      all_goals
        go_wp2
        go_roundw
        case rel => exact ⟨k + 1, by omega, by go_num, HNX.out.drewN 1⟩
        case measure => simp [intOf]; omega
    · obtain rfl : d = k := by omega
      have HL := HE.out.1
      have hhl := HE.out.2.2.2.2.2
      have hst : FTab (Value.int .i64) wr w.heap.size 4 (fromV S low) ∧ FTab (Value.int .i64) wr (w.heap.size + 1) d (toV S high) := by
        have := HullM.start (by rw [HL]; exact HK.out) (by omega : low.length ≤ 4)
        rw [HL] at this
        exact this
      have hbel := HK.out.bel
      have f0 := hst.1.at' 0 (by omega)
      have f1 := hst.1.at' 1 (by omega)
      have f2 := hst.1.at' 2 (by omega)
      have f3 := hst.1.at' 3 (by omega)
      have g0 := HK.out.idx.at' 0 (by omega)
      have g1 := HK.out.idx.at' 1 (by omega)
      have g2 := HK.out.idx.at' 2 (by omega)
      have g3 := HK.out.idx.at' 3 (by omega)
      have gf := HK.out.idx.fz
      have hsz := HK.out.size
      have HF4 := Lib.hid hst.1
      have HT4 := Lib.hid hst.2
      have HIX := Lib.hid HK.out.idx
      have HBEL := Lib.hid hbel
      replace HL := Lib.hid HL
      obtain ⟨v0, hv0⟩ : ∃ v, v = fromV S low 0 := ⟨_, rfl⟩
      obtain ⟨v1, hv1⟩ : ∃ v, v = fromV S low 1 := ⟨_, rfl⟩
      obtain ⟨v2, hv2⟩ : ∃ v, v = fromV S low 2 := ⟨_, rfl⟩
      obtain ⟨v3, hv3⟩ : ∃ v, v = fromV S low 3 := ⟨_, rfl⟩
      rw [← hv0] at f0
      rw [← hv1] at f1
      rw [← hv2] at f2
      rw [← hv3] at f3
      have HV4 := Lib.hid (And.intro hv0 (And.intro hv1 (And.intro hv2 hv3)))
      clear hst HK hbel hv0 hv1 hv2 hv3 hhl
      go_wp2
      have HW3 : Hid (∃ W3 : World, W3 = (((wr.setCell ⟨w.heap.size + 1 + 1, 0, none⟩ (.int .i64 v0)).setCell ⟨w.heap.size + 1 + 1, 1, none⟩ (.int .i64 v1)).setCell ⟨w.heap.size + 1 + 1, 2, none⟩ (.int .i64 v2)).setCell ⟨w.heap.size + 1 + 1, 3, none⟩ (.int .i64 v3) ∧ Below w.heap.size w W3 ∧ W3.heap.size = w.heap.size + 1 + 1 + 1 ∧ FTab (Value.int .i64) W3 w.heap.size d (fromV S low) ∧ FTab (Value.int .i64) W3 (w.heap.size + 1) d (toV S high) ∧ FTab (Value.int .i64) W3 (w.heap.size + 1 + 1) d (fromV S low)) := by
        refine ⟨_, rfl, ?_, by simp [hsz], ?_, ?_, ?_⟩
        · exact (((HBEL.out.setCell (p := ⟨w.heap.size + 1 + 1, 0, none⟩) (by simp; omega) _).setCell (p := ⟨w.heap.size + 1 + 1, 1, none⟩) (by simp; omega) _).setCell (p := ⟨w.heap.size + 1 + 1, 2, none⟩) (by simp; omega) _).setCell (p := ⟨w.heap.size + 1 + 1, 3, none⟩) (by simp; omega) _
        · have h := (((HF4.out.other (b := w.heap.size + 1 + 1) (o := 0) (by omega) (.int .i64 v0)).other (b := w.heap.size + 1 + 1) (o := 1) (by omega) (.int .i64 v1)).other (b := w.heap.size + 1 + 1) (o := 2) (by omega) (.int .i64 v2)).other (b := w.heap.size + 1 + 1) (o := 3) (by omega) (.int .i64 v3)
          exact ⟨fun i hi => h.at' i (by omega), h.fz⟩
        · exact (((HT4.out.other (b := w.heap.size + 1 + 1) (o := 0) (by omega) (.int .i64 v0)).other (b := w.heap.size + 1 + 1) (o := 1) (by omega) (.int .i64 v1)).other (b := w.heap.size + 1 + 1) (o := 2) (by omega) (.int .i64 v2)).other (b := w.heap.size + 1 + 1) (o := 3) (by omega) (.int .i64 v3)
        · have h := fill4 HIX.out HV4.out.1 HV4.out.2.1 HV4.out.2.2.1 HV4.out.2.2.2
          exact ⟨fun i hi => h.at' i (by omega), h.fz⟩
      obtain ⟨W3, hW3, wb, ws, w1, w2, w3⟩ := HW3.out
      rw [← hW3]
      have HM2 := Lib.hid (HullM.two wb (by omega) w1 w2 w3 3)
      rw [ws] at HM2
      have c4' := keepCell wb c4
      have hsz3 : b < W3.heap.size := by omega
      clear HW3 hW3 wb w1 w2 w3 f0 f1 f2 f3 g0 g1 g2 g3 gf HF4 HT4 HIX HBEL HV4
      go_cut [13, 14] (fun s13 s14 wx => ∃ gl gm : Nat, s13 = .slice (some ⟨gl, 0, none⟩) 3 3 ∧ s14 = .slice (some ⟨gm, 0, none⟩) 3 3 ∧ w.heap.size + 3 ≤ gl ∧ w.heap.size + 3 ≤ gm ∧ gl ≠ gm ∧ Hid (HullM w d (fromV S low) (toV S high) (fromV S low) (fun _ => 0) (fun _ => 0) gl gm wx))
      case first =>
        go_region
        all_goals
          go_wp2_with fail
          go_meet
        · exact ⟨_, _, rfl, rfl, by omega, by omega, by omega, HM2.out.1.drewN 1⟩
        · exact ⟨_, _, rfl, rfl, by omega, by omega, by omega, HM2.out.2.drewN 1⟩
      case rest =>
        obtain ⟨gl, gm, rfl, rfl, l1, l2, hne, HM⟩ := hcut
        clear HM2 mk c4' hsz3 ws hsz
        have hne' : gm ≠ gl := fun e => hne e.symm
        have HFT : Hid (∀ i, i < d → 0 ≤ fromV S low i ∧ fromV S low i ≤ toV S high i ∧ toV S high i ≤ size - 1) := fun i hi => by
          obtain ⟨r0, r1, r2⟩ := HR.out i (by rw [HL.out]; exact hi)
          refine ⟨Int.ediv_nonneg r0 (by omega), Int.ediv_le_ediv (by omega) (by omega), toV_le s1 s3 r2⟩
        obtain ⟨F, hF⟩ : ∃ F, F = fromV S low := ⟨_, rfl⟩
        obtain ⟨T, hT⟩ : ∃ T, T = toV S high := ⟨_, rfl⟩
        rw [← hF, ← hT] at HM
        rw [← hF, ← hT] at HFT
        have HFE := Lib.hid (And.intro hF hT)
        clear hF hT HR HX HY
        have hs1 : 1 ≤ size := by omega
        have HI0 : Hid (HullI d size F T (fun o => valAt P d o) true F (fun _ => 0) (fun _ => 0)) := ⟨fun i hi => ⟨Int.le_refl _, (HFT.out i hi).2.1⟩, fun _ c' hc' => lexB_first hc', .inr rfl, fun o _ => ⟨⟨by omega, by omega⟩, by omega, by omega⟩⟩
        obtain ⟨g0, hg0⟩ : ∃ g0 : Nat, (g0 : Int) = 6561 - numB size d F := ⟨(6561 - numB size d F).toNat, by
          have := numB_bd hs1 s5 d4 (c := F) (fun i hi => by have := HFT.out i hi; omega)
          omega⟩
        have HG0 := Lib.hid hg0
        clear hg0
        go_wp2
        go_loopg [15] g0 (fun g s15 wr => ∃ (f : Bool) (c lo hi : Nat → Int), s15 = .bool f ∧ Hid ((g : Int) = 6561 - numB size d c) ∧ Hid (HullI d size F T (fun o => valAt P d o) f c lo hi) ∧ Hid (HullM w d F T c lo hi gl gm wr))
        case atStart => exact ⟨true, F, _, _, rfl, HG0, HI0, HM⟩
        case round =>
          clear HG0 HI0 HM
          obtain ⟨f, c, lo, hi, rfl, HG, HI, HM⟩ := hrel
          have HCS : Hid (∀ i, i < d → 0 ≤ c i ∧ c i ≤ size - 1) := fun i hi => by
            have h1 := HI.out.inb i hi
            have h2 := HFT.out i hi
            omega
          obtain ⟨n, hn, hn2, hn3, hnv⟩ := valAt_in HOK.out.grid HE.out.2.2.2.1 HE.out.2.2.2.2.1 (c := c) (fun i hi => by rw [← HE.out.2.2.1]; exact HCS.out i hi)
          rw [← HE.out.2.2.1] at hn
          obtain ⟨m, hm⟩ : ∃ m, m = n * 3 := ⟨_, rfl⟩
          have hat : Hid (Calls Try.prog 30 #[.pointer (some ⟨b, 3, none⟩), .slice (some ⟨w.heap.size + 1 + 1, 0, none⟩) d 4] wr fun e w' => e = .returned (.int .i64 m) ∧ wr = w') :=
            at_box (keepCell HM.out.bel c4) (keepCell HM.out.bel c5) HM.out.idx d4 hs1 s5 HCS.out hn hm
          have hcut4 := run_cut4 wr (w.heap.size + 1 + 1) d d4
          have c3r := keepCell HM.out.bel c3
          have c4r := keepCell HM.out.bel c4
          have hls := HM.out.ll
          have hbr : b < wr.heap.size := by omega
          have m1 : m ≤ 32766 := by omega
          rw [← hm] at hn2 hnv
          have HNV := Lib.hid hnv
          clear hn hm hn3 hnv
          go_wp2_with (go_at_call 30; refine hat.out.mono ?_; rintro e w2 ⟨rfl, rfl⟩)
          clear hat hcut4 c3r c4r
          obtain ⟨wo, rfl⟩ : ∃ wo : World, wo = wr := ⟨_, rfl⟩
          go_loopw [73] (fun i wr => ∃ q : Nat, q ≤ 3 ∧ i = .int .i64 q ∧ Hid (HullM w d F T c (loQ f lo (fun o => valAt P d o c) q) (hiQ f hi (fun o => valAt P d o c) q) gl gm wr)) (fun i _ => 3 - (intOf i).toNat)
          case atStart => exact ⟨0, by omega, rfl, HM.out.congr (fun _ _ => rfl) (fun o _ => (if_neg (by omega)).symm) (fun o _ => (if_neg (by omega)).symm)⟩
          case round =>
            clear HM
            obtain ⟨q, hq, rfl, HQ⟩ := hrel
            have c3r := keepCell HQ.out.bel c3
            have c4r := keepCell HQ.out.bel c4
            have hls2 := HQ.out.ll
            have hlm2 := HQ.out.lm
            have hbr2 : b < wr.heap.size := by omega
            by_cases hq3 : q < 3
            · obtain ⟨hlen, hval, hv1, hv2⟩ := HNV.out q hq3
              have hlen2 : m + q < P.vals.length := hlen
              have f1 := HQ.out.lo.at' q hq3
              have e0 : loQ f lo (fun o => valAt P d o c) q q = lo q := if_neg (by omega)
              rw [e0] at f1
              have f2 := HQ.out.lo.fz q
              have f3 := HQ.out.hi.at' q hq3
              have e1 : hiQ f hi (fun o => valAt P d o c) q q = hi q := if_neg (by omega)
              rw [e1] at f3
              have f4 := HQ.out.hi.fz q
              obtain ⟨bv, offv, rfl, f5⟩ := (HH.out.prof.vals.below HQ.out.bel).int hlen
              rw [← hval] at f5
              have f6 := keepCell HQ.out.bel c6
              obtain ⟨v, hv⟩ : ∃ v, v = valAt P d q c := ⟨_, rfl⟩
              obtain ⟨l, hl⟩ : ∃ l, l = lo q := ⟨_, rfl⟩
              obtain ⟨h, hh⟩ : ∃ h, h = hi q := ⟨_, rfl⟩
              rw [← hl] at f1
              rw [← hh] at f3
              rw [← hv] at f5 hv1 hv2
              obtain ⟨r, hr⟩ : ∃ r, r = m + q := ⟨_, rfl⟩
              have gr : IntKind.i64.wrap ((m : Int) + (q : Int)) = (r : Int) := by rw [IntWalk.i64_in _ (by omega)]; omega
              rw [← hr] at f5 hlen2
              obtain ⟨N, hN⟩ : ∃ N, N = P.vals.length := ⟨_, rfl⟩
              rw [← hN] at f6 hlen2
              have r1 : (r : Int) < (N : Int) := by omega
              have r2 : (0 : Int) ≤ (r : Int) := by omega
              have r3 : (q : Int) < 3 := by omega
              have r4 : (0 : Int) ≤ (q : Int) := by omega
              have HVE := Lib.hid (And.intro hv (And.intro hl hh))
              clear hval hlen hN hr e0 e1 hn2 hv hl hh
              rcases f with _ | _
              · have hll : Hid (v < l → v = loV false (lo q) ((fun o => valAt P d o c) q)) := fun e => by
                  show v = loV false (lo q) (valAt P d q c)
                  rw [← HVE.out.1, ← HVE.out.2.1]; unfold loV; rw [if_pos (.inr e)]
                have hln : Hid (¬ v < l → lo q = loV false (lo q) ((fun o => valAt P d o c) q)) := fun e => by
                  show lo q = loV false (lo q) (valAt P d q c)
                  rw [← HVE.out.1, ← HVE.out.2.1]; unfold loV; rw [if_neg (by rintro (h | h); cases h; exact e h)]
                have hhl : Hid (h < v → v = hiV false (hi q) ((fun o => valAt P d o c) q)) := fun e => by
                  show v = hiV false (hi q) (valAt P d q c)
                  rw [← HVE.out.1, ← HVE.out.2.2]; unfold hiV; rw [if_pos (.inr e)]
                have hhn : Hid (¬ h < v → hi q = hiV false (hi q) ((fun o => valAt P d o c) q)) := fun e => by
                  show hi q = hiV false (hi q) (valAt P d q c)
                  rw [← HVE.out.1, ← HVE.out.2.2]; unfold hiV; rw [if_neg (by rintro (h | h); cases h; exact e h)]
                by_cases h1 : v < l
                · by_cases h2 : h < v
                  · have HNX : Hid (HullM w d F T c (loQ false lo (fun o => valAt P d o c) (q + 1)) (hiQ false hi (fun o => valAt P d o c) (q + 1)) gl gm ((wr.setCell ⟨gl, q, none⟩ (.int .i64 v)).setCell ⟨gm, q, none⟩ (.int .i64 v))) :=
                      ((HQ.out.setLo l1 l2 hne hq3 v).setHi l1 l2 hne hq3 v).congr (fun _ _ => rfl) (fun o _ => loQ_set (hll.out h1)) (fun o _ => hiQ_set (hhl.out h2))
                    go_wp2
                    go_roundw
                    case rel => exact ⟨q + 1, by omega, by go_num, HNX⟩
                    case measure => simp [intOf]; omega
                  · have HNX : Hid (HullM w d F T c (loQ false lo (fun o => valAt P d o c) (q + 1)) (hiQ false hi (fun o => valAt P d o c) (q + 1)) gl gm (wr.setCell ⟨gl, q, none⟩ (.int .i64 v))) :=
                      (HQ.out.setLo l1 l2 hne hq3 v).congr (fun _ _ => rfl) (fun o _ => loQ_set (hll.out h1)) (fun o _ => hiQ_skip (hhn.out h2))
                    go_wp2
                    go_roundw
                    case rel => exact ⟨q + 1, by omega, by go_num, HNX⟩
                    case measure => simp [intOf]; omega
                · by_cases h2 : h < v
                  · have HNX : Hid (HullM w d F T c (loQ false lo (fun o => valAt P d o c) (q + 1)) (hiQ false hi (fun o => valAt P d o c) (q + 1)) gl gm (wr.setCell ⟨gm, q, none⟩ (.int .i64 v))) :=
                      (HQ.out.setHi l1 l2 hne hq3 v).congr (fun _ _ => rfl) (fun o _ => loQ_skip (hln.out h1)) (fun o _ => hiQ_set (hhl.out h2))
                    go_wp2
                    go_roundw
                    case rel => exact ⟨q + 1, by omega, by go_num, HNX⟩
                    case measure => simp [intOf]; omega
                  · have HNX : Hid (HullM w d F T c (loQ false lo (fun o => valAt P d o c) (q + 1)) (hiQ false hi (fun o => valAt P d o c) (q + 1)) gl gm wr) :=
                      HQ.out.congr (fun _ _ => rfl) (fun o _ => loQ_skip (hln.out h1)) (fun o _ => hiQ_skip (hhn.out h2))
                    go_wp2
                    go_roundw
                    case rel => exact ⟨q + 1, by omega, by go_num, HNX⟩
                    case measure => simp [intOf]; omega
              · have HNX : Hid (HullM w d F T c (loQ true lo (fun o => valAt P d o c) (q + 1)) (hiQ true hi (fun o => valAt P d o c) (q + 1)) gl gm ((wr.setCell ⟨gl, q, none⟩ (.int .i64 v)).setCell ⟨gm, q, none⟩ (.int .i64 v))) :=
                  ((HQ.out.setLo l1 l2 hne hq3 v).setHi l1 l2 hne hq3 v).congr (fun _ _ => rfl) (fun o _ => loQ_set (by rw [HVE.out.1]; unfold loV; rw [if_pos (.inl rfl)])) (fun o _ => hiQ_set (by rw [HVE.out.1]; unfold hiV; rw [if_pos (.inl rfl)]))
                go_wp2
                go_roundw
                case rel => exact ⟨q + 1, by omega, by go_num, HNX⟩
                case measure => simp [intOf]; omega
            · obtain rfl : q = 3 := by omega
              obtain ⟨lo', hlo'⟩ : ∃ lo' : Nat → Int, lo' = fun o => loV f (lo o) (valAt P d o c) := ⟨_, rfl⟩
              obtain ⟨hi', hhi'⟩ : ∃ hi' : Nat → Int, hi' = fun o => hiV f (hi o) (valAt P d o c) := ⟨_, rfl⟩
              have HCV : Hid (Cov d F T (fun o => valAt P d o) (fun c' => LexB d c' c ∨ SameB d c' c) lo' hi') := by
                rw [hlo', hhi']
                exact Cov.see HI.out.fst HI.out.cov (fun o c' hs => by
                  show valAt P d o c' = valAt P d o c
                  unfold valAt
                  congr 2
                  congr 2
                  congr 1
                  exact List.map_congr_left fun i hi => hs i (List.mem_range.1 hi))
              have HBD : Hid (∀ o, o < 3 → (-65535 ≤ lo' o ∧ lo' o ≤ 65535) ∧ -65535 ≤ hi' o ∧ hi' o ≤ 65535) := fun o ho => by
                obtain ⟨_, _, h1, h2⟩ := HNV.out o ho
                have h3 := HI.out.bd o ho
                rw [hlo', hhi']
                exact ⟨loV_bd h3.1 ⟨h1, h2⟩, hiV_bd h3.2 ⟨h1, h2⟩⟩
              have HM2 : Hid (HullM w d F T (mixE c F d) lo' hi' gl gm wr) := by
                rw [hlo', hhi']
                exact HQ.out.congr (fun i hi => (if_pos hi).symm) (fun o ho => if_pos ho) (fun o ho => if_pos ho)
              have HTL : Hid (∀ i, d ≤ i → i < d → c i = T i) := fun i h1 h2 => by omega
              clear hlo' hhi' HQ HNV
              go_wp2
              clear c3r c4r
              obtain ⟨w6, rfl⟩ : ∃ w6 : World, w6 = wr := ⟨_, rfl⟩
              go_loopw [19] (fun s19 wr => ∃ j : Nat, j ≤ d ∧ s19 = .int .i64 ((j : Int) - 1) ∧ Hid (∀ i, j ≤ i → i < d → c i = T i) ∧ Hid (HullM w d F T (mixE c F j) lo' hi' gl gm wr)) (fun s19 _ => (intOf s19 + 1).toNat)
              case atStart => exact ⟨d, Nat.le_refl _, rfl, HTL, HM2⟩
              case round =>
                clear HM2 HTL
                obtain ⟨j, hj, rfl, HT, HM⟩ := hrel
                have hls3 := HM.out.ll
                by_cases hj0 : j = 0
                · subst hj0
                  rw [show ((0 : Nat) : Int) - 1 = -1 from rfl]
                  have HF : Hid (∀ q, RetHull d F T (fun o => valAt P d o) w (.returned (.tuple #[.slice (some ⟨gl, 0, none⟩) 3 3, .slice (some ⟨gm, 0, none⟩) 3 3])) (wr.drewN q)) := fun q =>
                    ⟨gl, gm, lo', hi', rfl, HM.out.lo.drewN q, HM.out.hi.drewN q, HBD.out, fun c' hin _ => HCV.out c' hin (lexB_last hin (fun i hi => HT.out i (by omega) hi)), bdrewN HM.out.bel q⟩
                  go_wp2
                  go_quiet (fail)
                  go_wp2
                  refine bodyPost_ret (v := .tuple #[.slice (some ⟨gl, 0, none⟩) 3 3, .slice (some ⟨gm, 0, none⟩) 3 3]) (by simp [results, Try.results32, go_sem]) rfl ?_
                  rw [← HFE.out.1, ← HFE.out.2]
                  exact HF.out _
                · obtain ⟨k, rfl⟩ : ∃ k, j = k + 1 := ⟨j - 1, by omega⟩
                  have hkd : k < d := by omega
                  have e1 := HM.out.idx.at' k hkd
                  have e0 : mixE c F (k + 1) k = c k := if_pos (by omega)
                  rw [e0] at e1
                  have e2 := HM.out.up.at' k hkd
                  have hck := HCS.out k hkd
                  have HCF := HFT.out k hkd
                  have HSK : Hid (c k = T k → ∀ q, HullM w d F T (mixE c F k) lo' hi' gl gm ((wr.drewN q).setCell ⟨w.heap.size + 1 + 1, k, none⟩ (.int .i64 (F k)))) := fun hcT q => by
                    refine ((HM.out.drewN q).setIdx l1 l2 hkd (F k)).congr (fun i hi => ?_) (fun _ _ => rfl) (fun _ _ => rfl)
                    unfold mixE
                    by_cases e : i = k
                    · subst e; rw [if_pos rfl, if_neg (by omega)]
                    · rw [if_neg e]
                      by_cases e2 : i < k
                      · rw [if_pos e2, if_pos (by omega)]
                      · rw [if_neg e2, if_neg (by omega)]
                  have HTK : Hid (c k = T k → ∀ i, k ≤ i → i < d → c i = T i) := fun hcT i h1 h2 => by
                    by_cases e : i = k
                    · subst e; exact hcT
                    · exact HT.out i (by omega) h2
                  have HNW : Hid (∀ q, HullM w d F T (nextB F c k) lo' hi' gl gm ((wr.drewN q).setCell ⟨w.heap.size + 1 + 1, k, none⟩ (.int .i64 (c k + 1)))) := fun q => by
                    refine ((HM.out.drewN q).setIdx l1 l2 hkd (c k + 1)).congr (fun i hi => ?_) (fun _ _ => rfl) (fun _ _ => rfl)
                    unfold mixE nextB
                    by_cases e : i = k
                    · subst e; rw [if_pos rfl, if_neg (by omega), if_pos rfl]
                    · rw [if_neg e]
                      by_cases e2 : i < k
                      · rw [if_pos e2, if_pos (by omega)]
                      · rw [if_neg e2, if_neg (by omega), if_neg e]
                  have HNI : Hid (c k ≠ T k → HullI d size F T (fun o => valAt P d o) false (nextB F c k) lo' hi') := fun hne2 =>
                    ⟨nextB_in hkd HI.out.inb (fun i hi => (HFT.out i hi).2.1) hne2, fun h => by (cases h), .inl fun c' hin hlx => HCV.out c' hin (lexB_next hkd hin (fun i h1 h2 => HT.out i (by omega) h2) hlx), HBD.out⟩
                  have HNG : Hid (c k ≠ T k → ∃ g' : Nat, (g' : Int) = 6561 - numB size d (nextB F c k) ∧ (g' : Int) < 6561 - numB size d c) := fun hne2 => by
                    have hin := nextB_in hkd HI.out.inb (fun i hi => (HFT.out i hi).2.1) hne2
                    have h1 := numB_bd hs1 s5 d4 (c := nextB F c k) (fun i hi => by have := hin i hi; have := HFT.out i hi; omega)
                    have h2 := numB_next hs1 (F := F) (c := c) (k := k) (d - (k + 1)) (fun i hi => ⟨(HFT.out i (by omega)).1, (HCS.out i (by omega)).2⟩)
                    rw [show k + 1 + (d - (k + 1)) = d by omega] at h2
                    exact ⟨(6561 - numB size d (nextB F c k)).toNat, by omega, by omega⟩
                  obtain ⟨ck, hck'⟩ : ∃ ck, ck = c k := ⟨_, rfl⟩
                  obtain ⟨Tk, hTk⟩ : ∃ Tk, Tk = T k := ⟨_, rfl⟩
                  obtain ⟨Fk, hFk⟩ : ∃ Fk, Fk = F k := ⟨_, rfl⟩
                  have e3 := HM.out.fr.at' k hkd
                  rw [← hck'] at e1 hck HSK HTK HNW HNI HNG
                  rw [← hTk] at e2 HCF HSK HTK HNI HNG
                  rw [← hFk] at e3 HCF HSK
                  have q1 : ((k + 1 : Nat) : Int) - 1 = (k : Int) := by omega
                  have q2 : (0 : Int) ≤ (k : Int) := by omega
                  have q3 : (k : Int) < 4 := by omega
                  have q4 : ¬ (k : Int) < 0 := by omega
                  have hxz := HM.out.idx.fz k
                  rw [q1]
                  clear hck' hTk hFk e0 q1
                  by_cases hcT : ck = Tk
                  · have HA := Lib.hid (HSK.out hcT)
                    have HB := Lib.hid (HTK.out hcT)
                    subst hcT
                    go_wp2
                    go_quiet (fail)
                    have HA2 := Lib.hid (HA.out nq)
                    have y1 : (wr.drewN nq).cell? ⟨w.heap.size + 1 + 1, k, none⟩ = some (.int .i64 ck) := e1
                    have y2 : (wr.drewN nq).cell? ⟨w.heap.size, k, none⟩ = some (.int .i64 Fk) := e3
                    have y3 : (wr.drewN nq).frozen? ⟨w.heap.size + 1 + 1, k, none⟩ = false := hxz
                    generalize wr.drewN nq = W7 at *
                    go_wp2
                    refine ⟨⟨_, _, _, _, _, _, _, _, _, _, _, _, _, _, _, _, _, _, _, ⟨k, by omega, rfl, HB, HA2⟩, rfl⟩, ?_⟩
                    simp [intOf]
                  · have HA := Lib.hid (HNI.out hcT)
                    obtain ⟨g', hg', hgl⟩ := HNG.out hcT
                    have HG' := Lib.hid hg'
                    clear hg'
                    go_wp2
                    go_quiet (fail)
                    have HA2 := Lib.hid (HNW.out nq)
                    have y1 : (wr.drewN nq).cell? ⟨w.heap.size + 1 + 1, k, none⟩ = some (.int .i64 ck) := e1
                    have y3 : (wr.drewN nq).frozen? ⟨w.heap.size + 1 + 1, k, none⟩ = false := hxz
                    generalize wr.drewN nq = W7 at *
                    go_wp2
                    go_roundg g'
                    case measure => have := HG.out; omega
                    case rel => exact ⟨false, _, _, _, rfl, HG', HA, HA2⟩
end Go.Proofs.Ytiokmfmcmfbjoaa
