/-
  A report that grows; the argument's rows. Own text.
-/
import Derived.Test.YtcpjpmijfjdifaaGreatDoorSrt
import Derived.Test.YtcpjpmijfjdifaaGreatDoorCycle
import Derived.Test.YtcpjpmijfjdifaaGreatDoorRegion
import Derived.Deep.RegionLaw
import Derived.Deep.RegionHeld3
import Derived.Deep.AppendLies
namespace Go.Proofs.YtcpjpmijfjdifaaGreatDoor
open Go.RowKit
set_option linter.unusedVariables false
section
variable {P : Program} {w : World} {ops : Array Oper} {o : Oper} {a : Act} {K : Act → World → Prop} {Q : Exit → Act → World → Prop} {E : Prop}
theorem step_app1L {α : Type} (hgd : o.guard = none) (s x : Operand) (t : TypeId)
    (ho : o.op = .call { callee := .builtin .append, args := #[s, x], argTypes := #[t, t] })
    {e : TypeId} {z : Value} {size bytes : Nat} (hE : ElemType P e z size bytes) (ht : P.underlying t = some (.slice e))
    (base : Nat) (v : Value) (xs : List α) (enc : α → List Value) (hs : a.eval s = v) (hown : Own w base e size enc v xs) (y : α)
    (ad : Addr) (c : Nat) (hx : a.eval x = .slice (some ad) 1 c) (hl : (enc y).length = size) (hnews : ∀ j u, (enc y)[j]? = some u → w.cell? (ad.add j) = some u) (h1 : ∀ u ∈ enc y, u.oneCell' = true)
    (hbytes : (xs.length + 1) * bytes ≤ 140737488355328) (h63 : xs.length + 1 ≤ maxLen) (hbase : base ≤ w.heap.size)
    (h : ∀ g cap w', Own w' base e size enc (.slice (some ⟨g, 0, none⟩) (xs.length + 1) cap) (xs ++ [y]) → w.grownBy w' v.ownBlock → (v.ownBlock = some g ∨ g = w.heap.size) → K (a.put o.dst (.slice (some ⟨g, 0, none⟩) (xs.length + 1) cap)) w') : if Region.wanted o (yielded ops a.tmps) = true then Oper.wp P o a w K Q else E := by
  obtain ⟨i, hi, hz, hsz, hby, hzs, h0⟩ := hE
  refine step_append_lies w hgd s x t ho base e i z size bytes ht hi hz hsz hby hzs h0 v xs.length (xs.flatMap enc) hs hown ad 1 c (enc y) hx (by rw [hl, Nat.one_mul]) hnews h1 (by omega) h63 hbytes hbase w.heap.size rfl ?_
  intro g cap w' hown' hg hat _
  refine h g cap w' ?_ hg hat
  unfold Own
  rw [List.length_append, List.flatMap_append]
  simpa using hown'
end
/-- The argument: a slice of slices. -/
structure Args (w : World) (fs : List (List Pt)) (oa : Option Addr) (so : Nat → Option Addr) (sc : Nat → Nat) : Prop where
  hd : ∀ k, k < fs.length → ∃ b off, oa = some ⟨b, off, none⟩ ∧ w.cell? ⟨b, off + k, none⟩ = some (.slice (so k) (ln fs k) (sc k))
  row : ∀ k (h : k < fs.length), Flat w 2 encPt (so k) fs[k]
theorem Args.below {w w' : World} {fs : List (List Pt)} {oa : Option Addr} {so : Nat → Option Addr} {sc : Nat → Nat} (h : Args w fs oa so sc) (hb : Below w.heap.size w w') : Args w' fs oa so sc :=
  ⟨fun k hk => by obtain ⟨b, off, e, hc⟩ := h.hd k hk; exact ⟨b, off, e, keepCell hb hc⟩, fun k hk => (h.row k hk).below hb⟩
def repF (vg vp : Value) (c : Int) (vs : Nat → Value) : Nat → Value
  | 0 => vg
  | 1 => vp
  | 2 => vs 0
  | 3 => .int .i64 c
  | 4 => vs 1
  | 5 => vs 2
  | _ => vs 3
def posR : Nat → Nat
  | 0 => 2
  | 1 => 4
  | 2 => 5
  | _ => 6
def zeroR : Nat → Value
  | 3 => .int .i64 0
  | _ => .slice none 0 0
structure RAt (w w' : World) (rb : Nat) (vg vp : Value) (c : Int) (vs : Nat → Value) (xs : Nat → List Int) : Prop where
  bel : Below w.heap.size w w'
  tab : FTab (fun v : Value => v) w' rb 7 (repF vg vp c vs)
  own : ∀ i, i < 4 → Own w' (rb + 1) 3 1 encInt (vs i) (xs i)
  sep : ∀ i j, i < 4 → j < 4 → i ≠ j → ∀ g, (vs i).ownBlock = some g → (vs j).ownBlock ≠ some g
  zb : FTab (fun v : Value => v) w' w.heap.size 7 zeroR
  lz : w.heap.size < rb
theorem RAt.lo {w w' : World} {rb : Nat} {vg vp : Value} {c : Int} {vs : Nat → Value} {xs : Nat → List Int} (h : RAt w w' rb vg vp c vs xs) : w.heap.size ≤ rb := Nat.le_of_lt h.lz
theorem RAt.lt {w w' : World} {rb : Nat} {vg vp : Value} {c : Int} {vs : Nat → Value} {xs : Nat → List Int} (h : RAt w w' rb vg vp c vs xs) : rb < w'.heap.size := h.tab.lt (by omega)
theorem RAt.below {w w1 w2 : World} {rb : Nat} {vg vp : Value} {c : Int} {vs : Nat → Value} {xs : Nat → List Int} (h : RAt w w1 rb vg vp c vs xs) (hb : Below w1.heap.size w1 w2) : RAt w w2 rb vg vp c vs xs :=
  ⟨h.bel.trans (hb.mono h.bel.size), h.tab.below hb h.lt, fun i hi => (h.own i hi).below hb, h.sep, h.zb.below hb (Nat.lt_trans h.lz h.lt), h.lz⟩
theorem FTab.blk {α : Type} {f : α → Value} {w w' : World} {g n : Nat} {t : Nat → α} (h : FTab f w g n t) (hb : w'.heap[g]? = w.heap[g]?) : FTab f w' g n t := by
  refine ⟨fun i hi => ?_, fun o => ?_⟩
  · have := h.at' i hi
    unfold World.cell? at this ⊢
    simp only at this ⊢
    rw [hb]
    exact this
  · have := h.fz o
    unfold World.frozen? at this ⊢
    simp only at this ⊢
    rw [hb]
    exact this
section
variable {w w1 w2 : World} {rb : Nat} {vg vp : Value} {c : Int} {vs : Nat → Value} {xs : Nat → List Int}
theorem RAt.mid (h : RAt w w1 rb vg vp c vs xs) {i : Nat} (hi : i < 4) (hg : w1.grownBy w2 (vs i).ownBlock) : FTab (fun v : Value => v) w2 rb 7 (repF vg vp c vs) :=
  h.tab.blk (hg.block rb h.lt fun e => by have := ((h.own i hi).lt e.symm).1; omega)
/-- The row i is written anew, header and all. -/
theorem RAt.turn (h : RAt w w1 rb vg vp c vs xs) {i : Nat} (hi : i < 4) {ys : List Int} (hown : Own w2 (rb + 1) 3 1 encInt (vs i) ys) (hg : w1.grownBy w2 (vs i).ownBlock) : RAt w w2 rb vg vp c vs (upd xs i ys) := by
  refine ⟨h.bel.grown hg h.bel.size fun j hj => by have := ((h.own i hi).lt hj).1; have := h.lo; omega, h.mid hi hg, fun j hj => ?_, h.sep, h.zb.blk (hg.block _ (Nat.lt_trans h.lz h.lt) fun e => by have := ((h.own i hi).lt e.symm).1; have := h.lz; omega), h.lz⟩
  by_cases e : j = i
  · subst e; rw [upd_same]; exact hown
  · rw [upd_ne _ _ e]
    exact (h.own j hj).blocks fun b hb => hg.block b ((h.own j hj).lt hb).2 fun e2 => h.sep j i hj hi e b hb e2.symm
/-- The row i has grown; its new header is stored. -/
theorem RAt.put (h : RAt w w1 rb vg vp c vs xs) {i : Nat} (hi : i < 4) {ys : List Int} {v' : Value} (hown : Own w2 (rb + 1) 3 1 encInt v' ys) (hg : w1.grownBy w2 (vs i).ownBlock) (hat : v'.ownBlock = (vs i).ownBlock ∨ v'.ownBlock = some w1.heap.size) : RAt w (w2.setCell ⟨rb, posR i, none⟩ v') rb vg vp c (upd vs i v') (upd xs i ys) := by
  have hc : ∀ {α : Type} {e : TypeId} {k : Nat} {enc : α → List Value} {u : Value} {zs : List α}, Own w2 (rb + 1) e k enc u zs → Own (w2.setCell ⟨rb, posR i, none⟩ v') (rb + 1) e k enc u zs := fun ho =>
    ho.blocks fun b hb => Below.heap_setCell _ _ _ _ (fun e2 => by have e3 : b = rb := e2; have := (ho.lt hb).1; omega)
  have hpos : posR i < 7 := by unfold posR; split <;> omega
  have hlt := h.lt
  refine ⟨(h.bel.grown hg h.bel.size fun j hj => by have := ((h.own i hi).lt hj).1; have := h.lo; omega).setCell (p := ⟨rb, posR i, none⟩) h.lo v', ((h.mid hi hg).set hpos v').congr fun j hj => ?_, fun j hj => ?_, fun j k hj hk hjk b hb e2 => ?_, (h.zb.blk (hg.block _ (Nat.lt_trans h.lz h.lt) fun e => by have := ((h.own i hi).lt e.symm).1; have := h.lz; omega)).other (fun e => by have := h.lz; omega) v', h.lz⟩
  · match i, hi, j, hj with
    | 0, _, 0, _ => rfl
    | 0, _, 1, _ => rfl
    | 0, _, 2, _ => rfl
    | 0, _, 3, _ => rfl
    | 0, _, 4, _ => rfl
    | 0, _, 5, _ => rfl
    | 0, _, 6, _ => rfl
    | 1, _, 0, _ => rfl
    | 1, _, 1, _ => rfl
    | 1, _, 2, _ => rfl
    | 1, _, 3, _ => rfl
    | 1, _, 4, _ => rfl
    | 1, _, 5, _ => rfl
    | 1, _, 6, _ => rfl
    | 2, _, 0, _ => rfl
    | 2, _, 1, _ => rfl
    | 2, _, 2, _ => rfl
    | 2, _, 3, _ => rfl
    | 2, _, 4, _ => rfl
    | 2, _, 5, _ => rfl
    | 2, _, 6, _ => rfl
    | 3, _, 0, _ => rfl
    | 3, _, 1, _ => rfl
    | 3, _, 2, _ => rfl
    | 3, _, 3, _ => rfl
    | 3, _, 4, _ => rfl
    | 3, _, 5, _ => rfl
    | 3, _, 6, _ => rfl
  · by_cases e : j = i
    · subst e; rw [upd_same, upd_same]; exact hc hown
    · rw [upd_ne _ _ e, upd_ne _ _ e]
      exact hc ((h.own j hj).blocks fun b hb => hg.block b ((h.own j hj).lt hb).2 fun e2 => h.sep j i hj hi e b hb e2.symm)
  · by_cases ej : j = i
    · subst ej
      rw [upd_same] at hb
      rw [upd_ne _ _ (fun e => hjk e.symm)] at e2
      rcases hat with e3 | e3
      · rw [e3] at hb; exact h.sep j k hj hk hjk b hb e2
      · rw [e3] at hb
        cases hb
        have := ((h.own k hk).lt e2).2
        omega
    · rw [upd_ne _ _ ej] at hb
      by_cases ek : k = i
      · subst ek
        rw [upd_same] at e2
        rcases hat with e3 | e3
        · rw [e3] at e2; exact h.sep j k hj hk hjk b hb e2
        · rw [e3] at e2
          cases e2
          have := ((h.own j hj).lt hb).2
          omega
      · rw [upd_ne _ _ ek] at e2
        exact h.sep j k hj hk hjk b hb e2
end
theorem RAt.start (w : World) (vg vp : Value) (c : Int) : RAt w ((w.alloc (.cells #[.slice none 0 0, .slice none 0 0, .slice none 0 0, .int .i64 0, .slice none 0 0, .slice none 0 0, .slice none 0 0] 37)).alloc (.cells #[vg, vp, .slice none 0 0, .int .i64 c, .slice none 0 0, .slice none 0 0, .slice none 0 0] 37)) (w.heap.size + 1) vg vp c (fun _ => .slice none 0 0) (fun _ => []) := by
  obtain ⟨w1, hw1⟩ : ∃ w1, w1 = w.alloc (.cells #[.slice none 0 0, .slice none 0 0, .slice none 0 0, .int .i64 0, .slice none 0 0, .slice none 0 0, .slice none 0 0] 37) := ⟨_, rfl⟩
  rw [← hw1]
  have hs : w1.heap.size = w.heap.size + 1 := by rw [hw1]; exact World.size_alloc _ _
  have hb : Below w.heap.size w w1 := by rw [hw1]; exact balloc (Below.refl _ w) _
  have hz : FTab (fun v : Value => v) w1 w.heap.size 7 zeroR := by
    refine ⟨fun i hi => ?_, fun o => ?_⟩
    · rw [hw1, cell_of_row _ w.heap.size i _ _ (0, 0) (heap_alloc_new w _)]
      match i, hi with
      | 0, _ => rfl
      | 1, _ => rfl
      | 2, _ => rfl
      | 3, _ => rfl
      | 4, _ => rfl
      | 5, _ => rfl
      | 6, _ => rfl
    · unfold World.frozen?
      rw [hw1, heap_alloc_new]
      simp
  refine ⟨bthen hb (balloc (Below.refl _ w1) _), ?_, fun i hi => Own.nil _ _ _ _ _, fun i j hi hj hij b hb => (by cases hb), hz.alloc (by omega) _, by omega⟩
  rw [← hs]
  refine ⟨fun i hi => ?_, fun o => ?_⟩
  · rw [cell_of_row _ w1.heap.size i _ _ (0, 0) (heap_alloc_new w1 _)]
    match i, hi with
    | 0, _ => rfl
    | 1, _ => rfl
    | 2, _ => rfl
    | 3, _ => rfl
    | 4, _ => rfl
    | 5, _ => rfl
    | 6, _ => rfl
  · unfold World.frozen?
    rw [heap_alloc_new]
    simp
/-! ### The copies that are missing -/
def misses (g : List Int) (x : Pt) : Bool := !(x.copy == 0) && !g.contains x.copy
def missOf (g : List Int) (l : List Pt) : List Int := (l.filter (misses g)).map Pt.copy
def missTo (fs : List (List Pt)) (g : List Int) (k : Nat) : List Int := (fs.take k).flatMap (missOf g)
theorem missTo_succ (fs : List (List Pt)) (g : List Int) (k : Nat) (h : k < fs.length) : missTo fs g (k + 1) = missTo fs g k ++ missOf g fs[k] := by
  unfold missTo
  rw [List.take_succ_eq_append_getElem h, List.flatMap_append]
  simp
theorem missOf_succ (g : List Int) (l : List Pt) (j : Nat) (h : j < l.length) : missOf g (l.take (j + 1)) = missOf g (l.take j) ++ (if misses g l[j] then [l[j].copy] else []) := by
  unfold missOf
  rw [List.take_succ_eq_append_getElem h, List.filter_append, List.map_append]
  congr 1
  by_cases e : misses g l[j] = true
  · simp [e]
  · simp [e]
theorem missOf_len (g : List Int) (l : List Pt) : (missOf g l).length ≤ l.length := by
  unfold missOf
  rw [List.length_map]
  exact List.length_filter_le _ _
theorem missTo_len (fs : List (List Pt)) (g : List Int) (hl : ∀ k, ln fs k ≤ 512) (k : Nat) (hk : k ≤ fs.length) : (missTo fs g k).length ≤ 512 * k := by
  induction k with
  | zero => simp [missTo]
  | succ k ih =>
    have h1 := ih (by omega)
    have h2 := missOf_len g fs[k]
    have h3 := hl k
    rw [ln_get fs k (by omega)] at h3
    rw [missTo_succ fs g k (by omega), List.length_append]
    omega
theorem missing_is (fs : List (List Pt)) (g : List Int) : IsMissing fs g (Go.Lib.compact (srt (missTo fs g fs.length))) := by
  refine ⟨compact_strict (srt_sorted _), fun c => ?_⟩
  rw [compact_mem, (srt_perm _).mem_iff]
  unfold missTo
  rw [List.take_length]
  simp only [List.mem_flatMap, missOf, List.mem_map, List.mem_filter]
  constructor
  · rintro ⟨l, hl, x, ⟨hx, hm⟩, rfl⟩
    simp [misses] at hm
    exact ⟨hm.1, hm.2, l, hl, x, hx, rfl⟩
  · rintro ⟨h1, h2, l, hl, x, hx, rfl⟩
    exact ⟨l, hl, x, ⟨hx, by simp [misses, h1, h2]⟩, rfl⟩
def fedTo' (a : Nat → Nat) (k : Nat) : List Int := usedTo a k
def wstTo (a : Nat → Nat) (G k : Nat) : List Int := (List.range k).map fun (j : Nat) => (a j : Int) - G
theorem wstTo_succ (a : Nat → Nat) (G k : Nat) : wstTo a G (k + 1) = wstTo a G k ++ [(a k : Int) - G] := by simp [wstTo, List.range_succ]
theorem wstTo_len (a : Nat → Nat) (G k : Nat) : (wstTo a G k).length = k := by simp [wstTo]
def lftTo (fs : List (List Pt)) (a : Nat → Nat) (k : Nat) : List Int := (List.range k).map fun (j : Nat) => (ln fs j : Int) - a j
theorem lftTo_succ (fs : List (List Pt)) (a : Nat → Nat) (k : Nat) : lftTo fs a (k + 1) = lftTo fs a k ++ [(ln fs k : Int) - a k] := by simp [lftTo, List.range_succ]
theorem lftTo_len (fs : List (List Pt)) (a : Nat → Nat) (k : Nat) : (lftTo fs a k).length = k := by simp [lftTo]
end Go.Proofs.YtcpjpmijfjdifaaGreatDoor
