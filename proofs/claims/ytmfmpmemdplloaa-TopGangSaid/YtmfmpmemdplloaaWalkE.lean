/-
  The walk of the walker: a piece. Own text.
-/
import Derived.Test.YtmfmpmemdplloaaWalkA2
import Derived.Test.YtmfmpmemdplloaaRegion
import Derived.Deep.RegionLaw
namespace Go.Proofs.Ytmfmpmemdplloaa
open Go.RowKit
set_option linter.unusedVariables false
section
variable {P : Program} {w : World} {ops : Array Oper} {o : Oper} {a : Act} {K : Act → World → Prop} {Q : Exit → Act → World → Prop} {E : Prop}
/-- An append of one element in a region that draws, and where the new slice lies. -/
theorem step_app1L {α : Type} (hgd : o.guard = none) (s x : Operand) (t : TypeId)
    (ho : o.op = .call { callee := .builtin .append, args := #[s, x], argTypes := #[t, t] })
    {e : TypeId} {z : Value} {size bytes : Nat} (hE : ElemType P e z size bytes) (ht : P.underlying t = some (.slice e))
    (base : Nat) (v : Value) (xs : List α) (enc : α → List Value) (hs : a.eval s = v) (hown : Own w base e size enc v xs) (y : α)
    (ad : Addr) (c : Nat) (hx : a.eval x = .slice (some ad) 1 c) (hl : (enc y).length = size) (hnews : ∀ j u, (enc y)[j]? = some u → w.cell? (ad.add j) = some u) (h1 : ∀ u ∈ enc y, u.oneCell' = true)
    (hbytes : (xs.length + 1) * bytes ≤ 140737488355328) (h63 : xs.length + 1 ≤ maxLen) (hbase : base ≤ w.heap.size)
    (h : ∀ g cap w', Own w' base e size enc (.slice (some ⟨g, 0, none⟩) (xs.length + 1) cap) (xs ++ [y]) → w.grownBy w' v.ownBlock → (v.ownBlock = some g ∨ g = w.heap.size) → K (a.put o.dst (.slice (some ⟨g, 0, none⟩) (xs.length + 1) cap)) w') : if Region.wanted o (yielded ops a.tmps) = true then Oper.wp P o a w K Q else E := by
  obtain ⟨i, hi, hz, hsz, hby, hzs, h0⟩ := hE
  refine step_append_lies w hgd s x t ho base e i z size bytes ht hi hz hsz hby hzs h0 v xs.length (xs.flatMap enc) hs hown ad 1 c (enc y) hx (by rw [hl, Nat.one_mul]) hnews h1 (by omega) h63 hbytes hbase w.heap.size rfl ?_
  intro g cap w' hown' hg hat _
  refine h g cap w' ?_ hg hat
  unfold Own
  rw [List.length_append, List.flatMap_append]
  simpa using hown'
end
theorem Touch.grown {kb g cap n : Nat} {rv : Value} {w wx w' : World} (h : Touch kb rv rv w wx) (hg : wx.grownBy w' rv.ownBlock) (hat : rv.ownBlock = some g ∨ g = wx.heap.size) : Touch kb rv (.slice (some ⟨g, 0, none⟩) n cap) w w' := by
  have hs := h.size
  refine ⟨hg.os.trans h.os, hg.tape.trans h.tape, hg.output.trans h.output, Nat.le_trans hs hg.size, fun j hj hk hr => ?_, fun j hj => ?_⟩
  · rw [hg.block j (by omega) hr]; exact h.block j hj hk hr
  · have : g = j := by simpa [Value.ownBlock] using hj
    subst this
    rcases hat with h1 | h1
    · exact .inl h1
    · exact .inr (by omega)
theorem bgrown5 {w' w3 : World} {kb : Nat} {rv : Value} {e : TypeId} {rs : List Rect} {o : Obj} (hk : kb < w3.heap.size) (hown : Own w3 (kb + 1) e 5 encRect rv rs) (hg : (w3.alloc o).grownBy w' rv.ownBlock) : Below (kb + 1) w3 w' :=
  ((Below.refl (kb + 1) w3).alloc (by omega) o).grown hg (by have := ((Below.refl (kb + 1) w3).alloc (by omega) o).size; omega) fun j hj => (hown.lt j hj).1
theorem bgrown5' {w' w3 : World} {kb : Nat} {rv : Value} {e : TypeId} {rs : List Rect} {o : Obj} (hk : kb < w3.heap.size) (hown : Own w3 (kb + 1) e 5 encRect rv rs) (hg : (w3.drew.alloc o).grownBy w' rv.ownBlock) : Below (kb + 1) w3 w' :=
  ((Below.refl (kb + 1) w3).drew.alloc (by show kb + 1 ≤ w3.heap.size; omega) o).grown hg (by have := ((Below.refl (kb + 1) w3).drew.alloc (by show kb + 1 ≤ w3.heap.size; omega) o).size; omega) fun j hj => (hown.lt j hj).1
theorem bgrown5'' {w' w3 : World} {kb : Nat} {rv : Value} {e : TypeId} {rs : List Rect} {o : Obj} (hk : kb < w3.heap.size) (hown : Own w3 (kb + 1) e 5 encRect rv rs) (hg : (w3.alloc o).drew.grownBy w' rv.ownBlock) : Below (kb + 1) w3 w' :=
  ((Below.refl (kb + 1) w3).alloc (by omega) o).drew.grown hg (by have := ((Below.refl (kb + 1) w3).alloc (by omega) o).size; show kb + 1 ≤ (w3.alloc o).heap.size; omega) fun j hj => (hown.lt j hj).1
theorem fz5 {w3 w5 : World} {kb : Nat} (h : w3.frozen? ⟨kb, 2, none⟩ = false) (hb : Below (kb + 1) w3 w5) : w5.frozen? ⟨kb, 2, none⟩ = false := by
  rw [hb.frozen (by show kb < kb + 1; omega)]; exact h
theorem cl5 {w3 w5 : World} {kb : Nat} {v : Value} (h : w3.cell? ⟨kb, 2, none⟩ = some v) (hb : Below (kb + 1) w3 w5) : w5.cell? ⟨kb, 2, none⟩ = some v := by
  rw [hb.cell (by show kb < kb + 1; omega)]; exact h
set_option maxRecDepth 100000 in
set_option maxHeartbeats 4000000 in
theorem walk_piece (p : Nat) (items : List Item) (hp : p < items.length) (oa oi : Option Addr) (ci cap : Nat) (x y W H d : Int) (s : St) (kb : Nat) (rv : Value) (w0 w : World) (hx : Flat w0 4 encItem oi items) (hb0 : Below w0.heap.size w0 w) (hkb0 : w0.heap.size ≤ kb) (hn : s.nodes < 4096) (hd : d ≤ 80)
    (hg : s.Good) (hf : fitsB items[p] W H = true) (hw : WalkerAt w kb (.slice oi items.length ci) s rv) :
    Calls Try.prog 14 #[.pointer (some ⟨kb, 0, none⟩), .agg #[.int .i64 1, .int .i64 0, .int .i64 p, .slice oa 0 cap], .int .i64 x, .int .i64 y, .int .i64 W, .int .i64 H, .int .i64 d] w
      (PostWalk (.ok { nodes := s.nodes + 1, rects := s.rects ++ [⟨p, x, y, W, H⟩], waste := s.waste }) kb (.slice oi items.length ci) rv w) := by
  have hkb := hw.lt
  obtain ⟨b, off, rfl, i0, i1, i2, i3⟩ := (hx.below hb0).item hp
  have hbw : b < w0.heap.size := by
    obtain ⟨b', off', e, j0, _⟩ := hx.item hp
    simp only [Option.some.injEq, Addr.mk.injEq, and_true] at e
    obtain ⟨rfl, rfl⟩ := e
    exact cell?_lt j0
  have hbk : b ≠ kb := by omega
  have hbl : b < w.heap.size := by omega
  have hwn := hw.setNodes (n := s.nodes + 1) (z := (s.nodes : Int) + 1) (by omega)
  have hown0 := hw.own
  obtain ⟨g1, g2, g3, g4⟩ := hg
  obtain ⟨c0, c1, c2, c3, fz, _⟩ := hw
  have f1 := fz 1
  clear fz
  have HF := Lib.hid hf; clear hf
  have hB : Hid (∀ n, let w' := (((w.setCell ⟨kb, 1, none⟩ (.int .i64 ((s.nodes : Int) + 1))).alloc (.cells #[.int .i64 1, .int .i64 0, .int .i64 p, .slice oa 0 cap] 27)).drewN n)
      w'.cell? ⟨w.heap.size, 0, none⟩ = some (.int .i64 1) ∧ w'.cell? ⟨w.heap.size, 2, none⟩ = some (.int .i64 p) ∧ w'.cell? ⟨kb, 0, none⟩ = some (.slice (some ⟨b, off, none⟩) items.length ci) ∧
      w'.cell? ⟨b, off + p * 4, none⟩ = some (.int .i64 items[p].w) ∧ w'.cell? ⟨b, off + p * 4 + 1, none⟩ = some (.int .i64 items[p].h) ∧ w'.cell? ⟨b, off + p * 4 + 2, none⟩ = some (.int .i64 items[p].value) ∧ w'.cell? ⟨b, off + p * 4 + 3, none⟩ = some (.bool items[p].turn)) := by
    intro n w'
    refine ⟨?_, ?_, ?_, ?_, ?_, ?_, ?_⟩
    all_goals
      unfold w'
      go_simp
  go_enter Try.func14, Try.ntmps14
  go_wp2
  go_quiet (fail)
  have hB2 := hB.out nq
  have hWA : Hid (WalkerAt ((((w.setCell ⟨kb, 1, none⟩ (.int .i64 ((s.nodes : Int) + 1))).alloc (.cells #[.int .i64 1, .int .i64 0, .int .i64 p, .slice oa 0 cap] 27)).drewN nq)) kb (.slice (some ⟨b, off, none⟩) items.length ci) { s with nodes := s.nodes + 1 } rv) := by
    obtain ⟨q0, q1, q2, q3, q4, q5⟩ := hwn.alloc (.cells #[.int .i64 1, .int .i64 0, .int .i64 p, .slice oa 0 cap] 27)
    exact ⟨q0, q1, q2, q3, q4, q5⟩
  have hTO := Lib.hid ((((Touch.refl kb rv w).set 1 (.int .i64 ((s.nodes : Int) + 1))).alloc (.cells #[.int .i64 1, .int .i64 0, .int .i64 p, .slice oa 0 cap] 27)).drewN nq)
  clear hwn
  have hT := Lib.hid (bdrewN (below_count hkb (.int .i64 ((s.nodes : Int) + 1)) (.cells #[.int .i64 1, .int .i64 0, .int .i64 p, .slice oa 0 cap] 27)) nq)
  generalize hq : World.drewN _ nq = w2 at *
  obtain ⟨e0, e1, e2, e3, e4, e5, e6⟩ := hB2
  clear c0 c1 c2 c3 f1 i0 i1 i2 i3
  clear hq
  go_wp2
  go_region_held3 (fun w' => w'.cell? ⟨w.heap.size, 0, none⟩ = some (.int .i64 1) ∧ w'.cell? ⟨w.heap.size, 2, none⟩ = some (.int .i64 p) ∧ w'.cell? ⟨kb, 0, none⟩ = some (.slice (some ⟨b, off, none⟩) items.length ci) ∧
      w'.cell? ⟨b, off + p * 4, none⟩ = some (.int .i64 items[p].w) ∧ w'.cell? ⟨b, off + p * 4 + 1, none⟩ = some (.int .i64 items[p].h) ∧ w'.cell? ⟨b, off + p * 4 + 2, none⟩ = some (.int .i64 items[p].value) ∧ w'.cell? ⟨b, off + p * 4 + 3, none⟩ = some (.bool items[p].turn))
    (first | go_keep | exact ⟨keepCell hb2 e0, keepCell hb2 e1, keepCell hb2 e2, keepCell hb2 e3, keepCell hb2 e4, keepCell hb2 e5, keepCell hb2 e6⟩)
    (first | fail | (go_simp; go_at_call 20; refine (fits_any items[p] _ _ _).mono ?_; rintro e w3 ⟨rfl, hb2⟩; rw [HF.out]))
  have hW3 := hWA.out.drew.below hb2
  have hown3 : Own w3 (kb + 1) 66 5 encRect rv s.rects := hW3.own
  have m1 := hW3.c2
  have m2 := hW3.fz 2
  have m3 := keepCell hb2 e1
  have m4 := keepCell hb2 e0
  have hk3 := hW3.lt
  have hB3 := cell?_lt m3
  have hkne : some kb ≠ rv.ownBlock := by
    intro e
    have := hown0.lt kb e.symm
    omega
  have hbne : some w.heap.size ≠ rv.ownBlock := by
    intro e
    have := hown0.lt _ e.symm
    omega
  have hlen : s.rects.length ≤ 4096 := by omega
  have hTO3 : Hid (Touch kb rv rv w w3) := ⟨hb2.os.trans hTO.out.os, hb2.tape.trans hTO.out.tape, hb2.output.trans hTO.out.output, Nat.le_trans hTO.out.size hb2.size, fun g hg hk hr => (hb2.block g (Nat.lt_of_lt_of_le hg hTO.out.size)).trans (hTO.out.block g hg hk hr), fun _ h => .inl h⟩
  clear e0 e1 e2 e3 e4 e5 e6 hT hb2 hWA hTO hB
  go_wp2
  go_region_law (first | (refine step_app1L (by rfl) (.tmp 138) (.tmp 146) 33 (by rfl) elemRect Try.underlying33 (kb + 1) rv s.rects encRect (by rfl) (hown3.alloc (.cells #[.int .i64 p, .int .i64 x, .int .i64 y, .int .i64 W, .int .i64 H] 66)) ⟨p, x, y, W, H⟩ ⟨w3.heap.size, 0, none⟩ 1 (by rfl) (by rfl) (World.news_of_block (cs := #[.int .i64 p, .int .i64 x, .int .i64 y, .int .i64 W, .int .i64 H]) (t := 66) (fr := (0, 0)) (heap_alloc_new w3 _)) (by simp [encRect, Value.oneCell']) (by omega) (by unfold maxLen; omega) (by simp; omega) ?_; intro g5 cap5 w5 hown5 hg5 hat5; have hb5 : Below (kb + 1) w3 w5 := (by first | exact bgrown5 hk3 hown3 hg5 | exact bgrown5' hk3 hown3 hg5 | exact bgrown5'' hk3 hown3 hg5); have n2 := fz5 m2 hb5; have n3 := Nat.lt_of_lt_of_le hk3 hb5.size; have n4 := cl5 m1 hb5) | fail)
  all_goals
    go_wp2
    go_ret
    first
      | exact ⟨rfl, _, ((hW3.alloc _).drew.setRects hg5 hown5), ((hTO3.out.alloc _).drew.grown hg5 hat5).set 2 _⟩
      | exact ⟨rfl, _, ((hW3.drew.alloc _).setRects hg5 hown5), ((hTO3.out.drew.alloc _).grown hg5 hat5).set 2 _⟩
      | exact ⟨rfl, _, ((hW3.alloc _).setRects hg5 hown5), ((hTO3.out.alloc _).grown hg5 hat5).set 2 _⟩
end Go.Proofs.Ytmfmpmemdplloaa
