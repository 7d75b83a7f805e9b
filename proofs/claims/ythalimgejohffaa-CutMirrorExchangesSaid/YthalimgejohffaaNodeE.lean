/-
  The walk of the reference's pile.node: a piece. Own text.
-/
import Derived.Test.YthalimgejohffaaWalkE
import Derived.Deep.RegionLaw
import Derived.Test.YthalimgejohffaaIn
import Derived.Test.YthalimgejohffaaRegion
namespace Go.Proofs.Ythalimgejohffaa
open Go.RowKit
set_option linter.unusedVariables false
set_option maxRecDepth 100000 in
set_option maxHeartbeats 4000000 in
theorem node_piece (p : Nat) (items : List Item) (hp : p < items.length) (hil : (items.length : Int) ≤ 9223372036854775807) (oa oi : Option Addr) (ci cap : Nat) (x y W H d : Int) (s : St) (kb : Nat) (rv : Value) (w0 w : World) (hx : Flat w0 4 encItem oi items) (hb0 : Below w0.heap.size w0 w) (hkb0 : w0.heap.size ≤ kb) (hn : s.nodes < 4096) (hd : d < 80)
    (hg : s.Good) (hf : fitsB items[p] W H = true) (hw : WalkerAt w kb (.slice oi items.length ci) s rv) :
    Calls Try.prog 33 #[.pointer (some ⟨kb, 0, none⟩), .agg #[.int .i64 1, .int .i64 0, .int .i64 p, .slice oa 0 cap], .int .i64 x, .int .i64 y, .int .i64 W, .int .i64 H, .int .i64 d] w
      (PostWalk (.ok { nodes := s.nodes + 1, rects := s.rects ++ [⟨p, x, y, W, H⟩], waste := s.waste }) kb (.slice oi items.length ci) rv w) := by
  have hkb := hw.lt
  have hnn : ((s.nodes : Int) == 4096) = false := by simp; omega
  have hin : inB 1 0 3 = true := by decide
  have hin2 : inB p 0 ((items.length : Int) - 1) = true := inB_yes (by omega) (by omega)
  obtain ⟨b, off, rfl, i0, i1, i2, i3⟩ := (hx.below hb0).item hp
  have hbw : b < w0.heap.size := by
    obtain ⟨b', off', e, j0, _⟩ := hx.item hp
    simp only [Option.some.injEq, Addr.mk.injEq, and_true] at e
    obtain ⟨rfl, rfl⟩ := e
    exact cell?_lt j0
  have hbk : b ≠ kb := by omega
  have hbl : b < w.heap.size := by omega
  have hwn := hw.setNodes (n := s.nodes + 1) (z := (s.nodes : Int) + 1) (by omega)
  have hown0 := hw.own
  obtain ⟨g1, g2, g3, g4⟩ := hg
  obtain ⟨c0, c1, c2, c3, fz, _⟩ := hw
  have f1 := fz 1
  clear fz
  have HWA : Hid (WalkerAt ((w.setCell ⟨kb, 1, none⟩ (.int .i64 ((s.nodes : Int) + 1))).alloc (.cells #[.int .i64 1, .int .i64 0, .int .i64 p, .slice oa 0 cap] 25)) kb (.slice (some ⟨b, off, none⟩) items.length ci) { s with nodes := s.nodes + 1 } rv) := hwn.alloc _
  clear hwn
  have HT := Lib.hid (((Touch.refl kb rv w).set 1 (.int .i64 ((s.nodes : Int) + 1))).alloc (.cells #[.int .i64 1, .int .i64 0, .int .i64 p, .slice oa 0 cap] 25))
  have hB : Hid (∀ n, let w' := (((w.setCell ⟨kb, 1, none⟩ (.int .i64 ((s.nodes : Int) + 1))).alloc (.cells #[.int .i64 1, .int .i64 0, .int .i64 p, .slice oa 0 cap] 25)).drewN n)
      w'.cell? ⟨w.heap.size, 0, none⟩ = some (.int .i64 1) ∧ w'.cell? ⟨w.heap.size, 2, none⟩ = some (.int .i64 p) ∧ w'.cell? ⟨kb, 0, none⟩ = some (.slice (some ⟨b, off, none⟩) items.length ci) ∧
      w'.cell? ⟨b, off + p * 4, none⟩ = some (.int .i64 items[p].w) ∧ w'.cell? ⟨b, off + p * 4 + 1, none⟩ = some (.int .i64 items[p].h) ∧ w'.cell? ⟨b, off + p * 4 + 2, none⟩ = some (.int .i64 items[p].value) ∧ w'.cell? ⟨b, off + p * 4 + 3, none⟩ = some (.bool items[p].turn) ∧ kb < w'.heap.size ∧ b < w'.heap.size ∧ w.heap.size < w'.heap.size) := by
    intro n w'
    refine ⟨?_, ?_, ?_, ?_, ?_, ?_, ?_, ?_, ?_, ?_⟩
    all_goals
      unfold w'
      first | go_simp | (simp [World.setCell, World.drewN]; omega)
  go_enter Try.func33, Try.ntmps33
  go_wp2_with (go_at_call 23; refine (in_any _ _ _ _).mono ?_; rintro e w' ⟨rfl, rfl⟩)
  go_quiet ((go_at_call 23; exact quiet_eq (in_any _ _ _ _)))
  have hB2 := hB.out nq
  have hT := Lib.hid (HT.out.drewN nq)
  have hWA : Hid (WalkerAt (((w.setCell ⟨kb, 1, none⟩ (.int .i64 ((s.nodes : Int) + 1))).alloc (.cells #[.int .i64 1, .int .i64 0, .int .i64 p, .slice oa 0 cap] 25)).drewN nq) kb (.slice (some ⟨b, off, none⟩) items.length ci) { s with nodes := s.nodes + 1 } rv) := by
    obtain ⟨q0, q1, q2, q3, q4, q5⟩ := HWA.out
    exact ⟨q0, q1, q2, q3, q4, q5⟩
  clear HT HWA hB
  generalize hq : World.drewN _ nq = w2 at *
  obtain ⟨e0, e1, e2, e3, e4, e5, e6, l1, l2, l3⟩ := hB2
  clear c0 c1 c2 c3 f1 i0 i1 i2 i3
  clear hq
  go_wp2
  go_region_held3 (fun w' => w'.cell? ⟨w.heap.size, 2, none⟩ = some (.int .i64 p) ∧ w'.cell? ⟨kb, 0, none⟩ = some (.slice (some ⟨b, off, none⟩) items.length ci) ∧
      w'.cell? ⟨b, off + p * 4, none⟩ = some (.int .i64 items[p].w) ∧ w'.cell? ⟨b, off + p * 4 + 1, none⟩ = some (.int .i64 items[p].h) ∧ w'.cell? ⟨b, off + p * 4 + 2, none⟩ = some (.int .i64 items[p].value) ∧ w'.cell? ⟨b, off + p * 4 + 3, none⟩ = some (.bool items[p].turn))
    (first | go_keep | fail) (fail)
  have hcase := fits_cases items[p] W H
  rw [hf] at hcase
  rcases hcase with ⟨h1, h2, E⟩ | ⟨h1 | ⟨h1, h2⟩, ⟨h3, E⟩ | ⟨h3, h4, E⟩ | ⟨h3, h4, h5, E⟩ | ⟨h3, h4, h5, E⟩⟩
  all_goals first | cases E | clear E hf
  all_goals
    go_wp2
    have hW3 := (hWA.out.alloc (.cells #[.int .i64 items[p].w, .int .i64 items[p].h, .int .i64 items[p].value, .bool items[p].turn] 51)).drew
    have m3 := keepCell ((Below.refl w2.heap.size w2).alloc (Nat.le_refl _) (.cells #[.int .i64 items[p].w, .int .i64 items[p].h, .int .i64 items[p].value, .bool items[p].turn] 51)).drew e1
    have hTO3 := Lib.hid (hT.out.alloc (.cells #[.int .i64 items[p].w, .int .i64 items[p].h, .int .i64 items[p].value, .bool items[p].turn] 51)).drew
    try rw [h3] at hW3 m3 hTO3
    clear e0 e1 e2 e3 e4 e5 e6 hT hWA l1 l2 l3
    revert hW3 m3 hTO3
    generalize World.drew (World.alloc w2 _) = w3
    intro hW3 m3 hTO3
    have hown3 : Own w3 (kb + 1) 32 5 encRect rv s.rects := hW3.own
    have m1 := hW3.c2
    have m2 := hW3.fz 2
    have hk3 := hW3.lt
    have hB3 := cell?_lt m3
    have hkne : some kb ≠ rv.ownBlock := by
      intro e
      have := hown0.lt kb e.symm
      omega
    have hbne : some w.heap.size ≠ rv.ownBlock := by
      intro e
      have := hown0.lt _ e.symm
      omega
    have hlen : s.rects.length ≤ 4096 := by omega
    go_region_law (first | (refine step_app1L (by rfl) (.tmp 142) (.tmp 150) 27 (by rfl) elemRect Try.underlying27 (kb + 1) rv s.rects encRect (by rfl) (hown3.alloc (.cells #[.int .i64 p, .int .i64 x, .int .i64 y, .int .i64 W, .int .i64 H] 32)) ⟨p, x, y, W, H⟩ ⟨w3.heap.size, 0, none⟩ 1 (by rfl) (by rfl) (World.news_of_block (cs := #[.int .i64 p, .int .i64 x, .int .i64 y, .int .i64 W, .int .i64 H]) (t := 32) (fr := (0, 0)) (heap_alloc_new w3 _)) (by simp [encRect, Value.oneCell']) (by omega) (by unfold maxLen; omega) (by simp; omega) ?_; intro g5 cap5 w5 hown5 hg5 hat5; have hb5 : Below (kb + 1) w3 w5 := (by first | exact bgrown5 hk3 hown3 hg5 | exact bgrown5' hk3 hown3 hg5 | exact bgrown5'' hk3 hown3 hg5); have n2 := fz5 m2 hb5; have n3 := Nat.lt_of_lt_of_le hk3 hb5.size; have n4 := cl5 m1 hb5) | fail)
    all_goals
      go_wp2
      go_ret
      first
        | exact ⟨rfl, _, ((hW3.alloc _).drew.setRects hg5 hown5), ((hTO3.out.alloc _).drew.grown hg5 hat5).set 2 _⟩
        | exact ⟨rfl, _, ((hW3.drew.alloc _).setRects hg5 hown5), ((hTO3.out.drew.alloc _).grown hg5 hat5).set 2 _⟩
        | exact ⟨rfl, _, ((hW3.alloc _).setRects hg5 hown5), ((hTO3.out.alloc _).grown hg5 hat5).set 2 _⟩
end Go.Proofs.Ythalimgejohffaa
