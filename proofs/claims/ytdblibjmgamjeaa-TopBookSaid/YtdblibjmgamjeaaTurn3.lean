/-
  The walks of the closures of raster's Turn and Crop. Printed by gen_at.py. What the walks of raster's Turn and Crop share. Printed by gen_turn.py. A walk of raster's Turn by 0. Printed by gen_turn.py. A walk of raster's Turn by 1. Printed by gen_turn.py. A walk of raster's Turn by 2. Printed by gen_turn.py. A walk of raster's Turn by 3. Printed by gen_turn.py. Own text.
-/
import Derived.Test.YtdblibjmgamjeaaRasM
import Derived.Test.YtdblibjmgamjeaaBuildC
import Derived.Deep.Cut
import Derived.Deep.CutRange
namespace Go.Proofs.Ytdblibjmgamjeaa
open Go.RowKit
set_option linter.unusedVariables false
theorem PxAt.get {w : World} {o : Option Addr} {n cap : Nat} {xs : List Int} (h : PxAt w o n cap xs) {k : Nat} (hk : k < xs.length) {p : Int} (hp : xs[k]? = some p) : n = xs.length ∧ ∃ b off, o = some ⟨b, off, none⟩ ∧ w.cell? ⟨b, off + k, none⟩ = some (.int .u8 p) := by
  obtain ⟨oa, c, e, -, -, hf⟩ := h
  simp only [Value.slice.injEq] at e
  obtain ⟨rfl, hn, -⟩ := e
  obtain ⟨v, hv, b, off, e2, hc⟩ := hf k hk 0 (by omega)
  refine ⟨hn, b, off, e2, ?_⟩
  rw [(List.getElem?_eq_some_iff.1 hp).2] at hv
  simp only [encPx, List.getElem?_cons_zero, Option.some.injEq] at hv
  subst hv
  simpa using hc
/-- A raster in a box. -/
structure BoxG (w : World) (g : Nat) (m : Img) (o : Option Addr) (cap : Nat) : Prop where
  c0 : w.cell? ⟨g, 0, none⟩ = some (.int .i64 m.W)
  c1 : w.cell? ⟨g, 1, none⟩ = some (.int .i64 m.H)
  c2 : w.cell? ⟨g, 2, none⟩ = some (.slice o (listI m).length cap)
  px : PxAt w o (listI m).length cap (listI m)
theorem BoxG.below {w w' : World} {g : Nat} {m : Img} {o : Option Addr} {cap : Nat} (h : BoxG w g m o cap) (hb : Below w.heap.size w w') : BoxG w' g m o cap :=
  ⟨keepCell hb h.c0, keepCell hb h.c1, keepCell hb h.c2, h.px.below hb⟩
set_option maxHeartbeats 4000000 in
theorem turn1At_any (m : Img) (hm : Sized m) (o : Option Addr) (cap : Nat) (g h q : Nat) (x y : Nat) (w : World) (hg : BoxG w g m o cap) (hh : w.cell? ⟨h, 0, none⟩ = some (.int .i64 m.H)) (hw : w.cell? ⟨q, 0, none⟩ = some (.int .i64 m.W)) (hx : x < m.H) (hy : y < m.W) :
    Calls Try.prog 50 #[.int .i64 x, .int .i64 y, .pointer (some ⟨g, 0, none⟩), .pointer (some ⟨h, 0, none⟩), .pointer (some ⟨q, 0, none⟩)] w fun e w' => e = .returned (.int .u8 (m.px y ((m.H : Int) - 1 - x))) ∧ Below w.heap.size w w' := by
  obtain ⟨p1, p2, p3⟩ := px_len hm
  obtain ⟨s1, s2, s3, s4⟩ := hm
  have ex : ∃ X Y : Nat, X < m.W ∧ Y < m.H ∧ X = y ∧ Y = m.H - 1 - x := by exact ⟨y, m.H - 1 - x, hy, by omega, rfl, rfl⟩
  obtain ⟨X, Y, hX, hY, eX, eY⟩ := ex
  have hpos := pos_lt hX hY
  have hg2 : (listI m)[Y * m.W + X]? = some (m.px X Y) := pixL_get? m.px hX hY
  obtain ⟨hn, b, off, rfl, hc⟩ := hg.px.get (by rw [p3]; exact hpos) hg2
  have hpx : m.px X Y = m.px y ((m.H : Int) - 1 - x) := by congr 1 <;> omega
  rw [hpx] at hc
  obtain ⟨v, hv⟩ : ∃ v, v = m.px y ((m.H : Int) - 1 - x) := ⟨_, rfl⟩
  rw [← hv] at hc ⊢
  have c0 := hg.c0
  have c1 := hg.c1
  have c2 := hg.c2
  obtain ⟨n, hnn⟩ : ∃ n, n = (listI m).length := ⟨_, rfl⟩
  obtain ⟨Wd, hWd⟩ : ∃ W, W = m.W := ⟨_, rfl⟩
  obtain ⟨Hd, hHd⟩ : ∃ H, H = m.H := ⟨_, rfl⟩
  rw [← hnn] at c2
  rw [← hWd] at c0 hw hc hpos
  rw [← hHd] at c1 hh hpos
  rw [← hWd] at hX s1 s2 p3
  rw [← hHd] at hY s3 s4 p3
  rw [← hHd] at eY
  obtain ⟨M, hM⟩ : ∃ M : Nat, M = Y * Wd := ⟨_, rfl⟩
  obtain ⟨k, hk⟩ : ∃ k : Nat, k = M + X := ⟨_, rfl⟩
  rw [← hM, ← hk] at hc hpos
  have hkn : k < n := by omega
  have hMI : (Y : Int) * (Wd : Int) = (M : Int) := by rw [hM, Int.natCast_mul]
  have hkb : k < 1048576 := by omega
  have w1 : IntKind.i64.wrap ((Hd : Int) - 1) = (Hd : Int) - 1 := by exact (IntWalk.i64_in _ (by omega)).trans (by omega)
  have w2 : IntKind.i64.wrap ((Hd : Int) - 1 - (x : Int)) = (Y : Int) := by exact (IntWalk.i64_in _ (by omega)).trans (by omega)
  have w3 : IntKind.i64.wrap ((Y : Int) * (Wd : Int)) = (M : Int) := by rw [hMI]; exact (IntWalk.i64_in _ (by omega)).trans (by omega)
  have w4 : IntKind.i64.wrap ((M : Int) + (y : Int)) = (k : Int) := by exact (IntWalk.i64_in _ (by omega)).trans (by omega)
  have HB := Lib.hid (Below.refl w.heap.size w)
  clear hpx hv hg2 hg hnn hWd hHd hk hM hMI p1 p2 p3 hpos hn eX eY
  go_enter Try.func50, Try.ntmps50
  go_wp2
  go_ret
  exact ⟨rfl, HB.out⟩
set_option maxHeartbeats 4000000 in
theorem turn2At_any (m : Img) (hm : Sized m) (o : Option Addr) (cap : Nat) (g h q : Nat) (x y : Nat) (w : World) (hg : BoxG w g m o cap) (hh : w.cell? ⟨h, 0, none⟩ = some (.int .i64 m.H)) (hw : w.cell? ⟨q, 0, none⟩ = some (.int .i64 m.W)) (hx : x < m.W) (hy : y < m.H) :
    Calls Try.prog 51 #[.int .i64 x, .int .i64 y, .pointer (some ⟨g, 0, none⟩), .pointer (some ⟨h, 0, none⟩), .pointer (some ⟨q, 0, none⟩)] w fun e w' => e = .returned (.int .u8 (m.px ((m.W : Int) - 1 - x) ((m.H : Int) - 1 - y))) ∧ Below w.heap.size w w' := by
  obtain ⟨p1, p2, p3⟩ := px_len hm
  obtain ⟨s1, s2, s3, s4⟩ := hm
  have ex : ∃ X Y : Nat, X < m.W ∧ Y < m.H ∧ X = m.W - 1 - x ∧ Y = m.H - 1 - y := by exact ⟨m.W - 1 - x, m.H - 1 - y, by omega, by omega, rfl, rfl⟩
  obtain ⟨X, Y, hX, hY, eX, eY⟩ := ex
  have hpos := pos_lt hX hY
  have hg2 : (listI m)[Y * m.W + X]? = some (m.px X Y) := pixL_get? m.px hX hY
  obtain ⟨hn, b, off, rfl, hc⟩ := hg.px.get (by rw [p3]; exact hpos) hg2
  have hpx : m.px X Y = m.px ((m.W : Int) - 1 - x) ((m.H : Int) - 1 - y) := by congr 1 <;> omega
  rw [hpx] at hc
  obtain ⟨v, hv⟩ : ∃ v, v = m.px ((m.W : Int) - 1 - x) ((m.H : Int) - 1 - y) := ⟨_, rfl⟩
  rw [← hv] at hc ⊢
  have c0 := hg.c0
  have c1 := hg.c1
  have c2 := hg.c2
  obtain ⟨n, hnn⟩ : ∃ n, n = (listI m).length := ⟨_, rfl⟩
  obtain ⟨Wd, hWd⟩ : ∃ W, W = m.W := ⟨_, rfl⟩
  obtain ⟨Hd, hHd⟩ : ∃ H, H = m.H := ⟨_, rfl⟩
  rw [← hnn] at c2
  rw [← hWd] at c0 hw hc hpos
  rw [← hHd] at c1 hh hpos
  rw [← hWd] at hX s1 s2 p3
  rw [← hHd] at hY s3 s4 p3
  rw [← hWd] at eX
  rw [← hHd] at eY
  obtain ⟨M, hM⟩ : ∃ M : Nat, M = Y * Wd := ⟨_, rfl⟩
  obtain ⟨k, hk⟩ : ∃ k : Nat, k = M + X := ⟨_, rfl⟩
  rw [← hM, ← hk] at hc hpos
  have hkn : k < n := by omega
  have hMI : (Y : Int) * (Wd : Int) = (M : Int) := by rw [hM, Int.natCast_mul]
  have hkb : k < 1048576 := by omega
  have w1 : IntKind.i64.wrap ((Hd : Int) - 1) = (Hd : Int) - 1 := by exact (IntWalk.i64_in _ (by omega)).trans (by omega)
  have w2 : IntKind.i64.wrap ((Hd : Int) - 1 - (y : Int)) = (Y : Int) := by exact (IntWalk.i64_in _ (by omega)).trans (by omega)
  have w3 : IntKind.i64.wrap ((Y : Int) * (Wd : Int)) = (M : Int) := by rw [hMI]; exact (IntWalk.i64_in _ (by omega)).trans (by omega)
  have w4 : IntKind.i64.wrap ((M : Int) + (Wd : Int)) = (M : Int) + (Wd : Int) := by exact (IntWalk.i64_in _ (by omega)).trans (by omega)
  have w5 : IntKind.i64.wrap ((M : Int) + (Wd : Int) - 1) = (M : Int) + (Wd : Int) - 1 := by exact (IntWalk.i64_in _ (by omega)).trans (by omega)
  have w6 : IntKind.i64.wrap ((M : Int) + (Wd : Int) - 1 - (x : Int)) = (k : Int) := by exact (IntWalk.i64_in _ (by omega)).trans (by omega)
  have HB := Lib.hid (Below.refl w.heap.size w)
  clear hpx hv hg2 hg hnn hWd hHd hk hM hMI p1 p2 p3 hpos hn eX eY
  go_enter Try.func51, Try.ntmps51
  go_wp2
  go_ret
  exact ⟨rfl, HB.out⟩
set_option maxHeartbeats 4000000 in
theorem turn3At_any (m : Img) (hm : Sized m) (o : Option Addr) (cap : Nat) (g q : Nat) (x y : Nat) (w : World) (hg : BoxG w g m o cap) (hw : w.cell? ⟨q, 0, none⟩ = some (.int .i64 m.W)) (hx : x < m.H) (hy : y < m.W) :
    Calls Try.prog 52 #[.int .i64 x, .int .i64 y, .pointer (some ⟨g, 0, none⟩), .pointer (some ⟨q, 0, none⟩)] w fun e w' => e = .returned (.int .u8 (m.px ((m.W : Int) - 1 - y) x)) ∧ Below w.heap.size w w' := by
  obtain ⟨p1, p2, p3⟩ := px_len hm
  obtain ⟨s1, s2, s3, s4⟩ := hm
  have ex : ∃ X Y : Nat, X < m.W ∧ Y < m.H ∧ X = m.W - 1 - y ∧ Y = x := by exact ⟨m.W - 1 - y, x, by omega, hx, rfl, rfl⟩
  obtain ⟨X, Y, hX, hY, eX, eY⟩ := ex
  have hpos := pos_lt hX hY
  have hg2 : (listI m)[Y * m.W + X]? = some (m.px X Y) := pixL_get? m.px hX hY
  obtain ⟨hn, b, off, rfl, hc⟩ := hg.px.get (by rw [p3]; exact hpos) hg2
  have hpx : m.px X Y = m.px ((m.W : Int) - 1 - y) x := by congr 1 <;> omega
  rw [hpx] at hc
  obtain ⟨v, hv⟩ : ∃ v, v = m.px ((m.W : Int) - 1 - y) x := ⟨_, rfl⟩
  rw [← hv] at hc ⊢
  have c0 := hg.c0
  have c1 := hg.c1
  have c2 := hg.c2
  obtain ⟨n, hnn⟩ : ∃ n, n = (listI m).length := ⟨_, rfl⟩
  obtain ⟨Wd, hWd⟩ : ∃ W, W = m.W := ⟨_, rfl⟩
  obtain ⟨Hd, hHd⟩ : ∃ H, H = m.H := ⟨_, rfl⟩
  rw [← hnn] at c2
  rw [← hWd] at c0 hw hc hpos
  rw [← hHd] at c1 hpos
  rw [← hWd] at hX s1 s2 p3
  rw [← hHd] at hY s3 s4 p3
  rw [← hWd] at eX
  obtain ⟨M, hM⟩ : ∃ M : Nat, M = Y * Wd := ⟨_, rfl⟩
  obtain ⟨k, hk⟩ : ∃ k : Nat, k = M + X := ⟨_, rfl⟩
  rw [← hM, ← hk] at hc hpos
  have hkn : k < n := by omega
  have hMI : (Y : Int) * (Wd : Int) = (M : Int) := by rw [hM, Int.natCast_mul]
  have hkb : k < 1048576 := by omega
  subst eY
  have w3 : IntKind.i64.wrap ((Y : Int) * (Wd : Int)) = (M : Int) := by rw [hMI]; exact (IntWalk.i64_in _ (by omega)).trans (by omega)
  have w4 : IntKind.i64.wrap ((M : Int) + (Wd : Int)) = (M : Int) + (Wd : Int) := by exact (IntWalk.i64_in _ (by omega)).trans (by omega)
  have w5 : IntKind.i64.wrap ((M : Int) + (Wd : Int) - 1) = (M : Int) + (Wd : Int) - 1 := by exact (IntWalk.i64_in _ (by omega)).trans (by omega)
  have w6 : IntKind.i64.wrap ((M : Int) + (Wd : Int) - 1 - (y : Int)) = (k : Int) := by exact (IntWalk.i64_in _ (by omega)).trans (by omega)
  have HB := Lib.hid (Below.refl w.heap.size w)
  clear hpx hv hg2 hg hnn hWd hHd hk hM hMI p1 p2 p3 hpos hn eX
  go_enter Try.func52, Try.ntmps52
  go_wp2
  go_ret
  exact ⟨rfl, HB.out⟩
set_option maxHeartbeats 4000000 in
theorem cropAt_any (m : Img) (hm : Sized m) (o : Option Addr) (cap : Nat) (g h q a b' : Nat) (x y : Nat) (w : World) (hg : BoxG w g m o cap) (hh : w.cell? ⟨h, 0, none⟩ = some (.int .i64 b')) (hw : w.cell? ⟨q, 0, none⟩ = some (.int .i64 a)) (hx : x < m.W - a) (hy : y < m.H - b') :
    Calls Try.prog 61 #[.int .i64 x, .int .i64 y, .pointer (some ⟨g, 0, none⟩), .pointer (some ⟨h, 0, none⟩), .pointer (some ⟨q, 0, none⟩)] w fun e w' => e = .returned (.int .u8 (m.px ((a : Int) + x) ((b' : Int) + y))) ∧ Below w.heap.size w w' := by
  obtain ⟨p1, p2, p3⟩ := px_len hm
  obtain ⟨s1, s2, s3, s4⟩ := hm
  have ex : ∃ X Y : Nat, X < m.W ∧ Y < m.H ∧ X = a + x ∧ Y = b' + y := by exact ⟨a + x, b' + y, by omega, by omega, rfl, rfl⟩
  obtain ⟨X, Y, hX, hY, eX, eY⟩ := ex
  have hpos := pos_lt hX hY
  have hg2 : (listI m)[Y * m.W + X]? = some (m.px X Y) := pixL_get? m.px hX hY
  obtain ⟨hn, b, off, rfl, hc⟩ := hg.px.get (by rw [p3]; exact hpos) hg2
  have hpx : m.px X Y = m.px ((a : Int) + x) ((b' : Int) + y) := by congr 1 <;> omega
  rw [hpx] at hc
  obtain ⟨v, hv⟩ : ∃ v, v = m.px ((a : Int) + x) ((b' : Int) + y) := ⟨_, rfl⟩
  rw [← hv] at hc ⊢
  have c0 := hg.c0
  have c1 := hg.c1
  have c2 := hg.c2
  obtain ⟨n, hnn⟩ : ∃ n, n = (listI m).length := ⟨_, rfl⟩
  obtain ⟨Wd, hWd⟩ : ∃ W, W = m.W := ⟨_, rfl⟩
  obtain ⟨Hd, hHd⟩ : ∃ H, H = m.H := ⟨_, rfl⟩
  rw [← hnn] at c2
  rw [← hWd] at c0 hc hpos
  rw [← hHd] at c1 hpos
  rw [← hWd] at hX s1 s2 p3
  rw [← hHd] at hY s3 s4 p3
  obtain ⟨M, hM⟩ : ∃ M : Nat, M = Y * Wd := ⟨_, rfl⟩
  obtain ⟨k, hk⟩ : ∃ k : Nat, k = M + X := ⟨_, rfl⟩
  rw [← hM, ← hk] at hc hpos
  have hkn : k < n := by omega
  have hMI : (Y : Int) * (Wd : Int) = (M : Int) := by rw [hM, Int.natCast_mul]
  have hkb : k < 1048576 := by omega
  have w2 : IntKind.i64.wrap ((b' : Int) + (y : Int)) = (Y : Int) := by exact (IntWalk.i64_in _ (by omega)).trans (by omega)
  have w3 : IntKind.i64.wrap ((Y : Int) * (Wd : Int)) = (M : Int) := by rw [hMI]; exact (IntWalk.i64_in _ (by omega)).trans (by omega)
  have w4 : IntKind.i64.wrap ((M : Int) + (a : Int)) = (M : Int) + (a : Int) := by exact (IntWalk.i64_in _ (by omega)).trans (by omega)
  have w5 : IntKind.i64.wrap ((M : Int) + (a : Int) + (x : Int)) = (k : Int) := by exact (IntWalk.i64_in _ (by omega)).trans (by omega)
  have HB := Lib.hid (Below.refl w.heap.size w)
  clear hpx hv hg2 hg hnn hWd hHd hk hM hMI p1 p2 p3 hpos hn eX eY
  go_enter Try.func61, Try.ntmps61
  go_wp2
  go_ret
  exact ⟨rfl, HB.out⟩
end Go.Proofs.Ytdblibjmgamjeaa
namespace Go.Proofs.Ytdblibjmgamjeaa
open Go.RowKit
set_option linter.unusedVariables false
theorem turnRes : Try.f27.results = #[.cell 4 74, .tmp 5] := rfl
theorem cropRes : Try.f53.results = #[.cell 10 74, .tmp 11] := rfl
theorem boxG_new (m : Img) (o : Option Addr) (cap : Nat) (w : World) (t : TypeId) (hx : PxAt w o (listI m).length cap (listI m)) :
    BoxG (w.alloc (.cells #[.int .i64 m.W, .int .i64 m.H, .slice o (listI m).length cap] t)) w.heap.size m o cap := by
  have h := outF_new w (.int .i64 m.W) (.int .i64 m.H) (.slice o (listI m).length cap) t
  exact ⟨h.at' 0 (by omega), h.at' 1 (by omega), h.at' 2 (by omega), hx.below (balloc (Below.refl _ w) _)⟩
theorem turn_sized {m : Img} (h : Sized m) (k : Int) : Sized (turnI m k) := by
  obtain ⟨a, b, c, d⟩ := h
  unfold turnI
  split
  · exact ⟨c, d, a, b⟩
  · split
    · exact ⟨a, b, c, d⟩
    · split
      · exact ⟨c, d, a, b⟩
      · exact ⟨a, b, c, d⟩
theorem new1 (W : World) (a : Value) (t : TypeId) : (W.alloc (.cells #[a] t)).cell? ⟨W.heap.size, 0, none⟩ = some a := by
  rw [cell_of_row _ W.heap.size 0 _ _ (0, 0) (heap_alloc_new W _)]; rfl
/-- Two drawn variables. -/
theorem two_at (W : World) (a b : Value) (t : TypeId) : Below W.heap.size W ((W.alloc (.cells #[a] t)).alloc (.cells #[b] t)).drew ∧ ((W.alloc (.cells #[a] t)).alloc (.cells #[b] t)).drew.cell? ⟨W.heap.size, 0, none⟩ = some a ∧ ((W.alloc (.cells #[a] t)).alloc (.cells #[b] t)).drew.cell? ⟨W.heap.size + 1, 0, none⟩ = some b := by
  have h1 := new1 W a t
  have h2 := keepCell (balloc (Below.refl _ (W.alloc (.cells #[a] t))) (.cells #[b] t)) h1
  have h3 := new1 (W.alloc (.cells #[a] t)) b t
  rw [World.size_alloc] at h3
  exact ⟨(balloc (balloc (Below.refl _ W) _) _).drew, h2, h3⟩
end Go.Proofs.Ytdblibjmgamjeaa
namespace Go.Proofs.Ytdblibjmgamjeaa
open Go.RowKit
set_option linter.unusedVariables false
set_option maxRecDepth 100000 in
set_option maxHeartbeats 8000000 in
theorem turn0_any (m : Img) (hm : Sized m) (o : Option Addr) (cap : Nat) (w : World) (hx : PxAt w o (listI m).length cap (listI m)) :
    Calls Try.prog 27 #[.agg #[.int .i64 m.W, .int .i64 m.H, .slice o (listI m).length cap], .int .i64 0] w (RetGrid0 m w) := by
  obtain ⟨W1, hW1⟩ : ∃ W1, W1 = (w.alloc (.cells #[.int .i64 m.W, .int .i64 m.H, .slice o (listI m).length cap] 74)).alloc (.cells #[.int .i64 0, .int .i64 0, .slice none 0 0] 74) := ⟨_, rfl⟩
  have hb1 : Below w.heap.size w W1 := by rw [hW1]; exact ((Below.refl _ w).alloc (Nat.le_refl _) _).alloc (by simp) _
  have hz1 : W1.heap.size = w.heap.size + 1 + 1 := by rw [hW1]; simp
  have hg1 : BoxG W1 w.heap.size m o cap := by rw [hW1]; exact (boxG_new m o cap w _ hx).below (balloc (Below.refl _ _) _)
  have ht2 : FTab (fun v : Value => v) W1 (w.heap.size + 1) 3 (outF (.int .i64 0) (.int .i64 0) (.slice none 0 0)) := by
    have h := outF_new (w.alloc (.cells #[.int .i64 m.W, .int .i64 m.H, .slice o (listI m).length cap] 74)) (.int .i64 0) (.int .i64 0) (.slice none 0 0) 74
    rw [World.size_alloc] at h
    rw [hW1]; exact h
  have HCK : Hid (Calls Try.prog 48 #[.agg #[.int .i64 m.W, .int .i64 m.H, .slice o (listI m).length cap]] W1 fun e w' => e = .returned (.int .i64 0) ∧ Below W1.heap.size W1 w') := gcheck_any m hm o cap W1
  have HCL : Hid (∀ W, Below W1.heap.size W1 W → Calls Try.prog 49 #[.slice o (listI m).length cap] W (fun e w' => ∃ o' cap', e = .returned (.slice o' (listI m).length cap') ∧ OwnPx w' W.heap.size (.slice o' (listI m).length cap') (listI m) ∧ Below W.heap.size W w')) := fun W hb => clonePx (listI m) o cap W (px_len hm).1 (by have := (px_len hm).2.1; omega) (hg1.px.below hb)
  have HRG : Hid (∀ e w', (∃ o cap, e = .returned (.tuple #[.agg #[.int .i64 m.W, .int .i64 m.H, .slice o (listI m).length cap], .int .i64 0]) ∧ OwnPx w' w.heap.size (.slice o (listI m).length cap) (listI m) ∧ Below w.heap.size w w') → RetGrid0 m w e w') := fun e w' h => h
  have c0 := hg1.c0
  have c1 := hg1.c1
  have c2 := hg1.c2
  have HG1 := Lib.hid hg1
  have HW1 : Hid ((w.alloc (.cells #[.int .i64 m.W, .int .i64 m.H, .slice o (listI m).length cap] 74)).alloc (.cells #[.int .i64 0, .int .i64 0, .slice none 0 0] 74) = W1) := hW1.symm
  have HB1 := Lib.hid hb1
  have HZ1 := Lib.hid hz1
  have HT2 := Lib.hid ht2
  have HPL := Lib.hid (px_len hm).2.1
  clear hW1 hb1 hz1 ht2 hx hg1 hm
  obtain ⟨n, hn⟩ : ∃ n, n = (listI m).length := ⟨_, rfl⟩
  obtain ⟨Wd, hWd⟩ : ∃ W, W = m.W := ⟨_, rfl⟩
  obtain ⟨Hd, hHd⟩ : ∃ H, H = m.H := ⟨_, rfl⟩
  rw [← hn] at HW1 c2 HCK HCL HRG ⊢
  rw [← hWd] at HW1 c0 HCK HRG ⊢
  rw [← hHd] at HW1 c1 HCK HRG ⊢
  have HM : Hid (Wd = m.W ∧ Hd = m.H) := ⟨hWd, hHd⟩
  clear hn hWd hHd HPL
  go_enter Try.func27, Try.ntmps27
  go_upto_region 1 with fail
  rw [HW1.out]
  clear HW1
  go_wp2_with fail
  refine HCK.out.mono ?_
  rintro e w2 ⟨rfl, hb2⟩
  have d0 := keepCell hb2 c0
  have d1 := keepCell hb2 c1
  have d2 := keepCell hb2 c2
  have HB2 := Lib.hid hb2
  have da00 := keepCell (balloc (Below.refl _ w2) (.cells #[.int .i64 0] 3)) d0
  have da01 := keepCell (balloc (Below.refl _ w2) (.cells #[.int .i64 0] 3)) d1
  have daWd0 := keepCell (balloc (Below.refl _ w2) (.cells #[.int .i64 Wd] 3)) d0
  have daWd1 := keepCell (balloc (Below.refl _ w2) (.cells #[.int .i64 Wd] 3)) d1
  have daHd0 := keepCell (balloc (Below.refl _ w2) (.cells #[.int .i64 Hd] 3)) d0
  have daHd1 := keepCell (balloc (Below.refl _ w2) (.cells #[.int .i64 Hd] 3)) d1
  have db000 := keepCell (balloc (Below.refl _ (w2.alloc (.cells #[.int .i64 0] 3))) (.cells #[.int .i64 0] 3)) da00
  have db001 := keepCell (balloc (Below.refl _ (w2.alloc (.cells #[.int .i64 0] 3))) (.cells #[.int .i64 0] 3)) da01
  have db0Wd0 := keepCell (balloc (Below.refl _ (w2.alloc (.cells #[.int .i64 0] 3))) (.cells #[.int .i64 Wd] 3)) da00
  have db0Wd1 := keepCell (balloc (Below.refl _ (w2.alloc (.cells #[.int .i64 0] 3))) (.cells #[.int .i64 Wd] 3)) da01
  have db0Hd0 := keepCell (balloc (Below.refl _ (w2.alloc (.cells #[.int .i64 0] 3))) (.cells #[.int .i64 Hd] 3)) da00
  have db0Hd1 := keepCell (balloc (Below.refl _ (w2.alloc (.cells #[.int .i64 0] 3))) (.cells #[.int .i64 Hd] 3)) da01
  have dbWd00 := keepCell (balloc (Below.refl _ (w2.alloc (.cells #[.int .i64 Wd] 3))) (.cells #[.int .i64 0] 3)) daWd0
  have dbWd01 := keepCell (balloc (Below.refl _ (w2.alloc (.cells #[.int .i64 Wd] 3))) (.cells #[.int .i64 0] 3)) daWd1
  have dbWdWd0 := keepCell (balloc (Below.refl _ (w2.alloc (.cells #[.int .i64 Wd] 3))) (.cells #[.int .i64 Wd] 3)) daWd0
  have dbWdWd1 := keepCell (balloc (Below.refl _ (w2.alloc (.cells #[.int .i64 Wd] 3))) (.cells #[.int .i64 Wd] 3)) daWd1
  have dbWdHd0 := keepCell (balloc (Below.refl _ (w2.alloc (.cells #[.int .i64 Wd] 3))) (.cells #[.int .i64 Hd] 3)) daWd0
  have dbWdHd1 := keepCell (balloc (Below.refl _ (w2.alloc (.cells #[.int .i64 Wd] 3))) (.cells #[.int .i64 Hd] 3)) daWd1
  have dbHd00 := keepCell (balloc (Below.refl _ (w2.alloc (.cells #[.int .i64 Hd] 3))) (.cells #[.int .i64 0] 3)) daHd0
  have dbHd01 := keepCell (balloc (Below.refl _ (w2.alloc (.cells #[.int .i64 Hd] 3))) (.cells #[.int .i64 0] 3)) daHd1
  have dbHdWd0 := keepCell (balloc (Below.refl _ (w2.alloc (.cells #[.int .i64 Hd] 3))) (.cells #[.int .i64 Wd] 3)) daHd0
  have dbHdWd1 := keepCell (balloc (Below.refl _ (w2.alloc (.cells #[.int .i64 Hd] 3))) (.cells #[.int .i64 Wd] 3)) daHd1
  have dbHdHd0 := keepCell (balloc (Below.refl _ (w2.alloc (.cells #[.int .i64 Hd] 3))) (.cells #[.int .i64 Hd] 3)) daHd0
  have dbHdHd1 := keepCell (balloc (Below.refl _ (w2.alloc (.cells #[.int .i64 Hd] 3))) (.cells #[.int .i64 Hd] 3)) daHd1
  clear hb2 HCK c0 c1 c2
  go_upto_region 4 with fail
  go_cut [7, 8] from 15 to 14 (fun s7 s8 wx => ∃ p7 p8 : Nat, s7 = .pointer (some ⟨p7, 0, none⟩) ∧ s8 = .pointer (some ⟨p8, 0, none⟩) ∧ Hid (Below w2.heap.size w2 wx ∧ wx.cell? ⟨p7, 0, none⟩ = some (.int .i64 Wd) ∧ wx.cell? ⟨p8, 0, none⟩ = some (.int .i64 Hd)))
  case first =>
    go_region
    all_goals
      go_wp2_with fail
      go_meet
    · have h := two_at w2 (.int .i64 Wd) (.int .i64 Hd) 3
      exact ⟨_, _, rfl, rfl, Lib.hid ⟨h.1, h.2.1, h.2.2⟩⟩
    · have h := two_at w2 (.int .i64 Hd) (.int .i64 Wd) 3
      exact ⟨_, _, rfl, rfl, Lib.hid ⟨h.1, h.2.2, h.2.1⟩⟩
  case rest =>
    obtain ⟨p7, p8, rfl, rfl, HX⟩ := hcut
    have e7 := HX.out.2.1
    have e8 := HX.out.2.2
    have HBX := Lib.hid (bthen HB2.out HX.out.1)
    have HLT : Hid (w.heap.size + 1 < W1.heap.size) := Lib.hid (by have := HZ1.out; omega)
    have e2 := keepCell HX.out.1 d2
    obtain ⟨wx, rfl⟩ : ∃ wx, wx = wc := ⟨_, rfl⟩
    obtain ⟨N, hN⟩ : ∃ N, N = n := ⟨_, rfl⟩
    clear HX d0 d1 d2 da00 da01 daWd0 daWd1 daHd0 daHd1 db000 db001 db0Wd0 db0Wd1 db0Hd0 db0Hd1 dbWd00 dbWd01 dbWdWd0 dbWdWd1 dbWdHd0 dbWdHd1 dbHd00 dbHd01 dbHdWd0 dbHdWd1 dbHdHd0 dbHdHd1 HB2
    go_upto_region 12 with fail
    go_region_law (first | (go_simp; go_at_call 49; refine (HCL.out _ (HBX.out.trans (by first | exact (Below.refl _ wx).drew.mono HBX.out.size | exact (Below.refl _ wx).mono HBX.out.size))).mono ?_; rintro e w3 ⟨o3, k3, rfl, hown3, hb3⟩; have hz3 : Below wx.heap.size wx w3 := bthen (w1 := wx.drew) (Below.refl _ wx).drew hb3; have e7b := keepCell hz3 e7; have e8b := keepCell hz3 e8; have e2b := keepCell hz3 e2; have ht3 := HT2.out.below (bthen HBX.out hz3) HLT.out; have r0 : w3.cell? ⟨w.heap.size + 1, 0, none⟩ = some (.int .i64 0) := ht3.at' 0 (by omega); have r1 : w3.cell? ⟨w.heap.size + 1, 1, none⟩ = some (.int .i64 0) := ht3.at' 1 (by omega); have r2 : w3.cell? ⟨w.heap.size + 1, 2, none⟩ = some (.slice none 0 0) := ht3.at' 2 (by omega); have rf := ht3.fz; have HT3 := Lib.hid ht3; have HZ3 := Lib.hid hz3; have HOWN3 := Lib.hid hown3; clear ht3 hz3 hown3 hb3))
    all_goals
      have hrs := res_set (x := .int .i64 Wd) (y := .int .i64 Hd) (z := .slice o3 n k3) HT3.out
      have HF : Hid (RetGrid0 m w (.returned (.tuple #[.agg #[.int .i64 Wd, .int .i64 Hd, .slice o3 n k3], .int .i64 0])) (resW w3 (w.heap.size + 1) (.int .i64 Wd) (.int .i64 Hd) (.slice o3 n k3))) := by
        refine HRG.out _ _ ⟨o3, k3, rfl, ?_, hrs.bel (bthen (bthen HB1.out HBX.out) HZ3.out) (by omega)⟩
        have h1 : OwnPx w3 wx.heap.size (.slice o3 n k3) (listI m) := HOWN3.out
        have h2 : OwnPx (resW w3 (w.heap.size + 1) (.int .i64 Wd) (.int .i64 Hd) (.slice o3 n k3)) wx.heap.size (.slice o3 n k3) (listI m) := h1.heap fun k e => hrs.hp k (by have h3 := (h1.blk e).1; have h4 := HLT.out; have h5 := HBX.out.size; omega)
        exact h2.rebase (Nat.le_trans HB1.out.size HBX.out.size)
      have HRS := Lib.hid hrs
      clear hrs e7 e8 e2 e7b e8b e2b
      try dsimp only
      repeat (first | go_values | go_skip | go_guarded | go_step | go_upon)
      obtain ⟨W9, hW9⟩ : ∃ W9, W9 = resW w3 (w.heap.size + 1) (.int .i64 Wd) (.int .i64 Hd) (.slice o3 n k3) := ⟨_, rfl⟩
      rw [← hW9] at HF HRS
      unfold resW at hW9
      rw [← hW9]
      have e0 := HRS.out.c0
      have e1 := HRS.out.c1
      have e2 := HRS.out.c2
      clear hW9
      refine bodyPost_ret (v := .tuple #[.agg #[.int .i64 Wd, .int .i64 Hd, .slice o3 n k3], .int .i64 0]) (by simp only [results, turnRes]; go_simp) rfl ?_
      exact HF.out
end Go.Proofs.Ytdblibjmgamjeaa
namespace Go.Proofs.Ytdblibjmgamjeaa
open Go.RowKit
set_option linter.unusedVariables false
set_option maxRecDepth 100000 in
set_option maxHeartbeats 8000000 in
theorem turn1_any (m : Img) (hm : Sized m) (o : Option Addr) (cap : Nat) (w : World) (hx : PxAt w o (listI m).length cap (listI m)) :
    Calls Try.prog 27 #[.agg #[.int .i64 m.W, .int .i64 m.H, .slice o (listI m).length cap], .int .i64 1] w (RetGrid0 (turnI m 1) w) := by
  obtain ⟨W1, hW1⟩ : ∃ W1, W1 = (w.alloc (.cells #[.int .i64 m.W, .int .i64 m.H, .slice o (listI m).length cap] 74)).alloc (.cells #[.int .i64 0, .int .i64 0, .slice none 0 0] 74) := ⟨_, rfl⟩
  have hb1 : Below w.heap.size w W1 := by rw [hW1]; exact ((Below.refl _ w).alloc (Nat.le_refl _) _).alloc (by simp) _
  have hz1 : W1.heap.size = w.heap.size + 1 + 1 := by rw [hW1]; simp
  have hg1 : BoxG W1 w.heap.size m o cap := by rw [hW1]; exact (boxG_new m o cap w _ hx).below (balloc (Below.refl _ _) _)
  have ht2 : FTab (fun v : Value => v) W1 (w.heap.size + 1) 3 (outF (.int .i64 0) (.int .i64 0) (.slice none 0 0)) := by
    have h := outF_new (w.alloc (.cells #[.int .i64 m.W, .int .i64 m.H, .slice o (listI m).length cap] 74)) (.int .i64 0) (.int .i64 0) (.slice none 0 0) 74
    rw [World.size_alloc] at h
    rw [hW1]; exact h
  have HCK : Hid (Calls Try.prog 48 #[.agg #[.int .i64 m.W, .int .i64 m.H, .slice o (listI m).length cap]] W1 fun e w' => e = .returned (.int .i64 0) ∧ Below W1.heap.size W1 w') := gcheck_any m hm o cap W1
  have HBF : Hid (∀ (wx : World) (p7 p8 : Nat), Below W1.heap.size W1 wx → wx.cell? ⟨p7, 0, none⟩ = some (.int .i64 m.W) → wx.cell? ⟨p8, 0, none⟩ = some (.int .i64 m.H) → Calls Try.prog 45 #[.int .i64 m.H, .int .i64 m.W, .func (.func 50) #[] #[.pointer (some ⟨w.heap.size, 0, none⟩), .pointer (some ⟨p8, 0, none⟩), .pointer (some ⟨p7, 0, none⟩)]] wx (RetGrid (turnI m 1) wx)) := fun wx p7 p8 hbx' h7 h8 =>
    buildT1_any (turnI m 1) (turn_sized hm 1) w.heap.size p8 p7 wx fun W x y hx hy hb => turn1At_any m hm o cap w.heap.size p8 p7 x y W (hg1.below (hbx'.trans (hb.mono hbx'.size))) (keepCell hb h8) (keepCell hb h7) hx hy
  have c0 := hg1.c0
  have c1 := hg1.c1
  have c2 := hg1.c2
  have HG1 := Lib.hid hg1
  have HW1 : Hid ((w.alloc (.cells #[.int .i64 m.W, .int .i64 m.H, .slice o (listI m).length cap] 74)).alloc (.cells #[.int .i64 0, .int .i64 0, .slice none 0 0] 74) = W1) := hW1.symm
  have HB1 := Lib.hid hb1
  have HZ1 := Lib.hid hz1
  have HT2 := Lib.hid ht2
  have HPL := Lib.hid (px_len hm).2.1
  clear hW1 hb1 hz1 ht2 hx hg1 hm
  obtain ⟨n, hn⟩ : ∃ n, n = (listI m).length := ⟨_, rfl⟩
  obtain ⟨Wd, hWd⟩ : ∃ W, W = m.W := ⟨_, rfl⟩
  obtain ⟨Hd, hHd⟩ : ∃ H, H = m.H := ⟨_, rfl⟩
  rw [← hn] at HW1 c2 HCK ⊢
  rw [← hWd] at HW1 c0 HCK HBF ⊢
  rw [← hHd] at HW1 c1 HCK HBF ⊢
  have HM : Hid (Wd = m.W ∧ Hd = m.H) := ⟨hWd, hHd⟩
  clear hn hWd hHd HPL
  go_enter Try.func27, Try.ntmps27
  go_upto_region 1 with fail
  rw [HW1.out]
  clear HW1
  go_wp2_with fail
  refine HCK.out.mono ?_
  rintro e w2 ⟨rfl, hb2⟩
  have d0 := keepCell hb2 c0
  have d1 := keepCell hb2 c1
  have d2 := keepCell hb2 c2
  have HB2 := Lib.hid hb2
  have da00 := keepCell (balloc (Below.refl _ w2) (.cells #[.int .i64 0] 3)) d0
  have da01 := keepCell (balloc (Below.refl _ w2) (.cells #[.int .i64 0] 3)) d1
  have daWd0 := keepCell (balloc (Below.refl _ w2) (.cells #[.int .i64 Wd] 3)) d0
  have daWd1 := keepCell (balloc (Below.refl _ w2) (.cells #[.int .i64 Wd] 3)) d1
  have daHd0 := keepCell (balloc (Below.refl _ w2) (.cells #[.int .i64 Hd] 3)) d0
  have daHd1 := keepCell (balloc (Below.refl _ w2) (.cells #[.int .i64 Hd] 3)) d1
  have db000 := keepCell (balloc (Below.refl _ (w2.alloc (.cells #[.int .i64 0] 3))) (.cells #[.int .i64 0] 3)) da00
  have db001 := keepCell (balloc (Below.refl _ (w2.alloc (.cells #[.int .i64 0] 3))) (.cells #[.int .i64 0] 3)) da01
  have db0Wd0 := keepCell (balloc (Below.refl _ (w2.alloc (.cells #[.int .i64 0] 3))) (.cells #[.int .i64 Wd] 3)) da00
  have db0Wd1 := keepCell (balloc (Below.refl _ (w2.alloc (.cells #[.int .i64 0] 3))) (.cells #[.int .i64 Wd] 3)) da01
  have db0Hd0 := keepCell (balloc (Below.refl _ (w2.alloc (.cells #[.int .i64 0] 3))) (.cells #[.int .i64 Hd] 3)) da00
  have db0Hd1 := keepCell (balloc (Below.refl _ (w2.alloc (.cells #[.int .i64 0] 3))) (.cells #[.int .i64 Hd] 3)) da01
  have dbWd00 := keepCell (balloc (Below.refl _ (w2.alloc (.cells #[.int .i64 Wd] 3))) (.cells #[.int .i64 0] 3)) daWd0
  have dbWd01 := keepCell (balloc (Below.refl _ (w2.alloc (.cells #[.int .i64 Wd] 3))) (.cells #[.int .i64 0] 3)) daWd1
  have dbWdWd0 := keepCell (balloc (Below.refl _ (w2.alloc (.cells #[.int .i64 Wd] 3))) (.cells #[.int .i64 Wd] 3)) daWd0
  have dbWdWd1 := keepCell (balloc (Below.refl _ (w2.alloc (.cells #[.int .i64 Wd] 3))) (.cells #[.int .i64 Wd] 3)) daWd1
  have dbWdHd0 := keepCell (balloc (Below.refl _ (w2.alloc (.cells #[.int .i64 Wd] 3))) (.cells #[.int .i64 Hd] 3)) daWd0
  have dbWdHd1 := keepCell (balloc (Below.refl _ (w2.alloc (.cells #[.int .i64 Wd] 3))) (.cells #[.int .i64 Hd] 3)) daWd1
  have dbHd00 := keepCell (balloc (Below.refl _ (w2.alloc (.cells #[.int .i64 Hd] 3))) (.cells #[.int .i64 0] 3)) daHd0
  have dbHd01 := keepCell (balloc (Below.refl _ (w2.alloc (.cells #[.int .i64 Hd] 3))) (.cells #[.int .i64 0] 3)) daHd1
  have dbHdWd0 := keepCell (balloc (Below.refl _ (w2.alloc (.cells #[.int .i64 Hd] 3))) (.cells #[.int .i64 Wd] 3)) daHd0
  have dbHdWd1 := keepCell (balloc (Below.refl _ (w2.alloc (.cells #[.int .i64 Hd] 3))) (.cells #[.int .i64 Wd] 3)) daHd1
  have dbHdHd0 := keepCell (balloc (Below.refl _ (w2.alloc (.cells #[.int .i64 Hd] 3))) (.cells #[.int .i64 Hd] 3)) daHd0
  have dbHdHd1 := keepCell (balloc (Below.refl _ (w2.alloc (.cells #[.int .i64 Hd] 3))) (.cells #[.int .i64 Hd] 3)) daHd1
  clear hb2 HCK c0 c1 c2
  go_upto_region 4 with fail
  go_cut [7, 8] from 15 to 14 (fun s7 s8 wx => ∃ p7 p8 : Nat, s7 = .pointer (some ⟨p7, 0, none⟩) ∧ s8 = .pointer (some ⟨p8, 0, none⟩) ∧ Hid (Below w2.heap.size w2 wx ∧ wx.cell? ⟨p7, 0, none⟩ = some (.int .i64 Wd) ∧ wx.cell? ⟨p8, 0, none⟩ = some (.int .i64 Hd)))
  case first =>
    go_region
    all_goals
      go_wp2_with fail
      go_meet
    · have h := two_at w2 (.int .i64 Wd) (.int .i64 Hd) 3
      exact ⟨_, _, rfl, rfl, Lib.hid ⟨h.1, h.2.1, h.2.2⟩⟩
    · have h := two_at w2 (.int .i64 Hd) (.int .i64 Wd) 3
      exact ⟨_, _, rfl, rfl, Lib.hid ⟨h.1, h.2.2, h.2.1⟩⟩
  case rest =>
    obtain ⟨p7, p8, rfl, rfl, HX⟩ := hcut
    have e7 := HX.out.2.1
    have e8 := HX.out.2.2
    have HBX := Lib.hid (bthen HB2.out HX.out.1)
    have HBU := Lib.hid (HBF.out wc p7 p8 HBX.out e7 e8)
    have HLT : Hid (w.heap.size + 1 < W1.heap.size) := Lib.hid (by have := HZ1.out; omega)
    obtain ⟨wx, rfl⟩ : ∃ wx, wx = wc := ⟨_, rfl⟩
    clear HX HBF d0 d1 d2 da00 da01 daWd0 daWd1 daHd0 daHd1 db000 db001 db0Wd0 db0Wd1 db0Hd0 db0Hd1 dbWd00 dbWd01 dbWdWd0 dbWdWd1 dbWdHd0 dbWdHd1 dbHd00 dbHd01 dbHdWd0 dbHdWd1 dbHdHd0 dbHdHd1 HB2
    go_wp2_with fail
    refine HBU.out.mono ?_
    intro e w3 hret
    obtain ⟨o3, k3, he, hown3, hb3⟩ := hret
    have he' : e = .returned (.agg #[.int .i64 Hd, .int .i64 Wd, .slice o3 (listI (turnI m 1)).length k3]) := by first | exact he | (rw [HM.out.1, HM.out.2]; exact he)
    subst he'
    clear he
    obtain ⟨N, hN⟩ : ∃ n, n = (listI (turnI m 1)).length := ⟨_, rfl⟩
    rw [← hN] at hown3 ⊢
    have ht3 := HT2.out.below (bthen HBX.out hb3) HLT.out
    have hrs := res_set (x := .int .i64 Hd) (y := .int .i64 Wd) (z := .slice o3 N k3) ht3
    have HF : Hid (RetGrid0 (turnI m 1) w (.returned (.tuple #[.agg #[.int .i64 Hd, .int .i64 Wd, .slice o3 N k3], .int .i64 0])) (resW w3 (w.heap.size + 1) (.int .i64 Hd) (.int .i64 Wd) (.slice o3 N k3))) := by
      have h2 : OwnPx (resW w3 (w.heap.size + 1) (.int .i64 Hd) (.int .i64 Wd) (.slice o3 N k3)) wx.heap.size (.slice o3 N k3) (listI (turnI m 1)) := hown3.heap fun k e => hrs.hp k (by have h3 := (hown3.blk e).1; have h4 := HLT.out; have h5 := HBX.out.size; omega)
      exact ⟨o3, k3, by first | (rw [← hN]; rfl) | (rw [← hN, HM.out.1, HM.out.2]; rfl), by rw [← hN]; exact h2.rebase (Nat.le_trans HB1.out.size HBX.out.size), hrs.bel (bthen (bthen HB1.out HBX.out) hb3) (by omega)⟩
    have r0 : w3.cell? ⟨w.heap.size + 1, 0, none⟩ = some (.int .i64 0) := ht3.at' 0 (by omega)
    have r1 : w3.cell? ⟨w.heap.size + 1, 1, none⟩ = some (.int .i64 0) := ht3.at' 1 (by omega)
    have r2 : w3.cell? ⟨w.heap.size + 1, 2, none⟩ = some (.slice none 0 0) := ht3.at' 2 (by omega)
    have rf := ht3.fz
    have HRS := Lib.hid hrs
    clear hrs ht3 hown3 hb3 hN
    dsimp only
    repeat (first | go_values | go_skip | go_guarded | go_step | go_upon)
    obtain ⟨W9, hW9⟩ : ∃ W9, W9 = resW w3 (w.heap.size + 1) (.int .i64 Hd) (.int .i64 Wd) (.slice o3 N k3) := ⟨_, rfl⟩
    rw [← hW9] at HF HRS
    unfold resW at hW9
    rw [← hW9]
    have e0 := HRS.out.c0
    have e1 := HRS.out.c1
    have e2 := HRS.out.c2
    clear hW9
    refine bodyPost_ret (v := .tuple #[.agg #[.int .i64 Hd, .int .i64 Wd, .slice o3 N k3], .int .i64 0]) (by simp only [results, turnRes]; go_simp) rfl ?_
    exact HF.out
end Go.Proofs.Ytdblibjmgamjeaa
namespace Go.Proofs.Ytdblibjmgamjeaa
open Go.RowKit
set_option linter.unusedVariables false
set_option maxRecDepth 100000 in
set_option maxHeartbeats 8000000 in
theorem turn2_any (m : Img) (hm : Sized m) (o : Option Addr) (cap : Nat) (w : World) (hx : PxAt w o (listI m).length cap (listI m)) :
    Calls Try.prog 27 #[.agg #[.int .i64 m.W, .int .i64 m.H, .slice o (listI m).length cap], .int .i64 2] w (RetGrid0 (turnI m 2) w) := by
  obtain ⟨W1, hW1⟩ : ∃ W1, W1 = (w.alloc (.cells #[.int .i64 m.W, .int .i64 m.H, .slice o (listI m).length cap] 74)).alloc (.cells #[.int .i64 0, .int .i64 0, .slice none 0 0] 74) := ⟨_, rfl⟩
  have hb1 : Below w.heap.size w W1 := by rw [hW1]; exact ((Below.refl _ w).alloc (Nat.le_refl _) _).alloc (by simp) _
  have hz1 : W1.heap.size = w.heap.size + 1 + 1 := by rw [hW1]; simp
  have hg1 : BoxG W1 w.heap.size m o cap := by rw [hW1]; exact (boxG_new m o cap w _ hx).below (balloc (Below.refl _ _) _)
  have ht2 : FTab (fun v : Value => v) W1 (w.heap.size + 1) 3 (outF (.int .i64 0) (.int .i64 0) (.slice none 0 0)) := by
    have h := outF_new (w.alloc (.cells #[.int .i64 m.W, .int .i64 m.H, .slice o (listI m).length cap] 74)) (.int .i64 0) (.int .i64 0) (.slice none 0 0) 74
    rw [World.size_alloc] at h
    rw [hW1]; exact h
  have HCK : Hid (Calls Try.prog 48 #[.agg #[.int .i64 m.W, .int .i64 m.H, .slice o (listI m).length cap]] W1 fun e w' => e = .returned (.int .i64 0) ∧ Below W1.heap.size W1 w') := gcheck_any m hm o cap W1
  have HBF : Hid (∀ (wx : World) (p7 p8 : Nat), Below W1.heap.size W1 wx → wx.cell? ⟨p7, 0, none⟩ = some (.int .i64 m.W) → wx.cell? ⟨p8, 0, none⟩ = some (.int .i64 m.H) → Calls Try.prog 45 #[.int .i64 m.W, .int .i64 m.H, .func (.func 51) #[] #[.pointer (some ⟨w.heap.size, 0, none⟩), .pointer (some ⟨p8, 0, none⟩), .pointer (some ⟨p7, 0, none⟩)]] wx (RetGrid (turnI m 2) wx)) := fun wx p7 p8 hbx' h7 h8 =>
    buildT2_any (turnI m 2) (turn_sized hm 2) w.heap.size p8 p7 wx fun W x y hx hy hb => turn2At_any m hm o cap w.heap.size p8 p7 x y W (hg1.below (hbx'.trans (hb.mono hbx'.size))) (keepCell hb h8) (keepCell hb h7) hx hy
  have c0 := hg1.c0
  have c1 := hg1.c1
  have c2 := hg1.c2
  have HG1 := Lib.hid hg1
  have HW1 : Hid ((w.alloc (.cells #[.int .i64 m.W, .int .i64 m.H, .slice o (listI m).length cap] 74)).alloc (.cells #[.int .i64 0, .int .i64 0, .slice none 0 0] 74) = W1) := hW1.symm
  have HB1 := Lib.hid hb1
  have HZ1 := Lib.hid hz1
  have HT2 := Lib.hid ht2
  have HPL := Lib.hid (px_len hm).2.1
  clear hW1 hb1 hz1 ht2 hx hg1 hm
  obtain ⟨n, hn⟩ : ∃ n, n = (listI m).length := ⟨_, rfl⟩
  obtain ⟨Wd, hWd⟩ : ∃ W, W = m.W := ⟨_, rfl⟩
  obtain ⟨Hd, hHd⟩ : ∃ H, H = m.H := ⟨_, rfl⟩
  rw [← hn] at HW1 c2 HCK ⊢
  rw [← hWd] at HW1 c0 HCK HBF ⊢
  rw [← hHd] at HW1 c1 HCK HBF ⊢
  have HM : Hid (Wd = m.W ∧ Hd = m.H) := ⟨hWd, hHd⟩
  clear hn hWd hHd HPL
  go_enter Try.func27, Try.ntmps27
  go_upto_region 1 with fail
  rw [HW1.out]
  clear HW1
  go_wp2_with fail
  refine HCK.out.mono ?_
  rintro e w2 ⟨rfl, hb2⟩
  have d0 := keepCell hb2 c0
  have d1 := keepCell hb2 c1
  have d2 := keepCell hb2 c2
  have HB2 := Lib.hid hb2
  have da00 := keepCell (balloc (Below.refl _ w2) (.cells #[.int .i64 0] 3)) d0
  have da01 := keepCell (balloc (Below.refl _ w2) (.cells #[.int .i64 0] 3)) d1
  have daWd0 := keepCell (balloc (Below.refl _ w2) (.cells #[.int .i64 Wd] 3)) d0
  have daWd1 := keepCell (balloc (Below.refl _ w2) (.cells #[.int .i64 Wd] 3)) d1
  have daHd0 := keepCell (balloc (Below.refl _ w2) (.cells #[.int .i64 Hd] 3)) d0
  have daHd1 := keepCell (balloc (Below.refl _ w2) (.cells #[.int .i64 Hd] 3)) d1
  have db000 := keepCell (balloc (Below.refl _ (w2.alloc (.cells #[.int .i64 0] 3))) (.cells #[.int .i64 0] 3)) da00
  have db001 := keepCell (balloc (Below.refl _ (w2.alloc (.cells #[.int .i64 0] 3))) (.cells #[.int .i64 0] 3)) da01
  have db0Wd0 := keepCell (balloc (Below.refl _ (w2.alloc (.cells #[.int .i64 0] 3))) (.cells #[.int .i64 Wd] 3)) da00
  have db0Wd1 := keepCell (balloc (Below.refl _ (w2.alloc (.cells #[.int .i64 0] 3))) (.cells #[.int .i64 Wd] 3)) da01
  have db0Hd0 := keepCell (balloc (Below.refl _ (w2.alloc (.cells #[.int .i64 0] 3))) (.cells #[.int .i64 Hd] 3)) da00
  have db0Hd1 := keepCell (balloc (Below.refl _ (w2.alloc (.cells #[.int .i64 0] 3))) (.cells #[.int .i64 Hd] 3)) da01
  have dbWd00 := keepCell (balloc (Below.refl _ (w2.alloc (.cells #[.int .i64 Wd] 3))) (.cells #[.int .i64 0] 3)) daWd0
  have dbWd01 := keepCell (balloc (Below.refl _ (w2.alloc (.cells #[.int .i64 Wd] 3))) (.cells #[.int .i64 0] 3)) daWd1
  have dbWdWd0 := keepCell (balloc (Below.refl _ (w2.alloc (.cells #[.int .i64 Wd] 3))) (.cells #[.int .i64 Wd] 3)) daWd0
  have dbWdWd1 := keepCell (balloc (Below.refl _ (w2.alloc (.cells #[.int .i64 Wd] 3))) (.cells #[.int .i64 Wd] 3)) daWd1
  have dbWdHd0 := keepCell (balloc (Below.refl _ (w2.alloc (.cells #[.int .i64 Wd] 3))) (.cells #[.int .i64 Hd] 3)) daWd0
  have dbWdHd1 := keepCell (balloc (Below.refl _ (w2.alloc (.cells #[.int .i64 Wd] 3))) (.cells #[.int .i64 Hd] 3)) daWd1
  have dbHd00 := keepCell (balloc (Below.refl _ (w2.alloc (.cells #[.int .i64 Hd] 3))) (.cells #[.int .i64 0] 3)) daHd0
  have dbHd01 := keepCell (balloc (Below.refl _ (w2.alloc (.cells #[.int .i64 Hd] 3))) (.cells #[.int .i64 0] 3)) daHd1
  have dbHdWd0 := keepCell (balloc (Below.refl _ (w2.alloc (.cells #[.int .i64 Hd] 3))) (.cells #[.int .i64 Wd] 3)) daHd0
  have dbHdWd1 := keepCell (balloc (Below.refl _ (w2.alloc (.cells #[.int .i64 Hd] 3))) (.cells #[.int .i64 Wd] 3)) daHd1
  have dbHdHd0 := keepCell (balloc (Below.refl _ (w2.alloc (.cells #[.int .i64 Hd] 3))) (.cells #[.int .i64 Hd] 3)) daHd0
  have dbHdHd1 := keepCell (balloc (Below.refl _ (w2.alloc (.cells #[.int .i64 Hd] 3))) (.cells #[.int .i64 Hd] 3)) daHd1
  clear hb2 HCK c0 c1 c2
  go_upto_region 4 with fail
  go_cut [7, 8] from 15 to 14 (fun s7 s8 wx => ∃ p7 p8 : Nat, s7 = .pointer (some ⟨p7, 0, none⟩) ∧ s8 = .pointer (some ⟨p8, 0, none⟩) ∧ Hid (Below w2.heap.size w2 wx ∧ wx.cell? ⟨p7, 0, none⟩ = some (.int .i64 Wd) ∧ wx.cell? ⟨p8, 0, none⟩ = some (.int .i64 Hd)))
  case first =>
    go_region
    all_goals
      go_wp2_with fail
      go_meet
    · have h := two_at w2 (.int .i64 Wd) (.int .i64 Hd) 3
      exact ⟨_, _, rfl, rfl, Lib.hid ⟨h.1, h.2.1, h.2.2⟩⟩
    · have h := two_at w2 (.int .i64 Hd) (.int .i64 Wd) 3
      exact ⟨_, _, rfl, rfl, Lib.hid ⟨h.1, h.2.2, h.2.1⟩⟩
  case rest =>
    obtain ⟨p7, p8, rfl, rfl, HX⟩ := hcut
    have e7 := HX.out.2.1
    have e8 := HX.out.2.2
    have HBX := Lib.hid (bthen HB2.out HX.out.1)
    have HBU := Lib.hid (HBF.out wc p7 p8 HBX.out e7 e8)
    have HLT : Hid (w.heap.size + 1 < W1.heap.size) := Lib.hid (by have := HZ1.out; omega)
    obtain ⟨wx, rfl⟩ : ∃ wx, wx = wc := ⟨_, rfl⟩
    clear HX HBF d0 d1 d2 da00 da01 daWd0 daWd1 daHd0 daHd1 db000 db001 db0Wd0 db0Wd1 db0Hd0 db0Hd1 dbWd00 dbWd01 dbWdWd0 dbWdWd1 dbWdHd0 dbWdHd1 dbHd00 dbHd01 dbHdWd0 dbHdWd1 dbHdHd0 dbHdHd1 HB2
    go_wp2_with fail
    refine HBU.out.mono ?_
    intro e w3 hret
    obtain ⟨o3, k3, he, hown3, hb3⟩ := hret
    have he' : e = .returned (.agg #[.int .i64 Wd, .int .i64 Hd, .slice o3 (listI (turnI m 2)).length k3]) := by first | exact he | (rw [HM.out.1, HM.out.2]; exact he)
    subst he'
    clear he
    obtain ⟨N, hN⟩ : ∃ n, n = (listI (turnI m 2)).length := ⟨_, rfl⟩
    rw [← hN] at hown3 ⊢
    have ht3 := HT2.out.below (bthen HBX.out hb3) HLT.out
    have hrs := res_set (x := .int .i64 Wd) (y := .int .i64 Hd) (z := .slice o3 N k3) ht3
    have HF : Hid (RetGrid0 (turnI m 2) w (.returned (.tuple #[.agg #[.int .i64 Wd, .int .i64 Hd, .slice o3 N k3], .int .i64 0])) (resW w3 (w.heap.size + 1) (.int .i64 Wd) (.int .i64 Hd) (.slice o3 N k3))) := by
      have h2 : OwnPx (resW w3 (w.heap.size + 1) (.int .i64 Wd) (.int .i64 Hd) (.slice o3 N k3)) wx.heap.size (.slice o3 N k3) (listI (turnI m 2)) := hown3.heap fun k e => hrs.hp k (by have h3 := (hown3.blk e).1; have h4 := HLT.out; have h5 := HBX.out.size; omega)
      exact ⟨o3, k3, by first | (rw [← hN]; rfl) | (rw [← hN, HM.out.1, HM.out.2]; rfl), by rw [← hN]; exact h2.rebase (Nat.le_trans HB1.out.size HBX.out.size), hrs.bel (bthen (bthen HB1.out HBX.out) hb3) (by omega)⟩
    have r0 : w3.cell? ⟨w.heap.size + 1, 0, none⟩ = some (.int .i64 0) := ht3.at' 0 (by omega)
    have r1 : w3.cell? ⟨w.heap.size + 1, 1, none⟩ = some (.int .i64 0) := ht3.at' 1 (by omega)
    have r2 : w3.cell? ⟨w.heap.size + 1, 2, none⟩ = some (.slice none 0 0) := ht3.at' 2 (by omega)
    have rf := ht3.fz
    have HRS := Lib.hid hrs
    clear hrs ht3 hown3 hb3 hN
    dsimp only
    repeat (first | go_values | go_skip | go_guarded | go_step | go_upon)
    obtain ⟨W9, hW9⟩ : ∃ W9, W9 = resW w3 (w.heap.size + 1) (.int .i64 Wd) (.int .i64 Hd) (.slice o3 N k3) := ⟨_, rfl⟩
    rw [← hW9] at HF HRS
    unfold resW at hW9
    rw [← hW9]
    have e0 := HRS.out.c0
    have e1 := HRS.out.c1
    have e2 := HRS.out.c2
    clear hW9
    refine bodyPost_ret (v := .tuple #[.agg #[.int .i64 Wd, .int .i64 Hd, .slice o3 N k3], .int .i64 0]) (by simp only [results, turnRes]; go_simp) rfl ?_
    exact HF.out
end Go.Proofs.Ytdblibjmgamjeaa
namespace Go.Proofs.Ytdblibjmgamjeaa
open Go.RowKit
set_option linter.unusedVariables false
set_option maxRecDepth 100000 in
set_option maxHeartbeats 8000000 in
theorem turn3_any (m : Img) (hm : Sized m) (o : Option Addr) (cap : Nat) (w : World) (hx : PxAt w o (listI m).length cap (listI m)) :
    Calls Try.prog 27 #[.agg #[.int .i64 m.W, .int .i64 m.H, .slice o (listI m).length cap], .int .i64 3] w (RetGrid0 (turnI m 3) w) := by
  obtain ⟨W1, hW1⟩ : ∃ W1, W1 = (w.alloc (.cells #[.int .i64 m.W, .int .i64 m.H, .slice o (listI m).length cap] 74)).alloc (.cells #[.int .i64 0, .int .i64 0, .slice none 0 0] 74) := ⟨_, rfl⟩
  have hb1 : Below w.heap.size w W1 := by rw [hW1]; exact ((Below.refl _ w).alloc (Nat.le_refl _) _).alloc (by simp) _
  have hz1 : W1.heap.size = w.heap.size + 1 + 1 := by rw [hW1]; simp
  have hg1 : BoxG W1 w.heap.size m o cap := by rw [hW1]; exact (boxG_new m o cap w _ hx).below (balloc (Below.refl _ _) _)
  have ht2 : FTab (fun v : Value => v) W1 (w.heap.size + 1) 3 (outF (.int .i64 0) (.int .i64 0) (.slice none 0 0)) := by
    have h := outF_new (w.alloc (.cells #[.int .i64 m.W, .int .i64 m.H, .slice o (listI m).length cap] 74)) (.int .i64 0) (.int .i64 0) (.slice none 0 0) 74
    rw [World.size_alloc] at h
    rw [hW1]; exact h
  have HCK : Hid (Calls Try.prog 48 #[.agg #[.int .i64 m.W, .int .i64 m.H, .slice o (listI m).length cap]] W1 fun e w' => e = .returned (.int .i64 0) ∧ Below W1.heap.size W1 w') := gcheck_any m hm o cap W1
  have HBF : Hid (∀ (wx : World) (p7 p8 : Nat), Below W1.heap.size W1 wx → wx.cell? ⟨p7, 0, none⟩ = some (.int .i64 m.W) → wx.cell? ⟨p8, 0, none⟩ = some (.int .i64 m.H) → Calls Try.prog 45 #[.int .i64 m.H, .int .i64 m.W, .func (.func 52) #[] #[.pointer (some ⟨w.heap.size, 0, none⟩), .pointer (some ⟨p7, 0, none⟩)]] wx (RetGrid (turnI m 3) wx)) := fun wx p7 p8 hbx' h7 h8 =>
    buildT3_any (turnI m 3) (turn_sized hm 3) w.heap.size p7 wx fun W x y hx hy hb => turn3At_any m hm o cap w.heap.size p7 x y W (hg1.below (hbx'.trans (hb.mono hbx'.size))) (keepCell hb h7) hx hy
  have c0 := hg1.c0
  have c1 := hg1.c1
  have c2 := hg1.c2
  have HG1 := Lib.hid hg1
  have HW1 : Hid ((w.alloc (.cells #[.int .i64 m.W, .int .i64 m.H, .slice o (listI m).length cap] 74)).alloc (.cells #[.int .i64 0, .int .i64 0, .slice none 0 0] 74) = W1) := hW1.symm
  have HB1 := Lib.hid hb1
  have HZ1 := Lib.hid hz1
  have HT2 := Lib.hid ht2
  have HPL := Lib.hid (px_len hm).2.1
  clear hW1 hb1 hz1 ht2 hx hg1 hm
  obtain ⟨n, hn⟩ : ∃ n, n = (listI m).length := ⟨_, rfl⟩
  obtain ⟨Wd, hWd⟩ : ∃ W, W = m.W := ⟨_, rfl⟩
  obtain ⟨Hd, hHd⟩ : ∃ H, H = m.H := ⟨_, rfl⟩
  rw [← hn] at HW1 c2 HCK ⊢
  rw [← hWd] at HW1 c0 HCK HBF ⊢
  rw [← hHd] at HW1 c1 HCK HBF ⊢
  have HM : Hid (Wd = m.W ∧ Hd = m.H) := ⟨hWd, hHd⟩
  clear hn hWd hHd HPL
  go_enter Try.func27, Try.ntmps27
  go_upto_region 1 with fail
  rw [HW1.out]
  clear HW1
  go_wp2_with fail
  refine HCK.out.mono ?_
  rintro e w2 ⟨rfl, hb2⟩
  have d0 := keepCell hb2 c0
  have d1 := keepCell hb2 c1
  have d2 := keepCell hb2 c2
  have HB2 := Lib.hid hb2
  have da00 := keepCell (balloc (Below.refl _ w2) (.cells #[.int .i64 0] 3)) d0
  have da01 := keepCell (balloc (Below.refl _ w2) (.cells #[.int .i64 0] 3)) d1
  have daWd0 := keepCell (balloc (Below.refl _ w2) (.cells #[.int .i64 Wd] 3)) d0
  have daWd1 := keepCell (balloc (Below.refl _ w2) (.cells #[.int .i64 Wd] 3)) d1
  have daHd0 := keepCell (balloc (Below.refl _ w2) (.cells #[.int .i64 Hd] 3)) d0
  have daHd1 := keepCell (balloc (Below.refl _ w2) (.cells #[.int .i64 Hd] 3)) d1
  have db000 := keepCell (balloc (Below.refl _ (w2.alloc (.cells #[.int .i64 0] 3))) (.cells #[.int .i64 0] 3)) da00
  have db001 := keepCell (balloc (Below.refl _ (w2.alloc (.cells #[.int .i64 0] 3))) (.cells #[.int .i64 0] 3)) da01
  have db0Wd0 := keepCell (balloc (Below.refl _ (w2.alloc (.cells #[.int .i64 0] 3))) (.cells #[.int .i64 Wd] 3)) da00
  have db0Wd1 := keepCell (balloc (Below.refl _ (w2.alloc (.cells #[.int .i64 0] 3))) (.cells #[.int .i64 Wd] 3)) da01
  have db0Hd0 := keepCell (balloc (Below.refl _ (w2.alloc (.cells #[.int .i64 0] 3))) (.cells #[.int .i64 Hd] 3)) da00
  have db0Hd1 := keepCell (balloc (Below.refl _ (w2.alloc (.cells #[.int .i64 0] 3))) (.cells #[.int .i64 Hd] 3)) da01
  have dbWd00 := keepCell (balloc (Below.refl _ (w2.alloc (.cells #[.int .i64 Wd] 3))) (.cells #[.int .i64 0] 3)) daWd0
  have dbWd01 := keepCell (balloc (Below.refl _ (w2.alloc (.cells #[.int .i64 Wd] 3))) (.cells #[.int .i64 0] 3)) daWd1
  have dbWdWd0 := keepCell (balloc (Below.refl _ (w2.alloc (.cells #[.int .i64 Wd] 3))) (.cells #[.int .i64 Wd] 3)) daWd0
  have dbWdWd1 := keepCell (balloc (Below.refl _ (w2.alloc (.cells #[.int .i64 Wd] 3))) (.cells #[.int .i64 Wd] 3)) daWd1
  have dbWdHd0 := keepCell (balloc (Below.refl _ (w2.alloc (.cells #[.int .i64 Wd] 3))) (.cells #[.int .i64 Hd] 3)) daWd0
  have dbWdHd1 := keepCell (balloc (Below.refl _ (w2.alloc (.cells #[.int .i64 Wd] 3))) (.cells #[.int .i64 Hd] 3)) daWd1
  have dbHd00 := keepCell (balloc (Below.refl _ (w2.alloc (.cells #[.int .i64 Hd] 3))) (.cells #[.int .i64 0] 3)) daHd0
  have dbHd01 := keepCell (balloc (Below.refl _ (w2.alloc (.cells #[.int .i64 Hd] 3))) (.cells #[.int .i64 0] 3)) daHd1
  have dbHdWd0 := keepCell (balloc (Below.refl _ (w2.alloc (.cells #[.int .i64 Hd] 3))) (.cells #[.int .i64 Wd] 3)) daHd0
  have dbHdWd1 := keepCell (balloc (Below.refl _ (w2.alloc (.cells #[.int .i64 Hd] 3))) (.cells #[.int .i64 Wd] 3)) daHd1
  have dbHdHd0 := keepCell (balloc (Below.refl _ (w2.alloc (.cells #[.int .i64 Hd] 3))) (.cells #[.int .i64 Hd] 3)) daHd0
  have dbHdHd1 := keepCell (balloc (Below.refl _ (w2.alloc (.cells #[.int .i64 Hd] 3))) (.cells #[.int .i64 Hd] 3)) daHd1
  clear hb2 HCK c0 c1 c2
  go_upto_region 4 with fail
  go_cut [7, 8] from 15 to 14 (fun s7 s8 wx => ∃ p7 p8 : Nat, s7 = .pointer (some ⟨p7, 0, none⟩) ∧ s8 = .pointer (some ⟨p8, 0, none⟩) ∧ Hid (Below w2.heap.size w2 wx ∧ wx.cell? ⟨p7, 0, none⟩ = some (.int .i64 Wd) ∧ wx.cell? ⟨p8, 0, none⟩ = some (.int .i64 Hd)))
  case first =>
    go_region
    all_goals
      go_wp2_with fail
      go_meet
    · have h := two_at w2 (.int .i64 Wd) (.int .i64 Hd) 3
      exact ⟨_, _, rfl, rfl, Lib.hid ⟨h.1, h.2.1, h.2.2⟩⟩
    · have h := two_at w2 (.int .i64 Hd) (.int .i64 Wd) 3
      exact ⟨_, _, rfl, rfl, Lib.hid ⟨h.1, h.2.2, h.2.1⟩⟩
  case rest =>
    obtain ⟨p7, p8, rfl, rfl, HX⟩ := hcut
    have e7 := HX.out.2.1
    have e8 := HX.out.2.2
    have HBX := Lib.hid (bthen HB2.out HX.out.1)
    have HBU := Lib.hid (HBF.out wc p7 p8 HBX.out e7 e8)
    have HLT : Hid (w.heap.size + 1 < W1.heap.size) := Lib.hid (by have := HZ1.out; omega)
    obtain ⟨wx, rfl⟩ : ∃ wx, wx = wc := ⟨_, rfl⟩
    clear HX HBF d0 d1 d2 da00 da01 daWd0 daWd1 daHd0 daHd1 db000 db001 db0Wd0 db0Wd1 db0Hd0 db0Hd1 dbWd00 dbWd01 dbWdWd0 dbWdWd1 dbWdHd0 dbWdHd1 dbHd00 dbHd01 dbHdWd0 dbHdWd1 dbHdHd0 dbHdHd1 HB2
    go_wp2_with fail
    refine HBU.out.mono ?_
    intro e w3 hret
    obtain ⟨o3, k3, he, hown3, hb3⟩ := hret
    have he' : e = .returned (.agg #[.int .i64 Hd, .int .i64 Wd, .slice o3 (listI (turnI m 3)).length k3]) := by first | exact he | (rw [HM.out.1, HM.out.2]; exact he)
    subst he'
    clear he
    obtain ⟨N, hN⟩ : ∃ n, n = (listI (turnI m 3)).length := ⟨_, rfl⟩
    rw [← hN] at hown3 ⊢
    have ht3 := HT2.out.below (bthen HBX.out hb3) HLT.out
    have hrs := res_set (x := .int .i64 Hd) (y := .int .i64 Wd) (z := .slice o3 N k3) ht3
    have HF : Hid (RetGrid0 (turnI m 3) w (.returned (.tuple #[.agg #[.int .i64 Hd, .int .i64 Wd, .slice o3 N k3], .int .i64 0])) (resW w3 (w.heap.size + 1) (.int .i64 Hd) (.int .i64 Wd) (.slice o3 N k3))) := by
      have h2 : OwnPx (resW w3 (w.heap.size + 1) (.int .i64 Hd) (.int .i64 Wd) (.slice o3 N k3)) wx.heap.size (.slice o3 N k3) (listI (turnI m 3)) := hown3.heap fun k e => hrs.hp k (by have h3 := (hown3.blk e).1; have h4 := HLT.out; have h5 := HBX.out.size; omega)
      exact ⟨o3, k3, by first | (rw [← hN]; rfl) | (rw [← hN, HM.out.1, HM.out.2]; rfl), by rw [← hN]; exact h2.rebase (Nat.le_trans HB1.out.size HBX.out.size), hrs.bel (bthen (bthen HB1.out HBX.out) hb3) (by omega)⟩
    have r0 : w3.cell? ⟨w.heap.size + 1, 0, none⟩ = some (.int .i64 0) := ht3.at' 0 (by omega)
    have r1 : w3.cell? ⟨w.heap.size + 1, 1, none⟩ = some (.int .i64 0) := ht3.at' 1 (by omega)
    have r2 : w3.cell? ⟨w.heap.size + 1, 2, none⟩ = some (.slice none 0 0) := ht3.at' 2 (by omega)
    have rf := ht3.fz
    have HRS := Lib.hid hrs
    clear hrs ht3 hown3 hb3 hN
    dsimp only
    repeat (first | go_values | go_skip | go_guarded | go_step | go_upon)
    obtain ⟨W9, hW9⟩ : ∃ W9, W9 = resW w3 (w.heap.size + 1) (.int .i64 Hd) (.int .i64 Wd) (.slice o3 N k3) := ⟨_, rfl⟩
    rw [← hW9] at HF HRS
    unfold resW at hW9
    rw [← hW9]
    have e0 := HRS.out.c0
    have e1 := HRS.out.c1
    have e2 := HRS.out.c2
    clear hW9
    refine bodyPost_ret (v := .tuple #[.agg #[.int .i64 Hd, .int .i64 Wd, .slice o3 N k3], .int .i64 0]) (by simp only [results, turnRes]; go_simp) rfl ?_
    exact HF.out
end Go.Proofs.Ytdblibjmgamjeaa
