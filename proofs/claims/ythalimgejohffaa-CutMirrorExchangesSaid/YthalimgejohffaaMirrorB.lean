/-
  cut.mirror on all trees; cut.Mirror. Own text.
-/
import Derived.Test.YthalimgejohffaaMirror
import Derived.Test.YthalimgejohffaaDisj
namespace Go.Proofs.Ythalimgejohffaa
open Go.RowKit
set_option linter.unusedVariables false
theorem mirror_any (s : Bool) : ∀ (n : Nat) (k a i : Int) (kids : List Tree) (oa : Option Addr) (ca : Nat) (W H : Int) (w : World), okT n (.mk k a i kids) → Sz n W H → TreeAt w (.mk k a i kids) [.int .i64 k, .int .i64 a, .int .i64 i, .slice oa kids.length ca] →
    Calls Try.prog 34 #[.int .i64 W, .int .i64 H, .agg #[.int .i64 k, .int .i64 a, .int .i64 i, .slice oa kids.length ca], .bool s] w (RetTree (mirV s n W H (.mk k a i kids)) w) := by
  intro n
  induction n with
  | zero => intro k a i kids oa ca W H w h; cases h
  | succ n ih =>
    intro k a i kids oa ca W H w h hz hA
    rcases h with ⟨rfl, _⟩ | ⟨⟨k0, a0, i0, l0⟩, ⟨k1, a1, i1, l1⟩, rfl, hk, rfl, ha1, ha2, h0, h1⟩
    · rw [mirV_leaf]
      exact mirror_leaf k a i oa ca W H s w hA.bounds
    · obtain ⟨tb, toff, o0, p0, o1, p1, rfl, _, c0, c1, c2, c3, c4, c5, c6, c7, A0, A1⟩ := hA.cut
      obtain ⟨z1, z2, z3, z4, z5, z6⟩ := hz.down ha1 ha2
      rcases hk with rfl | rfl
      · rw [mirV_cut, if_pos rfl]
        exact mirror_sides s a k0 a0 i0 k1 a1 i1 _ _ tb toff ca p0 p1 o0 o1 W H (mirV s n W a (.mk k0 a0 i0 l0)) (mirV s n W (W - a) (.mk k1 a1 i1 l1)) (mirV s n a H (.mk k0 a0 i0 l0)) (mirV s n (W - a) H (.mk k1 a1 i1 l1)) w hz.bd ⟨ha1, ha2⟩ c0 c1 c2 c3 c4 c5 c6 c7
          (fun w' hb => ih k0 a0 i0 l0 o0 p0 _ _ w' h0 z3 (A0.under hb)) (fun w' hb => ih k1 a1 i1 l1 o1 p1 _ _ w' h1 z6 (A1.under hb)) (fun w' hb => ih k0 a0 i0 l0 o0 p0 _ _ w' h0 z1 (A0.under hb)) (fun w' hb => ih k1 a1 i1 l1 o1 p1 _ _ w' h1 z2 (A1.under hb))
      · rw [mirV_cut, if_neg (by omega)]
        exact mirror_ends s a k0 a0 i0 k1 a1 i1 _ _ tb toff ca p0 p1 o0 o1 W H (mirV s n W a (.mk k0 a0 i0 l0)) (mirV s n W (H - a) (.mk k1 a1 i1 l1)) w hz.bd ⟨ha1, ha2⟩ c0 c1 c2 c3 c4 c5 c6 c7
          (fun w' hb => ih k0 a0 i0 l0 o0 p0 _ _ w' h0 z3 (A0.under hb)) (fun w' hb => ih k1 a1 i1 l1 o1 p1 _ _ w' h1 z4 (A1.under hb))
/-- What Mirror returns. -/
def RetMirror (r : Res) (T : Tree) (w : World) (e : Ending) (w' : World) : Prop :=
  Below w.heap.size w w' ∧ match r with
    | .err c => e = .returned (.tuple #[.agg #[.int .i64 0, .int .i64 0, .int .i64 0, .slice none 0 0], .int .i64 c])
    | .ok _ => ∃ k a i kids oa cap, T = .mk k a i kids ∧ e = .returned (.tuple #[.agg #[.int .i64 k, .int .i64 a, .int .i64 i, .slice oa kids.length cap], .int .i64 0]) ∧ TreeAt w' T [.int .i64 k, .int .i64 a, .int .i64 i, .slice oa kids.length cap]
theorem pieces_okT {W H : Int} {items : List Item} {t : Tree} {s : St} (h : piecesV W H items t = .ok s) : okT 80 t ∧ Sz 80 W H ∧ walkV items 80 t 0 0 W H ⟨0, [], 0⟩ = .ok s := by
  unfold piecesV at h
  split at h
  · cases h
  · rename_i hz
    have hb := beginV_zero (Decidable.not_not.1 hz)
    refine ⟨walkV_okT _ _ _ _ _ _ _ _ _ hb h, ?_, h⟩
    unfold Box at hb
    unfold Sz
    omega
set_option maxRecDepth 100000 in
set_option maxHeartbeats 4000000 in
theorem Mirror_any (W H : Int) (oi : Option Addr) (items : List Item) (ci : Nat) (k a i : Int) (kids : List Tree) (oa : Option Addr) (cap : Nat) (s : Bool) (w : World) (hm : items.length ≤ maxLen) (hx : Flat w 4 encItem oi items) (hT : TreeAt w (.mk k a i kids) [.int .i64 k, .int .i64 a, .int .i64 i, .slice oa kids.length cap]) :
    Calls Try.prog 16 #[.int .i64 W, .int .i64 H, .slice oi items.length ci, .agg #[.int .i64 k, .int .i64 a, .int .i64 i, .slice oa kids.length cap], .bool s] w (RetMirror (piecesV W H items (.mk k a i kids)) (mirV s 80 W H (.mk k a i kids)) w) := by
  have hb0 : Below w.heap.size w ((w.alloc (.cells #[.int .i64 k, .int .i64 a, .int .i64 i, .slice oa kids.length cap] 25)).alloc (.cells #[.int .i64 0, .int .i64 0, .int .i64 0, .slice none 0 0] 25)) := balloc (balloc (Below.refl _ w) _) _
  have hx1 := Lib.hid (hx.below hb0)
  have hT1 := Lib.hid (hT.under hb0)
  have b0 : ((w.alloc (.cells #[.int .i64 k, .int .i64 a, .int .i64 i, .slice oa kids.length cap] 25)).alloc (.cells #[.int .i64 0, .int .i64 0, .int .i64 0, .slice none 0 0] 25)).cell? ⟨w.heap.size, 0, none⟩ = some (.int .i64 k) := by go_simp
  have b1 : ((w.alloc (.cells #[.int .i64 k, .int .i64 a, .int .i64 i, .slice oa kids.length cap] 25)).alloc (.cells #[.int .i64 0, .int .i64 0, .int .i64 0, .slice none 0 0] 25)).cell? ⟨w.heap.size, 1, none⟩ = some (.int .i64 a) := by go_simp
  have b2 : ((w.alloc (.cells #[.int .i64 k, .int .i64 a, .int .i64 i, .slice oa kids.length cap] 25)).alloc (.cells #[.int .i64 0, .int .i64 0, .int .i64 0, .slice none 0 0] 25)).cell? ⟨w.heap.size, 2, none⟩ = some (.int .i64 i) := by go_simp
  have b3 : ((w.alloc (.cells #[.int .i64 k, .int .i64 a, .int .i64 i, .slice oa kids.length cap] 25)).alloc (.cells #[.int .i64 0, .int .i64 0, .int .i64 0, .slice none 0 0] 25)).cell? ⟨w.heap.size, 3, none⟩ = some (.slice oa kids.length cap) := by go_simp
  have g0 : ((w.alloc (.cells #[.int .i64 k, .int .i64 a, .int .i64 i, .slice oa kids.length cap] 25)).alloc (.cells #[.int .i64 0, .int .i64 0, .int .i64 0, .slice none 0 0] 25)).cell? ⟨w.heap.size + 1, 0, none⟩ = some (.int .i64 0) := by go_simp
  have g1 : ((w.alloc (.cells #[.int .i64 k, .int .i64 a, .int .i64 i, .slice oa kids.length cap] 25)).alloc (.cells #[.int .i64 0, .int .i64 0, .int .i64 0, .slice none 0 0] 25)).cell? ⟨w.heap.size + 1, 1, none⟩ = some (.int .i64 0) := by go_simp
  have g2 : ((w.alloc (.cells #[.int .i64 k, .int .i64 a, .int .i64 i, .slice oa kids.length cap] 25)).alloc (.cells #[.int .i64 0, .int .i64 0, .int .i64 0, .slice none 0 0] 25)).cell? ⟨w.heap.size + 1, 2, none⟩ = some (.int .i64 0) := by go_simp
  have g3 : ((w.alloc (.cells #[.int .i64 k, .int .i64 a, .int .i64 i, .slice oa kids.length cap] 25)).alloc (.cells #[.int .i64 0, .int .i64 0, .int .i64 0, .slice none 0 0] 25)).cell? ⟨w.heap.size + 1, 3, none⟩ = some (.slice none 0 0) := by go_simp
  have gf : ∀ j, ((w.alloc (.cells #[.int .i64 k, .int .i64 a, .int .i64 i, .slice oa kids.length cap] 25)).alloc (.cells #[.int .i64 0, .int .i64 0, .int .i64 0, .slice none 0 0] 25)).frozen? ⟨w.heap.size + 1, j, none⟩ = false := fun j => by go_simp
  have lt : w.heap.size + 1 < ((w.alloc (.cells #[.int .i64 k, .int .i64 a, .int .i64 i, .slice oa kids.length cap] 25)).alloc (.cells #[.int .i64 0, .int .i64 0, .int .i64 0, .slice none 0 0] 25)).heap.size := by simp
  have gf := Lib.hid gf
  have hb0 := Lib.hid hb0
  have lt := Lib.hid lt
  clear hx hT
  have hres : Try.f16.results = #[.cell 10 25, .tmp 11] := rfl
  cases hp : piecesV W H items (.mk k a i kids) with
  | err c =>
    have hc1 := piecesV_err hp
    have hc : (c != 0) = true := by simpa using hc1
    have HP := Lib.hid hp
    clear hc1 hp
    go_enter Try.func16, Try.ntmps16
    go_wp2_with fail
    refine (pieces_any W H oi items ci (.mk k a i kids) k a i oa kids.length cap _ hm hx1.out hT1.out).mono ?_
    rw [HP.out]
    rintro e w1 ⟨hb1, hr⟩
    have hr : e = .returned (.tuple #[.slice none 0 0, .int .i64 0, .int .i64 c]) := hr
    subst hr
    have m0 := keepCell hb1 g0; have m1 := keepCell hb1 g1; have m2 := keepCell hb1 g2; have m3 := keepCell hb1 g3
    have mf : ∀ j, w1.frozen? ⟨w.heap.size + 1, j, none⟩ = false := fun j => (hb1.frozen (p := ⟨w.heap.size + 1, j, none⟩) lt.out).trans (gf.out j)
    have mf0 := mf 0; have mf1 := mf 1; have mf2 := mf 2; have mf3 := mf 3
    have hz := Lib.hid (bthen hb0.out hb1)
    clear b0 b1 b2 b3 g0 g1 g2 g3 hb1 mf
    go_wp2
    try simp only [Exit.inBlock, Exit.then]
    refine bodyPost_ret (v := .tuple #[.agg #[.int .i64 0, .int .i64 0, .int .i64 0, .slice none 0 0], .int .i64 c]) (by simp only [results, hres]; go_simp) rfl ?_
    have hzz := hz.out
    exact ⟨by go_grown, rfl⟩
  | ok st =>
    obtain ⟨hok, hsz, _⟩ := pieces_okT hp
    have HP := Lib.hid hp
    have hok := Lib.hid hok
    have hsz := Lib.hid hsz
    clear hp
    go_enter Try.func16, Try.ntmps16
    go_wp2_with fail
    refine (pieces_any W H oi items ci (.mk k a i kids) k a i oa kids.length cap _ hm hx1.out hT1.out).mono ?_
    rw [HP.out]
    rintro e w1 ⟨hb1, hr⟩
    obtain ⟨oar, capr, rfl, _, _, _, _⟩ := hr
    have m0 := keepCell hb1 g0; have m1 := keepCell hb1 g1; have m2 := keepCell hb1 g2; have m3 := keepCell hb1 g3
    have q0 := keepCell hb1 b0; have q1 := keepCell hb1 b1; have q2 := keepCell hb1 b2; have q3 := keepCell hb1 b3
    have mf : ∀ j, w1.frozen? ⟨w.heap.size + 1, j, none⟩ = false := fun j => (hb1.frozen (p := ⟨w.heap.size + 1, j, none⟩) lt.out).trans (gf.out j)
    have l1 : w.heap.size + 1 < w1.heap.size := Nat.lt_of_lt_of_le lt.out hb1.size
    have hz := Lib.hid (bthen hb0.out hb1)
    have hT2 := Lib.hid (hT1.out.under hb1)
    have mf := Lib.hid mf
    clear b0 b1 b2 b3 g0 g1 g2 g3 hb1
    go_wp2_with fail
    refine (mirror_any s 80 k a i kids oa cap W H _ hok.out hsz.out hT2.out).mono ?_
    rintro e w2 ⟨hb2, k2, a2, i2, l2, o2, p2, hTe, rfl, hT3⟩
    have n0 := keepCell hb2 m0; have n1 := keepCell hb2 m1; have n2 := keepCell hb2 m2; have n3 := keepCell hb2 m3
    have nf : ∀ j, w2.frozen? ⟨w.heap.size + 1, j, none⟩ = false := fun j => (hb2.frozen (p := ⟨w.heap.size + 1, j, none⟩) l1).trans (mf.out j)
    have nf0 := nf 0; have nf1 := nf 1; have nf2 := nf 2; have nf3 := nf 3
    have hz2 := Lib.hid (bthen hz.out hb2)
    have hTe := Lib.hid hTe
    have hT3 := Lib.hid hT3
    clear m0 m1 m2 m3 q0 q1 q2 q3 hb2 nf
    go_wp2
    try simp only [Exit.inBlock, Exit.then]
    refine bodyPost_ret (v := .tuple #[.agg #[.int .i64 k2, .int .i64 a2, .int .i64 i2, .slice o2 l2.length p2], .int .i64 0]) (by simp only [results, hres]; go_simp) rfl ?_
    have hzz := hz2.out
    refine ⟨by go_grown, k2, a2, i2, l2, o2, p2, hTe.out, rfl, TreeB.toAt ((((hT3.out.setCell (.inl ?_) _).setCell (.inl ?_) _).setCell (.inl ?_) _).setCell (.inl ?_) _)⟩
    all_goals exact l1
end Go.Proofs.Ythalimgejohffaa
