/-
  law4.mirrored on every tree that can be walked. Own text.
-/
import Derived.Test.YthalimgejohffaaMirroredS
import Derived.Test.YthalimgejohffaaMirroredE
import Derived.Test.YthalimgejohffaaMirrorB
namespace Go.Proofs.Ythalimgejohffaa
open Go.RowKit
set_option linter.unusedVariables false
theorem mirrored_any (s : Bool) : ∀ (n : Nat) (k a i : Int) (kids : List Tree) (oa : Option Addr) (ca : Nat) (W H : Int) (w : World), okT n (.mk k a i kids) → Sz n W H → TreeAt w (.mk k a i kids) [.int .i64 k, .int .i64 a, .int .i64 i, .slice oa kids.length ca] →
    Calls Try.prog 18 #[.agg #[.int .i64 k, .int .i64 a, .int .i64 i, .slice oa kids.length ca], .int .i64 W, .int .i64 H, .bool s] w (RetTree (mirV s n W H (.mk k a i kids)) w) := by
  intro n
  induction n with
  | zero => intro k a i kids oa ca W H w h; cases h
  | succ n ih =>
    intro k a i kids oa ca W H w h hz hA
    rcases h with ⟨rfl, hk⟩ | ⟨⟨k0, a0, i0, l0⟩, ⟨k1, a1, i1, l1⟩, rfl, hk, rfl, ha1, ha2, h0, h1⟩
    · rw [mirV_leaf]
      exact mirrored_leaf k a i oa ca W H s w hk hA.bounds
    · obtain ⟨tb, toff, o0, p0, o1, p1, rfl, _, c0, c1, c2, c3, c4, c5, c6, c7, A0, A1⟩ := hA.cut
      obtain ⟨z1, z2, z3, z4, z5, z6⟩ := hz.down ha1 ha2
      rcases hk with rfl | rfl
      · rw [mirV_cut, if_pos rfl]
        exact mirrored_sides s a k0 a0 i0 k1 a1 i1 _ _ tb toff ca p0 p1 o0 o1 W H (mirV s n a H (.mk k0 a0 i0 l0)) (mirV s n (W - a) H (.mk k1 a1 i1 l1)) w hz.bd ⟨ha1, ha2⟩ c0 c1 c2 c3 c4 c5 c6 c7
          (fun w' hb => ih k0 a0 i0 l0 o0 p0 _ _ w' h0 z1 (A0.under hb)) (fun w' hb => ih k1 a1 i1 l1 o1 p1 _ _ w' h1 z2 (A1.under hb))
      · rw [mirV_cut, if_neg (by omega)]
        exact mirrored_ends s a k0 a0 i0 k1 a1 i1 _ _ tb toff ca p0 p1 o0 o1 W H (mirV s n W a (.mk k0 a0 i0 l0)) (mirV s n W (H - a) (.mk k1 a1 i1 l1)) w hz.bd ⟨ha1, ha2⟩ c0 c1 c2 c3 c4 c5 c6 c7
          (fun w' hb => ih k0 a0 i0 l0 o0 p0 _ _ w' h0 z3 (A0.under hb)) (fun w' hb => ih k1 a1 i1 l1 o1 p1 _ _ w' h1 z4 (A1.under hb))
end Go.Proofs.Ythalimgejohffaa
