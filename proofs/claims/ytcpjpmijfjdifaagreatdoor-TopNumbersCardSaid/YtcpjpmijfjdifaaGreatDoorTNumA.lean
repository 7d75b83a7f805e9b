/-
  TopNumbers: the parts of its walk. Own text.
-/
import Derived.Test.YtcpjpmijfjdifaaGreatDoorEx
import Derived.Test.YtcpjpmijfjdifaaGreatDoorMade2
import Derived.Test.YtcpjpmijfjdifaaGreatDoorStackW
import Derived.Test.YtcpjpmijfjdifaaGreatDoorNumV
namespace Go.Proofs.YtcpjpmijfjdifaaGreatDoor
open Go.RowKit
set_option linter.unusedVariables false
def nf : Nat → Bool := fun _ => false
/-- A number that stands on a sheet. -/
theorem stack_cell {w w' wr : World} {rv : List Value} {c p S : Nat} {bl ol cl : Nat} (h : NB w w' (.slice (some ⟨bl, ol, none⟩) S cl) rv (stackS c p S S)) (hb : Below w'.heap.size w' wr) {s q : Nat} (h1 : s < S) (h2 : q < p) :
    ∃ br fr cr, wr.cell? ⟨bl, ol + s, none⟩ = some (.slice (some ⟨br, fr, none⟩) p cr) ∧ wr.cell? ⟨br, fr + q, none⟩ = some (.int .i64 ((placeV c S s q : Nat) : Int)) := by
  have hl : s < rv.length := by rw [h.r.len, stackS_len]; exact h1
  have hl2 : s < (stackS c p S S).length := by rw [stackS_len]; exact h1
  obtain ⟨b, off, cap, e1, cv⟩ := tm_ownV (h.r.op.below hb) hl
  simp only [Value.slice.injEq, Option.some.injEq, Addr.mk.injEq] at e1
  obtain ⟨⟨rfl, rfl, -⟩, -, rfl⟩ := e1
  obtain ⟨ou, cu, e2, -, hfu⟩ := (h.r.row s hl hl2).flat (fun _ => rfl)
  rw [stackS_get] at e2 hfu
  rw [rowS_len] at e2
  have hq : q < (rowS c p S s).length := by rw [rowS_len]; exact h2
  obtain ⟨bu, offu, rfl, u0⟩ := (Flat.below hfu hb).int hq
  rw [rowS_get] at u0
  exact ⟨bu, offu, cu, by rw [← e2]; exact cv, u0⟩
/-- The parts under way. -/
structure PU (w0 wr : World) (u : Value) (l : List Pt) : Prop where
  bel : Below w0.heap.size w0 wr
  ou : Own wr w0.heap.size 35 2 encPt u l
theorem PU.start (w : World) : PU w w (.slice none 0 0) [] := ⟨Below.refl _ _, Own.nil _ _ _ _ _⟩
theorem PU.below {w0 wr w' : World} {u : Value} {l : List Pt} (h : PU w0 wr u l) (hb : Below wr.heap.size wr w') : PU w0 w' u l := ⟨h.bel.trans (hb.mono h.bel.size), h.ou.below hb⟩
theorem PU.addU {w0 wr w' : World} {u u' : Value} {l l' : List Pt} (h : PU w0 wr u l) (hown : Own w' w0.heap.size 35 2 encPt u' l') (hg : wr.grownBy w' u.ownBlock) : PU w0 w' u' l' :=
  ⟨h.bel.grown hg h.bel.size fun j hj => (h.ou.lt hj).1, hown⟩
theorem lit2 {W : World} {b : Nat} (h : W.heap.size = b) (x y : Int) : IsSlice (W.alloc (.cells #[.int .i64 x, .int .i64 y] 3)) 1 encInt (.slice (some ⟨b, 0, none⟩) 2 2) [x, y] := by
  subst h
  exact IsSlice.litN W 1 encInt [x, y] _ (fun _ => rfl) (by unfold maxLen; simp) 2
abbrev mkW (w : World) (c : Nat) : World := w.alloc (.cells (madeCells #[.int .i64 0, .bool false] (c * 2)) 35)
abbrev twoW (w : World) (c : Nat) (ou : Option Addr) (cu : Nat) : World := (mkW w c).alloc (.cells #[.slice ou c cu, .slice (some ⟨w.heap.size, 0, none⟩) c c] 29)
theorem twoW_below (w : World) (c : Nat) (ou : Option Addr) (cu : Nat) : Below w.heap.size w (twoW w c ou cu) := balloc (balloc (Below.refl _ w) _) _
theorem two_run (w : World) (c : Nat) (hc : c ≤ 512) (ou : Option Addr) (cu : Nat) (hu : Flat w 2 encPt ou (numRow c nf)) :
    Calls Tryz.prog 9 #[.slice (some ⟨w.heap.size + 1, 0, none⟩) 2 2, .slice none 0 0] (twoW w c ou cu) (RetAll (twoFs c) [] 0 (twoW w c ou cu)) := by
  have hs : (mkW w c).heap.size = w.heap.size + 1 := World.size_alloc _ _
  have hb1 : Below (mkW w c).heap.size (mkW w c) (twoW w c ou cu) := balloc (Below.refl _ _) _
  have hcl : ∀ k v, (#[.slice ou c cu, .slice (some ⟨w.heap.size, 0, none⟩) c c] : Array Value)[k]? = some v → (twoW w c ou cu).cell? ⟨w.heap.size + 1, k, none⟩ = some v := fun k v hv => by
    rw [← hs, cell_of_row _ (mkW w c).heap.size k _ _ (0, 0) (heap_alloc_new (mkW w c) _)]
    exact hv
  have hA : Args (twoW w c ou cu) (twoFs c) (some ⟨w.heap.size + 1, 0, none⟩) (fun k => if k = 0 then ou else some ⟨w.heap.size, 0, none⟩) (fun k => if k = 0 then cu else c) := by
    refine ⟨fun k hk => ⟨_, 0, rfl, ?_⟩, fun k hk => ?_⟩
    · match k, hk with
      | 0, _ => rw [two_ln c 0 (by omega)]; exact hcl 0 _ rfl
      | 1, _ => rw [two_ln c 1 (by omega)]; exact hcl 1 _ rfl
    · match k, hk with
      | 0, _ => exact hu.below (twoW_below w c ou cu)
      | 1, _ => exact (flat_made2 w c _).below hb1
  exact run_any (twoFs c) [] _ _ _ 2 none 0 _ hA (by show 2 ≤ maxLen; unfold maxLen; omega) (fun i hi => by simp at hi) (by unfold maxLen; simp) (Nat.le_refl _) (fun _ => rfl) 0 (runErr_none (twoFs_ok hc))
/-- What that run leaves. -/
theorem two_ret {c : Nat} (hc : c ≤ 512) {w : World} {e : Ending} {w' : World} (h : RetAll (twoFs c) [] 0 w e w') : ∃ (cc : Nat) (og : Option Addr) (cg : Nat) (op : Option Addr) (cp : Nat) (o0 : Option Addr) (c0 : Nat) (o1 : Option Addr) (c1 : Nat) (o2 : Option Addr) (c2 : Nat) (o3 : Option Addr) (c3 : Nat) (Z : Nat),
    e = .returned (.tuple #[.agg (repC og c cg op cp o0 0 c0 cc 2 o1 c1 o2 c2 o3 c3), .int .i64 0]) ∧
    Own w' Z 3 1 encInt (.slice og c cg) (upTo c) ∧ Own w' Z 3 1 encInt (.slice o2 2 c2) [0, 0] ∧ Own w' Z 3 1 encInt (.slice o3 2 c3) [0, 0] ∧ Below w.heap.size w w' := by
  rcases h with ⟨h0, _⟩ | ⟨_, h⟩
  · exact absurd rfl h0
  · obtain ⟨cc, a, g, p, og, cg, op, cp, o0, n0, c0, o1, c1, o2, c2, o3, c3, rv, Z, rfl, hr, hrep, hn0, h0, h1, h2, h3, hZ, hb⟩ := run_ret h
    obtain ⟨rfl, ha, hm⟩ := two_done hc hr
    have hgl : (upTo c).length = c := by simp [upTo]
    rw [hm] at hn0
    subst hn0
    have e2 : wstTo a (upTo c).length (twoFs c).length = [0, 0] := by
      show [(a 0 : Int) - ((upTo c).length : Nat), (a 1 : Int) - ((upTo c).length : Nat)] = _
      rw [ha 0, ha 1, hgl, Int.sub_self]
    have e3 : lftTo (twoFs c) a (twoFs c).length = [0, 0] := by
      show [(ln (twoFs c) 0 : Int) - (a 0 : Nat), (ln (twoFs c) 1 : Int) - (a 1 : Nat)] = _
      rw [ha 0, ha 1, two_ln c 0 (by omega), two_ln c 1 (by omega), Int.sub_self]
    rw [e2] at h2
    rw [e3] at h3
    have hog := hrep.og
    rw [hgl] at hog ⊢
    exact ⟨cc, og, cg, op, cp, o0, c0, o1, c1, o2, c2, o3, c3, Z, rfl, hog, h2, h3, hb⟩
theorem own_two {w : World} {Z : Nat} {o : Option Addr} {c : Nat} {x y : Int} (h : Own w Z 3 1 encInt (.slice o 2 c) [x, y]) : ∃ b f, o = some ⟨b, f, none⟩ ∧ w.cell? ⟨b, f, none⟩ = some (.int .i64 x) ∧ w.cell? ⟨b, f + 1, none⟩ = some (.int .i64 y) := by
  obtain ⟨b, f, rfl, h0⟩ := own_cellI h (i := 0) (by simp)
  obtain ⟨b', f', e, h1⟩ := own_cellI h (i := 1) (by simp)
  simp only [Option.some.injEq, Addr.mk.injEq, and_true] at e
  obtain ⟨rfl, rfl⟩ := e
  exact ⟨b, f, rfl, h0, h1⟩
theorem upTo_len' (c : Nat) : (upTo c).length = c := by simp [upTo]
end Go.Proofs.YtcpjpmijfjdifaaGreatDoor
