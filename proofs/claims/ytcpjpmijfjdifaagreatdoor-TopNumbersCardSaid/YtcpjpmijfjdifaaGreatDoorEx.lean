/-
  The machine's first example; a good run's report, taken apart. Own text.
-/
import Derived.Test.YtcpjpmijfjdifaaGreatDoorEqu
namespace Go.Proofs.YtcpjpmijfjdifaaGreatDoor
open Go.RowKit
set_option linter.unusedVariables false
def RetTrue (w : World) (e : Ending) (w' : World) : Prop := e = .returned (.bool true) ∧ Below w.heap.size w w'
abbrev exBlk : Obj := .cells #[.int .i64 1, .bool false, .int .i64 2, .bool false] 35
def exW (w : World) : World := (((w.alloc exBlk).alloc exBlk).alloc (.cells #[.slice (some ⟨w.heap.size, 0, none⟩) 2 2, .slice (some ⟨w.heap.size + 1, 0, none⟩) 2 2] 29)).alloc (.cells #[.int .i64 0, .int .i64 0, .bool false] 55)
theorem exW_below (w : World) : Below w.heap.size w (exW w) := balloc (balloc (balloc (balloc (Below.refl _ w) _) _) _) _
theorem exW_args (w : World) : Args (exW w) exF (some ⟨w.heap.size + 1 + 1, 0, none⟩) (fun k => some ⟨w.heap.size + k, 0, none⟩) (fun _ => 2) := by
  have s1 : (w.alloc exBlk).heap.size = w.heap.size + 1 := World.size_alloc _ _
  have f1 : Flat (w.alloc exBlk) 2 encPt (some ⟨w.heap.size, 0, none⟩) exR := Flat.litN w 2 encPt exR _ (fun _ => rfl)
  have f2 : Flat ((w.alloc exBlk).alloc exBlk) 2 encPt (some ⟨w.heap.size + 1, 0, none⟩) exR := by
    have h := Flat.litN (w.alloc exBlk) 2 encPt exR 35 (fun _ => rfl)
    rw [s1] at h
    exact h
  have b3 : Below ((w.alloc exBlk).alloc exBlk).heap.size ((w.alloc exBlk).alloc exBlk) (exW w) := balloc (balloc (Below.refl _ _) _) _
  have b2 : Below (w.alloc exBlk).heap.size (w.alloc exBlk) (exW w) := balloc (balloc (balloc (Below.refl _ _) _) _) _
  refine ⟨fun k hk => ⟨_, 0, rfl, ?_⟩, fun k hk => ?_⟩
  · match k, hk with
    | 0, _ => unfold exW; show World.cell? _ ⟨w.heap.size + 1 + 1, 0, none⟩ = _; go_simp; rfl
    | 1, _ => unfold exW; show World.cell? _ ⟨w.heap.size + 1 + 1, 1, none⟩ = _; go_simp; rfl
  · match k, hk with
    | 0, _ => exact f1.below b2
    | 1, _ => exact f2.below b3
theorem exW_flt (w : World) : Flat (exW w) 3 encFt (some ⟨w.heap.size + 1 + 1 + 1, 0, none⟩) exT := by
  have h := Flat.litN (((w.alloc exBlk).alloc exBlk).alloc (.cells #[.slice (some ⟨w.heap.size, 0, none⟩) 2 2, .slice (some ⟨w.heap.size + 1, 0, none⟩) 2 2] 29)) 3 encFt exT 55 (fun _ => rfl)
  rw [World.size_alloc, World.size_alloc, World.size_alloc] at h
  exact h
theorem ex_run (w : World) : Calls Tryz.prog 9 #[.slice (some ⟨w.heap.size + 1 + 1, 0, none⟩) 2 2, .slice (some ⟨w.heap.size + 1 + 1 + 1, 0, none⟩) 1 1] (exW w) (RetAll exF exT 0 (exW w)) :=
  run_any exF exT _ _ _ 2 _ 1 (exW w) (exW_args w) (by decide) (exW_flt w) (by decide) (by decide) (fun h => by cases h) 0 ex_err
/-- A report's cells. -/
abbrev repC (og : Option Addr) (N cg : Nat) (op : Option Addr) (cp : Nat) (o0 : Option Addr) (n0 c0 : Nat) (c : Nat) (n : Nat) (o1 : Option Addr) (c1 : Nat) (o2 : Option Addr) (c2 : Nat) (o3 : Option Addr) (c3 : Nat) : Array Value :=
  #[.slice og N cg, .slice op N cp, .slice o0 n0 c0, .int .i64 c, .slice o1 n c1, .slice o2 n c2, .slice o3 n c3]
/-- A good run, taken apart. -/
theorem run_ret {fs : List (List Pt)} {F : List Ft} {w : World} {e : Ending} {w' : World} (h : RetRun fs F w e w') : ∃ (c : Nat) (a : Nat → Nat) (g : List Int) (p : List (List Int)) (og : Option Addr) (cg : Nat) (op : Option Addr) (cp : Nat) (o0 : Option Addr) (n0 c0 : Nat) (o1 : Option Addr) (c1 : Nat) (o2 : Option Addr) (c2 : Nat) (o3 : Option Addr) (c3 : Nat) (rv : List Value) (Z : Nat),
    e = .returned (.tuple #[.agg (repC og g.length cg op cp o0 n0 c0 c fs.length o1 c1 o2 c2 o3 c3), .int .i64 0]) ∧ Runs fs F 0 (fun _ => 0) [] [] c a g p ∧ Rep w' Z (.slice og g.length cg) (.slice op g.length cp) rv g p ∧
    n0 = (finX fs g a 0).length ∧ Own w' Z 3 1 encInt (.slice o0 n0 c0) (finX fs g a 0) ∧ Own w' Z 3 1 encInt (.slice o1 fs.length c1) (usedTo a fs.length) ∧ Own w' Z 3 1 encInt (.slice o2 fs.length c2) (wstTo a g.length fs.length) ∧ Own w' Z 3 1 encInt (.slice o3 fs.length c3) (lftTo fs a fs.length) ∧ w.heap.size ≤ Z ∧ Below w.heap.size w w' := by
  obtain ⟨c, a, g, p, vg, vp, vs, rv, Z, rfl, hr, hrep, hown, hZ, hb⟩ := h
  have hl := (hr.inv (RunInv.zero fs)).1.len
  obtain ⟨og, cg, rfl, _, _⟩ := hrep.og.flat (fun _ => rfl)
  obtain ⟨op, cp, rfl, _, _⟩ := hrep.op.flat (fun _ => rfl)
  obtain ⟨o0, c0, e0, _, _⟩ := (hown 0 (by omega)).flat (fun _ => rfl)
  obtain ⟨o1, c1, e1, _, _⟩ := (hown 1 (by omega)).flat (fun _ => rfl)
  obtain ⟨o2, c2, e2, _, _⟩ := (hown 2 (by omega)).flat (fun _ => rfl)
  obtain ⟨o3, c3, e3, _, _⟩ := (hown 3 (by omega)).flat (fun _ => rfl)
  have h0 := hown 0 (by omega)
  have h1 : Own w' Z 3 1 encInt (vs 1) (usedTo a fs.length) := hown 1 (by omega)
  have h2 : Own w' Z 3 1 encInt (vs 2) (wstTo a g.length fs.length) := hown 2 (by omega)
  have h3 : Own w' Z 3 1 encInt (vs 3) (lftTo fs a fs.length) := hown 3 (by omega)
  rw [show finX fs g a 1 = usedTo a fs.length from rfl, usedTo_len] at e1
  rw [show finX fs g a 2 = wstTo a g.length fs.length from rfl, wstTo_len] at e2
  rw [show finX fs g a 3 = lftTo fs a fs.length from rfl, lftTo_len] at e3
  rw [e0] at h0
  rw [e1] at h1
  rw [e2] at h2
  rw [e3] at h3
  rw [e0, e1, e2, e3]
  rw [hrep.len, hl] at hrep ⊢
  exact ⟨c, a, g, p, og, cg, op, cp, o0, _, c0, o1, c1, o2, c2, o3, c3, rv, Z, rfl, hr, hrep, rfl, h0, h1, h2, h3, hZ, hb⟩
/-- What the example leaves. -/
theorem ex_ret {w : World} {e : Ending} {w' : World} (h : RetAll exF exT 0 w e w') : ∃ (c : Nat) (og : Option Addr) (cg : Nat) (op : Option Addr) (cp : Nat) (o0 : Option Addr) (c0 : Nat) (o1 : Option Addr) (c1 : Nat) (o2 : Option Addr) (c2 : Nat) (o3 : Option Addr) (c3 : Nat) (Z : Nat), e = .returned (.tuple #[.agg (repC og 1 cg op cp o0 1 c0 c 2 o1 c1 o2 c2 o3 c3), .int .i64 0]) ∧
    Own w' Z 3 1 encInt (.slice og 1 cg) [2] ∧ Own w' Z 3 1 encInt (.slice o0 1 c0) [1] ∧ Own w' Z 3 1 encInt (.slice o2 2 c2) [1, 1] ∧ Below w.heap.size w w' := by
  rcases h with ⟨h0, _⟩ | ⟨_, h⟩
  · exact absurd rfl h0
  · obtain ⟨c, a, g, p, og, cg, op, cp, o0, n0, c0, o1, c1, o2, c2, o3, c3, rv, Z, rfl, hr, hrep, hn0, h0, h1, h2, h3, hZ, hb⟩ := run_ret h
    obtain ⟨rfl, hm, hw⟩ := ex_done hr
    rw [hm] at h0 hn0
    have hw' : wstTo a 1 2 = [1, 1] := hw
    subst hn0
    refine ⟨c, og, cg, op, cp, o0, c0, o1, c1, o2, c2, o3, c3, Z, rfl, hrep.og, h0, ?_, hb⟩
    rw [← hw']
    exact h2
theorem lit1 {W : World} {b : Nat} (h : W.heap.size = b) (x : Int) : IsSlice (W.alloc (.cells #[.int .i64 x] 3)) 1 encInt (.slice (some ⟨b, 0, none⟩) 1 1) [x] := by
  subst h
  exact IsSlice.litN W 1 encInt [x] _ (fun _ => rfl) (by unfold maxLen; simp) 1
end Go.Proofs.YtcpjpmijfjdifaaGreatDoor
