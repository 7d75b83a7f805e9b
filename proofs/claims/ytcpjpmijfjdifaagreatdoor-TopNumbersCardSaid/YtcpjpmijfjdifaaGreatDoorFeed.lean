/-
  The walks of a feeder's functions. Own text.
-/
import Derived.Test.YtcpjpmijfjdifaaGreatDoorCollL
import Derived.Test.YtcpjpmijfjdifaaGreatDoorFTab
import Derived.Test.YtcpjpmijfjdifaaGreatDoorRegion
import Derived.Handy
import Derived.Test.YtcpjpmijfjdifaaGreatDoorProg
import Derived.IntWalk
namespace Go.Proofs.YtcpjpmijfjdifaaGreatDoor
open Go.RowKit
set_option linter.unusedVariables false
def encPt (x : Pt) : List Value := [.int .i64 x.copy, .bool x.spoil]
def encFt (x : Ft) : List Value := [.int .i64 x.cyc, .int .i64 x.fdr, .bool x.dbl]
theorem Flat.pt {w : World} {oa : Option Addr} {xs : List Pt} (h : Flat w 2 encPt oa xs) {i : Nat} (hi : i < xs.length) :
    ∃ b off, oa = some ⟨b, off, none⟩ ∧ w.cell? ⟨b, off + i * 2, none⟩ = some (.int .i64 xs[i].copy) ∧ w.cell? ⟨b, off + i * 2 + 1, none⟩ = some (.bool xs[i].spoil) := by
  obtain ⟨v, hv, b, off, e, hc⟩ := h i hi 0 (by omega)
  obtain ⟨v', hv', b', off', e', hc'⟩ := h i hi 1 (by omega)
  obtain ⟨rfl, rfl⟩ : b = b' ∧ off = off' := by
    rw [e] at e'
    simpa using e'
  simp only [encPt, List.getElem?_cons_zero, Option.some.injEq] at hv
  simp only [encPt, List.getElem?_cons_succ, List.getElem?_cons_zero, Option.some.injEq] at hv'
  refine ⟨b, off, e, ?_, ?_⟩
  · rw [hv]; simpa using hc
  · rw [hv']; simpa [Nat.add_assoc] using hc'
theorem Flat.ft {w : World} {oa : Option Addr} {xs : List Ft} (h : Flat w 3 encFt oa xs) {i : Nat} (hi : i < xs.length) :
    ∃ b off, oa = some ⟨b, off, none⟩ ∧ w.cell? ⟨b, off + i * 3, none⟩ = some (.int .i64 xs[i].cyc) ∧ w.cell? ⟨b, off + i * 3 + 1, none⟩ = some (.int .i64 xs[i].fdr) ∧ w.cell? ⟨b, off + i * 3 + 2, none⟩ = some (.bool xs[i].dbl) := by
  obtain ⟨v, hv, b, off, e, hc⟩ := h i hi 0 (by omega)
  obtain ⟨v', hv', b', off', e', hc'⟩ := h i hi 1 (by omega)
  obtain ⟨v2, hv2, b2, off2, e2, hc2⟩ := h i hi 2 (by omega)
  rw [e] at e' e2
  simp only [Option.some.injEq, Addr.mk.injEq, and_true] at e' e2
  obtain ⟨rfl, rfl⟩ := e'
  obtain ⟨rfl, rfl⟩ := e2
  simp only [encFt, List.getElem?_cons_zero, List.getElem?_cons_succ, Option.some.injEq] at hv hv' hv2
  subst hv hv' hv2
  exact ⟨b, off, e, by simpa using hc, by simpa [Nat.add_assoc] using hc', by simpa [Nat.add_assoc] using hc2⟩
def fdrF (v : Value) (a u : Int) : Nat → Value
  | 0 => v
  | 1 => .int .i64 a
  | _ => .int .i64 u
/-- A feeder in memory. -/
structure FAt (w : World) (b : Nat) (oa : Option Addr) (c : Nat) (l : List Pt) (a u : Int) : Prop where
  tab : FTab (fun v : Value => v) w b 3 (fdrF (.slice oa l.length c) a u)
  row : Flat w 2 encPt oa l
theorem FAt.lt {w : World} {b c : Nat} {oa : Option Addr} {l : List Pt} {a u : Int} (h : FAt w b oa c l a u) : b < w.heap.size := h.tab.lt (by omega)
theorem FAt.below {w w' : World} {b c : Nat} {oa : Option Addr} {l : List Pt} {a u : Int} (h : FAt w b oa c l a u) (hb : Below w.heap.size w w') : FAt w' b oa c l a u := ⟨h.tab.below hb h.lt, h.row.below hb⟩
theorem FAt.drewN {w : World} {b c : Nat} {oa : Option Addr} {l : List Pt} {a u : Int} (h : FAt w b oa c l a u) (q : Nat) : FAt (w.drewN q) b oa c l a u := ⟨h.tab.drewN q, h.row⟩
set_option maxHeartbeats 1000000 in
theorem next_any (b : Nat) (oa : Option Addr) (c : Nat) (l : List Pt) (a : Nat) (u : Int) (w : World) (h : FAt w b oa c l a u) (ha : a < l.length) (hm : l.length ≤ 512) :
    Calls Tryz.prog 41 #[.pointer (some ⟨b, 0, none⟩)] w fun e w' => e = .returned (.int .i64 l[a].copy) ∧ ∃ q, w' = w.drewN q := by
  obtain ⟨ba, off, rfl, i0, -⟩ := h.row.pt ha
  have c0 : w.cell? ⟨b, 0, none⟩ = some (.slice (some ⟨ba, off, none⟩) l.length c) := h.tab.at' 0 (by omega)
  have c1 : w.cell? ⟨b, 1, none⟩ = some (.int .i64 a) := h.tab.at' 1 (by omega)
  obtain ⟨x, hx⟩ : ∃ x, x = l[a].copy := ⟨_, rfl⟩
  rw [← hx] at i0 ⊢
  clear hx
  generalize l.length = n at *
  have kd : (a : Int) < (n : Int) := by omega
  have k0 : (0 : Int) ≤ (a : Int) := by omega
  clear h
  go_enter Tryz.func41, Tryz.ntmps41
  go_wp2
  go_quiet (fail)
  go_wp2
  go_ret
  exact ⟨rfl, _, rfl⟩
set_option maxHeartbeats 1000000 in
theorem empty1_any (b : Nat) (oa : Option Addr) (c : Nat) (l : List Pt) (a : Nat) (u : Int) (w : World) (h : FAt w b oa c l a u) (ha : a ≤ l.length) (hm : l.length ≤ 512) :
    Calls Tryz.prog 69 #[.pointer (some ⟨b, 0, none⟩)] w fun e w' => e = .returned (.bool (a == l.length)) ∧ ∃ q, w' = w.drewN q := by
  have c0 : w.cell? ⟨b, 0, none⟩ = some (.slice oa l.length c) := h.tab.at' 0 (by omega)
  have c1 : w.cell? ⟨b, 1, none⟩ = some (.int .i64 a) := h.tab.at' 1 (by omega)
  have hb : ((a : Int) == (l.length : Int)) = (a == l.length) := by
    rw [Bool.eq_iff_iff]
    simp only [beq_iff_eq]
    omega
  generalize (a == l.length) = r at *
  generalize l.length = n at *
  clear h
  go_enter Tryz.func69, Tryz.ntmps69
  go_wp2
  go_quiet (fail)
  go_wp2
  go_ret
  exact ⟨rfl, _, rfl⟩
set_option maxHeartbeats 1000000 in
theorem waste_any (b : Nat) (oa : Option Addr) (c : Nat) (l : List Pt) (a m : Nat) (u : Int) (w : World) (h : FAt w b oa c l a u) (ha : a + m ≤ l.length) (hm : l.length ≤ 512) (hu0 : 0 ≤ u) (hu1 : u ≤ 512) :
    Calls Tryz.prog 42 #[.pointer (some ⟨b, 0, none⟩), .int .i64 m] w fun e w' => e = .returned (.tuple #[]) ∧ ∃ q, w' = ((w.drewN q).setCell ⟨b, 1, none⟩ (.int .i64 ((a : Int) + m))).setCell ⟨b, 2, none⟩ (.int .i64 (u + m)) := by
  have c0 : w.cell? ⟨b, 0, none⟩ = some (.slice oa l.length c) := h.tab.at' 0 (by omega)
  have c1 : w.cell? ⟨b, 1, none⟩ = some (.int .i64 a) := h.tab.at' 1 (by omega)
  have c2 : w.cell? ⟨b, 2, none⟩ = some (.int .i64 u) := h.tab.at' 2 (by omega)
  have cf := h.tab.fz
  generalize l.length = n at *
  have x1 : IntKind.i64.wrap ((n : Int) - (a : Int)) = (n : Int) - (a : Int) := IntWalk.i64_in _ (by omega)
  have x2 : min (m : Int) ((n : Int) - (a : Int)) = (m : Int) := by omega
  clear h
  go_enter Tryz.func42, Tryz.ntmps42
  go_wp2
  go_quiet (fail)
  clear x2
  go_wp2
  go_end0
  exact ⟨rfl, _, rfl⟩
end Go.Proofs.YtcpjpmijfjdifaaGreatDoor
