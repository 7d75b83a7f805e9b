/-
  What Run's main loop carries. Own text.
-/
import Derived.Test.YtcpjpmijfjdifaaGreatDoorRunM
import Derived.Test.YtcpjpmijfjdifaaGreatDoorMore
namespace Go.Proofs.YtcpjpmijfjdifaaGreatDoor
open Go.RowKit
set_option linter.unusedVariables false
structure RunAt (w0 wr : World) (Z : Nat) (fs : List (List Pt)) (so : Nat → Option Addr) (sc : Nat → Nat) (mb bf cf : Nat) (fb : Nat → Nat) (F S : List Ft) (vS : Value) (c d : Nat) (a : Nat → Nat) (g : List Int) (p : List (List Int)) (vg vp : Value) (rv : List Value) : Prop where
  m : Mach w0 wr fs so sc mb bf cf fb a (lessG a g.length) vg vp c
  r : Rep wr Z vg vp rv g p
  own : Own wr Z 55 3 encFt vS S
  ne : ∀ j, vS.ownBlock = some j → vg.ownBlock ≠ some j ∧ vp.ownBlock ≠ some j
  st : Stand F S c d
  inv : RunInv fs c a g p
  zs : Z ≤ wr.heap.size
  back : ∀ c' a' g' p', Runs fs F c a g p c' a' g' p' → Runs fs F 0 (fun _ => 0) [] [] c' a' g' p'
/-- The faults that are left. -/
def RemAt (vS : Value) (S : List Ft) (d : Nat) (v : Value) : Prop :=
  ∃ o c, v = .slice o (S.length - d) c ∧ S.length - d ≤ c ∧ ((o = none ∧ c = 0) ∨ ∃ b x, o = some ⟨b, x, none⟩ ∧ (d < S.length → ∃ n cap, vS = .slice (some ⟨b, 0, none⟩) n cap ∧ x = d * 3))
theorem remTo_bd (fs : List (List Pt)) (a : Nat → Nat) (h : ∀ k, ln fs k ≤ 512) (n : Nat) : remTo fs a n ≤ 512 * n := by
  induction n with
  | zero => simp [remTo]
  | succ n ih => rw [remTo_succ]; have := h n; omega
theorem RunAt.gl {w0 wr : World} {Z : Nat} {fs : List (List Pt)} {so : Nat → Option Addr} {sc : Nat → Nat} {mb bf cf : Nat} {fb : Nat → Nat} {F S : List Ft} {vS : Value} {c d : Nat} {a : Nat → Nat} {g : List Int} {p : List (List Int)} {vg vp : Value} {rv : List Value} (h : RunAt w0 wr Z fs so sc mb bf cf fb F S vS c d a g p vg vp rv) (h1 : 1 ≤ fs.length) : g.length ≤ 512 := by
  have h2 := h.inv.used 0 (by omega)
  have h3 := h.inv.win 0 (by omega)
  have h4 := h.m.low 0
  omega
theorem RunInv.next {fs : List (List Pt)} {F : List Ft} {c : Nat} {a : Nat → Nat} {g : List Int} {p : List (List Int)} (h : RunInv fs c a g p) (he : hasEmpty fs a = false) (hl : anyLag fs a = false) (b : Bool) (hf : fineV fs F c a = b) : RunInv fs (c + 1) (goOn fs F c a) (addIf b g (mostV fs a)) (addIf b p (usedV fs a)) := by
  cases b with
  | true => exact h.good he hl hf
  | false => exact h.bad he
theorem back_next {fs : List (List Pt)} {F : List Ft} {c : Nat} {a a1 : Nat → Nat} {g : List Int} {p : List (List Int)} {m : Int} (ha : Align fs a (some m) a1) (b : Bool) (hf : fineV fs F c a1 = b) {c' : Nat} {a' : Nat → Nat} {g' : List Int} {p' : List (List Int)} (h : Runs fs F (c + 1) (goOn fs F c a1) (addIf b g m) (addIf b p (usedV fs a1)) c' a' g' p') : Runs fs F c a g p c' a' g' p' := by
  cases b with
  | true => exact .good c c' a a1 a' m g g' p p' ha hf h
  | false => exact .bad c c' a a1 a' m g g' p p' ha hf h
/-- The prefix reads. -/
theorem RemAt.flat {w : World} {Z n d : Nat} {vS : Value} {S : List Ft} {b x : Nat} (hown : Own w Z 55 3 encFt vS S) (hr : d < S.length → ∃ n cap, vS = .slice (some ⟨b, 0, none⟩) n cap ∧ x = d * 3) (hn : d + n ≤ S.length) : Flat w 3 encFt (some ⟨b, x, none⟩) ((S.drop d).take n) := by
  by_cases e : n = 0
  · subst e
    intro i hi
    simp at hi
  · obtain ⟨n1, cap, rfl, rfl⟩ := hr (by omega)
    obtain ⟨oa, c1, e1, -, hf⟩ := hown.flat (fun _ => rfl)
    simp only [Value.slice.injEq] at e1
    obtain ⟨rfl, -, -⟩ := e1
    have h1 := hf.cut d n
    rw [Nat.zero_add] at h1
    exact h1
theorem RemAt.cell {w : World} {Z n d : Nat} {vS : Value} {S : List Ft} {b x : Nat} (hown : Own w Z 55 3 encFt vS S) (hr : d < S.length → ∃ n cap, vS = .slice (some ⟨b, 0, none⟩) n cap ∧ x = d * 3) (hn : d + n < S.length) : w.cell? ⟨b, x + n * 3, none⟩ = some (.int .i64 S[d + n].cyc) := by
  obtain ⟨n1, cap, rfl, rfl⟩ := hr (by omega)
  obtain ⟨oa, c1, e1, -, hf⟩ := hown.flat (fun _ => rfl)
  simp only [Value.slice.injEq] at e1
  obtain ⟨rfl, -, -⟩ := e1
  obtain ⟨b1, off, e2, i0, -, -⟩ := hf.ft hn
  simp only [Option.some.injEq, Addr.mk.injEq, and_true] at e2
  obtain ⟨rfl, rfl⟩ := e2
  rw [show 0 + (d + n) * 3 = d * 3 + n * 3 by omega] at i0
  exact i0
/-- The faults of the cycle are cut off: the first way. -/
theorem RemAt.cutN {vS : Value} {S : List Ft} {d n : Nat} {o : Option Addr} {c : Nat} (h1 : S.length - d ≤ c) (hn : d + n ≤ S.length) (hc : c = n) (ho : (o = none ∧ c = 0) ∨ ∃ b x, o = some ⟨b, x, none⟩) : RemAt vS S (d + n) (.slice o (S.length - d - n) (c - n)) := by
  refine ⟨o, c - n, by rw [Nat.sub_sub], by omega, ?_⟩
  rcases ho with ⟨e, e0⟩ | ⟨b, x, e⟩
  · exact .inl ⟨e, by omega⟩
  · exact .inr ⟨b, x, e, fun h => by omega⟩
theorem RemAt.cutS {vS : Value} {S : List Ft} {d n : Nat} {b x : Nat} {c : Nat} (h1 : S.length - d ≤ c) (hn : d + n ≤ S.length) (hr : d < S.length → ∃ n cap, vS = .slice (some ⟨b, 0, none⟩) n cap ∧ x = d * 3) : RemAt vS S (d + n) (.slice (some ⟨b, x + n * 3, none⟩) (S.length - d - n) (c - n)) := by
  refine ⟨_, c - n, by rw [Nat.sub_sub], by omega, .inr ⟨b, x + n * 3, rfl, fun h => ?_⟩⟩
  obtain ⟨n1, cap, e1, e2⟩ := hr (by omega)
  exact ⟨n1, cap, e1, by rw [e2, Nat.add_mul]⟩
end Go.Proofs.YtcpjpmijfjdifaaGreatDoor
