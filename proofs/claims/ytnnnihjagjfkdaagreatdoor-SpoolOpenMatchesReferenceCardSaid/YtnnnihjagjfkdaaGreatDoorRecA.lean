/-
  The scan's record at every outcome; what a record leaves alone. Own text.
-/
import Derived.Test.YtnnnihjagjfkdaaGreatDoorApply
namespace Go.Proofs.YtnnnihjagjfkdaaGreatDoor
open Go.RowKit
set_option linter.unusedVariables false
def RetRecA (b : Nat) (s : Sc) (w : World) (e : Ending) (w' : World) : Prop :=
  (∃ ws s', recV s = (some ws, s') ∧ RetRecYes b ws s' w e w') ∨ (∃ s', recV s = (none, s') ∧ RetRecNo b s' w e w')
theorem rec_any (b : Nat) (s : Sc) (w : World) (hs : ScAt w b s) (hok : ScOk s) (htb : ∀ W, Only b w W → Tabz W) :
    Calls Tryz.prog 24 #[.pointer (some ⟨b, 0, none⟩)] w (RetRecA b s w) := by
  cases hc : cutNl s.rest with
  | none =>
    refine (rec_none b s w hs hok (htb w (Only.refl b w)) hc).mono fun e w' h => .inr ⟨s, ?_, h⟩
    unfold recV
    rw [hc]
  | some p =>
    refine (rec_some b s w hs hok htb p hc).mono fun e w' h => ?_
    have hr : recV s = if lineV (epochV s (wordsV p.1)) s.seq (wordsV p.1).dropLast = p.1 ++ [10] then (some (wordsV p.1).dropLast, { rest := p.2, epoch := epochV s (wordsV p.1), seq := s.seq + 1, read := s.read + p.1.length + 1 })
        else (none, { s with epoch := epochV s (wordsV p.1) }) := by
      unfold recV
      rw [hc]
    by_cases he : lineV (epochV s (wordsV p.1)) s.seq (wordsV p.1).dropLast = p.1 ++ [10]
    · exact .inl ⟨_, _, by rw [hr, if_pos he], h.1 he⟩
    · exact .inr ⟨_, by rw [hr, if_neg he], h.2 he⟩
/-- What a record is that was read. -/
structure RecYes (s : Sc) (ws : List (List UInt8)) (s' : Sc) : Prop where
  ok : ScOk s'
  len : ∀ x ∈ ws, x.length ≤ 1000000
  many : ws.length ≤ 100000
theorem recV_yes {s s' : Sc} {ws : List (List UInt8)} (hok : ScOk s) (h : recV s = (some ws, s')) : RecYes s ws s' := by
  unfold recV at h
  cases hc : cutNl s.rest with
  | none => rw [hc] at h; cases h
  | some p =>
    rw [hc] at h
    simp only at h
    split at h
    · simp only [Prod.mk.injEq, Option.some.injEq] at h
      obtain ⟨rfl, rfl⟩ := h
      have h1 := (cutNl_some (a := p.1) (b := p.2) (by rw [hc])).1
      have h2 : s.rest.length = p.1.length + 1 + p.2.length := by rw [h1]; simp; omega
      have h3 := hok.len
      have h4 := hok.rd
      have h5 := hok.sq
      refine ⟨⟨?_, ?_, ?_, epochV_bd hok _⟩, fun x hx => ?_, ?_⟩
      · simp only; omega
      · simp only; omega
      · simp only; omega
      · have h6 := word_le p.1 x (List.dropLast_subset _ hx)
        omega
      · have h6 := wordsV_len p.1
        rw [List.length_dropLast]
        omega
    · cases h
theorem recV_no {s s' : Sc} (hok : ScOk s) (h : recV s = (none, s')) : ScOk s' := by
  unfold recV at h
  cases hc : cutNl s.rest with
  | none => rw [hc] at h; cases h; exact hok
  | some p =>
    rw [hc] at h
    simp only at h
    split at h
    · cases h
    · cases h
      exact ⟨hok.len, hok.rd, hok.sq, epochV_bd hok _⟩
theorem QAt.only {w w' : World} {B b sb : Nat} {q : Que} {vj vw : Value} (h : QAt w B b q vj vw) (ho : Only sb w w') (hs : sb < B) : QAt w' B b q vj vw := by
  have hb := h.bb
  have hl := h.lt
  exact ⟨h.tab.ofBlock (ho.block b hl (by omega)), h.jobs.ofBlocks (fun j hj => ho.block j (h.jobs.blk hj).2 (by have := (h.jobs.blk hj).1; omega)), h.wr.ofBlocks (fun j hj => ho.block j (h.wr.blk hj).2 (by have := (h.wr.blk hj).1; omega)), hb, h.nj, h.nw, h.jw⟩
theorem ScAt.base {w w' : World} {B sb : Nat} {s : Sc} (h : ScAt w sb s) (hb : Below B w w') (hs : sb < B) : ScAt w' sb s := FTab.ofBlock h (hb.block sb hs)
end Go.Proofs.YtnnnihjagjfkdaaGreatDoor
