/-
  The law CutPiecesDisjoint: its walk. Own text.
-/
import Derived.Test.YtmfmpmemdplloaaPieces
namespace Go.Proofs.Ytmfmpmemdplloaa
open Go.RowKit
set_option linter.unusedVariables false
theorem Flat.rect {w : World} {oa : Option Addr} {xs : List Rect} (h : Flat w 5 encRect oa xs) {i : Nat} (hi : i < xs.length) :
    ∃ b off, oa = some ⟨b, off, none⟩ ∧ w.cell? ⟨b, off + i * 5, none⟩ = some (.int .i64 xs[i].item) ∧ w.cell? ⟨b, off + i * 5 + 1, none⟩ = some (.int .i64 xs[i].x) ∧
      w.cell? ⟨b, off + i * 5 + 2, none⟩ = some (.int .i64 xs[i].y) ∧ w.cell? ⟨b, off + i * 5 + 3, none⟩ = some (.int .i64 xs[i].w) ∧ w.cell? ⟨b, off + i * 5 + 4, none⟩ = some (.int .i64 xs[i].h) := by
  obtain ⟨v0, hv0, b, off, e, h0⟩ := h i hi 0 (by omega)
  obtain ⟨v1, hv1, b1, off1, e1, h1⟩ := h i hi 1 (by omega)
  obtain ⟨v2, hv2, b2, off2, e2, h2⟩ := h i hi 2 (by omega)
  obtain ⟨v3, hv3, b3, off3, e3, h3⟩ := h i hi 3 (by omega)
  obtain ⟨v4, hv4, b4, off4, e4, h4⟩ := h i hi 4 (by omega)
  subst e
  simp only [Option.some.injEq, Addr.mk.injEq, and_true] at e1 e2 e3 e4
  obtain ⟨rfl, rfl⟩ := e1
  obtain ⟨rfl, rfl⟩ := e2
  obtain ⟨rfl, rfl⟩ := e3
  obtain ⟨rfl, rfl⟩ := e4
  simp [encRect] at hv0 hv1 hv2 hv3 hv4
  subst hv0 hv1 hv2 hv3 hv4
  exact ⟨b, off, rfl, by simpa using h0, by simpa [Nat.add_assoc] using h1, by simpa [Nat.add_assoc] using h2, by simpa [Nat.add_assoc] using h3, by simpa [Nat.add_assoc] using h4⟩
theorem piecesV_err {W H : Int} {items : List Item} {t : Tree} {c : Int} (h : piecesV W H items t = .err c) : c ≠ 0 := by
  unfold piecesV at h
  split at h
  · rename_i hz; cases h; exact hz
  · exact walkV_err _ _ _ _ _ _ _ _ _ h
theorem area_nonneg {l : List Rect} {x y w h : Int} (hin : ∀ r ∈ l, r.isIn x y w h) : 0 ≤ area l := by
  induction l with
  | nil => simp [area]
  | cons r l ih =>
    obtain ⟨_, _, b1, b2, _⟩ := hin r (by simp)
    have h3 : 0 ≤ r.w * r.h := Int.mul_nonneg (by omega) (by omega)
    have h4 := ih (fun q hq => hin q (by simp [hq]))
    have e : area (r :: l) = r.w * r.h + area l := by simp [area]
    omega
theorem area_take {l : List Rect} {x y w h : Int} (hin : ∀ r ∈ l, r.isIn x y w h) (k : Nat) : 0 ≤ area (l.take k) ∧ area (l.take k) ≤ area l := by
  have e : area l = area (l.take k) + area (l.drop k) := by rw [← area_append, List.take_append_drop]
  have h1 := area_nonneg (l := l.take k) (fun r hr => hin r (List.mem_of_mem_take hr))
  have h2 := area_nonneg (l := l.drop k) (fun r hr => hin r (List.mem_of_mem_drop hr))
  omega
theorem area_succ {l : List Rect} {k : Nat} (h : k < l.length) : area (l.take (k + 1)) = area (l.take k) + l[k].w * l[k].h := by
  rw [List.take_succ_eq_append_getElem h, area_append]
  simp [area]
/-- What the law needs of the answer. -/
theorem pieces_ok {W H : Int} {items : List Item} {t : Tree} {s : St} (h : piecesV W H items t = .ok s) :
    Box 0 0 W H ∧ (∀ r ∈ s.rects, r.isIn 0 0 W H) ∧ s.rects.Pairwise Rect.off ∧ 0 ≤ s.waste ∧ s.waste + area s.rects = W * H ∧ s.rects.length ≤ 4096 := by
  unfold piecesV at h
  split at h
  · cases h
  · rename_i hz
    have hb := beginV_zero (Decidable.not_not.1 hz)
    obtain ⟨h1, h2, l, h3, h4, h5, h6, h7, h8⟩ := walkV_adds _ _ _ _ _ _ _ _ _ hb h
    have e : s.rects = l := h3
    rw [e]
    exact ⟨hb, fun r hr => (h4 r hr).1, h5, h6, by have : s.waste - 0 + area l = W * H := h7; omega, by omega⟩
end Go.Proofs.Ytmfmpmemdplloaa
