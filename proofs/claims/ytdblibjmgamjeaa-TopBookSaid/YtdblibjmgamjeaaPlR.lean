/-
  Rows of plates and of printed sheets in memory; what bindery.Cut returns. Own text.
-/
import Derived.Test.YtdblibjmgamjeaaEq8
import Derived.Test.YtdblibjmgamjeaaIplV
namespace Go.Proofs.Ytdblibjmgamjeaa
open Go.RowKit
set_option linter.unusedVariables false
theorem PxAt.lt {w : World} {o : Option Addr} {n cap : Nat} {xs : List Int} (h : PxAt w o n cap xs) (h0 : 0 < xs.length) {g : Nat} (hg : (Value.slice o n cap).ownBlock = some g) : g < w.heap.size := by
  obtain ⟨-, b, off, rfl, hc⟩ := h.get h0 (List.getElem?_eq_getElem h0)
  have h1 := cell?_lt hc
  cases hg
  exact h1
/-- A plate's cells. -/
structure RawP where
  w : Int
  h : Int
  o : Option Addr
  n : Nat
  c : Nat
def encRp (u : RawP) : List Value := [.int .i64 u.w, .int .i64 u.h, .slice u.o u.n u.c]
def blkP (u : RawP) (g : Nat) : Prop := (Value.slice u.o u.n u.c).ownBlock = some g
def RelP (w : World) (u : RawP) (m : Img) : Prop := u.w = m.W ∧ u.h = m.H ∧ u.n = (listI m).length ∧ (listI m).length ≤ u.c ∧ PxAt w u.o u.n u.c (listI m)
theorem px_heap {w w' : World} {o : Option Addr} {n c : Nat} {xs : List Int} (h : PxAt w o n c xs) (hb : ∀ g, (Value.slice o n c).ownBlock = some g → w'.heap[g]? = w.heap[g]?) : PxAt w' o n c xs := by
  obtain ⟨oa, cap, e, h0, hm, hf⟩ := h
  refine ⟨oa, cap, e, h0, hm, hf.heap fun a e2 => hb _ ?_⟩
  rw [e, e2]; rfl
theorem stabPl : Stab RelP blkP := ⟨fun ⟨h1, h2, h3, h4, h5⟩ hb => ⟨h1, h2, h3, h4, px_heap h5 fun g hg => hb g hg⟩⟩
theorem elemPlate : ElemType Try.prog 37 (.agg #[.int .i64 0, .int .i64 0, .slice none 0 0]) 3 40 := ElemType.mk (by kernel_rfl) rfl (by decide)
theorem PlAt.ofRows {w : World} {oa : Option Addr} {us : List RawP} {gs : List Img} (h : RowsV encRp blkP RelP 3 w oa us gs) : PlAt w oa gs := fun i hi => by
  have hi' : i < us.length := by rw [h.len]; exact hi
  obtain ⟨r1, r2, r3, r4, r5⟩ := h.row i hi' hi
  obtain ⟨v0, h0, b, off, e0, c0⟩ := h.flat i hi' 0 (by omega)
  obtain ⟨v1, h1, b1, off1, e1, c1⟩ := h.flat i hi' 1 (by omega)
  obtain ⟨v2, h2, b2, off2, e2, c2⟩ := h.flat i hi' 2 (by omega)
  rw [e0] at e1 e2
  simp only [Option.some.injEq, Addr.mk.injEq, and_true] at e1 e2
  obtain ⟨rfl, rfl⟩ := e1
  obtain ⟨rfl, rfl⟩ := e2
  simp only [encRp, List.getElem?_cons_zero, List.getElem?_cons_succ, Option.some.injEq] at h0 h1 h2
  subst h0 h1 h2
  rw [r1] at c0
  rw [r2] at c1
  rw [r3] at c2 r5
  exact ⟨b, off, _, _, e0, c0, c1, c2, r4, r5⟩
/-- A sheet's cells. -/
structure RawB where
  fw : Int
  fh : Int
  fo : Option Addr
  fn : Nat
  fc : Nat
  bw : Int
  bh : Int
  bo : Option Addr
  bn : Nat
  bc : Nat
def encRb (u : RawB) : List Value := [.int .i64 u.fw, .int .i64 u.fh, .slice u.fo u.fn u.fc, .int .i64 u.bw, .int .i64 u.bh, .slice u.bo u.bn u.bc]
def blkB (u : RawB) (g : Nat) : Prop := (Value.slice u.fo u.fn u.fc).ownBlock = some g ∨ (Value.slice u.bo u.bn u.bc).ownBlock = some g
def RelB (w : World) (u : RawB) (s : Img × Img) : Prop := (u.fw = s.1.W ∧ u.fh = s.1.H ∧ u.fn = (listI s.1).length ∧ PxAt w u.fo u.fn u.fc (listI s.1)) ∧ (u.bw = s.2.W ∧ u.bh = s.2.H ∧ u.bn = (listI s.2).length ∧ PxAt w u.bo u.bn u.bc (listI s.2))
theorem stabB : Stab RelB blkB := ⟨fun ⟨⟨h1, h2, h3, h4⟩, g1, g2, g3, g4⟩ hb => ⟨⟨h1, h2, h3, px_heap h4 fun g hg => hb g (.inl hg)⟩, g1, g2, g3, px_heap g4 fun g hg => hb g (.inr hg)⟩⟩
theorem elemBs : ElemType Try.prog 45 (.agg #[.int .i64 0, .int .i64 0, .slice none 0 0, .int .i64 0, .int .i64 0, .slice none 0 0]) 6 80 := ElemType.mk (by kernel_rfl) rfl (by decide)
abbrev RowB (w : World) (oa : Option Addr) (us : List RawB) (ss : List (Img × Img)) : Prop := RowsV encRb blkB RelB 6 w oa us ss
/-- One sheet of a row. -/
theorem RowB.at {w : World} {oa : Option Addr} {us : List RawB} {ss : List (Img × Img)} (h : RowB w oa us ss) {i : Nat} (hi : i < ss.length) : ∃ b off oF cF oB cB, oa = some ⟨b, off, none⟩ ∧ w.cell? ⟨b, off + i * 6, none⟩ = some (.int .i64 ss[i].1.W) ∧ w.cell? ⟨b, off + i * 6 + 1, none⟩ = some (.int .i64 ss[i].1.H) ∧ w.cell? ⟨b, off + i * 6 + 2, none⟩ = some (.slice oF (listI ss[i].1).length cF) ∧ w.cell? ⟨b, off + i * 6 + 3, none⟩ = some (.int .i64 ss[i].2.W) ∧ w.cell? ⟨b, off + i * 6 + 4, none⟩ = some (.int .i64 ss[i].2.H) ∧ w.cell? ⟨b, off + i * 6 + 5, none⟩ = some (.slice oB (listI ss[i].2).length cB) ∧ PxAt w oF (listI ss[i].1).length cF (listI ss[i].1) ∧ PxAt w oB (listI ss[i].2).length cB (listI ss[i].2) := by
  have hi' : i < us.length := by rw [h.len]; exact hi
  obtain ⟨⟨r1, r2, r3, r4⟩, q1, q2, q3, q4⟩ := h.row i hi' hi
  obtain ⟨v0, h0, b, off, e0, c0⟩ := h.flat i hi' 0 (by omega)
  obtain ⟨v1, h1, b1, off1, e1, c1⟩ := h.flat i hi' 1 (by omega)
  obtain ⟨v2, h2, b2, off2, e2, c2⟩ := h.flat i hi' 2 (by omega)
  obtain ⟨v3, h3, b3, off3, e3, c3⟩ := h.flat i hi' 3 (by omega)
  obtain ⟨v4, h4, b4, off4, e4, c4⟩ := h.flat i hi' 4 (by omega)
  obtain ⟨v5, h5, b5, off5, e5, c5⟩ := h.flat i hi' 5 (by omega)
  rw [e0] at e1 e2 e3 e4 e5
  simp only [Option.some.injEq, Addr.mk.injEq, and_true] at e1 e2 e3 e4 e5
  obtain ⟨rfl, rfl⟩ := e1
  obtain ⟨rfl, rfl⟩ := e2
  obtain ⟨rfl, rfl⟩ := e3
  obtain ⟨rfl, rfl⟩ := e4
  obtain ⟨rfl, rfl⟩ := e5
  simp only [encRb, List.getElem?_cons_zero, List.getElem?_cons_succ, Option.some.injEq] at h0 h1 h2 h3 h4 h5
  subst h0 h1 h2 h3 h4 h5
  rw [r1] at c0
  rw [r2] at c1
  rw [r3] at c2 r4
  rw [q1] at c3
  rw [q2] at c4
  rw [q3] at c5 q4
  exact ⟨b, off, _, _, _, _, e0, c0, c1, c2, c3, c4, c5, r4, q4⟩
/-- The blocks lie from Z on. -/
def FrB (Z : Nat) (oa : Option Addr) (us : List RawB) : Prop := (∀ a, oa = some a → Z ≤ a.block) ∧ ∀ u ∈ us, ∀ g, blkB u g → Z ≤ g
theorem bsAt_new1 (Z : Nat) (w : World) (A B : Img) (oA oB : Option Addr) (kA kB : Nat) (hA : PxAt w oA (listI A).length kA (listI A)) (hB : PxAt w oB (listI B).length kB (listI B)) (hsA : Sized A) (hsB : Sized B) (hZ : Z ≤ w.heap.size) (zA : ∀ g, (Value.slice oA (listI A).length kA).ownBlock = some g → Z ≤ g) (zB : ∀ g, (Value.slice oB (listI B).length kB).ownBlock = some g → Z ≤ g) :
    ∃ us, RowB (w.alloc (.cells #[.int .i64 A.W, .int .i64 A.H, .slice oA (listI A).length kA, .int .i64 B.W, .int .i64 B.H, .slice oB (listI B).length kB] 45)) (some ⟨w.heap.size, 0, none⟩) us [(A, B)] ∧ FrB Z (some ⟨w.heap.size, 0, none⟩) us := by
  have hb := balloc (Below.refl _ w) (.cells #[.int .i64 A.W, .int .i64 A.H, .slice oA (listI A).length kA, .int .i64 B.W, .int .i64 B.H, .slice oB (listI B).length kB] 45)
  refine ⟨[⟨A.W, A.H, oA, (listI A).length, kA, B.W, B.H, oB, (listI B).length, kB⟩], ⟨?_, rfl, fun i h1 h2 => ?_, fun u hu g hg => ?_⟩, fun a e => (by cases e; exact hZ), fun u hu g hg => (by rw [List.mem_singleton.1 hu] at hg; rcases hg with hg | hg; exact zA g hg; exact zB g hg)⟩
  · exact Flat.litN w 6 encRb [⟨A.W, A.H, oA, (listI A).length, kA, B.W, B.H, oB, (listI B).length, kB⟩] 45 (fun _ => rfl)
  · match i, h1 with
    | 0, _ => exact ⟨⟨rfl, rfl, rfl, hA.below hb⟩, rfl, rfl, rfl, hB.below hb⟩
  · rw [List.mem_singleton.1 hu] at hg
    refine Nat.lt_of_lt_of_le ?_ hb.size
    rcases hg with hg | hg
    · exact hA.lt (px_len hsA).1 hg
    · exact hB.lt (px_len hsB).1 hg
theorem bsAt_new2 (Z : Nat) (w : World) (A B C D : Img) (oA oB oC oD : Option Addr) (kA kB kC kD : Nat) (hA : PxAt w oA (listI A).length kA (listI A)) (hB : PxAt w oB (listI B).length kB (listI B)) (hC : PxAt w oC (listI C).length kC (listI C)) (hD : PxAt w oD (listI D).length kD (listI D)) (hsA : Sized A) (hsB : Sized B) (hsC : Sized C) (hsD : Sized D) (hZ : Z ≤ w.heap.size) (zA : ∀ g, (Value.slice oA (listI A).length kA).ownBlock = some g → Z ≤ g) (zB : ∀ g, (Value.slice oB (listI B).length kB).ownBlock = some g → Z ≤ g) (zC : ∀ g, (Value.slice oC (listI C).length kC).ownBlock = some g → Z ≤ g) (zD : ∀ g, (Value.slice oD (listI D).length kD).ownBlock = some g → Z ≤ g) :
    ∃ us, RowB (w.alloc (.cells #[.int .i64 A.W, .int .i64 A.H, .slice oA (listI A).length kA, .int .i64 B.W, .int .i64 B.H, .slice oB (listI B).length kB, .int .i64 C.W, .int .i64 C.H, .slice oC (listI C).length kC, .int .i64 D.W, .int .i64 D.H, .slice oD (listI D).length kD] 45)) (some ⟨w.heap.size, 0, none⟩) us [(A, B), (C, D)] ∧ FrB Z (some ⟨w.heap.size, 0, none⟩) us := by
  have hb := balloc (Below.refl _ w) (.cells #[.int .i64 A.W, .int .i64 A.H, .slice oA (listI A).length kA, .int .i64 B.W, .int .i64 B.H, .slice oB (listI B).length kB, .int .i64 C.W, .int .i64 C.H, .slice oC (listI C).length kC, .int .i64 D.W, .int .i64 D.H, .slice oD (listI D).length kD] 45)
  refine ⟨[⟨A.W, A.H, oA, (listI A).length, kA, B.W, B.H, oB, (listI B).length, kB⟩, ⟨C.W, C.H, oC, (listI C).length, kC, D.W, D.H, oD, (listI D).length, kD⟩], ⟨?_, rfl, fun i h1 h2 => ?_, fun u hu g hg => ?_⟩, fun a e => (by cases e; exact hZ), fun u hu g hg => ?_⟩
  · exact Flat.litN w 6 encRb [⟨A.W, A.H, oA, (listI A).length, kA, B.W, B.H, oB, (listI B).length, kB⟩, ⟨C.W, C.H, oC, (listI C).length, kC, D.W, D.H, oD, (listI D).length, kD⟩] 45 (fun _ => rfl)
  · match i, h1 with
    | 0, _ => exact ⟨⟨rfl, rfl, rfl, hA.below hb⟩, rfl, rfl, rfl, hB.below hb⟩
    | 1, _ => exact ⟨⟨rfl, rfl, rfl, hC.below hb⟩, rfl, rfl, rfl, hD.below hb⟩
  · refine Nat.lt_of_lt_of_le ?_ hb.size
    simp only [List.mem_cons, List.not_mem_nil, or_false] at hu
    rcases hu with rfl | rfl
    · rcases hg with hg | hg
      · exact hA.lt (px_len hsA).1 hg
      · exact hB.lt (px_len hsB).1 hg
    · rcases hg with hg | hg
      · exact hC.lt (px_len hsC).1 hg
      · exact hD.lt (px_len hsD).1 hg
  · simp only [List.mem_cons, List.not_mem_nil, or_false] at hu
    rcases hu with rfl | rfl
    · rcases hg with hg | hg
      · exact zA g hg
      · exact zB g hg
    · rcases hg with hg | hg
      · exact zC g hg
      · exact zD g hg
/-- Sheets of the call's own are returned, and 0. -/
def RetCut (ss : List (Img × Img)) (w : World) (e : Ending) (w' : World) : Prop := ∃ us oa c, e = .returned (.tuple #[.slice oa ss.length c, .int .i64 0]) ∧ RowB w' oa us ss ∧ ss.length ≤ c ∧ Below w.heap.size w w' ∧ FrB w.heap.size oa us
end Go.Proofs.Ytdblibjmgamjeaa
