/-
  impose.Plate, plain; plates in memory. Own text.
-/
import Derived.Test.YtdblibjmgamjeaaShtW
import Derived.Test.YtdblibjmgamjeaaPart
namespace Go.Proofs.Ytdblibjmgamjeaa
open Go.RowKit
set_option linter.unusedVariables false
/-- A slice of plates in memory. -/
def PlAt (w : World) (oa : Option Addr) (gs : List Img) : Prop := ∀ i (h : i < gs.length), ∃ b off o c, oa = some ⟨b, off, none⟩ ∧ w.cell? ⟨b, off + i * 3, none⟩ = some (.int .i64 gs[i].W) ∧ w.cell? ⟨b, off + i * 3 + 1, none⟩ = some (.int .i64 gs[i].H) ∧ w.cell? ⟨b, off + i * 3 + 2, none⟩ = some (.slice o (listI gs[i]).length c) ∧ (listI gs[i]).length ≤ c ∧ PxAt w o (listI gs[i]).length c (listI gs[i])
theorem PlAt.below {w w' : World} {oa : Option Addr} {gs : List Img} (h : PlAt w oa gs) (hb : Below w.heap.size w w') : PlAt w' oa gs := fun i hi => by
  obtain ⟨b, off, o, c, e, h0, h1, h2, hl, hp⟩ := h i hi
  exact ⟨b, off, o, c, e, keepCell hb h0, keepCell hb h1, keepCell hb h2, hl, hp.below hb⟩
/-- One page is pasted. -/
def stepI (gs : List Img) (g : Img) (p : Pl) : Img :=
  match gs[(p.page - 1).toNat]? with
  | some m => pasteI g p.x p.y (turnI m p.turn)
  | none => g
theorem stepI_at {gs : List Img} {g : Img} {p : Pl} {i : Nat} (hi : i < gs.length) (hp : p.page = (i : Int) + 1) : stepI gs g p = pasteI g p.x p.y (turnI gs[i] p.turn) := by
  unfold stepI
  have e : (p.page - 1).toNat = i := by omega
  rw [e, List.getElem?_eq_getElem hi]
def impI (W H : Nat) (gs : List Img) (ps : List Pl) : Img := ps.foldl (stepI gs) (fillI W H 0)
theorem step_size (gs : List Img) (g : Img) (p : Pl) : (stepI gs g p).W = g.W ∧ (stepI gs g p).H = g.H := by
  unfold stepI
  split <;> exact ⟨rfl, rfl⟩
theorem imp_size (W H : Nat) (gs : List Img) (ps : List Pl) : (impI W H gs ps).W = W ∧ (impI W H gs ps).H = H := by
  unfold impI
  have key : ∀ (ps : List Pl) (g : Img), (ps.foldl (stepI gs) g).W = g.W ∧ (ps.foldl (stepI gs) g).H = g.H := by
    intro ps
    induction ps with
    | nil => intro g; exact ⟨rfl, rfl⟩
    | cons p ps ih =>
      intro g
      have h := ih (stepI gs g p)
      have h2 := step_size gs g p
      exact ⟨h.1.trans h2.1, h.2.trans h2.2⟩
  exact key ps (fillI W H 0)
theorem imp_snoc (W H : Nat) (gs : List Img) (ps : List Pl) (p : Pl) : impI W H gs (ps ++ [p]) = stepI gs (impI W H gs ps) p := by
  unfold impI
  rw [List.foldl_append]
  rfl
/-- A placed page is in range. -/
structure PlIn (n : Nat) (p : Pl) : Prop where
  pg : ∃ i : Nat, i < n ∧ p.page = (i : Int) + 1
  x : -1024 ≤ p.x ∧ p.x ≤ 1024
  y : -1024 ≤ p.y ∧ p.y ≤ 1024
  t : 0 ≤ p.turn ∧ p.turn < 4
theorem plV_in {l : Lay} {x : Sht} (hx : Good l x) {i n : Nat} (hi : i < (pagesV l.sc x).length) (hn : i < n) : PlIn n (plV l i (pagesV l.sc x)[i]) := by
  have hpl := hx.f.plen
  have hlv := leaves_bd hx.f.inn
  have hdv : ((i : Int) + 1 - 1) / 2 < l.sc.cols * l.sc.rows := by
    have h : (i : Int) + 1 - 1 = i := by omega
    rw [h]; omega
  have hpg := hx.f.pgin hi
  have hin := place_one hx (by omega) hdv hpg
  have hsz := place_size l ((i : Int) + 1) (p := (pagesV l.sc x)[i])
  have hw := hx.w
  have hh := hx.h
  have hw0 : 0 ≤ (placeV l ((i : Int) + 1) (pagesV l.sc x)[i]).w := by rw [hsz.1]; split <;> omega
  have hh0 : 0 ≤ (placeV l ((i : Int) + 1) (pagesV l.sc x)[i]).h := by rw [hsz.2]; split <;> omega
  have hlg := hx.large
  have hob := one_bd hx.f hx.rng
  obtain ⟨x0, x1, y0, y1⟩ := hin
  obtain ⟨t0, t1⟩ := hpg.t
  have hB : InF (turnB (placeV l ((i : Int) + 1) (pagesV l.sc x)[i]) 2) := InF.turnB (b := placeV l ((i : Int) + 1) (pagesV l.sc x)[i]) ⟨x0, x1, y0, y1⟩ 2
  have hfr := turnB_frame (placeV l ((i : Int) + 1) (pagesV l.sc x)[i]) 2
  obtain ⟨B, hBe⟩ : ∃ B, B = placeV l ((i : Int) + 1) (pagesV l.sc x)[i] := ⟨_, rfl⟩
  have hfw : B.fw = oneW l ∧ B.fh = oneH l := by rw [hBe]; exact ⟨rfl, rfl⟩
  rw [← hBe] at x0 x1 y0 y1 hw0 hh0 hB hfr
  have hf1 : oneW l ≤ fullW l := by unfold fullW; split <;> omega
  have hf2 : oneH l ≤ fullH l := by unfold fullH; split <;> omega
  obtain ⟨b1, b2, b3, b4⟩ := hB
  simp only [show (2 : Nat) % 2 = 0 from rfl, show ¬ ((0 : Nat) = 1) by decide, if_false] at hfr
  obtain ⟨f1, f2, f3, f4⟩ := hfr
  unfold plV
  rw [← hBe]
  dsimp only
  split
  · rename_i hs
    have he : fullW l = oneW l * 2 := by unfold fullW; rw [if_pos hs.1]
    refine ⟨⟨i, hn, rfl⟩, ?_, ?_, ⟨t0, t1⟩⟩
    · show -1024 ≤ B.x + oneW l ∧ B.x + oneW l ≤ 1024
      omega
    · show -1024 ≤ B.y ∧ B.y ≤ 1024
      omega
  · split
    · rename_i hs
      have he : fullH l = oneH l * 2 := by unfold fullH; rw [if_pos hs.1]
      refine ⟨⟨i, hn, rfl⟩, ?_, ?_, ?_⟩
      · show -1024 ≤ (turnB B 2).x ∧ (turnB B 2).x ≤ 1024
        omega
      · show -1024 ≤ oneH l + (turnB B 2).y ∧ oneH l + (turnB B 2).y ≤ 1024
        omega
      · show 0 ≤ ((pagesV l.sc x)[i].turn + 2) % 4 ∧ ((pagesV l.sc x)[i].turn + 2) % 4 < 4
        omega
    · refine ⟨⟨i, hn, rfl⟩, ?_, ?_, ⟨t0, t1⟩⟩
      · show -1024 ≤ B.x ∧ B.x ≤ 1024
        omega
      · show -1024 ≤ B.y ∧ B.y ≤ 1024
        omega
theorem fr_in {l : Lay} {x : Sht} (hx : Good l x) {n : Nat} (hn : n ≤ (pagesV l.sc x).length) : (∀ p ∈ frV l 0 ((pagesV l.sc x).take n), PlIn n p) ∧ ∀ p ∈ bkV l 0 ((pagesV l.sc x).take n), PlIn n p := by
  have key : ∀ k, k ≤ n → (∀ p ∈ frV l 0 ((pagesV l.sc x).take k), PlIn n p) ∧ ∀ p ∈ bkV l 0 ((pagesV l.sc x).take k), PlIn n p := by
    intro k
    induction k with
    | zero => intro _; simp [frV, bkV]
    | succ k ih =>
      intro hk
      have hkl : k < (pagesV l.sc x).length := by omega
      obtain ⟨h1, h2⟩ := ih (by omega)
      have ht : (pagesV l.sc x).take (k + 1) = (pagesV l.sc x).take k ++ [(pagesV l.sc x)[k]] := List.take_succ_eq_append_getElem hkl
      have hp := plV_in hx hkl (show k < n by omega)
      rw [ht, frV_snoc, bkV_snoc, List.length_take, Nat.min_eq_left (by omega), Nat.zero_add]
      refine ⟨fun p hm => ?_, fun p hm => ?_⟩
      · rcases List.mem_append.1 hm with hm | hm
        · exact h1 p hm
        · split at hm
          · rw [List.mem_singleton.1 hm]; exact hp
          · cases hm
      · rcases List.mem_append.1 hm with hm | hm
        · exact h2 p hm
        · split at hm
          · rw [List.mem_singleton.1 hm]; exact hp
          · cases hm
  exact key n (Nat.le_refl _)
theorem Flat.pl {w : World} {oa : Option Addr} {l : List Pl} (h : Flat w 4 encPl oa l) {i : Nat} (hi : i < l.length) :
    ∃ b off, oa = some ⟨b, off, none⟩ ∧ w.cell? ⟨b, off + i * 4, none⟩ = some (.int .i64 l[i].page) ∧ w.cell? ⟨b, off + i * 4 + 1, none⟩ = some (.int .i64 l[i].x) ∧ w.cell? ⟨b, off + i * 4 + 2, none⟩ = some (.int .i64 l[i].y) ∧ w.cell? ⟨b, off + i * 4 + 3, none⟩ = some (.int .i64 l[i].turn) := by
  obtain ⟨v0, h0, b, off, e0, c0⟩ := h i hi 0 (by omega)
  obtain ⟨v1, h1, b1, off1, e1, c1⟩ := h i hi 1 (by omega)
  obtain ⟨v2, h2, b2, off2, e2, c2⟩ := h i hi 2 (by omega)
  obtain ⟨v3, h3, b3, off3, e3, c3⟩ := h i hi 3 (by omega)
  rw [e0] at e1 e2 e3
  simp only [Option.some.injEq, Addr.mk.injEq, and_true] at e1 e2 e3
  obtain ⟨rfl, rfl⟩ := e1
  obtain ⟨rfl, rfl⟩ := e2
  obtain ⟨rfl, rfl⟩ := e3
  simp only [encPl, List.getElem?_cons_zero, List.getElem?_cons_succ, Option.some.injEq] at h0 h1 h2 h3
  subst h0 h1 h2 h3
  exact ⟨b, off, e0, c0, c1, c2, c3⟩
end Go.Proofs.Ytdblibjmgamjeaa
