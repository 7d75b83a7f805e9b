/-
  The state of the search in memory. Own text.
-/
import Derived.Test.YtiokmfmcmfbjoaaHull
namespace Go.Proofs.Ytiokmfmcmfbjoaa
open Go.RowKit
set_option linter.unusedVariables false
/-- The eight cells of a search. -/
def srcCell (b ba : Nat) (bv : Value) (far : Int) (bl bh bf bt d : Nat) : Nat → Value
  | 0 => .pointer (some ⟨b, 0, none⟩)
  | 1 => .pointer (some ⟨ba, 0, none⟩)
  | 2 => bv
  | 3 => .int .i64 far
  | 4 => .slice (some ⟨bl, 0, none⟩) d d
  | 5 => .slice (some ⟨bh, 0, none⟩) d d
  | 6 => .slice (some ⟨bf, 0, none⟩) d d
  | _ => .slice (some ⟨bt, 0, none⟩) d d
/-- The blocks of the search are new and apart. -/
structure Geo (B bs bl bh bf bt : Nat) : Prop where
  gs : B ≤ bs
  gl : B ≤ bl
  gh : B ≤ bh
  gf : B ≤ bf
  gt : B ≤ bt
  sl : bs ≠ bl
  sh : bs ≠ bh
  sf : bs ≠ bf
  st : bs ≠ bt
  lh : bl ≠ bh
  lf : bl ≠ bf
  lt : bl ≠ bt
  hf : bh ≠ bf
  ht : bh ≠ bt
  ft : bf ≠ bt
/-- The best candidate so far. -/
def BestAt (bs bl bh bf bt d : Nat) (st : Int) (dist : (Nat → Int) → Int) (bv : Value) (far : Int) (W : World) : Prop :=
  bv = .slice none 0 0 ∨ ∃ g m, bv = .slice (some ⟨g, 0, none⟩) d d ∧ g ≠ bs ∧ g ≠ bl ∧ g ≠ bh ∧ g ≠ bf ∧ g ≠ bt ∧ g < W.heap.size ∧ FTab (Value.int .i64) W g d (fun i => m i * st) ∧ (∀ i, i < d → 0 ≤ m i * st ∧ m i * st ≤ 255) ∧ far = dist m ∧ 0 ≤ far
theorem BestAt.step {bs bl bh bf bt d : Nat} {st : Int} {dist : (Nat → Int) → Int} {bv : Value} {far : Int} {W W' : World} (h : BestAt bs bl bh bf bt d st dist bv far W)
    (hs : W.heap.size ≤ W'.heap.size) (hk : ∀ g t, g ≠ bs → g ≠ bl → g ≠ bh → g ≠ bf → g ≠ bt → g < W.heap.size → FTab (Value.int .i64) W g d t → FTab (Value.int .i64) W' g d t) : BestAt bs bl bh bf bt d st dist bv far W' := by
  rcases h with h | ⟨g, m, h0, h1, h2, h3, h4, h5, h6, h7, h8, h9, h10⟩
  · exact .inl h
  · exact .inr ⟨g, m, h0, h1, h2, h3, h4, h5, by omega, hk g _ h1 h2 h3 h4 h5 h6 h7, h8, h9, h10⟩
/-- The search in memory. -/
structure SrcA (w0 : World) (b ba bs bl bh bf bt d : Nat) (st : Int) (dist : (Nat → Int) → Int) (F T lo hi : Nat → Int) (bv : Value) (far : Int) (W : World) : Prop where
  bel : Below w0.heap.size w0 W
  s : FTab (fun v : Value => v) W bs 8 (srcCell b ba bv far bl bh bf bt d)
  lo : FTab (Value.int .i64) W bl d lo
  hi : FTab (Value.int .i64) W bh d hi
  fr : FTab (Value.int .i64) W bf d F
  up : FTab (Value.int .i64) W bt d T
  zs : bs < W.heap.size
  zl : bl < W.heap.size
  zh : bh < W.heap.size
  zf : bf < W.heap.size
  zt : bt < W.heap.size
  be : BestAt bs bl bh bf bt d st dist bv far W
section
variable {w0 : World} {b ba bs bl bh bf bt d : Nat} {st : Int} {dist : (Nat → Int) → Int} {F T lo hi : Nat → Int} {bv : Value} {far : Int} {W W' : World}
theorem SrcA.drewN (h : SrcA w0 b ba bs bl bh bf bt d st dist F T lo hi bv far W) (q : Nat) : SrcA w0 b ba bs bl bh bf bt d st dist F T lo hi bv far (W.drewN q) :=
  ⟨bdrewN h.bel q, h.s.drewN q, h.lo.drewN q, h.hi.drewN q, h.fr.drewN q, h.up.drewN q, h.zs, h.zl, h.zh, h.zf, h.zt, h.be.step (Nat.le_refl _) fun g t _ _ _ _ _ _ h => h.drewN q⟩
theorem SrcA.drew (h : SrcA w0 b ba bs bl bh bf bt d st dist F T lo hi bv far W) : SrcA w0 b ba bs bl bh bf bt d st dist F T lo hi bv far W.drew := h.drewN 1
theorem SrcA.below (h : SrcA w0 b ba bs bl bh bf bt d st dist F T lo hi bv far W) (hb : Below W.heap.size W W') : SrcA w0 b ba bs bl bh bf bt d st dist F T lo hi bv far W' := by
  have hs := hb.size
  exact ⟨bthen h.bel hb, h.s.below hb h.zs, h.lo.below hb h.zl, h.hi.below hb h.zh, h.fr.below hb h.zf, h.up.below hb h.zt, Nat.lt_of_lt_of_le h.zs hs, Nat.lt_of_lt_of_le h.zl hs, Nat.lt_of_lt_of_le h.zh hs, Nat.lt_of_lt_of_le h.zf hs, Nat.lt_of_lt_of_le h.zt hs, h.be.step hs fun g t _ _ _ _ _ hl hg => hg.below hb hl⟩
theorem SrcA.congr {F' T' lo' hi' : Nat → Int} (h : SrcA w0 b ba bs bl bh bf bt d st dist F T lo hi bv far W) (h1 : ∀ i, i < d → F i = F' i) (h2 : ∀ i, i < d → T i = T' i) (h3 : ∀ i, i < d → lo i = lo' i) (h4 : ∀ i, i < d → hi i = hi' i) : SrcA w0 b ba bs bl bh bf bt d st dist F' T' lo' hi' bv far W :=
  ⟨h.bel, h.s, h.lo.congr h3, h.hi.congr h4, h.fr.congr h1, h.up.congr h2, h.zs, h.zl, h.zh, h.zf, h.zt, h.be⟩
theorem SrcA.setLo (G : Geo w0.heap.size bs bl bh bf bt) (h : SrcA w0 b ba bs bl bh bf bt d st dist F T lo hi bv far W) {k : Nat} (hk : k < d) (v : Int) : SrcA w0 b ba bs bl bh bf bt d st dist F T (fun i => if i = k then v else lo i) hi bv far (W.setCell ⟨bl, k, none⟩ (.int .i64 v)) :=
  ⟨h.bel.setCell (p := ⟨bl, k, none⟩) G.gl _, h.s.other G.sl.symm _, h.lo.set hk v, h.hi.other G.lh _, h.fr.other G.lf _, h.up.other G.lt _, by simpa using h.zs, by simpa using h.zl, by simpa using h.zh, by simpa using h.zf, by simpa using h.zt, h.be.step (by simp) fun g t _ hg _ _ _ _ ht => ht.other hg.symm _⟩
theorem SrcA.setHi (G : Geo w0.heap.size bs bl bh bf bt) (h : SrcA w0 b ba bs bl bh bf bt d st dist F T lo hi bv far W) {k : Nat} (hk : k < d) (v : Int) : SrcA w0 b ba bs bl bh bf bt d st dist F T lo (fun i => if i = k then v else hi i) bv far (W.setCell ⟨bh, k, none⟩ (.int .i64 v)) :=
  ⟨h.bel.setCell (p := ⟨bh, k, none⟩) G.gh _, h.s.other G.sh.symm _, h.lo.other G.lh.symm _, h.hi.set hk v, h.fr.other G.hf _, h.up.other G.ht _, by simpa using h.zs, by simpa using h.zl, by simpa using h.zh, by simpa using h.zf, by simpa using h.zt, h.be.step (by simp) fun g t _ _ hg _ _ _ ht => ht.other hg.symm _⟩
theorem SrcA.setFr (G : Geo w0.heap.size bs bl bh bf bt) (h : SrcA w0 b ba bs bl bh bf bt d st dist F T lo hi bv far W) {k : Nat} (hk : k < d) (v : Int) : SrcA w0 b ba bs bl bh bf bt d st dist (fun i => if i = k then v else F i) T lo hi bv far (W.setCell ⟨bf, k, none⟩ (.int .i64 v)) :=
  ⟨h.bel.setCell (p := ⟨bf, k, none⟩) G.gf _, h.s.other G.sf.symm _, h.lo.other G.lf.symm _, h.hi.other G.hf.symm _, h.fr.set hk v, h.up.other G.ft _, by simpa using h.zs, by simpa using h.zl, by simpa using h.zh, by simpa using h.zf, by simpa using h.zt, h.be.step (by simp) fun g t _ _ _ hg _ _ ht => ht.other hg.symm _⟩
theorem SrcA.setUp (G : Geo w0.heap.size bs bl bh bf bt) (h : SrcA w0 b ba bs bl bh bf bt d st dist F T lo hi bv far W) {k : Nat} (hk : k < d) (v : Int) : SrcA w0 b ba bs bl bh bf bt d st dist F (fun i => if i = k then v else T i) lo hi bv far (W.setCell ⟨bt, k, none⟩ (.int .i64 v)) :=
  ⟨h.bel.setCell (p := ⟨bt, k, none⟩) G.gt _, h.s.other G.st.symm _, h.lo.other G.lt.symm _, h.hi.other G.ht.symm _, h.fr.other G.ft.symm _, h.up.set hk v, by simpa using h.zs, by simpa using h.zl, by simpa using h.zh, by simpa using h.zf, by simpa using h.zt, h.be.step (by simp) fun g t _ _ _ _ hg _ ht => ht.other hg.symm _⟩
/-- The own candidate becomes the best one. -/
theorem SrcA.setBest (G : Geo w0.heap.size bs bl bh bf bt) (h : SrcA w0 b ba bs bl bh bf bt d st dist F T lo hi bv far W) {g : Nat} {m : Nat → Int} {D : Int} (g1 : g ≠ bs) (g2 : g ≠ bl) (g3 : g ≠ bh) (g4 : g ≠ bf) (g5 : g ≠ bt) (gz : g < W.heap.size) (hg : FTab (Value.int .i64) W g d (fun i => m i * st)) (hm : ∀ i, i < d → 0 ≤ m i * st ∧ m i * st ≤ 255) (hD : D = dist m) (h0 : 0 ≤ D) :
    SrcA w0 b ba bs bl bh bf bt d st dist F T lo hi (.slice (some ⟨g, 0, none⟩) d d) D ((W.setCell ⟨bs, 2, none⟩ (.slice (some ⟨g, 0, none⟩) d d)).setCell ⟨bs, 3, none⟩ (.int .i64 D)) := by
  refine ⟨(h.bel.setCell (p := ⟨bs, 2, none⟩) G.gs _).setCell (p := ⟨bs, 3, none⟩) G.gs _, ?_, (h.lo.other G.sl _).other G.sl _, (h.hi.other G.sh _).other G.sh _, (h.fr.other G.sf _).other G.sf _, (h.up.other G.st _).other G.st _, by simpa using h.zs, by simpa using h.zl, by simpa using h.zh, by simpa using h.zf, by simpa using h.zt, .inr ⟨g, m, rfl, g1, g2, g3, g4, g5, by simpa using gz, (hg.other g1.symm _).other g1.symm _, hm, hD, h0⟩⟩
  have h2 := h.s.set (i := 2) (by omega) (.slice (some ⟨g, 0, none⟩) d d)
  have h3 := h2.set (i := 3) (by omega) (.int .i64 D)
  refine h3.congr fun i hi => ?_
  match i, hi with
  | 0, _ => rfl
  | 1, _ => rfl
  | 2, _ => rfl
  | 3, _ => rfl
  | 4, _ => rfl
  | 5, _ => rfl
  | 6, _ => rfl
  | 7, _ => rfl
end
/-- A question in memory. -/
structure AskAt (w : World) (ba : Nat) (tv : Nat → Int) (st tt : Int) : Prop where
  t0 : w.cell? ⟨ba, 0, none⟩ = some (.int .i64 (tv 0))
  t1 : w.cell? ⟨ba, 1, none⟩ = some (.int .i64 (tv 1))
  t2 : w.cell? ⟨ba, 2, none⟩ = some (.int .i64 (tv 2))
  step : w.cell? ⟨ba, 3, none⟩ = some (.int .i64 st)
  tot : w.cell? ⟨ba, 4, none⟩ = some (.int .i64 tt)
theorem AskAt.below {w w' : World} {ba : Nat} {tv : Nat → Int} {st tt : Int} (h : AskAt w ba tv st tt) (hb : Below w.heap.size w w') : AskAt w' ba tv st tt :=
  ⟨keepCell hb h.t0, keepCell hb h.t1, keepCell hb h.t2, keepCell hb h.step, keepCell hb h.tot⟩
/-- The tones of a candidate. -/
def candL (d : Nat) (st : Int) (m : Nat → Int) : List Int := (List.range d).map (fun i => m i * st)
theorem candL_len (d : Nat) (st : Int) (m : Nat → Int) : (candL d st m).length = d := by unfold candL; rw [List.length_map, List.length_range]
theorem candL_at {d i : Nat} (h : i < d) (st : Int) (m : Nat → Int) : (candL d st m).getD i 0 = m i * st := by
  rw [List.getD_eq_getElem?_getD, List.getElem?_eq_getElem (by rw [candL_len]; exact h)]
  unfold candL
  rw [List.getElem_map, List.getElem_range]
  rfl
/-- The square of the distance of a candidate from the target. -/
noncomputable def distV (P : Prof) (d : Nat) (st : Int) (tv : Nat → Int) (m : Nat → Int) : Int :=
  (labV P (candL d st m) 0 - tv 0) * (labV P (candL d st m) 0 - tv 0) + (labV P (candL d st m) 1 - tv 1) * (labV P (candL d st m) 1 - tv 1) + (labV P (candL d st m) 2 - tv 2) * (labV P (candL d st m) 2 - tv 2)
/-- The bound of one value. -/
def gapV (lo hi t : Int) : Int := if (if lo - t < t - hi then t - hi else lo - t) < 0 then 0 else if lo - t < t - hi then t - hi else lo - t
theorem gap_bd {lo hi t : Int} (h1 : -65535 ≤ lo ∧ lo ≤ 65535) (h2 : -65535 ≤ hi ∧ hi ≤ 65535) (h3 : -65535 ≤ t ∧ t ≤ 65535) : 0 ≤ gapV lo hi t ∧ gapV lo hi t ≤ 131070 := by
  unfold gapV; (repeat' split) <;> omega
theorem gap_zero {lo hi t : Int} (h1 : lo ≤ t) (h2 : t ≤ hi) : gapV lo hi t = 0 := by unfold gapV; (repeat' split) <;> omega
/-- The hull of a box holds the colours of its candidates. -/
theorem hull_holds {P : Prof} (hok : OkProf P) {d : Nat} (hd : d = P.inks.length) {st : Int} (hst : 0 ≤ st) {F T m lo hi : Nat → Int} (hF : ∀ i, i < d → 0 ≤ F i ∧ T i * st ≤ 255) (hm : InB d F T m)
    (hC : Cov d (fromV (stepOf P.size) ((List.range d).map fun i => fineV P i (F i * st))) (toV (stepOf P.size) ((List.range d).map fun i => fineV P i (T i * st))) (fun o => valAt P d o) (fun _ => True) lo hi) :
    ∀ o, o < 3 → lo o ≤ labV P (candL d st m) o ∧ labV P (candL d st m) o ≤ hi o := fun o ho => by
  obtain ⟨s1, _⟩ := hok.step
  have hl : (fineL P (candL d st m)).length = d := by rw [fineL_len, candL_len]
  have hgd : ∀ (f : Nat → Int) i, i < d → ((List.range d).map f).getD i 0 = f i := fun f i hi => by
    rw [List.getD_eq_getElem?_getD, List.getElem?_eq_getElem (by rw [List.length_map, List.length_range]; exact hi), List.getElem_map, List.getElem_range]
    rfl
  have h0 : ∀ i, i < d → 0 ≤ F i * st ∧ F i * st ≤ m i * st ∧ m i * st ≤ T i * st := fun i hi =>
    ⟨Int.mul_nonneg (hF i hi).1 hst, Int.mul_le_mul_of_nonneg_right (hm i hi).1 hst, Int.mul_le_mul_of_nonneg_right (hm i hi).2 hst⟩
  unfold labV
  refine quickV_bd (low := (List.range d).map fun i => fineV P i (F i * st)) (high := (List.range d).map fun i => fineV P i (T i * st)) (by omega) (fun i hi => ?_) (fun c hc => ?_)
  · rw [hl] at hi
    have e : (fineL P (candL d st m)).getD i 0 = fineV P i (m i * st) := by
      rw [List.getD_eq_getElem?_getD, List.getElem?_eq_getElem (by rw [hl]; exact hi), Option.getD_some, fineL_get, candL_at hi]
    obtain ⟨a1, a2, a3⟩ := h0 i hi
    have a4 := (hF i hi).2
    rw [e, hgd _ i hi, hgd _ i hi]
    exact ⟨fineV_mono hok (by omega) a1 a2 (by omega), fineV_mono hok (by omega) (by omega) a3 a4⟩
  · rw [hl] at hc ⊢
    exact hC c (fun i hi => hc i hi) trivial o ho
end Go.Proofs.Ytiokmfmcmfbjoaa
