/-
  A machine in memory. Own text.
-/
import Derived.Test.YtcpjpmijfjdifaaGreatDoorFeed
import Derived.Test.YtcpjpmijfjdifaaGreatDoorNest
namespace Go.Proofs.YtcpjpmijfjdifaaGreatDoor
open Go.RowKit
set_option linter.unusedVariables false
def upd {α : Type} (f : Nat → α) (k : Nat) (v : α) : Nat → α := fun j => if j = k then v else f j
theorem upd_same {α : Type} (f : Nat → α) (k : Nat) (v : α) : upd f k v k = v := by simp [upd]
theorem upd_ne {α : Type} (f : Nat → α) {k j : Nat} (v : α) (h : j ≠ k) : upd f k v j = f j := by simp [upd, h]
def machF (vf vg vp : Value) (c : Int) : Nat → Value
  | 0 => vf
  | 1 => vg
  | 2 => vp
  | 4 => .int .i64 c
  | _ => .slice none 0 0
/-- Where the machine's fixed blocks lie. -/
structure Lay (n mb bf : Nat) (fb : Nat → Nat) (B Z : Nat) : Prop where
  mbf : mb ≠ bf
  fm : ∀ k, k < n → fb k ≠ mb
  ff : ∀ k, k < n → fb k ≠ bf
  inj : ∀ j k, j < n → k < n → fb j = fb k → j = k
  lom : B ≤ mb
  lob : B ≤ bf
  lof : ∀ k, k < n → B ≤ fb k
  him : mb < Z
  hib : bf < Z
  hif : ∀ k, k < n → fb k < Z
structure Mach (w0 w : World) (fs : List (List Pt)) (so : Nat → Option Addr) (sc : Nat → Nat) (mb bf cf : Nat) (fb a : Nat → Nat) (u : Nat → Int) (vg vp : Value) (c : Nat) : Prop where
  old : Below w0.heap.size w0 w
  row : ∀ k (h : k < fs.length), Flat w0 2 encPt (so k) fs[k]
  tab : FTab (fun v : Value => v) w mb 8 (machF (.slice (some ⟨bf, 0, none⟩) fs.length cf) vg vp c)
  ptr : ∀ k, k < fs.length → w.cell? ⟨bf, k, none⟩ = some (.pointer (some ⟨fb k, 0, none⟩))
  fdr : ∀ k, k < fs.length → FTab (fun v : Value => v) w (fb k) 3 (fdrF (.slice (so k) (ln fs k) (sc k)) (a k) (u k))
  few : fs.length ≤ 8
  low : ∀ k, ln fs k ≤ 512
section
variable {w0 w : World} {fs : List (List Pt)} {so : Nat → Option Addr} {sc : Nat → Nat} {mb bf cf : Nat} {fb a : Nat → Nat} {u : Nat → Int} {vg vp : Value} {c : Nat}
theorem Mach.fat (h : Mach w0 w fs so sc mb bf cf fb a u vg vp c) {k : Nat} (hk : k < fs.length) : FAt w (fb k) (so k) (sc k) fs[k] (a k) (u k) := by
  refine ⟨?_, (h.row k hk).below h.old⟩
  have h1 := h.fdr k hk
  rw [ln_get fs k hk] at h1
  exact h1
theorem Mach.lt (h : Mach w0 w fs so sc mb bf cf fb a u vg vp c) : mb < w.heap.size := h.tab.lt (by omega)
theorem Mach.drewN (h : Mach w0 w fs so sc mb bf cf fb a u vg vp c) (q : Nat) : Mach w0 (w.drewN q) fs so sc mb bf cf fb a u vg vp c :=
  ⟨bdrewN h.old q, h.row, h.tab.drewN q, h.ptr, fun k hk => (h.fdr k hk).drewN q, h.few, h.low⟩
theorem Mach.below {w' : World} (h : Mach w0 w fs so sc mb bf cf fb a u vg vp c) (hb : Below w.heap.size w w') : Mach w0 w' fs so sc mb bf cf fb a u vg vp c :=
  ⟨h.old.trans (hb.mono h.old.size), h.row, h.tab.below hb h.lt, fun k hk => keepCell hb (h.ptr k hk), fun k hk => (h.fdr k hk).below hb ((h.fdr k hk).lt (by omega)), h.few, h.low⟩
theorem cell_other {w : World} {a : Addr} {b o : Nat} {v x : Value} (h : w.cell? a = some v) (hb : b ≠ a.block) : (w.setCell ⟨b, o, none⟩ x).cell? a = some v := by
  have hb' : a.block ≠ b := fun e => hb e.symm
  unfold World.cell? at h ⊢
  rw [Below.heap_setCell _ _ _ _ hb']
  exact h
/-- A feeder's cell is written. -/
theorem Mach.setF (h : Mach w0 w fs so sc mb bf cf fb a u vg vp c) {B Z : Nat} (L : Lay fs.length mb bf fb B Z) (hB : w0.heap.size ≤ B) {k : Nat} (hk : k < fs.length) {i : Nat} (hi : i < 3) (v : Value) {a' : Nat → Nat} {u' : Nat → Int}
    (hF : ∀ j, j < fs.length → ∀ i', i' < 3 → (if j = k ∧ i' = i then v else fdrF (.slice (so j) (ln fs j) (sc j)) (a j) (u j) i') = fdrF (.slice (so j) (ln fs j) (sc j)) (a' j) (u' j) i') :
    Mach w0 (w.setCell ⟨fb k, i, none⟩ v) fs so sc mb bf cf fb a' u' vg vp c := by
  refine ⟨h.old.setCell (p := ⟨fb k, i, none⟩) (Nat.le_trans hB (L.lof k hk)) v, h.row, h.tab.other (L.fm k hk) v, fun j hj => cell_other (h.ptr j hj) (L.ff k hk), fun j hj => ?_, h.few, h.low⟩
  by_cases e : j = k
  · subst e
    refine ((h.fdr j hj).set hi v).congr fun i' hi' => ?_
    have := hF j hj i' hi'
    simpa using this
  · refine ((h.fdr j hj).other (fun e2 => e (L.inj _ _ hj hk e2.symm)) v).congr fun i' hi' => ?_
    have := hF j hj i' hi'
    simpa [e] using this
theorem Mach.setA (h : Mach w0 w fs so sc mb bf cf fb a u vg vp c) {B Z : Nat} (L : Lay fs.length mb bf fb B Z) (hB : w0.heap.size ≤ B) {k : Nat} (hk : k < fs.length) (x : Nat) : Mach w0 (w.setCell ⟨fb k, 1, none⟩ (.int .i64 x)) fs so sc mb bf cf fb (upd a k x) u vg vp c :=
  h.setF L hB hk (by omega) _ fun j hj i hi => by
    by_cases e : j = k
    · subst e
      match i, hi with
      | 0, _ => simp [fdrF]
      | 1, _ => simp [fdrF, upd]
      | 2, _ => simp [fdrF]
    · simp [e, upd]
theorem Mach.setU (h : Mach w0 w fs so sc mb bf cf fb a u vg vp c) {B Z : Nat} (L : Lay fs.length mb bf fb B Z) (hB : w0.heap.size ≤ B) {k : Nat} (hk : k < fs.length) (x : Int) : Mach w0 (w.setCell ⟨fb k, 2, none⟩ (.int .i64 x)) fs so sc mb bf cf fb a (upd u k x) vg vp c :=
  h.setF L hB hk (by omega) _ fun j hj i hi => by
    by_cases e : j = k
    · subst e
      match i, hi with
      | 0, _ => simp [fdrF]
      | 1, _ => simp [fdrF]
      | 2, _ => simp [fdrF, upd]
    · simp [e, upd]
/-- A cell of the report is written. -/
theorem Mach.setM (h : Mach w0 w fs so sc mb bf cf fb a u vg vp c) {B Z : Nat} (L : Lay fs.length mb bf fb B Z) (hB : w0.heap.size ≤ B) {i : Nat} (hi : i < 8) (v : Value) {vg' vp' : Value} {c' : Nat}
    (hF : ∀ j, j < 8 → (if j = i then v else machF (.slice (some ⟨bf, 0, none⟩) fs.length cf) vg vp c j) = machF (.slice (some ⟨bf, 0, none⟩) fs.length cf) vg' vp' c' j) :
    Mach w0 (w.setCell ⟨mb, i, none⟩ v) fs so sc mb bf cf fb a u vg' vp' c' :=
  ⟨h.old.setCell (p := ⟨mb, i, none⟩) (Nat.le_trans hB L.lom) v, h.row, (h.tab.set hi v).congr hF, fun j hj => cell_other (h.ptr j hj) L.mbf, fun j hj => (h.fdr j hj).other (fun e => L.fm j hj e.symm) v, h.few, h.low⟩
theorem Mach.congr (h : Mach w0 w fs so sc mb bf cf fb a u vg vp c) {a' : Nat → Nat} {u' : Nat → Int} (ha : ∀ k, k < fs.length → a k = a' k ∧ u k = u' k) : Mach w0 w fs so sc mb bf cf fb a' u' vg vp c :=
  ⟨h.old, h.row, h.tab, h.ptr, fun k hk => by rw [← (ha k hk).1, ← (ha k hk).2]; exact h.fdr k hk, h.few, h.low⟩
/-- Another row than the machine's blocks grows. -/
theorem Mach.grown {w' : World} (h : Mach w0 w fs so sc mb bf cf fb a u vg vp c) {B Z : Nat} (L : Lay fs.length mb bf fb B Z) (hB : w0.heap.size ≤ B) (hBZ : B ≤ Z) {r : Option Nat} (hg : w.grownBy w' r) (hr : ∀ g, r = some g → Z ≤ g) : Mach w0 w' fs so sc mb bf cf fb a u vg vp c := by
  have hk : ∀ g, g < w.heap.size → g < Z → w'.heap[g]? = w.heap[g]? := fun g h1 h2 => hg.block g h1 fun e => by have := hr g e.symm; omega
  have hc : ∀ (x : Addr) v, w.cell? x = some v → x.block < Z → w'.cell? x = some v := fun x v hv hx => by
    have hl := cell?_lt hv
    unfold World.cell? at hv ⊢
    rw [hk _ hl hx]
    exact hv
  have hf : ∀ g n t, FTab (fun v : Value => v) w g n t → g < w.heap.size → g < Z → FTab (fun v : Value => v) w' g n t := fun g n t ht h1 h2 =>
    ⟨fun i hi => hc _ _ (ht.at' i hi) h2, fun o => by
      have := ht.fz o
      unfold World.frozen? at this ⊢
      simp only at this ⊢
      rw [hk g h1 h2]
      exact this⟩
  refine ⟨h.old.grown hg h.old.size fun j hj => by have := hr j hj; omega, h.row, hf _ _ _ h.tab h.lt L.him, fun k hk' => hc _ _ (h.ptr k hk') L.hib, fun k hk' => hf _ _ _ (h.fdr k hk') ((h.fdr k hk').lt (by omega)) (L.hif k hk'), h.few, h.low⟩
end
end Go.Proofs.YtcpjpmijfjdifaaGreatDoor
