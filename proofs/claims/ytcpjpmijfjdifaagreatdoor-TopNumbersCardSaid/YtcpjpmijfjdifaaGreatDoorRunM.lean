/-
  How Run builds its machine. Own text.
-/
import Derived.Test.YtcpjpmijfjdifaaGreatDoorRunV
namespace Go.Proofs.YtcpjpmijfjdifaaGreatDoor
open Go.RowKit
set_option linter.unusedVariables false
def encP (b : Nat) : List Value := [.pointer (some ⟨b, 0, none⟩)]
structure Built (w0 w : World) (fs : List (List Pt)) (so : Nat → Option Addr) (sc : Nat → Nat) (mb : Nat) (vf : Value) (fb : Nat → Nat) (k : Nat) : Prop where
  bel : Below w0.heap.size w0 w
  tab : FTab (fun v : Value => v) w mb 8 (machF vf (.slice none 0 0) (.slice none 0 0) 0)
  own : Own w (mb + 1) 62 1 encP vf ((List.range k).map fb)
  fdr : ∀ j, j < k → FTab (fun v : Value => v) w (fb j) 3 (fdrF (.slice (so j) (ln fs j) (sc j)) 0 0)
  lo : w0.heap.size ≤ mb
  fm : ∀ j, j < k → mb < fb j ∧ fb j < w.heap.size
  inj : ∀ i j, i < k → j < k → fb i = fb j → i = j
  fv : ∀ j, j < k → vf.ownBlock ≠ some (fb j)
section
variable {w0 w : World} {fs : List (List Pt)} {so : Nat → Option Addr} {sc : Nat → Nat} {mb : Nat} {vf : Value} {fb : Nat → Nat} {k : Nat}
theorem Built.lt (h : Built w0 w fs so sc mb vf fb k) : mb < w.heap.size := h.tab.lt (by omega)
/-- The next feeder is made, appended and stored. -/
theorem Built.next (h : Built w0 w fs so sc mb vf fb k) {w1 w5 : World} {vf' : Value} {o2 : Obj}
    (hw1 : w1 = (w.alloc (.cells #[.slice (so k) (ln fs k) (sc k), .int .i64 0, .int .i64 0] 64)).alloc o2)
    (hown : Own w5 (mb + 1) 62 1 encP vf' ((List.range k).map fb ++ [w.heap.size])) (hg : w1.grownBy w5 vf.ownBlock) (hat : vf'.ownBlock = vf.ownBlock ∨ vf'.ownBlock = some w1.heap.size) :
    FTab (fun v : Value => v) w5 mb 8 (machF vf (.slice none 0 0) (.slice none 0 0) 0) ∧ Built w0 (w5.setCell ⟨mb, 0, none⟩ vf') fs so sc mb vf' (upd fb k w.heap.size) (k + 1) := by
  have hs1 : w1.heap.size = w.heap.size + 2 := by rw [hw1, World.size_alloc, World.size_alloc]
  have hb1 : Below w.heap.size w w1 := by rw [hw1]; exact bthen (balloc (Below.refl _ w) _) (balloc (Below.refl _ _) _)
  have hlt := h.lt
  have hvn : ∀ b, vf.ownBlock = some b → mb + 1 ≤ b ∧ b < w.heap.size := fun b hb => h.own.lt hb
  have ht1 := h.tab.below hb1 hlt
  have hmid : FTab (fun v : Value => v) w5 mb 8 (machF vf (.slice none 0 0) (.slice none 0 0) 0) := ht1.blk (hg.block mb (by omega) fun e => by have := (hvn mb e.symm).1; omega)
  have hf1 : FTab (fun v : Value => v) w1 w.heap.size 3 (fdrF (.slice (so k) (ln fs k) (sc k)) 0 0) := by
    rw [hw1]
    have h0 : FTab (fun v : Value => v) (w.alloc (.cells #[.slice (so k) (ln fs k) (sc k), .int .i64 0, .int .i64 0] 64)) w.heap.size 3 (fdrF (.slice (so k) (ln fs k) (sc k)) 0 0) := by
      refine ⟨fun i hi => ?_, fun o => ?_⟩
      · rw [cell_of_row _ w.heap.size i _ _ (0, 0) (heap_alloc_new w _)]
        match i, hi with
        | 0, _ => rfl
        | 1, _ => rfl
        | 2, _ => rfl
      · unfold World.frozen?
        rw [heap_alloc_new]
        simp
    exact h0.alloc (by rw [World.size_alloc]; omega) _
  have hv5 : ∀ b, vf'.ownBlock = some b → vf.ownBlock = some b ∨ b = w.heap.size + 2 := fun b hb => by
    rcases hat with e | e
    · exact .inl (by rw [← e]; exact hb)
    · rw [e] at hb; cases hb; exact .inr hs1
  have hsz := hg.size
  refine ⟨hmid, ⟨((h.bel.trans (hb1.mono h.bel.size)).grown hg (by have := h.bel.size; have := hb1.size; omega) fun j hj => by have := (hvn j hj).1; have := h.lo; omega).setCell (p := ⟨mb, 0, none⟩) h.lo vf', (hmid.set (i := 0) (by omega) vf').congr fun i hi => ?_, ?_, fun j hj => ?_, h.lo, fun j hj => ?_, fun i j hi hj e => ?_, fun j hj => ?_⟩⟩
  · match i, hi with
    | 0, _ => rfl
    | 1, _ => rfl
    | 2, _ => rfl
    | 3, _ => rfl
    | 4, _ => rfl
    | 5, _ => rfl
    | 6, _ => rfl
    | 7, _ => rfl
  · have e : (List.range (k + 1)).map (upd fb k w.heap.size) = (List.range k).map fb ++ [w.heap.size] := by
      rw [List.range_succ, List.map_append]
      congr 1
      · refine List.map_congr_left fun j hj => ?_
        have := List.mem_range.1 hj
        rw [upd_ne _ _ (by omega)]
      · simp [upd_same]
    rw [e]
    exact hown.blocks fun b hb => Below.heap_setCell _ _ _ _ (fun e => by have e' : b = mb := e; have := (hown.lt hb).1; omega)
  · by_cases e : j = k
    · subst e
      rw [upd_same]
      exact (hf1.blk (hg.block _ (by omega) fun e => by have := (hvn _ e.symm).2; omega)).other (by omega) vf'
    · have hj' : j < k := by omega
      rw [upd_ne _ _ e]
      have hfm := h.fm j hj'
      exact (((h.fdr j hj').below hb1 hfm.2).blk (hg.block _ (by omega) fun e2 => h.fv j hj' e2.symm)).other (by omega) vf'
  · by_cases e : j = k
    · subst e
      rw [upd_same]
      simp
      omega
    · rw [upd_ne _ _ e]
      have := h.fm j (by omega)
      simp
      omega
  · by_cases ei : i = k
    · by_cases ej : j = k
      · omega
      · rw [ei, upd_same, upd_ne _ _ ej] at e
        have := (h.fm j (by omega)).2
        omega
    · by_cases ej : j = k
      · rw [ej, upd_same, upd_ne _ _ ei] at e
        have := (h.fm i (by omega)).2
        omega
      · rw [upd_ne _ _ ei, upd_ne _ _ ej] at e
        exact h.inj i j (by omega) (by omega) e
  · intro hb
    rcases hv5 _ hb with e2 | e2
    · by_cases e : j = k
      · rw [e, upd_same] at e2
        have := (hvn _ e2).2
        omega
      · rw [upd_ne _ _ e] at e2
        exact h.fv j (by omega) e2
    · by_cases e : j = k
      · rw [e, upd_same] at e2; omega
      · rw [upd_ne _ _ e] at e2
        have := (h.fm j (by omega)).2
        omega
theorem Built.start {o : TypeId} (hlo : w0.heap.size ≤ w.heap.size) (hb : Below w0.heap.size w0 w) : Built w0 (w.alloc (.cells #[.slice none 0 0, .slice none 0 0, .slice none 0 0, .slice none 0 0, .int .i64 0, .slice none 0 0, .slice none 0 0, .slice none 0 0] o)) fs so sc w.heap.size (.slice none 0 0) (fun _ => 0) 0 := by
  refine ⟨hb.alloc hlo _, ⟨fun i hi => ?_, fun a => ?_⟩, Own.nil _ _ _ _ _, fun j hj => by omega, hlo, fun j hj => by omega, fun i j hi hj _ => by omega, fun j hj => by omega⟩
  · rw [cell_of_row _ w.heap.size i _ _ (0, 0) (heap_alloc_new w _)]
    match i, hi with
    | 0, _ => rfl
    | 1, _ => rfl
    | 2, _ => rfl
    | 3, _ => rfl
    | 4, _ => rfl
    | 5, _ => rfl
    | 6, _ => rfl
    | 7, _ => rfl
  · unfold World.frozen?
    rw [heap_alloc_new]
    simp
/-- The machine is built. -/
theorem Built.mach (h : Built w0 w fs so sc mb vf fb fs.length) (h1 : 1 ≤ fs.length) (h8 : fs.length ≤ 8) (hrow : ∀ k (h : k < fs.length), Flat w0 2 encPt (so k) fs[k]) (hlow : ∀ k, ln fs k ≤ 512) :
    ∃ bf cf, vf = .slice (some ⟨bf, 0, none⟩) fs.length cf ∧ Mach w0 w fs so sc mb bf cf fb (fun _ => 0) (lessG (fun _ => 0) 0) (.slice none 0 0) (.slice none 0 0) 0 ∧ Lay fs.length mb bf fb w0.heap.size w.heap.size := by
  have hll : ((List.range fs.length).map fb).length = fs.length := by simp
  rcases h.own.2 with ⟨e0, hn⟩ | ⟨g, cap, cur, e0, hbg, hg, hn, hm, hs, ht⟩
  · rw [hll] at hn; omega
  · rw [hll] at e0
    obtain ⟨oa, c, e1, -, hf⟩ := h.own.flat (fun _ => rfl)
    rw [hll, e0] at e1
    simp only [Value.slice.injEq, true_and] at e1
    obtain ⟨e1, -⟩ := e1
    have hgl := h.own.lt (g := g) (by rw [e0]; rfl)
    refine ⟨g, cap, e0, ⟨h.bel, hrow, ?_, fun j hj => ?_, fun j hj => ?_, h8, hlow⟩, ⟨by omega, fun j hj e => by have := (h.fm j hj).1; omega, fun j hj e => h.fv j hj (by rw [e0, e]; rfl), h.inj, h.lo, by have := h.lo; omega, fun j hj => by have := (h.fm j hj).1; have := h.lo; omega, h.lt, hgl.2, fun j hj => (h.fm j hj).2⟩⟩
    · have h2 := h.tab
      rw [e0] at h2
      exact h2
    · obtain ⟨v, hv, b, off, e, hc⟩ := hf j (by rw [hll]; exact hj) 0 (by omega)
      rw [← e1] at e
      simp only [Option.some.injEq, Addr.mk.injEq, and_true] at e
      obtain ⟨rfl, rfl⟩ := e
      simp only [encP, List.getElem?_cons_zero, Option.some.injEq, List.getElem_map, List.getElem_range] at hv
      subst hv
      simpa using hc
    · have h3 := h.fdr j hj
      have e2 : lessG (fun _ => 0) 0 j = 0 := by simp [lessG]
      rw [e2]
      exact h3
end
end Go.Proofs.YtcpjpmijfjdifaaGreatDoor
