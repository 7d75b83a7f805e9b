/-
  The walks of sLine and sGrey. Own text.
-/
import Derived.Test.YtiokmfmcmfbjoaaGreyV
import Derived.Handy
namespace Go.Proofs.Ytiokmfmcmfbjoaa
open Go.RowKit
set_option linter.unusedVariables false
theorem Flat.other {α : Type} {w : World} {k : Nat} {enc : α → List Value} {g o : Nat} {xs : List α} (h : Flat w k enc (some ⟨g, o, none⟩) xs) {b o' : Nat} (hb : b ≠ g) (v : Value) : Flat (w.setCell ⟨b, o', none⟩ v) k enc (some ⟨g, o, none⟩) xs := by
  intro i hi j hj
  obtain ⟨u, hu, b', off, e, hc⟩ := h i hi j hj
  simp only [Option.some.injEq, Addr.mk.injEq, and_true] at e
  obtain ⟨rfl, rfl⟩ := e
  refine ⟨u, hu, g, o, rfl, ?_⟩
  have hb' : g ≠ b := fun e => hb e.symm
  go_simp
def RetLine (w : World) (e : Ending) (w' : World) : Prop := ∃ g, e = .returned (.agg #[.slice (some ⟨g, 0, none⟩) 2 2]) ∧ w.heap.size ≤ g ∧ g < w'.heap.size ∧ Flat w' 2 encInt2 (some ⟨g, 0, none⟩) lineP ∧ Below w.heap.size w w'
set_option maxRecDepth 100000 in
set_option maxHeartbeats 1000000 in
theorem sline_any (w : World) : Calls Try.prog 19 #[] w (RetLine w) := by
  go_enter Try.func19, Try.ntmps19
  go_wp2
  have hres : Try.f19.results = #[.cell 0 47] := rfl
  refine bodyPost_ret (v := .agg #[.slice (some ⟨w.heap.size + 1, 0, none⟩) 2 2]) (by simp only [results, hres]; go_simp) rfl ?_
  refine ⟨_, rfl, by omega, by simp, ?_, balloc (balloc (Below.refl _ _) _) _⟩
  have h := Flat.litN (w.alloc (.cells #[.slice (some ⟨w.heap.size + 1, 0, none⟩) 2 2] 47)) 2 encInt2 lineP 59 (fun _ => rfl)
  rw [World.size_alloc] at h
  exact h
theorem grey_prof {W : World} {gi gc gv g : Nat} (h1 : W.cell? ⟨gi, 0, none⟩ = some (.string black)) (h2 : W.cell? ⟨gc, 0, none⟩ = some (.slice (some ⟨g, 0, none⟩) 2 2)) (h3 : Flat W 2 encInt2 (some ⟨g, 0, none⟩) lineP) (h4 : Flat W 1 encInt (some ⟨gv, 0, none⟩) grey.vals) :
    ProfAt W grey (some ⟨gi, 0, none⟩) 1 (some ⟨gc, 0, none⟩) 1 (some ⟨gv, 0, none⟩) 6 where
  zn := by unfold maxLen; decide
  zi := by decide
  zi2 := by unfold maxLen; decide
  zs := fun s hs => by
    have : s = black := List.mem_singleton.1 hs
    subst this
    unfold maxLen
    decide
  inks := fun i hi j hj => by
    have e1 : i = 0 := by have : i < 1 := hi; omega
    have e2 : j = 0 := by omega
    subst e1 e2
    exact ⟨_, rfl, gi, 0, rfl, h1⟩
  zc := by unfold maxLen; decide
  curves := fun i hi => by
    have e1 : i = 0 := by have : i < 1 := hi; omega
    subst e1
    exact ⟨gc, 0, _, rfl, h2, _, 2, rfl, (fun h => by cases h), (by unfold maxLen; exact (by decide : 2 ≤ 2 ^ 63 - 1)), h3⟩
  zv := by decide
  zv2 := by unfold maxLen; decide
  vals := h4
def RetGrey (w : World) (e : Ending) (w' : World) : Prop := ∃ gi gc gv, e = .returned (.agg (profCells grey (some ⟨gi, 0, none⟩) 1 (some ⟨gc, 0, none⟩) 1 (some ⟨gv, 0, none⟩) 6)) ∧ ProfAt w' grey (some ⟨gi, 0, none⟩) 1 (some ⟨gc, 0, none⟩) 1 (some ⟨gv, 0, none⟩) 6 ∧ Below w.heap.size w w'
set_option maxRecDepth 100000 in
set_option maxHeartbeats 1000000 in
theorem sgrey_any (w : World) : Calls Try.prog 9 #[] w (RetGrey w) := by
  go_enter Try.func9, Try.ntmps9
  go_wp2_with fail
  obtain ⟨cs, hcs⟩ : ∃ cs : Array Value, cs = #[.string ⟨#[]⟩, .slice none 0 0, .slice none 0 0, .int .i64 0, .int .i64 0, .int .i64 0, .slice none 0 0] := ⟨_, rfl⟩
  have hz : ∀ i v, cs[i]? = some v → ((w.alloc (.cells cs 28)).alloc (.cells #[.string ⟨#[98, 108, 97, 99, 107]⟩] 9)).cell? ⟨w.heap.size, i, none⟩ = some v := fun i v hv => by
    have h := (BoxAt.new w cs 28).at' i v hv
    rw [Nat.zero_add] at h
    exact keepCell (balloc (Below.refl _ _) _) h
  have hf : ∀ o, ((w.alloc (.cells cs 28)).alloc (.cells #[.string ⟨#[98, 108, 97, 99, 107]⟩] 9)).frozen? ⟨w.heap.size, o, none⟩ = false := fun o => by
    rw [(balloc (Below.refl _ (w.alloc (.cells cs 28))) _).frozen (p := ⟨w.heap.size, o, none⟩) (by simp)]
    unfold World.frozen?
    rw [heap_alloc_new]
    simp
  have hs : ((w.alloc (.cells cs 28)).alloc (.cells #[.string ⟨#[98, 108, 97, 99, 107]⟩] 9)).heap.size = w.heap.size + 1 + 1 := by simp
  have hk : ((w.alloc (.cells cs 28)).alloc (.cells #[.string ⟨#[98, 108, 97, 99, 107]⟩] 9)).cell? ⟨w.heap.size + 1, 0, none⟩ = some (.string black) := by
    have h := (BoxAt.new (w.alloc (.cells cs 28)) #[.string ⟨#[98, 108, 97, 99, 107]⟩] 9).at' 0 _ rfl
    rw [World.size_alloc] at h
    exact h
  have hB : Below w.heap.size w ((w.alloc (.cells cs 28)).alloc (.cells #[.string ⟨#[98, 108, 97, 99, 107]⟩] 9)) := balloc (balloc (Below.refl _ _) _) _
  rw [← hcs]
  generalize (w.alloc (.cells cs 28)).alloc (.cells #[.string ⟨#[98, 108, 97, 99, 107]⟩] 9) = W1 at *
  subst hcs
  refine (sline_any _).mono ?_
  rintro e w2 ⟨g, rfl, hg1, hg2, hl, hb⟩
  have k0 : w2.cell? ⟨w.heap.size, 0, none⟩ = some (.string ⟨#[]⟩) := keepCell hb (hz 0 _ rfl)
  have k1 : w2.cell? ⟨w.heap.size, 1, none⟩ = some (.slice none 0 0) := keepCell hb (hz 1 _ rfl)
  have k2 : w2.cell? ⟨w.heap.size, 2, none⟩ = some (.slice none 0 0) := keepCell hb (hz 2 _ rfl)
  have k3 : w2.cell? ⟨w.heap.size, 3, none⟩ = some (.int .i64 0) := keepCell hb (hz 3 _ rfl)
  have k4 : w2.cell? ⟨w.heap.size, 4, none⟩ = some (.int .i64 0) := keepCell hb (hz 4 _ rfl)
  have k5 : w2.cell? ⟨w.heap.size, 5, none⟩ = some (.int .i64 0) := keepCell hb (hz 5 _ rfl)
  have k6 : w2.cell? ⟨w.heap.size, 6, none⟩ = some (.slice none 0 0) := keepCell hb (hz 6 _ rfl)
  have kb : w2.cell? ⟨w.heap.size + 1, 0, none⟩ = some (.string black) := keepCell hb hk
  have kf : ∀ o, w2.frozen? ⟨w.heap.size, o, none⟩ = false := fun o => by rw [hb.frozen (p := ⟨w.heap.size, o, none⟩) (by simp; omega)]; exact hf o
  have hs2 : w.heap.size + 1 + 1 ≤ w2.heap.size := by have := hb.size; omega
  have hg3 : w.heap.size + 1 + 1 ≤ g := by omega
  have HL := Lib.hid hl
  have HB := Lib.hid (bthen hB hb)
  have HK := Lib.hid kb
  have n1 : w.heap.size ≠ w2.heap.size := by omega
  have n2 : w.heap.size ≠ w2.heap.size + 1 := by omega
  have n3 : w.heap.size < w2.heap.size := by omega
  have n4 : w.heap.size < w2.heap.size + 1 := by omega
  clear hz hf hs hk hB hl hb hg1 kb
  dsimp only
  repeat (first | go_values | go_skip | go_guarded | go_step | go_upon)
  have hres : Try.f9.results = #[.cell 0 28] := rfl
  refine bodyPost_ret (v := .agg #[.string ⟨#[112, 49]⟩, .slice (some ⟨w.heap.size + 1, 0, none⟩) 1 1, .slice (some ⟨w2.heap.size, 0, none⟩) 1 1, .int .i64 1, .int .i64 3, .int .i64 2, .slice (some ⟨w2.heap.size + 1, 0, none⟩) 6 6]) (by simp only [results, hres]; go_simp) rfl ?_
  have hb7 := ((((((HB.out.setCell (p := ⟨w.heap.size, 0, none⟩) (Nat.le_refl _) (.string ⟨#[112, 49]⟩)).setCell (p := ⟨w.heap.size, 1, none⟩) (Nat.le_refl _) (.slice (some ⟨w.heap.size + 1, 0, none⟩) 1 1)).setCell (p := ⟨w.heap.size, 2, none⟩) (Nat.le_refl _) (.slice (some ⟨w2.heap.size, 0, none⟩) 1 1)).setCell (p := ⟨w.heap.size, 3, none⟩) (Nat.le_refl _) (.int .i64 1)).setCell (p := ⟨w.heap.size, 4, none⟩) (Nat.le_refl _) (.int .i64 3)).setCell (p := ⟨w.heap.size, 5, none⟩) (Nat.le_refl _) (.int .i64 2)).setCell (p := ⟨w.heap.size, 6, none⟩) (Nat.le_refl _) (.slice (some ⟨w2.heap.size + 1, 0, none⟩) 6 6)
  have hl7 := ((((((HL.out.other (b := w.heap.size) (o' := 0) (by omega) (.string ⟨#[112, 49]⟩)).other (b := w.heap.size) (o' := 1) (by omega) (.slice (some ⟨w.heap.size + 1, 0, none⟩) 1 1)).other (b := w.heap.size) (o' := 2) (by omega) (.slice (some ⟨w2.heap.size, 0, none⟩) 1 1)).other (b := w.heap.size) (o' := 3) (by omega) (.int .i64 1)).other (b := w.heap.size) (o' := 4) (by omega) (.int .i64 3)).other (b := w.heap.size) (o' := 5) (by omega) (.int .i64 2)).other (b := w.heap.size) (o' := 6) (by omega) (.slice (some ⟨w2.heap.size + 1, 0, none⟩) 6 6)
  have n5 : w.heap.size + 1 ≠ w.heap.size := by omega
  have hk7 : (((((((w2.setCell ⟨w.heap.size, 0, none⟩ (.string ⟨#[112, 49]⟩)).setCell ⟨w.heap.size, 1, none⟩ (.slice (some ⟨w.heap.size + 1, 0, none⟩) 1 1)).setCell ⟨w.heap.size, 2, none⟩ (.slice (some ⟨w2.heap.size, 0, none⟩) 1 1)).setCell ⟨w.heap.size, 3, none⟩ (.int .i64 1)).setCell ⟨w.heap.size, 4, none⟩ (.int .i64 3)).setCell ⟨w.heap.size, 5, none⟩ (.int .i64 2)).setCell ⟨w.heap.size, 6, none⟩ (.slice (some ⟨w2.heap.size + 1, 0, none⟩) 6 6)).cell? ⟨w.heap.size + 1, 0, none⟩ = some (.string black) := by
    have h := HK.out
    go_simp
  have hs7 : (((((((w2.setCell ⟨w.heap.size, 0, none⟩ (.string ⟨#[112, 49]⟩)).setCell ⟨w.heap.size, 1, none⟩ (.slice (some ⟨w.heap.size + 1, 0, none⟩) 1 1)).setCell ⟨w.heap.size, 2, none⟩ (.slice (some ⟨w2.heap.size, 0, none⟩) 1 1)).setCell ⟨w.heap.size, 3, none⟩ (.int .i64 1)).setCell ⟨w.heap.size, 4, none⟩ (.int .i64 3)).setCell ⟨w.heap.size, 5, none⟩ (.int .i64 2)).setCell ⟨w.heap.size, 6, none⟩ (.slice (some ⟨w2.heap.size + 1, 0, none⟩) 6 6)).heap.size = w2.heap.size := by simp
  generalize ((((((w2.setCell ⟨w.heap.size, 0, none⟩ (.string ⟨#[112, 49]⟩)).setCell ⟨w.heap.size, 1, none⟩ (.slice (some ⟨w.heap.size + 1, 0, none⟩) 1 1)).setCell ⟨w.heap.size, 2, none⟩ (.slice (some ⟨w2.heap.size, 0, none⟩) 1 1)).setCell ⟨w.heap.size, 3, none⟩ (.int .i64 1)).setCell ⟨w.heap.size, 4, none⟩ (.int .i64 3)).setCell ⟨w.heap.size, 5, none⟩ (.int .i64 2)).setCell ⟨w.heap.size, 6, none⟩ (.slice (some ⟨w2.heap.size + 1, 0, none⟩) 6 6) = W7 at *
  have c8 := (BoxAt.new W7 #[.slice (some ⟨g, 0, none⟩) 2 2] 47).at' 0 _ rfl
  have b8 := balloc (Below.refl _ W7) (.cells #[.slice (some ⟨g, 0, none⟩) 2 2] 47)
  have b9 := balloc (Below.refl _ (W7.alloc (.cells #[.slice (some ⟨g, 0, none⟩) 2 2] 47))) (.cells #[.int .i64 10000, .int .i64 0, .int .i64 0, .int .i64 2000, .int .i64 100, .int .i64 (-100)] 3)
  have f9 := Flat.litN (W7.alloc (.cells #[.slice (some ⟨g, 0, none⟩) 2 2] 47)) 1 encInt grey.vals 3 (fun _ => rfl)
  have s8 : (W7.alloc (.cells #[.slice (some ⟨g, 0, none⟩) 2 2] 47)).heap.size = w2.heap.size + 1 := by rw [World.size_alloc, hs7]
  rw [s8] at f9
  rw [hs7] at c8
  exact ⟨_, _, _, rfl, grey_prof (keepCell b9 (keepCell b8 hk7)) (keepCell b9 c8) ((hl7.below b8).below b9) f9, bthen hb7 (bthen b8 b9)⟩
end Go.Proofs.Ytiokmfmcmfbjoaa
