/-
  profile.Forward at a good profile and good tones. Own text.
-/
import Derived.Test.YtiokmfmcmfbjoaaQuick
namespace Go.Proofs.Ytiokmfmcmfbjoaa
open Go.RowKit
set_option linter.unusedVariables false
def RetFwd (L : Nat → Int) (w : World) (e : Ending) (w' : World) : Prop := e = .returned (.tuple #[.agg #[.int .i64 (L 0), .int .i64 (L 1), .int .i64 (L 2)], .int .i64 0]) ∧ Below w.heap.size w w'
set_option maxRecDepth 100000 in
set_option maxHeartbeats 4000000 in
theorem fwd_any (P : Prof) (oi : Option Addr) (ci : Nat) (oc : Option Addr) (cc : Nat) (ov : Option Addr) (cv : Nat) (ot : Option Addr) (ts : List Int) (ct : Nat) (w : World) (hp : ProfAt w P oi ci oc cc ov cv) (hok : OkProf P) (hx : Flat w 1 encInt ot ts) (ht : OkTones ts (P.inks.length : Int)) :
    Calls Try.prog 7 #[.agg (profCells P oi ci oc cc ov cv), .slice ot ts.length ct] w (RetFwd (labV P ts) w) := by
  have hbox := BoxAt.new w (profCells P oi ci oc cc ov cv) 28
  have hb0 := balloc (Below.refl _ w) (.cells (profCells P oi ci oc cc ov cv) 28)
  have hs1 : (w.alloc (.cells (profCells P oi ci oc cc ov cv) 28)).heap.size = w.heap.size + 1 := World.size_alloc _ _
  obtain ⟨W1, hW1⟩ : ∃ W1, W1 = w.alloc (.cells (profCells P oi ci oc cc ov cv) 28) := ⟨_, rfl⟩
  rw [← hW1] at hbox hb0 hs1
  have z0 := BoxAt.new W1 #[.int .i64 0, .int .i64 0, .int .i64 0] 33
  have zf : ∀ o, (W1.alloc (.cells #[.int .i64 0, .int .i64 0, .int .i64 0] 33)).frozen? ⟨w.heap.size + 1, o, none⟩ = false := fun o => by
    unfold World.frozen?
    rw [← hs1, heap_alloc_new]
    simp
  have hb1 := balloc (Below.refl _ W1) (.cells #[.int .i64 0, .int .i64 0, .int .i64 0] 33)
  rw [hs1] at z0
  have zs : w.heap.size + 1 < (W1.alloc (.cells #[.int .i64 0, .int .i64 0, .int .i64 0] 33)).heap.size := by rw [World.size_alloc]; omega
  obtain ⟨W2, hW2⟩ : ∃ W2, W2 = W1.alloc (.cells #[.int .i64 0, .int .i64 0, .int .i64 0] 33) := ⟨_, rfl⟩
  rw [← hW2] at z0 zf zs hb1
  have hb2 := bthen hb0 hb1
  have hH : HeldAt W2 w.heap.size P oi ci oc cc ov cv := ⟨hbox.below hb1, hp.below hb2⟩
  have z1 : W2.cell? ⟨w.heap.size + 1, 0, none⟩ = some (.int .i64 0) := z0.at' 0 _ rfl
  have z2 : W2.cell? ⟨w.heap.size + 1, 1, none⟩ = some (.int .i64 0) := z0.at' 1 _ rfl
  have z3 : W2.cell? ⟨w.heap.size + 1, 2, none⟩ = some (.int .i64 0) := z0.at' 2 _ rfl
  have y1 : W2.cell? ⟨w.heap.size, 1, none⟩ = some (.slice oi P.inks.length ci) := (hbox.below hb1).at' 1 _ rfl
  have hl : ts.length = P.inks.length := by have := ht.1; omega
  have hf := hok.few
  have hchk := Lib.hid (RetChk.pos (profcheck_any P oi ci oc cc ov cv W2 hH.prof) hok)
  have hton : Hid (∀ w', Below W2.heap.size W2 w' → Calls Try.prog 15 #[.slice ot ts.length ct, .int .i64 P.inks.length] w' fun e w'' => e = .returned (.int .i64 0) ∧ Below w'.heap.size w' w'') := fun w' hb => by
    exact RetChk.pos (tones_any ot ts ct (P.inks.length : Int) w' (by rw [hl]; unfold maxLen; omega) (hx.below (bthen hb2 hb))) ht
  have hqk : Hid (∀ w', Below W2.heap.size W2 w' → Calls Try.prog 16 #[.pointer (some ⟨w.heap.size, 0, none⟩), .slice ot ts.length ct] w' (RetLab (labV P ts) w')) := fun w' hb => pquick_any w.heap.size P oi ci oc cc ov cv ot ts ct w' (hH.below hb) hok (hx.below (bthen hb2 hb)) ht
  have hi9 : P.inks.length ≤ 9223372036854775807 := by omega
  have HW1 := Lib.hid hW1
  have HW2 := Lib.hid hW2
  have HB2 := Lib.hid hb2
  rw [hl] at hton hqk
  rw [hl]
  clear hp hok hx ht hH hW1 hW2 hb0 hb1 hb2 hbox z0 hs1 hf hl
  unfold profCells at *
  go_enter Try.func7, Try.ntmps7
  go_wp2_with fail
  rw [← HW1.out, ← HW2.out]
  refine hchk.out.mono ?_
  rintro e w3 ⟨rfl, hb3⟩
  have v1 := keepCell hb3 y1
  have hs3 := hb3.size
  have HB3 := Lib.hid hb3
  clear hb3 hchk y1
  go_wp2_with fail
  refine (hton.out _ HB3.out).mono ?_
  rintro e w4 ⟨rfl, hb4⟩
  have HB4 := Lib.hid (bthen HB3.out hb4)
  clear hb4 hton v1 HB3
  go_wp2_with fail
  refine (hqk.out _ HB4.out).mono ?_
  rintro e w5 ⟨rfl, hb5⟩
  have hb6 := bthen HB4.out hb5
  have u1 := keepCell hb6 z1
  have u2 := keepCell hb6 z2
  have u3 := keepCell hb6 z3
  have uf : ∀ o, w5.frozen? ⟨w.heap.size + 1, o, none⟩ = false := fun o => by rw [hb6.frozen (p := ⟨w.heap.size + 1, o, none⟩) zs]; exact zf o
  have hs5 := hb6.size
  have HB6 := Lib.hid (bthen HB2.out hb6)
  clear hb6 hb5 hqk z1 z2 z3 zf HB4
  obtain ⟨L0, hL0⟩ : ∃ L, L = labV P ts 0 := ⟨_, rfl⟩
  obtain ⟨L1, hL1⟩ : ∃ L, L = labV P ts 1 := ⟨_, rfl⟩
  obtain ⟨L2, hL2⟩ : ∃ L, L = labV P ts 2 := ⟨_, rfl⟩
  rw [← hL0, ← hL1, ← hL2]
  have HL := Lib.hid (And.intro hL0 (And.intro hL1 hL2))
  clear hL0 hL1 hL2
  go_wp2
  try simp only [Exit.inBlock, Exit.then]
  have hres : Try.f7.results = #[.cell 4 33, .tmp 5] := rfl
  refine bodyPost_ret (v := .tuple #[.agg #[.int .i64 L0, .int .i64 L1, .int .i64 L2], .int .i64 0]) (by simp only [results, hres]; go_simp) rfl ?_
  refine ⟨by rw [HL.out.1, HL.out.2.1, HL.out.2.2], ?_⟩
  exact ((HB6.out.setCell (p := ⟨w.heap.size + 1, 0, none⟩) (by simp) _).setCell (p := ⟨w.heap.size + 1, 1, none⟩) (by simp) _).setCell (p := ⟨w.heap.size + 1, 2, none⟩) (by simp) _
end Go.Proofs.Ytiokmfmcmfbjoaa
