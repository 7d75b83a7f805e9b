/-
  The walks of slices.Clone over pixels, raster's Of, Plate, sized, Check. Own text.
-/
import Derived.Test.YtdblibjmgamjeaaBuild
import Derived.Deep.RegionHeld3
import Derived.WalkSpells
import Derived.Deep.QuietTactic
import Derived.BigQuiet
import Derived.Test.YtdblibjmgamjeaaFoldC
namespace Go.Proofs.Ytdblibjmgamjeaa
open Go.RowKit
set_option linter.unusedVariables false
/-- A raster in memory: its slice of pixels. -/
abbrev PxAt (w : World) (o : Option Addr) (n cap : Nat) (xs : List Int) : Prop := IsSlice w 1 encPx (.slice o n cap) xs
def RetPx (xs : List Int) (w : World) (e : Ending) (w' : World) : Prop := ∃ o cap, e = .returned (.slice o xs.length cap) ∧ OwnPx w' w.heap.size (.slice o xs.length cap) xs ∧ Below w.heap.size w w'
set_option maxHeartbeats 4000000 in
theorem clonePx (xs : List Int) (o : Option Addr) (cap : Nat) (w : World) (h0 : 0 < xs.length) (hm : xs.length ≤ 2000000) (hx : PxAt w o xs.length cap xs) :
    Calls Try.prog 49 #[.slice o xs.length cap] w (RetPx xs w) := by
  obtain ⟨ad, rfl⟩ : ∃ ad, o = some ad := by
    obtain ⟨oa, c, e, -, -, hf⟩ := hx
    obtain ⟨v, -, b, off, e2, -⟩ := hf 0 h0 0 (by omega)
    simp only [Value.slice.injEq] at e
    rw [e2] at e
    exact ⟨_, e.1⟩
  have hq : ∀ (w : World) (a : Option Addr) (n c n' c' : Nat), (binOp .eql 35 (.slice a n c) (.slice none n' c')).run Try.prog w = .ok (.bool a.isNone) w := fun w a n c n' c' => Lib.run_eql_slice_nil w _ _ a n c n' c' Try.underlying35
  have hb0 := balloc (Below.refl _ w) (.cells #[] 5)
  have hown := Own.lit w w.heap.size 1 encPx [] 5 (fun _ => rfl) (by decide) (Nat.le_refl _)
  have HS := Lib.hid (hx.below hb0)
  have HB0 := Lib.hid hb0
  obtain ⟨n, hn⟩ : ∃ n, n = xs.length := ⟨_, rfl⟩
  rw [← hn] at HS ⊢
  have HN := Lib.hid hn
  clear hx hb0 hn h0
  go_enter Try.func49, Try.ntmps49
  go_wp2_with (at_builtin; go_must (refine wpList_appRow rfl (.tmp 5) (.tmp 6) 35 rfl elemPx Try.underlying35 w.heap.size _ [] encPx rfl hown xs _ rfl HS.out (fun _ => rfl) ?c1 ?c2 ?c3 ?c4 ?_))
  case c1 => intro y; simp [encPx, Value.oneCell']
  case c2 => simp; omega
  case c3 => simp; unfold maxLen; omega
  case c4 => simp
  intro v' w3 hown3 hg3
  have HF : Hid (RetPx xs w (.returned v') w3) := by
    have h1 : OwnPx w3 w.heap.size v' xs := by simpa using hown3
    obtain ⟨o', c', rfl, -⟩ := h1.isSlc
    exact ⟨o', c', rfl, h1, hown.grown HB0.out (Nat.le_refl _) hg3⟩
  clear hown3 hg3 hown
  go_wp2
  go_ret
  exact HF.out
theorem Own.rebase {α : Type} {w : World} {base base' : Nat} {e : TypeId} {k : Nat} {enc : α → List Value} {v : Value} {xs : List α} (h : Own w base e k enc v xs) (hb : base' ≤ base) : Own w base' e k enc v xs := by
  refine ⟨h.1, ?_⟩
  rcases h.2 with hv | ⟨g, cap, cur, rfl, hbg, rest⟩
  · exact .inl hv
  · exact .inr ⟨g, cap, cur, rfl, Nat.le_trans hb hbg, rest⟩
theorem px_len {m : Img} (h : Sized m) : 0 < (listI m).length ∧ (listI m).length ≤ 1048576 ∧ (listI m).length = m.W * m.H := by
  have h1 := sized_area h
  have h2 : (listI m).length = m.W * m.H := pixL_len _ _ _
  omega
theorem ofRes : Try.f26.results = #[.cell 2 74] := rfl
theorem plateRes : Try.f28.results = #[.cell 2 37] := rfl
set_option maxRecDepth 100000 in
set_option maxHeartbeats 8000000 in
theorem of_any (m : Img) (hm : Sized m) (o : Option Addr) (cap : Nat) (w : World) (hx : PxAt w o (listI m).length cap (listI m)) :
    Calls Try.prog 26 #[.agg #[.int .i64 m.W, .int .i64 m.H, .slice o (listI m).length cap]] w (RetGrid m w) := by
  obtain ⟨p1, p2, p3⟩ := px_len hm
  obtain ⟨xs, hxs⟩ : ∃ xs, xs = listI m := ⟨_, rfl⟩
  have HRG : Hid (∀ e w', (∃ o cap, e = .returned (.agg #[.int .i64 m.W, .int .i64 m.H, .slice o xs.length cap]) ∧ OwnPx w' w.heap.size (.slice o xs.length cap) xs ∧ Below w.heap.size w w') → RetGrid m w e w') := fun e w' h => by
    unfold RetGrid
    rw [← hxs]; exact h
  rw [← hxs] at p1 p2 hx ⊢
  have HCL : Hid (∀ W, Below w.heap.size w W → Calls Try.prog 49 #[.slice o xs.length cap] W (fun e w' => ∃ o' cap', e = .returned (.slice o' xs.length cap') ∧ OwnPx w' W.heap.size (.slice o' xs.length cap') xs ∧ Below W.heap.size W w')) := fun W hb => clonePx xs o cap W p1 (by omega) (hx.below hb)
  obtain ⟨n, hn⟩ : ∃ n, n = xs.length := ⟨_, rfl⟩
  obtain ⟨Wd, hWd⟩ : ∃ W, W = m.W := ⟨_, rfl⟩
  obtain ⟨Hd, hHd⟩ : ∃ H, H = m.H := ⟨_, rfl⟩
  rw [← hn] at HCL HRG ⊢
  rw [← hWd] at HRG ⊢
  rw [← hHd] at HRG ⊢
  have HNN := Lib.hid hn
  clear p1 p2 p3 hx hxs hn hWd hHd hm
  obtain ⟨W2, hW2⟩ : ∃ W2, W2 = (w.alloc (.cells #[.int .i64 Wd, .int .i64 Hd, .slice o n cap] 37)).alloc (.cells #[.int .i64 0, .int .i64 0, .slice none 0 0] 74) := ⟨_, rfl⟩
  have hb2 : Below w.heap.size w W2 := by rw [hW2]; exact ((Below.refl _ w).alloc (Nat.le_refl _) _).alloc (by simp) _
  have hz2 : W2.heap.size = w.heap.size + 1 + 1 := by rw [hW2]; simp
  have ht1 : FTab (fun v : Value => v) W2 w.heap.size 3 (outF (.int .i64 Wd) (.int .i64 Hd) (.slice o n cap)) := by rw [hW2]; exact (outF_new w _ _ _ _).alloc (by simp) _
  have ht2 : FTab (fun v : Value => v) W2 (w.heap.size + 1) 3 (outF (.int .i64 0) (.int .i64 0) (.slice none 0 0)) := by
    have h := outF_new (w.alloc (.cells #[.int .i64 Wd, .int .i64 Hd, .slice o n cap] 37)) (.int .i64 0) (.int .i64 0) (.slice none 0 0) 74
    rw [World.size_alloc] at h
    rw [hW2]; exact h
  have HW2 : Hid ((w.alloc (.cells #[.int .i64 Wd, .int .i64 Hd, .slice o n cap] 37)).alloc (.cells #[.int .i64 0, .int .i64 0, .slice none 0 0] 74) = W2) := hW2.symm
  have HB2 := Lib.hid hb2
  have HT2 := Lib.hid ht2
  have hS : Hid (∀ W, Below W2.heap.size W2 W → Below W2.heap.size W2 W ∧ W.cell? ⟨w.heap.size, 0, none⟩ = some (.int .i64 Wd) ∧ W.cell? ⟨w.heap.size, 1, none⟩ = some (.int .i64 Hd) ∧ W.cell? ⟨w.heap.size, 2, none⟩ = some (.slice o n cap)) := fun W hb =>
    ⟨hb, (ht1.below hb (by omega)).at' 0 (by omega), (ht1.below hb (by omega)).at' 1 (by omega), (ht1.below hb (by omega)).at' 2 (by omega)⟩
  have HZ2 := Lib.hid hz2
  have c0 : W2.cell? ⟨w.heap.size, 0, none⟩ = some (.int .i64 Wd) := ht1.at' 0 (by omega)
  have c1 : W2.cell? ⟨w.heap.size, 1, none⟩ = some (.int .i64 Hd) := ht1.at' 1 (by omega)
  have c2 : W2.cell? ⟨w.heap.size, 2, none⟩ = some (.slice o n cap) := ht1.at' 2 (by omega)
  clear hW2 hb2 hz2 ht1 ht2
  go_enter Try.func26, Try.ntmps26
  go_upto_region 1 with fail
  rw [HW2.out]
  clear HW2
  go_region_law (first | (go_simp; go_at_call 49; refine (HCL.out _ (HB2.out.trans (by first | exact (Below.refl _ W2).drew.mono HB2.out.size | exact (Below.refl _ W2).mono HB2.out.size))).mono ?_; rintro e w3 ⟨o3, k3, rfl, hown3, hb3⟩; have hz3 : Below W2.heap.size W2 w3 := bthen (w1 := W2.drew) (Below.refl _ W2).drew hb3; obtain ⟨c0b, c1b, c2b⟩ := (hS.out w3 hz3).2; have ht3 := HT2.out.below hz3 (by rw [HZ2.out]; omega); have r0 : w3.cell? ⟨w.heap.size + 1, 0, none⟩ = some (.int .i64 0) := ht3.at' 0 (by omega); have r1 : w3.cell? ⟨w.heap.size + 1, 1, none⟩ = some (.int .i64 0) := ht3.at' 1 (by omega); have r2 : w3.cell? ⟨w.heap.size + 1, 2, none⟩ = some (.slice none 0 0) := ht3.at' 2 (by omega); have rf := ht3.fz; have HT3 := Lib.hid ht3; have HZ3 := Lib.hid hz3; have HOWN3 := Lib.hid hown3; clear ht3 hz3 hown3 hb3))
  all_goals
    have hrs := res_set (x := .int .i64 Wd) (y := .int .i64 Hd) (z := .slice o3 n k3) HT3.out
    have HF : Hid (RetGrid m w (.returned (.agg #[.int .i64 Wd, .int .i64 Hd, .slice o3 n k3])) (resW w3 (w.heap.size + 1) (.int .i64 Wd) (.int .i64 Hd) (.slice o3 n k3))) := by
      refine HRG.out _ _ ⟨o3, k3, rfl, ?_, hrs.bel (bthen HB2.out HZ3.out) (by omega)⟩
      have h1 : OwnPx w3 W2.heap.size (.slice o3 n k3) xs := HOWN3.out
      have h2 : OwnPx (resW w3 (w.heap.size + 1) (.int .i64 Wd) (.int .i64 Hd) (.slice o3 n k3)) W2.heap.size (.slice o3 n k3) xs := h1.heap fun k e => hrs.hp k (by have h3 := (h1.blk e).1; rw [HZ2.out] at h3; omega)
      exact h2.rebase (by rw [HZ2.out]; omega)
    have HRS := Lib.hid hrs
    clear hrs r0 r1 r2 rf c0 c1 c2 c0b c1b c2b
    obtain ⟨W9, hW9⟩ : ∃ W9, W9 = resW w3 (w.heap.size + 1) (.int .i64 Wd) (.int .i64 Hd) (.slice o3 n k3) := ⟨_, rfl⟩
    rw [← hW9] at HF HRS
    unfold resW at hW9
    rw [← hW9]
    have e0 := HRS.out.c0
    have e1 := HRS.out.c1
    have e2 := HRS.out.c2
    clear hW9
    repeat (first | go_values | go_skip | go_guarded | go_step | go_upon)
    refine bodyPost_ret (v := .agg #[.int .i64 Wd, .int .i64 Hd, .slice o3 n k3]) (by simp only [results, ofRes]; go_simp) rfl ?_
    exact HF.out
end Go.Proofs.Ytdblibjmgamjeaa
