/-
  The walk of impose.Marks. Printed by gen_marks.py. Own text.
-/
import Derived.Test.YtdblibjmgamjeaaPlc
namespace Go.Proofs.Ytdblibjmgamjeaa
open Go.RowKit
set_option linter.unusedVariables false
structure Mk where
  x : Int
  y : Int
  w : Int
  h : Int
def encMk (u : Mk) : List Value := [.int .i64 u.x, .int .i64 u.y, .int .i64 u.w, .int .i64 u.h]
theorem elemMk : ElemType Try.prog 81 (.agg #[.int .i64 0, .int .i64 0, .int .i64 0, .int .i64 0]) 4 32 := ElemType.mk (by kernel_rfl) rfl (by decide)
abbrev OwnMk (w : World) (B : Nat) (v : Value) (xs : List Mk) : Prop := Go.Proofs.Ytdblibjmgamjeaa.Own w B 81 4 encMk v xs
structure MkIn (u : Mk) : Prop where
  x : 0 ≤ u.x ∧ u.x ≤ 1024
  y : 0 ≤ u.y ∧ u.y ≤ 1024
  w : 1 ≤ u.w ∧ u.w ≤ 1024
  h : 1 ≤ u.h ∧ u.h ≤ 1024
/-- Marks are returned, and 0. -/
def RetMarks (w : World) (e : Ending) (w' : World) : Prop := ∃ ms oa c, e = .returned (.tuple #[.slice oa ms.length c, .int .i64 0]) ∧ Flat w' 4 encMk oa ms ∧ (∀ u ∈ ms, MkIn u) ∧ ms.length ≤ 1000000000 ∧ Below w.heap.size w w' ∧ ∀ a, oa = some a → w.heap.size ≤ a.block
theorem Flat.mk {w : World} {oa : Option Addr} {l : List Mk} (h : Flat w 4 encMk oa l) {i : Nat} (hi : i < l.length) :
    ∃ b off, oa = some ⟨b, off, none⟩ ∧ w.cell? ⟨b, off + i * 4, none⟩ = some (.int .i64 l[i].x) ∧ w.cell? ⟨b, off + i * 4 + 1, none⟩ = some (.int .i64 l[i].y) ∧ w.cell? ⟨b, off + i * 4 + 2, none⟩ = some (.int .i64 l[i].w) ∧ w.cell? ⟨b, off + i * 4 + 3, none⟩ = some (.int .i64 l[i].h) := by
  obtain ⟨v0, h0, b, off, e0, c0⟩ := h i hi 0 (by omega)
  obtain ⟨v1, h1, b1, off1, e1, c1⟩ := h i hi 1 (by omega)
  obtain ⟨v2, h2, b2, off2, e2, c2⟩ := h i hi 2 (by omega)
  obtain ⟨v3, h3, b3, off3, e3, c3⟩ := h i hi 3 (by omega)
  rw [e0] at e1 e2 e3
  simp only [Option.some.injEq, Addr.mk.injEq, and_true] at e1 e2 e3
  obtain ⟨rfl, rfl⟩ := e1
  obtain ⟨rfl, rfl⟩ := e2
  obtain ⟨rfl, rfl⟩ := e3
  simp only [encMk, List.getElem?_cons_zero, List.getElem?_cons_succ, Option.some.injEq] at h0 h1 h2 h3
  subst h0 h1 h2 h3
  exact ⟨b, off, e0, c0, c1, c2, c3⟩
/-- The marks under way. -/
def MU (w5 wr : World) (v : Value) (n : Nat) : Prop := Below w5.heap.size w5 wr ∧ ∃ xs : List Mk, OwnMk wr w5.heap.size v xs ∧ xs.length = n ∧ ∀ u ∈ xs, MkIn u
/-- A position that is a multiple of a size. -/
def Dv (s f y : Int) : Prop := (y = 0 ∨ y = s ∨ y = s + s) ∧ y ≤ f
theorem dv_next {s f y : Int} (hs : 1 ≤ s) (hf : f = s ∨ f = s + s) (h : Dv s f y) (hy : y < f) : Dv s f (y + s) ∧ y + s ≤ f ∧ 0 ≤ y := by
  unfold Dv at *
  omega
set_option maxRecDepth 100000 in
set_option maxHeartbeats 32000000 in
theorem marks_any (l : Lay) (x : Sht) (hx : Good l x) (os : Option Addr) (cs : Nat) (w : World) (hs : StpAt w l os cs) :
    Calls Try.prog 24 #[layV l os l.sc.steps.length cs] w (RetMarks w) := by
  have hr := hx.rng
  have hob := one_bd hx.f hr
  have hlg := hx.large
  have hlf := leaf_pos hx
  have hcc : l.sc.cols ≤ 8 ∧ l.sc.rows ≤ 8 ∧ 1 ≤ l.sc.cols ∧ 1 ≤ l.sc.rows := ⟨hx.f.inn.2.1, hx.f.inn.2.2.2.1, hx.f.inn.1, hx.f.inn.2.2.1⟩
  have hmg := hr.margin
  have HCK : Hid (∀ W, Below w.heap.size w W → Calls Try.prog 7 #[layV l os l.sc.steps.length cs] W (RetCode (GoodL l) W)) := fun W hb => icheck_any l os cs W (hs.below hb)
  have HLF : Hid (∀ W, Below w.heap.size w W → Calls Try.prog 47 #[layV l os l.sc.steps.length cs] W (RetII (leafW l) (leafH l) W)) := fun W hb => leaf_any l x hx.f hr os cs W (hs.below hb)
  have HSG : Hid (∀ W, Below w.heap.size w W → Calls Try.prog 41 #[layV l os l.sc.steps.length cs] W (RetII (oneW l) (oneH l) W)) := fun W hb => single_any l x hx.f hr os cs W (hs.below hb)
  have HSZ : Hid (∀ W, Below w.heap.size w W → Calls Try.prog 21 #[layV l os l.sc.steps.length cs] W (RetII (fullW l) (fullH l) W)) := fun W hb => size_any l x hx.f hr os cs W (hs.below hb)
  have HGL : Hid (GoodL l) := ⟨x, hx⟩
  have hfW : fullW l = oneW l ∨ fullW l = oneW l + oneW l := by unfold fullW; split <;> omega
  have hfH : fullH l = oneH l ∨ fullH l = oneH l + oneH l := by unfold fullH; split <;> omega
  have heW : oneW l = 2 * l.margin + l.sc.cols * leafW l := rfl
  have heH : oneH l = 2 * l.margin + l.sc.rows * leafH l := rfl
  obtain ⟨LW, hLW⟩ : ∃ q, q = leafW l := ⟨_, rfl⟩
  obtain ⟨LH, hLH⟩ : ∃ q, q = leafH l := ⟨_, rfl⟩
  obtain ⟨SW, hSW⟩ : ∃ q, q = oneW l := ⟨_, rfl⟩
  obtain ⟨SH, hSH⟩ : ∃ q, q = oneH l := ⟨_, rfl⟩
  obtain ⟨FW, hFW⟩ : ∃ q, q = fullW l := ⟨_, rfl⟩
  obtain ⟨FH, hFH⟩ : ∃ q, q = fullH l := ⟨_, rfl⟩
  rw [← hLW, ← hLH] at HLF hlf
  rw [← hLW] at heW
  rw [← hLH] at heH
  rw [← hSW] at heW hfW
  rw [← hSH] at heH hfH
  rw [← hSW, ← hSH] at HSG
  rw [← hFW, ← hFH] at HSZ hlg
  rw [← hFW] at hfW
  rw [← hFH] at hfH
  clear hLW hLH hSW hSH hFW hFH hob
  obtain ⟨m, hm⟩ : ∃ m, m = l.sc.steps.length := ⟨_, rfl⟩
  rw [← hm] at HCK HLF HSG HSZ ⊢
  obtain ⟨W1, hW1⟩ : ∃ W1, W1 = w.alloc (layO l os m cs) := ⟨_, rfl⟩
  have hb1 : Below w.heap.size w W1 := by rw [hW1]; exact balloc (Below.refl _ w) _
  have hz1 : W1.heap.size = w.heap.size + 1 := by rw [hW1]; simp
  have ht1 : FTab (fun v : Value => v) W1 w.heap.size 11 (layF l os m cs) := by rw [hW1]; exact layF_new w l os m cs _
  have HW1 : Hid (w.alloc (layO l os m cs) = W1) := hW1.symm
  unfold layO at HW1
  have HB1 := Lib.hid hb1
  have HZ1 := Lib.hid hz1
  have HT1 := Lib.hid ht1
  obtain ⟨N, hN⟩ : ∃ q, q = l.margin / 2 := ⟨_, rfl⟩
  have xq : l.margin / 2 = N := hN.symm
  have hNb : 0 ≤ N ∧ N + N ≤ l.margin := by omega
  have HCW : Hid (∀ k : Nat, (k : Int) < l.sc.cols → ∃ CL : Int, IntKind.i64.wrap ((k : Int) * LW) = CL ∧ 0 ≤ CL ∧ CL + LW + l.margin + l.margin ≤ SW) := fun k hk => by
    have h1 : ((k : Int) + 1) * LW ≤ l.sc.cols * LW := Int.mul_le_mul_of_nonneg_right (by omega) (by omega)
    have h0 : 0 ≤ (k : Int) * LW := Int.mul_nonneg (by omega) (by omega)
    rw [Int.add_mul, Int.one_mul] at h1
    exact ⟨(k : Int) * LW, IntWalk.i64_in _ (by omega), h0, by omega⟩
  have HRH : Hid (∀ k : Nat, (k : Int) < l.sc.rows → ∃ RL : Int, IntKind.i64.wrap ((k : Int) * LH) = RL ∧ 0 ≤ RL ∧ RL + LH + l.margin + l.margin ≤ SH) := fun k hk => by
    have h1 : ((k : Int) + 1) * LH ≤ l.sc.rows * LH := Int.mul_le_mul_of_nonneg_right (by omega) (by omega)
    have h0 : 0 ≤ (k : Int) * LH := Int.mul_nonneg (by omega) (by omega)
    rw [Int.add_mul, Int.one_mul] at h1
    exact ⟨(k : Int) * LH, IntWalk.i64_in _ (by omega), h0, by omega⟩
  have hSp : 1 ≤ SW ∧ 1 ≤ SH ∧ N ≤ SW ∧ N ≤ SH := by
    have h1 : 1 * 1 ≤ l.sc.cols * LW := Int.mul_le_mul (by omega) (by omega) (by omega) (by omega)
    have h2 : 1 * 1 ≤ l.sc.rows * LH := Int.mul_le_mul (by omega) (by omega) (by omega) (by omega)
    omega
  have HFS : Hid ((FW = SW ∨ FW = SW + SW) ∧ (FH = SH ∨ FH = SH + SH)) := ⟨hfW, hfH⟩
  have hSS : SW ≤ 1024 ∧ SH ≤ 1024 ∧ 0 ≤ FW ∧ 0 ≤ FH := by omega
  clear hW1 hb1 hz1 ht1 hs hx hr hm hN heW heH hfW hfH
  go_enter Try.func24, Try.ntmps24
  go_upto_region 1 with fail
  rw [HW1.out]
  clear HW1
  have c0 : W1.cell? ⟨w.heap.size, 0, none⟩ = some (.int .i64 l.sc.cols) := (HT1.out.below (Below.refl W1.heap.size W1) (by rw [HZ1.out]; omega)).at' 0 (by omega)
  have c1 : W1.cell? ⟨w.heap.size, 1, none⟩ = some (.int .i64 l.sc.rows) := (HT1.out.below (Below.refl W1.heap.size W1) (by rw [HZ1.out]; omega)).at' 1 (by omega)
  have c2 : W1.cell? ⟨w.heap.size, 2, none⟩ = some (.slice os m cs) := (HT1.out.below (Below.refl W1.heap.size W1) (by rw [HZ1.out]; omega)).at' 2 (by omega)
  have c3 : W1.cell? ⟨w.heap.size, 3, none⟩ = some (.int .i64 l.w) := (HT1.out.below (Below.refl W1.heap.size W1) (by rw [HZ1.out]; omega)).at' 3 (by omega)
  have c4 : W1.cell? ⟨w.heap.size, 4, none⟩ = some (.int .i64 l.h) := (HT1.out.below (Below.refl W1.heap.size W1) (by rw [HZ1.out]; omega)).at' 4 (by omega)
  have c5 : W1.cell? ⟨w.heap.size, 5, none⟩ = some (.int .i64 l.head) := (HT1.out.below (Below.refl W1.heap.size W1) (by rw [HZ1.out]; omega)).at' 5 (by omega)
  have c6 : W1.cell? ⟨w.heap.size, 6, none⟩ = some (.int .i64 l.fore) := (HT1.out.below (Below.refl W1.heap.size W1) (by rw [HZ1.out]; omega)).at' 6 (by omega)
  have c7 : W1.cell? ⟨w.heap.size, 7, none⟩ = some (.int .i64 l.spine) := (HT1.out.below (Below.refl W1.heap.size W1) (by rw [HZ1.out]; omega)).at' 7 (by omega)
  have c8 : W1.cell? ⟨w.heap.size, 8, none⟩ = some (.int .i64 l.margin) := (HT1.out.below (Below.refl W1.heap.size W1) (by rw [HZ1.out]; omega)).at' 8 (by omega)
  have c9 : W1.cell? ⟨w.heap.size, 9, none⟩ = some (.int .i64 l.creep) := (HT1.out.below (Below.refl W1.heap.size W1) (by rw [HZ1.out]; omega)).at' 9 (by omega)
  have c10 : W1.cell? ⟨w.heap.size, 10, none⟩ = some (.int .i64 l.style) := (HT1.out.below (Below.refl W1.heap.size W1) (by rw [HZ1.out]; omega)).at' 10 (by omega)
  have HL := Lib.hid (HCK.out W1 HB1.out)
  clear HCK
  go_wp2_with fail
  refine HL.out.mono ?_
  intro e w2 hret
  obtain ⟨rfl, hb2⟩ := hret.ok HGL.out
  have HB2 := Lib.hid hb2
  clear c0 c1 c2 c3 c4 c5 c6 c7 c8 c9 c10 HL hb2 hret
  have c0 : w2.cell? ⟨w.heap.size, 0, none⟩ = some (.int .i64 l.sc.cols) := (HT1.out.below HB2.out (by rw [HZ1.out]; omega)).at' 0 (by omega)
  have c1 : w2.cell? ⟨w.heap.size, 1, none⟩ = some (.int .i64 l.sc.rows) := (HT1.out.below HB2.out (by rw [HZ1.out]; omega)).at' 1 (by omega)
  have c2 : w2.cell? ⟨w.heap.size, 2, none⟩ = some (.slice os m cs) := (HT1.out.below HB2.out (by rw [HZ1.out]; omega)).at' 2 (by omega)
  have c3 : w2.cell? ⟨w.heap.size, 3, none⟩ = some (.int .i64 l.w) := (HT1.out.below HB2.out (by rw [HZ1.out]; omega)).at' 3 (by omega)
  have c4 : w2.cell? ⟨w.heap.size, 4, none⟩ = some (.int .i64 l.h) := (HT1.out.below HB2.out (by rw [HZ1.out]; omega)).at' 4 (by omega)
  have c5 : w2.cell? ⟨w.heap.size, 5, none⟩ = some (.int .i64 l.head) := (HT1.out.below HB2.out (by rw [HZ1.out]; omega)).at' 5 (by omega)
  have c6 : w2.cell? ⟨w.heap.size, 6, none⟩ = some (.int .i64 l.fore) := (HT1.out.below HB2.out (by rw [HZ1.out]; omega)).at' 6 (by omega)
  have c7 : w2.cell? ⟨w.heap.size, 7, none⟩ = some (.int .i64 l.spine) := (HT1.out.below HB2.out (by rw [HZ1.out]; omega)).at' 7 (by omega)
  have c8 : w2.cell? ⟨w.heap.size, 8, none⟩ = some (.int .i64 l.margin) := (HT1.out.below HB2.out (by rw [HZ1.out]; omega)).at' 8 (by omega)
  have c9 : w2.cell? ⟨w.heap.size, 9, none⟩ = some (.int .i64 l.creep) := (HT1.out.below HB2.out (by rw [HZ1.out]; omega)).at' 9 (by omega)
  have c10 : w2.cell? ⟨w.heap.size, 10, none⟩ = some (.int .i64 l.style) := (HT1.out.below HB2.out (by rw [HZ1.out]; omega)).at' 10 (by omega)
  by_cases hN0 : N = 0
  · have HF : Hid (RetMarks w (.returned (.tuple #[.slice none 0 0, .int .i64 0])) w2) := ⟨[], none, 0, rfl, fun i h => (by simp at h), fun u h => (by cases h), by simp, bthen HB1.out HB2.out, fun a e => (by cases e)⟩
    subst hN0
    go_wp2_with fail
    go_ret2
    exact HF.out
  · have hN1 : 1 ≤ N := by omega
    have HLF2 := Lib.hid (HLF.out w2 (bthen HB1.out HB2.out))
    clear HLF
    go_wp2_with fail
    refine HLF2.out.mono ?_
    rintro e w3 ⟨rfl, hb3⟩
    have HB3 := Lib.hid (bthen HB2.out hb3)
    clear c0 c1 c2 c3 c4 c5 c6 c7 c8 c9 c10 HLF2 hb3
    have c0 : w3.cell? ⟨w.heap.size, 0, none⟩ = some (.int .i64 l.sc.cols) := (HT1.out.below HB3.out (by rw [HZ1.out]; omega)).at' 0 (by omega)
    have c1 : w3.cell? ⟨w.heap.size, 1, none⟩ = some (.int .i64 l.sc.rows) := (HT1.out.below HB3.out (by rw [HZ1.out]; omega)).at' 1 (by omega)
    have c2 : w3.cell? ⟨w.heap.size, 2, none⟩ = some (.slice os m cs) := (HT1.out.below HB3.out (by rw [HZ1.out]; omega)).at' 2 (by omega)
    have c3 : w3.cell? ⟨w.heap.size, 3, none⟩ = some (.int .i64 l.w) := (HT1.out.below HB3.out (by rw [HZ1.out]; omega)).at' 3 (by omega)
    have c4 : w3.cell? ⟨w.heap.size, 4, none⟩ = some (.int .i64 l.h) := (HT1.out.below HB3.out (by rw [HZ1.out]; omega)).at' 4 (by omega)
    have c5 : w3.cell? ⟨w.heap.size, 5, none⟩ = some (.int .i64 l.head) := (HT1.out.below HB3.out (by rw [HZ1.out]; omega)).at' 5 (by omega)
    have c6 : w3.cell? ⟨w.heap.size, 6, none⟩ = some (.int .i64 l.fore) := (HT1.out.below HB3.out (by rw [HZ1.out]; omega)).at' 6 (by omega)
    have c7 : w3.cell? ⟨w.heap.size, 7, none⟩ = some (.int .i64 l.spine) := (HT1.out.below HB3.out (by rw [HZ1.out]; omega)).at' 7 (by omega)
    have c8 : w3.cell? ⟨w.heap.size, 8, none⟩ = some (.int .i64 l.margin) := (HT1.out.below HB3.out (by rw [HZ1.out]; omega)).at' 8 (by omega)
    have c9 : w3.cell? ⟨w.heap.size, 9, none⟩ = some (.int .i64 l.creep) := (HT1.out.below HB3.out (by rw [HZ1.out]; omega)).at' 9 (by omega)
    have c10 : w3.cell? ⟨w.heap.size, 10, none⟩ = some (.int .i64 l.style) := (HT1.out.below HB3.out (by rw [HZ1.out]; omega)).at' 10 (by omega)
    have HSG3 := Lib.hid (HSG.out w3 (bthen HB1.out HB3.out))
    clear HSG
    go_wp2_with fail
    refine HSG3.out.mono ?_
    rintro e w4 ⟨rfl, hb4⟩
    have HB4 := Lib.hid (bthen HB3.out hb4)
    clear c0 c1 c2 c3 c4 c5 c6 c7 c8 c9 c10 HSG3 hb4
    have c0 : w4.cell? ⟨w.heap.size, 0, none⟩ = some (.int .i64 l.sc.cols) := (HT1.out.below HB4.out (by rw [HZ1.out]; omega)).at' 0 (by omega)
    have c1 : w4.cell? ⟨w.heap.size, 1, none⟩ = some (.int .i64 l.sc.rows) := (HT1.out.below HB4.out (by rw [HZ1.out]; omega)).at' 1 (by omega)
    have c2 : w4.cell? ⟨w.heap.size, 2, none⟩ = some (.slice os m cs) := (HT1.out.below HB4.out (by rw [HZ1.out]; omega)).at' 2 (by omega)
    have c3 : w4.cell? ⟨w.heap.size, 3, none⟩ = some (.int .i64 l.w) := (HT1.out.below HB4.out (by rw [HZ1.out]; omega)).at' 3 (by omega)
    have c4 : w4.cell? ⟨w.heap.size, 4, none⟩ = some (.int .i64 l.h) := (HT1.out.below HB4.out (by rw [HZ1.out]; omega)).at' 4 (by omega)
    have c5 : w4.cell? ⟨w.heap.size, 5, none⟩ = some (.int .i64 l.head) := (HT1.out.below HB4.out (by rw [HZ1.out]; omega)).at' 5 (by omega)
    have c6 : w4.cell? ⟨w.heap.size, 6, none⟩ = some (.int .i64 l.fore) := (HT1.out.below HB4.out (by rw [HZ1.out]; omega)).at' 6 (by omega)
    have c7 : w4.cell? ⟨w.heap.size, 7, none⟩ = some (.int .i64 l.spine) := (HT1.out.below HB4.out (by rw [HZ1.out]; omega)).at' 7 (by omega)
    have c8 : w4.cell? ⟨w.heap.size, 8, none⟩ = some (.int .i64 l.margin) := (HT1.out.below HB4.out (by rw [HZ1.out]; omega)).at' 8 (by omega)
    have c9 : w4.cell? ⟨w.heap.size, 9, none⟩ = some (.int .i64 l.creep) := (HT1.out.below HB4.out (by rw [HZ1.out]; omega)).at' 9 (by omega)
    have c10 : w4.cell? ⟨w.heap.size, 10, none⟩ = some (.int .i64 l.style) := (HT1.out.below HB4.out (by rw [HZ1.out]; omega)).at' 10 (by omega)
    have HSZ4 := Lib.hid (HSZ.out w4 (bthen HB1.out HB4.out))
    clear HSZ
    go_wp2_with fail
    refine HSZ4.out.mono ?_
    rintro e w5 ⟨rfl, hb5⟩
    have HB5 := Lib.hid (bthen HB4.out hb5)
    clear c0 c1 c2 c3 c4 c5 c6 c7 c8 c9 c10 HSZ4 hb5 xq
    have HC5 : Hid (∀ W, Below w5.heap.size w5 W → W.cell? ⟨w.heap.size, 0, none⟩ = some (.int .i64 l.sc.cols) ∧ W.cell? ⟨w.heap.size, 1, none⟩ = some (.int .i64 l.sc.rows) ∧ W.cell? ⟨w.heap.size, 8, none⟩ = some (.int .i64 l.margin)) := fun W hb => by
      have h := HT1.out.below (bthen HB5.out hb) (by rw [HZ1.out]; omega)
      exact ⟨h.at' 0 (by omega), h.at' 1 (by omega), h.at' 8 (by omega)⟩
    go_wp2_with fail
    go_loopw [12, 13] (fun v y wr => ∃ (yy : Int) (n : Nat), y = .int .i64 yy ∧ ∃ o c, v = .slice o n c ∧ Hid (Dv SH FH yy ∧ (n : Int) ≤ 40000 * yy ∧ MU w5 wr (.slice o n c) n)) (fun _ y _ => (FH - intOf y).toNat)
    case atStart => exact ⟨0, 0, rfl, none, 0, rfl, ⟨.inl rfl, by omega⟩, by simp, Below.refl _ _, [], Own.nil _ _ _ _ _, rfl, fun u h => (by cases h)⟩
    case round =>
      obtain ⟨yy, n, rfl, o, c, rfl, HY⟩ := hrel
      obtain ⟨wa, rfl⟩ : ∃ wa : World, wa = wr := ⟨_, rfl⟩
      by_cases hlt : yy < FH
      · have hdv := dv_next hSp.2.1 HFS.out.2 HY.out.1 hlt
        have HDY := Lib.hid hdv.1
        obtain ⟨-, hy1, hy0⟩ := hdv
        have HNY := Lib.hid HY.out.2.1
        have HUY := Lib.hid HY.out.2.2
        clear HY
        go_wp2_with fail
        go_loopw [12, 14] (fun v x wr => ∃ (xx : Int) (n : Nat), x = .int .i64 xx ∧ ∃ o c, v = .slice o n c ∧ Hid (Dv SW FW xx ∧ (n : Int) ≤ 40000 * yy + 30 * xx ∧ MU w5 wr (.slice o n c) n)) (fun _ x _ => (FW - intOf x).toNat)
        case atStart => exact ⟨0, n, rfl, o, c, rfl, ⟨.inl rfl, by omega⟩, by have := HNY.out; omega, HUY.out⟩
        case round =>
          clear HNY HUY
          obtain ⟨xx, n, rfl, o, c, rfl, HX⟩ := hrel
          obtain ⟨wb, rfl⟩ : ∃ wb : World, wb = wr := ⟨_, rfl⟩
          by_cases hlx : xx < FW
          · have hdx := dv_next hSp.1 HFS.out.1 HX.out.1 hlx
            have HDX := Lib.hid hdx.1
            obtain ⟨-, hx1, hx0⟩ := hdx
            have HNX := Lib.hid HX.out.2.1
            have HUX := Lib.hid HX.out.2.2
            clear HX
            go_wp2_with fail
            go_loopw [12, 15] (fun v x wr => ∃ (k n : Nat), x = .int .i64 k ∧ 1 ≤ k ∧ (k : Int) ≤ l.sc.cols ∧ ∃ o c, v = .slice o n c ∧ Hid ((n : Int) ≤ 40000 * yy + 30 * xx + 2 * k - 2 ∧ MU w5 wr (.slice o n c) n)) (fun _ x _ => (l.sc.cols - intOf x).toNat)
            case atStart => exact ⟨1, n, rfl, by omega, by omega, o, c, rfl, by have := HNX.out; omega, HUX.out⟩
            case round =>
              clear HNX HUX
              obtain ⟨k, n, rfl, hk1, hk2, o, c, rfl, HC⟩ := hrel
              obtain ⟨wc, rfl⟩ : ∃ wc : World, wc = wr := ⟨_, rfl⟩
              obtain ⟨hnc, hbc, xs, hown, hxl, hin⟩ := HC.out
              obtain ⟨c0, c1, c8⟩ := HC5.out wc hbc
              by_cases hlk : (k : Int) < l.sc.cols
              · obtain ⟨CL, xw, hcl0, hcl1⟩ := HCW.out k hlk
                have HBA : Hid (Below w5.heap.size w5 (wc.alloc (.cells #[.int .i64 (xx + l.margin + CL), .int .i64 yy, .int .i64 1, .int .i64 N, .int .i64 (xx + l.margin + CL), .int .i64 (yy + SH - N), .int .i64 1, .int .i64 N] 81))) := balloc hbc _
                have HOA := Lib.hid (Own.below hown (balloc (Below.refl _ wc) (.cells #[.int .i64 (xx + l.margin + CL), .int .i64 yy, .int .i64 1, .int .i64 N, .int .i64 (xx + l.margin + CL), .int .i64 (yy + SH - N), .int .i64 1, .int .i64 N] 81)))
                have HSL : Hid (IsSlice (wc.alloc (.cells #[.int .i64 (xx + l.margin + CL), .int .i64 yy, .int .i64 1, .int .i64 N, .int .i64 (xx + l.margin + CL), .int .i64 (yy + SH - N), .int .i64 1, .int .i64 N] 81)) 4 encMk (.slice (some ⟨wc.heap.size, 0, none⟩) 2 2) [(⟨xx + l.margin + CL, yy, 1, N⟩ : Mk), ⟨xx + l.margin + CL, yy + SH - N, 1, N⟩]) := IsSlice.litN wc 4 encMk [(⟨xx + l.margin + CL, yy, 1, N⟩ : Mk), ⟨xx + l.margin + CL, yy + SH - N, 1, N⟩] 81 (fun _ => rfl) (by unfold maxLen; simp) 2
                have HIN : Hid (∀ u ∈ [(⟨xx + l.margin + CL, yy, 1, N⟩ : Mk), ⟨xx + l.margin + CL, yy + SH - N, 1, N⟩], MkIn u) := fun u hu => by
                  simp only [List.mem_cons, List.not_mem_nil, or_false] at hu
                  rcases hu with rfl | rfl
                  · exact ⟨by dsimp only; omega, by dsimp only; omega, by dsimp only; omega, by dsimp only; omega⟩
                  · exact ⟨by dsimp only; omega, by dsimp only; omega, by dsimp only; omega, by dsimp only; omega⟩
                have HXL := Lib.hid hxl
                have HI0 := Lib.hid hin
                have HNC := Lib.hid hnc
                have hnb : n ≤ 100000000 := by omega
                clear hbc hown hxl hin hnc HC
                go_wp2_with (at_builtin; go_must (refine wpList_appRow rfl (.tmp 71) (.tmp 84) 77 rfl elemMk Try.underlying77 w5.heap.size (.slice o n c) xs encMk rfl HOA.out [(⟨xx + l.margin + CL, yy, 1, N⟩ : Mk), ⟨xx + l.margin + CL, yy + SH - N, 1, N⟩] _ rfl HSL.out (fun _ => rfl) ?c1 ?c2 ?c3 ?c4 ?_))
                case c1 => intro y; simp [encMk, Value.oneCell']
                case c2 => rw [HXL.out]; show (n + 2) * 32 ≤ _; omega
                case c3 => rw [HXL.out]; show n + 2 ≤ _; unfold maxLen; omega
                case c4 => exact HBA.out.size
                intro v' w3' hown3 hg3
                have HMU : Hid (∃ o' c', v' = .slice o' (n + 2) c' ∧ MU w5 w3' v' (n + 2)) := by
                  have hb3 := HBA.out.grown hg3 HBA.out.size (fun j hj => (HOA.out.blk hj).1)
                  have hl3 : (xs ++ [(⟨xx + l.margin + CL, yy, 1, N⟩ : Mk), ⟨xx + l.margin + CL, yy + SH - N, 1, N⟩]).length = n + 2 := by rw [List.length_append, HXL.out]; rfl
                  obtain ⟨o', c', e', -⟩ := hown3.isSlc
                  rw [hl3] at e'
                  refine ⟨o', c', e', hb3, _, hown3, hl3, fun u hu => ?_⟩
                  rcases List.mem_append.1 hu with h | h
                  · exact HI0.out u h
                  · exact HIN.out u h
                clear hown3 hg3 HOA HSL HIN HI0 HXL HBA
                obtain ⟨o', c', rfl, hmu⟩ := HMU.out
                have HNE : Hid (((n + 2 : Nat) : Int) ≤ 40000 * yy + 30 * xx + 2 * ((k + 1 : Nat) : Int) - 2 ∧ MU w5 w3' (.slice o' (n + 2) c') (n + 2)) := ⟨by have := HNC.out; omega, hmu⟩
                clear hmu HMU c0 c1 c8
                go_wp2_with fail
                go_roundw
                case rel => exact ⟨k + 1, n + 2, by go_num, by omega, by omega, o', c', rfl, HNE⟩
                case measure => simp [intOf]; omega
              · obtain ⟨c0, c1, c8⟩ := HC5.out wc hbc
                have HNC : Hid ((n : Int) ≤ 40000 * yy + 30 * xx + 14) := by show _ ≤ _; omega
                have HUC := Lib.hid HC.out.2
                clear HC hbc hown hxl hin hnc
                go_wp2_with fail
                go_loopw [12, 17] (fun v x wr => ∃ (k n : Nat), x = .int .i64 k ∧ 1 ≤ k ∧ (k : Int) ≤ l.sc.rows ∧ ∃ o c, v = .slice o n c ∧ Hid ((n : Int) ≤ 40000 * yy + 30 * xx + 14 + 2 * k - 2 ∧ MU w5 wr (.slice o n c) n)) (fun _ x _ => (l.sc.rows - intOf x).toNat)
                case atStart => exact ⟨1, n, rfl, by omega, by omega, o, c, rfl, by have := HNC.out; omega, HUC.out⟩
                case round =>
                  clear HNC HUC c0 c1 c8
                  obtain ⟨k, n, rfl, hk1, hk2, o, c, rfl, HC⟩ := hrel
                  obtain ⟨wc, rfl⟩ : ∃ wc : World, wc = wr := ⟨_, rfl⟩
                  obtain ⟨hnc, hbc, xs, hown, hxl, hin⟩ := HC.out
                  obtain ⟨c0, c1, c8⟩ := HC5.out wc hbc
                  by_cases hlk : (k : Int) < l.sc.rows
                  · obtain ⟨CL, xw, hcl0, hcl1⟩ := HRH.out k hlk
                    have HBA : Hid (Below w5.heap.size w5 (wc.alloc (.cells #[.int .i64 xx, .int .i64 (yy + l.margin + CL), .int .i64 N, .int .i64 1, .int .i64 (xx + SW - N), .int .i64 (yy + l.margin + CL), .int .i64 N, .int .i64 1] 81))) := balloc hbc _
                    have HOA := Lib.hid (Own.below hown (balloc (Below.refl _ wc) (.cells #[.int .i64 xx, .int .i64 (yy + l.margin + CL), .int .i64 N, .int .i64 1, .int .i64 (xx + SW - N), .int .i64 (yy + l.margin + CL), .int .i64 N, .int .i64 1] 81)))
                    have HSL : Hid (IsSlice (wc.alloc (.cells #[.int .i64 xx, .int .i64 (yy + l.margin + CL), .int .i64 N, .int .i64 1, .int .i64 (xx + SW - N), .int .i64 (yy + l.margin + CL), .int .i64 N, .int .i64 1] 81)) 4 encMk (.slice (some ⟨wc.heap.size, 0, none⟩) 2 2) [(⟨xx, yy + l.margin + CL, N, 1⟩ : Mk), ⟨xx + SW - N, yy + l.margin + CL, N, 1⟩]) := IsSlice.litN wc 4 encMk [(⟨xx, yy + l.margin + CL, N, 1⟩ : Mk), ⟨xx + SW - N, yy + l.margin + CL, N, 1⟩] 81 (fun _ => rfl) (by unfold maxLen; simp) 2
                    have HIN : Hid (∀ u ∈ [(⟨xx, yy + l.margin + CL, N, 1⟩ : Mk), ⟨xx + SW - N, yy + l.margin + CL, N, 1⟩], MkIn u) := fun u hu => by
                      simp only [List.mem_cons, List.not_mem_nil, or_false] at hu
                      rcases hu with rfl | rfl
                      · exact ⟨by dsimp only; omega, by dsimp only; omega, by dsimp only; omega, by dsimp only; omega⟩
                      · exact ⟨by dsimp only; omega, by dsimp only; omega, by dsimp only; omega, by dsimp only; omega⟩
                    have HXL := Lib.hid hxl
                    have HI0 := Lib.hid hin
                    have HNC := Lib.hid hnc
                    have hnb : n ≤ 100000000 := by omega
                    clear hbc hown hxl hin hnc HC
                    go_wp2_with (at_builtin; go_must (refine wpList_appRow rfl (.tmp 101) (.tmp 114) 77 rfl elemMk Try.underlying77 w5.heap.size (.slice o n c) xs encMk rfl HOA.out [(⟨xx, yy + l.margin + CL, N, 1⟩ : Mk), ⟨xx + SW - N, yy + l.margin + CL, N, 1⟩] _ rfl HSL.out (fun _ => rfl) ?c1 ?c2 ?c3 ?c4 ?_))
                    case c1 => intro y; simp [encMk, Value.oneCell']
                    case c2 => rw [HXL.out]; show (n + 2) * 32 ≤ _; omega
                    case c3 => rw [HXL.out]; show n + 2 ≤ _; unfold maxLen; omega
                    case c4 => exact HBA.out.size
                    intro v' w3' hown3 hg3
                    have HMU : Hid (∃ o' c', v' = .slice o' (n + 2) c' ∧ MU w5 w3' v' (n + 2)) := by
                      have hb3 := HBA.out.grown hg3 HBA.out.size (fun j hj => (HOA.out.blk hj).1)
                      have hl3 : (xs ++ [(⟨xx, yy + l.margin + CL, N, 1⟩ : Mk), ⟨xx + SW - N, yy + l.margin + CL, N, 1⟩]).length = n + 2 := by rw [List.length_append, HXL.out]; rfl
                      obtain ⟨o', c', e', -⟩ := hown3.isSlc
                      rw [hl3] at e'
                      refine ⟨o', c', e', hb3, _, hown3, hl3, fun u hu => ?_⟩
                      rcases List.mem_append.1 hu with h | h
                      · exact HI0.out u h
                      · exact HIN.out u h
                    clear hown3 hg3 HOA HSL HIN HI0 HXL HBA
                    obtain ⟨o', c', rfl, hmu⟩ := HMU.out
                    have HNE : Hid (((n + 2 : Nat) : Int) ≤ 40000 * yy + 30 * xx + 14 + 2 * ((k + 1 : Nat) : Int) - 2 ∧ MU w5 w3' (.slice o' (n + 2) c') (n + 2)) := ⟨by have := HNC.out; omega, hmu⟩
                    clear hmu HMU c0 c1 c8
                    go_wp2_with fail
                    go_roundw
                    case rel => exact ⟨k + 1, n + 2, by go_num, by omega, by omega, o', c', rfl, HNE⟩
                    case measure => simp [intOf]; omega
                  · have HNE : Hid (Dv SW FW (xx + SW) ∧ (n : Int) ≤ 40000 * yy + 30 * (xx + SW) ∧ MU w5 wc (.slice o n c) n) := ⟨HDX.out, by omega, HC.out.2⟩
                    clear HC hbc hown hxl hin hnc
                    go_wp2_with fail
                    go_roundw
                    case rel => exact ⟨xx + SW, n, rfl, o, c, rfl, HNE⟩
                    case measure => simp [intOf]; omega
          · have hxf : xx ≤ 1024 := by have := HX.out.1.2; omega
            have HNE : Hid (Dv SH FH (yy + SH) ∧ (n : Int) ≤ 40000 * (yy + SH) ∧ MU w5 wb (.slice o n c) n) := ⟨HDY.out, by have := HX.out.2.1; omega, HX.out.2.2⟩
            clear HX
            go_wp2_with fail
            go_roundw
            case rel => exact ⟨yy + SH, n, rfl, o, c, rfl, HNE⟩
            case measure => simp [intOf]; omega
      · have HF : Hid (RetMarks w (.returned (.tuple #[.slice o n c, .int .i64 0])) wa) := by
          obtain ⟨hd, hn, hb, xs, hown, hxl, hin⟩ := HY.out
          have hbk : ∀ a, o = some a → w5.heap.size ≤ a.block := fun a e => (hown.blk (g := a.block) (by rw [e]; rfl)).1
          have hz5 : w.heap.size ≤ w5.heap.size := (bthen HB1.out HB5.out).size
          obtain ⟨oa, cap, e1, -, hf⟩ := hown.flat (fun _ => rfl)
          have e2 := e1
          simp only [Value.slice.injEq] at e2
          obtain ⟨rfl, -, rfl⟩ := e2
          have hy1 : yy ≤ 1024 := by have := hd.2; omega
          exact ⟨xs, o, c, by rw [hxl], hf, hin, by omega, bthen HB1.out (bthen HB5.out hb), fun a e => Nat.le_trans hz5 (hbk a e)⟩
        clear HY
        go_wp2_with fail
        go_ret2
        exact HF.out
end Go.Proofs.Ytdblibjmgamjeaa
