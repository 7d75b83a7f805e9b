/-
  The reference's Washed: its walk. Own text.
-/
import Derived.Test.YtjggcnpnjnmamaaWashE
import Derived.Test.YtjggcnpnjnmamaaAssigned
namespace Go.Proofs.Ytjggcnpnjnmamaa
open Go.RowKit
set_option linter.unusedVariables false
/-- Wash-up costs without error. -/
structure GoodWash (first : List Int) (W : List (List Int)) (n : Nat) : Prop where
  g : GoodCosts W n
  wl : W.length = n
  fl : first.length = n
  f : ∀ j, 0 ≤ at0 first j ∧ at0 first j ≤ 1048576
theorem GoodWash.of {first : List Int} {W : List (List Int)} (h : washErr first W = 0) : GoodWash first W first.length := by
  unfold washErr at h
  split at h
  · cases h
  · rename_i h1
    split at h
    · cases h
    · rename_i h2
      have hz := rowsErr_zero h
      have h3 := rowErr_zero (hz 0 (by simp))
      have hr : ∀ q (hq : q < W.length), W[q].length = first.length ∧ ∀ j (hj : j < W[q].length), 0 ≤ W[q][j] ∧ W[q][j] ≤ 1048576 := fun q hq => by
        have h4 := rowErr_zero (hz (q + 1) (by simpa using hq))
        exact ⟨h4.1, h4.2.2⟩
      refine ⟨⟨by omega, by omega, by omega, fun q hq => (hr q hq).1, fun q hq => (hr q hq).2⟩, by omega, rfl, fun j => ?_⟩
      by_cases hj : j < first.length
      · have := h3.2.2 j hj
        rw [← at0_eq hj]
        simpa using this
      · unfold at0
        rw [List.getD_eq_getElem?_getD, List.getElem?_eq_none (by omega)]
        simp
/-- Nothing but block g and new blocks has turned. -/
structure But (g : Nat) (w w' : World) : Prop where
  os : w'.os = w.os
  tape : w'.tape = w.tape
  output : w'.output = w.output
  size : w.heap.size ≤ w'.heap.size
  block : ∀ i, i < w.heap.size → i ≠ g → w'.heap[i]? = w.heap[i]?
theorem But.refl (g : Nat) (w : World) : But g w w := ⟨rfl, rfl, rfl, Nat.le_refl _, fun _ _ _ => rfl⟩
theorem But.trans {g : Nat} {a b c : World} (h : But g a b) (k : But g b c) : But g a c :=
  ⟨k.os.trans h.os, k.tape.trans h.tape, k.output.trans h.output, Nat.le_trans h.size k.size, fun i hi hg => (k.block i (Nat.lt_of_lt_of_le hi h.size) hg).trans (h.block i hi hg)⟩
theorem But.of {g : Nat} {w w' : World} (h : Below w.heap.size w w') : But g w w' := ⟨h.os, h.tape, h.output, h.size, fun i hi _ => h.block i hi⟩
theorem But.set (g o : Nat) (w : World) (v : Value) : But g w (w.setCell ⟨g, o, none⟩ v) :=
  ⟨rfl, rfl, rfl, by rw [World.size_setCell]; exact Nat.le_refl _, fun i _ hg => Below.heap_setCell w ⟨g, o, none⟩ v i hg⟩
theorem But.below {g : Nat} {w w' : World} (h : But g w w') (hg : g ≤ w.heap.size) : Below g w w' := ⟨h.os, h.tape, h.output, h.size, fun i hi => h.block i (Nat.lt_of_lt_of_le hi hg) (by omega)⟩
theorem Own.but {α : Type} {w w' : World} {base g k : Nat} {e : TypeId} {enc : α → List Value} {v : Value} {xs : List α} (h : Own w base e k enc v xs) (hb : But g w w') (hg : g < base) : Own w' base e k enc v xs := by
  refine ⟨h.1, ?_⟩
  rcases h.2 with hn | ⟨g', cap, cur, rfl, hbg, hg', rest⟩
  · exact .inl hn
  · refine .inr ⟨g', cap, cur, rfl, hbg, ?_, rest⟩
    rw [hb.block g' (Array.getElem?_eq_some_iff.1 hg').1 (by omega)]
    exact hg'
theorem Own.base {α : Type} {w : World} {base base' k : Nat} {e : TypeId} {enc : α → List Value} {v : Value} {xs : List α} (h : Own w base e k enc v xs) (hb : base' ≤ base) : Own w base' e k enc v xs := by
  refine ⟨h.1, ?_⟩
  rcases h.2 with hn | ⟨g', cap, cur, rfl, hbg, rest⟩
  · exact .inl hn
  · exact .inr ⟨g', cap, cur, rfl, by omega, rest⟩
theorem Own.flatW {w : World} {base k : Nat} {e : TypeId} {v : Value} {xs : List Int} (h : Own w base e 1 encInt v xs) (hl : xs.length = k) : ∃ ov cv, v = .slice ov k cv ∧ Flat w 1 encInt ov xs := by
  obtain ⟨ov, cv, hv, _, hf⟩ := h.flat (fun _ => rfl)
  exact ⟨ov, cv, by rw [hv, hl], hf⟩
theorem litInt (w : World) (x : Int) : Own (w.alloc (.cells #[.int .i64 x] 3)) w.heap.size 3 1 encInt (.slice (some ⟨w.heap.size, 0, none⟩) 1 1) [x] := Own.lit w w.heap.size 1 encInt [x] 3 (fun _ => rfl) (by unfold maxLen; simp) (Nat.le_refl _)
theorem litAt (w : World) (x : Int) (g : Nat) (hg : g = w.heap.size) : Own (w.alloc (.cells #[.int .i64 x] 3)) w.heap.size 3 1 encInt (.slice (some ⟨g, 0, none⟩) 1 1) [x] := by
  subst hg
  exact litInt w x
theorem Own.isSlice1 {w : World} {base : Nat} {e : TypeId} {v : Value} {xs : List Int} (h : Own w base e 1 encInt v xs) : IsSlice w 1 encInt v xs := h.isSlice (fun _ => rfl)
/-- Returns the least cost of the jobs that are left, and their order in new memory; the marks are as they were. -/
def RetWsh (X : Int) (xs : List Int) (d n gd : Nat) (used : Nat → Bool) (w : World) (e : Ending) (w' : World) : Prop :=
  ∃ ov cv, e = .returned (.tuple #[.int .i64 X, .slice ov d cv]) ∧ But gd w w' ∧ FTab Value.bool w' gd n used ∧ Own w' w.heap.size 3 1 encInt (.slice ov d cv) xs
/-- A job is left among the first q. -/
def leftTo (used : Nat → Bool) : Nat → Bool
  | 0 => false
  | q + 1 => if used q = true then leftTo used q else true
theorem leftTo_zero {used : Nat → Bool} : ∀ {q : Nat}, freeN used q = 0 → leftTo used q = false := by
  intro q
  induction q with
  | zero => intro _; rfl
  | succ q ih =>
    intro h
    simp only [freeN] at h
    simp only [leftTo]
    by_cases hu : used q = true
    · rw [if_pos hu]
      exact ih (by omega)
    · rw [if_neg hu] at h
      omega
theorem leftTo_pos {used : Nat → Bool} : ∀ {q : Nat}, 0 < freeN used q → leftTo used q = true := by
  intro q
  induction q with
  | zero => intro h; simp [freeN] at h
  | succ q ih =>
    intro h
    simp only [freeN] at h
    simp only [leftTo]
    by_cases hu : used q = true
    · rw [if_pos hu] at h ⊢
      exact ih (by omega)
    · rw [if_neg hu]
/-- The orders behind each job. -/
def behindW (first : List Int) (W : List (List Int)) (n f : Nat) (used : Nat → Bool) (j : Nat) : Int × List Int := wsh first W n (f - 1) (useC used j) j
set_option maxRecDepth 100000 in
set_option maxHeartbeats 8000000 in
theorem washed_any (bf off cf b offb cap : Nat) (first : List Int) (W : List (List Int)) (n gd : Nat) (w0 : World) (hG : GoodWash first W n) (hf : Flat w0 1 encInt (some ⟨bf, off, none⟩) first) (hx : Rows1 w0 1 encInt (some ⟨b, offb, none⟩) W) (hgd : w0.heap.size ≤ gd) :
    ∀ (f : Nat) (used : Nat → Bool) (lst : Int) (w : World), freeN used n = f → (lst = -1 ∨ ∃ i : Nat, i < n ∧ lst = i) → gd < w.heap.size → Below w0.heap.size w0 w → FTab Value.bool w gd n used →
    Calls Try.prog 32 #[.slice (some ⟨bf, off, none⟩) n cf, .slice (some ⟨b, offb, none⟩) n cap, .int .i64 lst, .slice (some ⟨gd, 0, none⟩) n n] w (RetWsh (wsh first W n f used lst).1 (wsh first W n f used lst).2 f n gd used w) := by
  have hn12 := hG.g.n12
  have HX := Lib.hid hx
  have HF := Lib.hid hf
  have HG := Lib.hid hG
  clear hx hf hG
  intro f
  induction f using Nat.strongRecOn with
  | ind f ih =>
    intro used lst w hfr hls hgw hb ht
    have HIH := Lib.hid ih
    have HT := Lib.hid ht
    have HB := Lib.hid hb
    have HFR := Lib.hid hfr
    have HLS := Lib.hid hls
    have hgd0 : w0.heap.size ≤ w.heap.size := hb.size
    have hfn : f ≤ n := by
      rw [← hfr]
      have : ∀ q, freeN used q ≤ q := by
        intro q
        induction q with
        | zero => simp [freeN]
        | succ q ihq => simp only [freeN]; split <;> omega
      exact this n
    clear ih ht hb hfr hls
    go_enter Try.func32, Try.ntmps32
    go_wp2
    go_loopw [10, 11, 12, 19] (fun s10 s11 s12 s19 wr => ∃ (q : Nat) (v : Value), q ≤ n ∧ s19 = .int .i64 q ∧ s10 = .int .i64 (wshTo used (cst first W lst) (behindW first W n f used) q).1 ∧ s11 = v ∧ s12 = .bool (leftTo used q) ∧ Hid (But gd w wr ∧ FTab Value.bool wr gd n used ∧ Own wr w.heap.size 3 1 encInt v (wshTo used (cst first W lst) (behindW first W n f used) q).2)) (fun _ _ _ s19 _ => n - (intOf s19).toNat)
    case atStart => exact ⟨0, _, by omega, rfl, rfl, rfl, rfl, Lib.hid ⟨But.refl _ _, HT.out, Own.nil _ _ _ _ _⟩⟩
    case round =>
      obtain ⟨q, v, hq, rfl, rfl, hv, rfl, HW⟩ := hrel
      subst hv
      by_cases hlt : q < n
      · have ku := HW.out.2.1.at' q hlt
        have zu := HW.out.2.1.fz q
        by_cases hu : used q = true
        · have HS : Hid (wshTo used (cst first W lst) (behindW first W n f used) (q + 1) = wshTo used (cst first W lst) (behindW first W n f used) q) := by show _ = _; simp only [wshTo]; rw [if_pos hu]
          have HS2 : Hid (leftTo used (q + 1) = leftTo used q) := by show _ = _; simp only [leftTo]; rw [if_pos hu]
          rw [hu] at ku
          clear hu
          go_wp2
          go_roundw
          case rel => exact ⟨q + 1, _, by omega, by go_num, by rw [HS.out], rfl, by rw [HS2.out], by rw [HS.out]; exact HW⟩
          case measure => simp [intOf]; omega
        · have hu2 : used q = false := by simpa using hu
          have HU : Hid (used q = false) := hu2
          obtain ⟨ov0, cv0, hv0, hm0, hf0⟩ := HW.out.2.2.flat (fun _ => rfl)
          have hfree : freeN (useC used q) n = f - 1 := by have := freeN_use hu2 hlt; have := HFR.out; omega
          have hf1 : f - 1 < f := by have := freeN_use hu2 hlt; have := HFR.out; omega
          obtain ⟨C, hC⟩ : ∃ C, C = cst first W lst q := ⟨_, rfl⟩
          obtain ⟨R, hR⟩ : ∃ R, R = (behindW first W n f used q).1 := ⟨_, rfl⟩
          obtain ⟨T, hT⟩ : ∃ T, T = (behindW first W n f used q).2 := ⟨_, rfl⟩
          obtain ⟨A, hA⟩ : ∃ A, A = (wshTo used (cst first W lst) (behindW first W n f used) q).1 := ⟨_, rfl⟩
          obtain ⟨O, hO⟩ : ∃ O, O = (wshTo used (cst first W lst) (behindW first W n f used) q).2 := ⟨_, rfl⟩
          have hrb : 0 ≤ R ∧ R ≤ 13631488 := by
            have := wsh_bd (first := first) (W := W) (n := n) HG.out.f HG.out.g.c (d := f - 1) (used := useC used q) (last := (q : Int)) hfree
            rw [hR]
            unfold behindW
            omega
          have hcb := cst_bd (first := first) (W := W) HG.out.f HG.out.g.c lst q
          rw [← hC] at hcb
          have hA2 : -1 ≤ A ∧ A ≤ 14680064 := by
            rw [hA, wshTo_fst]
            exact asgTo_range (fun j hj hu => by
              have h := wsh_bd (first := first) (W := W) (n := n) HG.out.f HG.out.g.c (d := f - 1) (used := useC used j) (last := (j : Int)) (by have := freeN_use hu (show j < n by omega); have := HFR.out; omega)
              have h2 := cst_bd (first := first) (W := W) HG.out.f HG.out.g.c lst j
              unfold behindW
              omega) (by omega)
          have HS : Hid (wshTo used (cst first W lst) (behindW first W n f used) (q + 1) = if A < 0 ∨ C + R < A then (C + R, (q : Int) :: T) else (A, O)) := by
            show _ = _
            simp only [wshTo]
            rw [if_neg hu, ← hC, ← hR, ← hT, ← hA]
            split
            · rfl
            · rw [hA, hO]
          obtain ⟨G, hG2⟩ : ∃ G, G = wshTo used (cst first W lst) (behindW first W n f used) := ⟨_, rfl⟩
          rw [← hG2] at HS
          have HGG := Lib.hid hG2.symm
          clear hG2
          have HS2 : Hid (leftTo used (q + 1) = true) := by show _ = _; simp only [leftTo]; rw [if_neg hu]
          have hTl : T.length ≤ 12 := by
            have := (wsh_len (first := first) (W := W) (n := n) HG.out.f HG.out.g.c (d := f - 1) (used := useC used q) (last := (q : Int)) hfree).1
            rw [hT]
            unfold behindW
            omega
          have HTL := Lib.hid hTl
          have hW1 : But gd w (wr.setCell ⟨gd, q, none⟩ (.bool true)) := HW.out.1.trans (But.set gd q wr _)
          have HCL : Hid (Calls Try.prog 32 #[.slice (some ⟨bf, off, none⟩) n cf, .slice (some ⟨b, offb, none⟩) n cap, .int .i64 (q : Int), .slice (some ⟨gd, 0, none⟩) n n] (wr.setCell ⟨gd, q, none⟩ (.bool true)) (RetWsh R T (f - 1) n gd (useC used q) (wr.setCell ⟨gd, q, none⟩ (.bool true)))) := by
            have h := HIH.out (f - 1) hf1 (useC used q) q (wr.setCell ⟨gd, q, none⟩ (.bool true)) hfree (.inr ⟨q, hlt, rfl⟩) (Nat.lt_of_lt_of_le hgw hW1.size) (HB.out.trans ((hW1.below (by omega)).mono hgd)) ((HW.out.2.1.set hlt true).congr fun j _ => rfl)
            rw [hR, hT]
            exact h
          have HWS := Lib.hid hW1.size
          have HO : Hid (Own wr w.heap.size 3 1 encInt u11 O) := by rw [hO]; exact HW.out.2.2
          have HBW := Lib.hid HW.out.1
          rw [hu2] at ku
          have i1 : (q : Int) < (n : Int) := by omega
          have g2 : IntKind.i64.wrap (C + R) = C + R := IntWalk.i64_in _ (by omega)
          rw [← hA]
          have HBw : Hid (Below w0.heap.size w0 wr) := HB.out.trans ((HBW.out.below (by omega)).mono hgd)
          obtain ⟨bf', off', ef, kf0⟩ := HF.out.int (i := q) (by rw [HG.out.fl]; exact hlt)
          cases ef
          have kf := keepCell HBw.out kf0
          rw [at0_eq] at kf
          have HC := Lib.hid hC
          rcases HLS.out with hl | ⟨i, hi, hl⟩
          · subst hl
            have e0 : at0 first q = C := by rw [HC.out]; unfold cst; rw [if_pos (by decide)]
            rw [e0] at kf
            clear hC hR hT hA hO hv0 hf0 hW1 e0 hu hu2 kf0 hTl hfree hf1
            by_cases hA0 : A < 0
            · have HN : Hid (G (q + 1) = (C + R, (q : Int) :: T)) := by show _ = _; rw [HS.out, if_pos (.inl hA0)]
              go_wp2_with (first | (go_at_call 32; (with_reducible refine (HCL.out).mono ?_); rintro e w2 ⟨ovt, cvt, rfl, hb2, ht2, ho2⟩; have hkq := ht2.at' q hlt; have hzq := ht2.fz q; rw [show useC used q q = true from if_pos rfl] at hkq; have HB2 := Lib.hid hb2; have HT2 := Lib.hid ht2; have HO2 := Lib.hid ho2; clear hb2 ht2 ho2) | (at_builtin; go_must (refine wpList_appRow rfl (.tmp 66) (.tmp 67) 25 rfl elemInt Try.underlying25 (w2.setCell ⟨gd, q, none⟩ (.bool false)).heap.size _ _ encInt rfl (litAt (w2.setCell ⟨gd, q, none⟩ (.bool false)) (q : Int) w2.heap.size (by rw [World.size_setCell])) T (.slice ovt (f - 1) cvt) rfl ((HO2.out.but (But.set gd q w2 _) (by have h := HWS.out; omega)).alloc _).isSlice1 (fun _ => rfl) ?c1 ?c2 ?c3 ?c4 ?_)))
              case c1 => intro y u hu; simp only [encInt, List.mem_singleton] at hu; subst hu; rfl
              case c2 => have := HTL.out; simp only [List.length_cons, List.length_nil]; omega
              case c3 => have := HTL.out; simp only [List.length_cons, List.length_nil]; unfold maxLen; omega
              case c4 => rw [World.size_alloc]; omega
              intro v' w4 hown4 hg4
              have HB3 : Hid (But gd w (w2.setCell ⟨gd, q, none⟩ (.bool false))) := (HBW.out.trans (But.set gd q wr _)).trans (HB2.out.trans (But.set gd q w2 _))
              have HT3 : Hid (FTab Value.bool (w2.setCell ⟨gd, q, none⟩ (.bool false)) gd n used) := (HT2.out.set hlt false).congr fun j _ => useC_back HU.out j
              have HO3 : Hid (Own (w2.setCell ⟨gd, q, none⟩ (.bool false)) w.heap.size 3 1 encInt u11 O) := HO.out.but ((But.set gd q wr _).trans (HB2.out.trans (But.set gd q w2 _))) hgw
              have hb4 : Below (w2.setCell ⟨gd, q, none⟩ (.bool false)).heap.size (w2.setCell ⟨gd, q, none⟩ (.bool false)) w4 := (litAt (w2.setCell ⟨gd, q, none⟩ (.bool false)) (q : Int) w2.heap.size (by rw [World.size_setCell])).grown (balloc (Below.refl _ _) _) (Nat.le_refl _) hg4
              have HB4 : Hid (But gd w w4) := HB3.out.trans (But.of hb4)
              have HT4 : Hid (FTab Value.bool w4 gd n used) := HT3.out.below hb4 (Nat.lt_of_lt_of_le hgw HB3.out.size)
              have HO4 : Hid (Own w4 w.heap.size 3 1 encInt v' ((q : Int) :: T)) := hown4.base (by have h := HB3.out.size; rw [World.size_setCell] at h; exact h)
              clear hown4 hg4 hb4
              go_wp2
              go_roundw
              case rel => exact ⟨q + 1, _, by omega, by go_num, by rw [HGG.out, HN.out], rfl, by rw [HS2.out], Lib.hid ⟨HB4.out, HT4.out, by rw [HGG.out, HN.out]; exact HO4.out⟩⟩
              case measure => simp [intOf]; omega
            · by_cases hl2 : C + R < A
              · have HN : Hid (G (q + 1) = (C + R, (q : Int) :: T)) := by show _ = _; rw [HS.out, if_pos (.inr hl2)]
                go_wp2_with (first | (go_at_call 32; (with_reducible refine (HCL.out).mono ?_); rintro e w2 ⟨ovt, cvt, rfl, hb2, ht2, ho2⟩; have hkq := ht2.at' q hlt; have hzq := ht2.fz q; rw [show useC used q q = true from if_pos rfl] at hkq; have HB2 := Lib.hid hb2; have HT2 := Lib.hid ht2; have HO2 := Lib.hid ho2; clear hb2 ht2 ho2) | (at_builtin; go_must (refine wpList_appRow rfl (.tmp 66) (.tmp 67) 25 rfl elemInt Try.underlying25 (w2.setCell ⟨gd, q, none⟩ (.bool false)).heap.size _ _ encInt rfl (litAt (w2.setCell ⟨gd, q, none⟩ (.bool false)) (q : Int) w2.heap.size (by rw [World.size_setCell])) T (.slice ovt (f - 1) cvt) rfl ((HO2.out.but (But.set gd q w2 _) (by have h := HWS.out; omega)).alloc _).isSlice1 (fun _ => rfl) ?c1 ?c2 ?c3 ?c4 ?_)))
                case c1 => intro y u hu; simp only [encInt, List.mem_singleton] at hu; subst hu; rfl
                case c2 => have := HTL.out; simp only [List.length_cons, List.length_nil]; omega
                case c3 => have := HTL.out; simp only [List.length_cons, List.length_nil]; unfold maxLen; omega
                case c4 => rw [World.size_alloc]; omega
                intro v' w4 hown4 hg4
                have HB3 : Hid (But gd w (w2.setCell ⟨gd, q, none⟩ (.bool false))) := (HBW.out.trans (But.set gd q wr _)).trans (HB2.out.trans (But.set gd q w2 _))
                have HT3 : Hid (FTab Value.bool (w2.setCell ⟨gd, q, none⟩ (.bool false)) gd n used) := (HT2.out.set hlt false).congr fun j _ => useC_back HU.out j
                have HO3 : Hid (Own (w2.setCell ⟨gd, q, none⟩ (.bool false)) w.heap.size 3 1 encInt u11 O) := HO.out.but ((But.set gd q wr _).trans (HB2.out.trans (But.set gd q w2 _))) hgw
                have hb4 : Below (w2.setCell ⟨gd, q, none⟩ (.bool false)).heap.size (w2.setCell ⟨gd, q, none⟩ (.bool false)) w4 := (litAt (w2.setCell ⟨gd, q, none⟩ (.bool false)) (q : Int) w2.heap.size (by rw [World.size_setCell])).grown (balloc (Below.refl _ _) _) (Nat.le_refl _) hg4
                have HB4 : Hid (But gd w w4) := HB3.out.trans (But.of hb4)
                have HT4 : Hid (FTab Value.bool w4 gd n used) := HT3.out.below hb4 (Nat.lt_of_lt_of_le hgw HB3.out.size)
                have HO4 : Hid (Own w4 w.heap.size 3 1 encInt v' ((q : Int) :: T)) := hown4.base (by have h := HB3.out.size; rw [World.size_setCell] at h; exact h)
                clear hown4 hg4 hb4
                go_wp2
                go_roundw
                case rel => exact ⟨q + 1, _, by omega, by go_num, by rw [HGG.out, HN.out], rfl, by rw [HS2.out], Lib.hid ⟨HB4.out, HT4.out, by rw [HGG.out, HN.out]; exact HO4.out⟩⟩
                case measure => simp [intOf]; omega
              · have HN : Hid (G (q + 1) = (A, O)) := by show _ = _; rw [HS.out, if_neg (by omega)]
                have t1 : decide (A < 0) = false := decide_eq_false (by omega)
                have t2 : decide (C + R < A) = false := decide_eq_false (by omega)
                go_wp2_with (go_at_call 32; (with_reducible refine (HCL.out).mono ?_); rintro e w2 ⟨ovt, cvt, rfl, hb2, ht2, ho2⟩; have hkq := ht2.at' q hlt; have hzq := ht2.fz q; rw [show useC used q q = true from if_pos rfl] at hkq; have HB2 := Lib.hid hb2; have HT2 := Lib.hid ht2; have HO2 := Lib.hid ho2; clear hb2 ht2 ho2)
                have HB3 : Hid (But gd w (w2.setCell ⟨gd, q, none⟩ (.bool false))) := (HBW.out.trans (But.set gd q wr _)).trans (HB2.out.trans (But.set gd q w2 _))
                have HT3 : Hid (FTab Value.bool (w2.setCell ⟨gd, q, none⟩ (.bool false)) gd n used) := (HT2.out.set hlt false).congr fun j _ => useC_back HU.out j
                have HO3 : Hid (Own (w2.setCell ⟨gd, q, none⟩ (.bool false)) w.heap.size 3 1 encInt u11 O) := HO.out.but ((But.set gd q wr _).trans (HB2.out.trans (But.set gd q w2 _))) hgw
                go_roundw
                case rel => exact ⟨q + 1, _, by omega, by go_num, by rw [HGG.out, HN.out], rfl, by rw [HS2.out], Lib.hid ⟨HB3.out, HT3.out, by rw [HGG.out, HN.out]; exact HO3.out⟩⟩
                case measure => simp [intOf]; omega
          · subst hl
            obtain ⟨bk, offk, capk, kc1, kc2, _⟩ := costCell2 HX.out HG.out.g HBw.out (r := i) (q := q) (by rw [HG.out.wl]; exact hi) hlt
            have e0 : cOf W (i + 1) (q + 1) = C := by rw [HC.out]; unfold cst; rw [if_neg (by omega)]; simp
            rw [e0] at kc2
            have i2 : (i : Int) < (n : Int) := by omega
            generalize at0 first q = F0 at *
            clear hC hR hT hA hO hv0 hf0 hW1 e0 hu hu2 kf0 hTl hfree hf1
            by_cases hA0 : A < 0
            · have HN : Hid (G (q + 1) = (C + R, (q : Int) :: T)) := by show _ = _; rw [HS.out, if_pos (.inl hA0)]
              go_wp2_with (first | (go_at_call 32; (with_reducible refine (HCL.out).mono ?_); rintro e w2 ⟨ovt, cvt, rfl, hb2, ht2, ho2⟩; have hkq := ht2.at' q hlt; have hzq := ht2.fz q; rw [show useC used q q = true from if_pos rfl] at hkq; have HB2 := Lib.hid hb2; have HT2 := Lib.hid ht2; have HO2 := Lib.hid ho2; clear hb2 ht2 ho2) | (at_builtin; go_must (refine wpList_appRow rfl (.tmp 66) (.tmp 67) 25 rfl elemInt Try.underlying25 (w2.setCell ⟨gd, q, none⟩ (.bool false)).heap.size _ _ encInt rfl (litAt (w2.setCell ⟨gd, q, none⟩ (.bool false)) (q : Int) w2.heap.size (by rw [World.size_setCell])) T (.slice ovt (f - 1) cvt) rfl ((HO2.out.but (But.set gd q w2 _) (by have h := HWS.out; omega)).alloc _).isSlice1 (fun _ => rfl) ?c1 ?c2 ?c3 ?c4 ?_)))
              case c1 => intro y u hu; simp only [encInt, List.mem_singleton] at hu; subst hu; rfl
              case c2 => have := HTL.out; simp only [List.length_cons, List.length_nil]; omega
              case c3 => have := HTL.out; simp only [List.length_cons, List.length_nil]; unfold maxLen; omega
              case c4 => rw [World.size_alloc]; omega
              intro v' w4 hown4 hg4
              have HB3 : Hid (But gd w (w2.setCell ⟨gd, q, none⟩ (.bool false))) := (HBW.out.trans (But.set gd q wr _)).trans (HB2.out.trans (But.set gd q w2 _))
              have HT3 : Hid (FTab Value.bool (w2.setCell ⟨gd, q, none⟩ (.bool false)) gd n used) := (HT2.out.set hlt false).congr fun j _ => useC_back HU.out j
              have HO3 : Hid (Own (w2.setCell ⟨gd, q, none⟩ (.bool false)) w.heap.size 3 1 encInt u11 O) := HO.out.but ((But.set gd q wr _).trans (HB2.out.trans (But.set gd q w2 _))) hgw
              have hb4 : Below (w2.setCell ⟨gd, q, none⟩ (.bool false)).heap.size (w2.setCell ⟨gd, q, none⟩ (.bool false)) w4 := (litAt (w2.setCell ⟨gd, q, none⟩ (.bool false)) (q : Int) w2.heap.size (by rw [World.size_setCell])).grown (balloc (Below.refl _ _) _) (Nat.le_refl _) hg4
              have HB4 : Hid (But gd w w4) := HB3.out.trans (But.of hb4)
              have HT4 : Hid (FTab Value.bool w4 gd n used) := HT3.out.below hb4 (Nat.lt_of_lt_of_le hgw HB3.out.size)
              have HO4 : Hid (Own w4 w.heap.size 3 1 encInt v' ((q : Int) :: T)) := hown4.base (by have h := HB3.out.size; rw [World.size_setCell] at h; exact h)
              clear hown4 hg4 hb4
              go_wp2
              go_roundw
              case rel => exact ⟨q + 1, _, by omega, by go_num, by rw [HGG.out, HN.out], rfl, by rw [HS2.out], Lib.hid ⟨HB4.out, HT4.out, by rw [HGG.out, HN.out]; exact HO4.out⟩⟩
              case measure => simp [intOf]; omega
            · by_cases hl2 : C + R < A
              · have HN : Hid (G (q + 1) = (C + R, (q : Int) :: T)) := by show _ = _; rw [HS.out, if_pos (.inr hl2)]
                go_wp2_with (first | (go_at_call 32; (with_reducible refine (HCL.out).mono ?_); rintro e w2 ⟨ovt, cvt, rfl, hb2, ht2, ho2⟩; have hkq := ht2.at' q hlt; have hzq := ht2.fz q; rw [show useC used q q = true from if_pos rfl] at hkq; have HB2 := Lib.hid hb2; have HT2 := Lib.hid ht2; have HO2 := Lib.hid ho2; clear hb2 ht2 ho2) | (at_builtin; go_must (refine wpList_appRow rfl (.tmp 66) (.tmp 67) 25 rfl elemInt Try.underlying25 (w2.setCell ⟨gd, q, none⟩ (.bool false)).heap.size _ _ encInt rfl (litAt (w2.setCell ⟨gd, q, none⟩ (.bool false)) (q : Int) w2.heap.size (by rw [World.size_setCell])) T (.slice ovt (f - 1) cvt) rfl ((HO2.out.but (But.set gd q w2 _) (by have h := HWS.out; omega)).alloc _).isSlice1 (fun _ => rfl) ?c1 ?c2 ?c3 ?c4 ?_)))
                case c1 => intro y u hu; simp only [encInt, List.mem_singleton] at hu; subst hu; rfl
                case c2 => have := HTL.out; simp only [List.length_cons, List.length_nil]; omega
                case c3 => have := HTL.out; simp only [List.length_cons, List.length_nil]; unfold maxLen; omega
                case c4 => rw [World.size_alloc]; omega
                intro v' w4 hown4 hg4
                have HB3 : Hid (But gd w (w2.setCell ⟨gd, q, none⟩ (.bool false))) := (HBW.out.trans (But.set gd q wr _)).trans (HB2.out.trans (But.set gd q w2 _))
                have HT3 : Hid (FTab Value.bool (w2.setCell ⟨gd, q, none⟩ (.bool false)) gd n used) := (HT2.out.set hlt false).congr fun j _ => useC_back HU.out j
                have HO3 : Hid (Own (w2.setCell ⟨gd, q, none⟩ (.bool false)) w.heap.size 3 1 encInt u11 O) := HO.out.but ((But.set gd q wr _).trans (HB2.out.trans (But.set gd q w2 _))) hgw
                have hb4 : Below (w2.setCell ⟨gd, q, none⟩ (.bool false)).heap.size (w2.setCell ⟨gd, q, none⟩ (.bool false)) w4 := (litAt (w2.setCell ⟨gd, q, none⟩ (.bool false)) (q : Int) w2.heap.size (by rw [World.size_setCell])).grown (balloc (Below.refl _ _) _) (Nat.le_refl _) hg4
                have HB4 : Hid (But gd w w4) := HB3.out.trans (But.of hb4)
                have HT4 : Hid (FTab Value.bool w4 gd n used) := HT3.out.below hb4 (Nat.lt_of_lt_of_le hgw HB3.out.size)
                have HO4 : Hid (Own w4 w.heap.size 3 1 encInt v' ((q : Int) :: T)) := hown4.base (by have h := HB3.out.size; rw [World.size_setCell] at h; exact h)
                clear hown4 hg4 hb4
                go_wp2
                go_roundw
                case rel => exact ⟨q + 1, _, by omega, by go_num, by rw [HGG.out, HN.out], rfl, by rw [HS2.out], Lib.hid ⟨HB4.out, HT4.out, by rw [HGG.out, HN.out]; exact HO4.out⟩⟩
                case measure => simp [intOf]; omega
              · have HN : Hid (G (q + 1) = (A, O)) := by show _ = _; rw [HS.out, if_neg (by omega)]
                have t1 : decide (A < 0) = false := decide_eq_false (by omega)
                have t2 : decide (C + R < A) = false := decide_eq_false (by omega)
                go_wp2_with (go_at_call 32; (with_reducible refine (HCL.out).mono ?_); rintro e w2 ⟨ovt, cvt, rfl, hb2, ht2, ho2⟩; have hkq := ht2.at' q hlt; have hzq := ht2.fz q; rw [show useC used q q = true from if_pos rfl] at hkq; have HB2 := Lib.hid hb2; have HT2 := Lib.hid ht2; have HO2 := Lib.hid ho2; clear hb2 ht2 ho2)
                have HB3 : Hid (But gd w (w2.setCell ⟨gd, q, none⟩ (.bool false))) := (HBW.out.trans (But.set gd q wr _)).trans (HB2.out.trans (But.set gd q w2 _))
                have HT3 : Hid (FTab Value.bool (w2.setCell ⟨gd, q, none⟩ (.bool false)) gd n used) := (HT2.out.set hlt false).congr fun j _ => useC_back HU.out j
                have HO3 : Hid (Own (w2.setCell ⟨gd, q, none⟩ (.bool false)) w.heap.size 3 1 encInt u11 O) := HO.out.but ((But.set gd q wr _).trans (HB2.out.trans (But.set gd q w2 _))) hgw
                go_roundw
                case rel => exact ⟨q + 1, _, by omega, by go_num, by rw [HGG.out, HN.out], rfl, by rw [HS2.out], Lib.hid ⟨HB3.out, HT3.out, by rw [HGG.out, HN.out]; exact HO3.out⟩⟩
                case measure => simp [intOf]; omega
      · obtain rfl : n = q := by omega
        have hX : wsh first W n f used lst = if f = 0 then (0, []) else wshTo used (cst first W lst) (behindW first W n f used) n := by
          cases f with
          | zero => rfl
          | succ f => rw [if_neg (by omega)]; rfl
        by_cases h0 : f = 0
        · have HL : Hid (leftTo used n = false) := leftTo_zero (by rw [HFR.out]; exact h0)
          rw [if_pos h0] at hX
          rw [HL.out]
          have HX0 := Lib.hid hX
          have H0 := Lib.hid h0
          clear hX h0
          go_wp2
          go_returns
          rw [HX0.out, H0.out]
          exact ⟨none, 0, rfl, HW.out.1, HW.out.2.1, Own.nil _ _ _ _ _⟩
        · have HL : Hid (leftTo used n = true) := leftTo_pos (by rw [HFR.out]; omega)
          rw [if_neg h0] at hX
          have hlen := (wsh_len (first := first) (W := W) (n := n) HG.out.f HG.out.g.c (d := f) (used := used) (last := lst) HFR.out).1
          rw [hX] at hlen
          obtain ⟨ov, cv, rfl, hfv⟩ := HW.out.2.2.flatW hlen
          rw [HL.out]
          have HX0 := Lib.hid hX
          clear hX h0 hlen hfv
          go_wp2
          go_returns
          rw [HX0.out]
          exact ⟨ov, cv, rfl, HW.out.1, HW.out.2.1, HW.out.2.2⟩
end Go.Proofs.Ytjggcnpnjnmamaa
