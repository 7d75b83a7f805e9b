/-
  The walks of profile.FineOne and profile.Fine. Own text.
-/
import Derived.Test.YtiokmfmcmfbjoaaProfC
import Derived.Test.YtiokmfmcmfbjoaaCurveR
import Derived.Test.YtiokmfmcmfbjoaaMade
namespace Go.Proofs.Ytiokmfmcmfbjoaa
open Go.RowKit
set_option linter.unusedVariables false
theorem elemInt : ElemType Try.prog 3 (.int .i64 0) 1 8 := ElemType.mk (by kernel_rfl) rfl (by decide)
/-- A profile in memory, and its seven cells at block b. -/
structure HeldAt (W : World) (b : Nat) (P : Prof) (oi : Option Addr) (ci : Nat) (oc : Option Addr) (cc : Nat) (ov : Option Addr) (cv : Nat) : Prop where
  box : BoxAt W b 0 (profCells P oi ci oc cc ov cv)
  prof : ProfAt W P oi ci oc cc ov cv
section
variable {W W' : World} {b : Nat} {P : Prof} {oi : Option Addr} {ci : Nat} {oc : Option Addr} {cc : Nat} {ov : Option Addr} {cv : Nat}
theorem HeldAt.below (h : HeldAt W b P oi ci oc cc ov cv) (hb : Below W.heap.size W W') : HeldAt W' b P oi ci oc cc ov cv := ⟨h.box.below hb, h.prof.below hb⟩
theorem HeldAt.curves (h : HeldAt W b P oi ci oc cc ov cv) : W.cell? ⟨b, 2, none⟩ = some (.slice oc P.curves.length cc) := by
  have := h.box.at' 2 _ rfl
  rwa [Nat.zero_add] at this
theorem HeldAt.inn (h : HeldAt W b P oi ci oc cc ov cv) : W.cell? ⟨b, 3, none⟩ = some (.int .i64 P.inn) := by
  have := h.box.at' 3 _ rfl
  rwa [Nat.zero_add] at this
theorem HeldAt.out (h : HeldAt W b P oi ci oc cc ov cv) : W.cell? ⟨b, 4, none⟩ = some (.int .i64 P.out) := by
  have := h.box.at' 4 _ rfl
  rwa [Nat.zero_add] at this
theorem HeldAt.size (h : HeldAt W b P oi ci oc cc ov cv) : W.cell? ⟨b, 5, none⟩ = some (.int .i64 P.size) := by
  have := h.box.at' 5 _ rfl
  rwa [Nat.zero_add] at this
theorem HeldAt.vals (h : HeldAt W b P oi ci oc cc ov cv) : W.cell? ⟨b, 6, none⟩ = some (.slice ov P.vals.length cv) := by
  have := h.box.at' 6 _ rfl
  rwa [Nat.zero_add] at this
end
/-- The fine tone of ink k. -/
noncomputable def fineV (P : Prof) (k : Nat) (tone : Int) : Int := curveV (P.curves.getD k []) (256 * tone)
theorem fineV_at {P : Prof} (hok : OkProf P) {k : Nat} (hk : k < P.curves.length) {t : Int} (hr : CurveAt P.curves[k] (256 * t) (curveV P.curves[k] (256 * t))) : fineV P k t = curveV P.curves[k] (256 * t) := by
  unfold fineV
  rw [List.getD_eq_getElem?_getD, List.getElem?_eq_getElem hk]
  rfl
/-- What FineOne returns: the value, and that the curve has it. -/
def RetFineOne (P : Prof) (k : Nat) (t : Int) (w : World) (e : Ending) (w' : World) : Prop := e = .returned (.int .i64 (fineV P k t)) ∧ CurveAt (P.curves.getD k []) (256 * t) (fineV P k t) ∧ Below w.heap.size w w'
set_option maxHeartbeats 1000000 in
theorem fineOne_any (b : Nat) (P : Prof) (oi : Option Addr) (ci : Nat) (oc : Option Addr) (cc : Nat) (ov : Option Addr) (cv : Nat) (k : Nat) (t : Int) (w : World) (hh : HeldAt w b P oi ci oc cc ov cv) (hok : OkProf P) (hk : k < P.curves.length) (h0 : 0 ≤ t) (h1 : t ≤ 255) :
    Calls Try.prog 26 #[.pointer (some ⟨b, 0, none⟩), .int .i64 k, .int .i64 t] w (RetFineOne P k t w) := by
  have c2 := hh.curves
  obtain ⟨bc, offc, v, rfl, e1, oa, cap, rfl, _, hcm, hcf⟩ := hh.prof.curves k hk
  have hoc := hok.curves k hk
  have hm : P.curves.length ≤ 9223372036854775807 := by have := hh.prof.zc; unfold maxLen at this; omega
  have hraw := Lib.hid (craw_any oa P.curves[k] cap (256 * t) w hcf hoc (by omega) (by omega))
  have HOK := Lib.hid hok
  have hg : Hid (P.curves.getD k [] = P.curves[k]) := by
    show _ = _
    rw [List.getD_eq_getElem?_getD, List.getElem?_eq_getElem hk]
    rfl
  have hkm : (k : Int) < (P.curves.length : Int) := by omega
  obtain ⟨q, hq⟩ : ∃ q, q = P.curves[k].length := ⟨_, rfl⟩
  rw [← hq] at e1 hraw
  clear hq hcf hcm hoc hok hh
  go_enter Try.func26, Try.ntmps26
  go_wp2_with (go_at_call 31; refine hraw.out.mono ?_; rintro e w2 ⟨rfl, hat, hb⟩; have HAT := Lib.hid hat; have HBB := Lib.hid hb; clear hat hb)
  go_ret
  refine ⟨?_, ?_, HBB.out⟩
  · rw [fineV_at HOK.out hk HAT.out]; rfl
  · rw [hg.out, fineV_at HOK.out hk HAT.out]; exact HAT.out
theorem FTab.flat {w : World} {g n : Nat} {t : Nat → Int} (h : FTab (Value.int .i64) w g n t) : Flat w 1 encInt (some ⟨g, 0, none⟩) ((List.range n).map t) := by
  intro i hi j hj
  rw [List.length_map, List.length_range] at hi
  obtain rfl : j = 0 := by omega
  refine ⟨.int .i64 (t i), by rw [List.getElem_map, List.getElem_range]; rfl, g, 0, rfl, ?_⟩
  have := h.at' i hi
  simpa using this
/-- Returns a new row of n ints. -/
def RetRow (n : Nat) (t : Nat → Int) (w : World) (e : Ending) (w' : World) : Prop := ∃ g, e = .returned (.slice (some ⟨g, 0, none⟩) n n) ∧ w.heap.size ≤ g ∧ g < w'.heap.size ∧ FTab (Value.int .i64) w' g n t ∧ Below w.heap.size w w'
set_option maxHeartbeats 1000000 in
theorem fine_any (b : Nat) (P : Prof) (oi : Option Addr) (ci : Nat) (oc : Option Addr) (cc : Nat) (ov : Option Addr) (cv : Nat) (ot : Option Addr) (ts : List Int) (ct : Nat) (w : World) (hh : HeldAt w b P oi ci oc cc ov cv) (hok : OkProf P) (hx : Flat w 1 encInt ot ts) (ht : OkTones ts (P.inks.length : Int)) :
    Calls Try.prog 22 #[.pointer (some ⟨b, 0, none⟩), .slice ot ts.length ct] w (RetRow ts.length (fun i => fineV P i (ts.getD i 0)) w) := by
  have hl : ts.length = P.inks.length := by have := ht.1; omega
  have hf := hok.few
  have hsame := hok.same
  have hn : ts.length ≤ 4 := by omega
  have mk := run_makeArr (P := Try.prog) elemInt Try.underlying24 (.int .i64 0) rfl ts.length (by omega) (by omega)
  have HM := FTab.made (Value.int .i64) w ts.length 0 3
  have hb0 := balloc (Below.refl _ w) (.cells (madeArr (.int .i64 0) ts.length) 3)
  have H0 : Hid (FTab (Value.int .i64) (w.alloc (.cells (madeArr (.int .i64 0) ts.length) 3)) w.heap.size ts.length (fun i => if i < 0 then fineV P i (ts.getD i 0) else 0) ∧ Below w.heap.size w (w.alloc (.cells (madeArr (.int .i64 0) ts.length) 3))) :=
    ⟨HM.congr fun i hi => (if_neg (by omega)).symm, hb0⟩
  have HH := Lib.hid hh
  have HOK := Lib.hid hok
  have HX := Lib.hid hx
  have HT := Lib.hid ht
  have HS := Lib.hid (And.intro hl hsame)
  clear hh hok hx ht hl hsame hf HM hb0
  go_enter Try.func22, Try.ntmps22
  go_wp2
  go_loopw [13] (fun i wr => ∃ k : Nat, k ≤ ts.length ∧ i = .int .i64 k ∧ Hid (FTab (Value.int .i64) wr w.heap.size ts.length (fun i => if i < k then fineV P i (ts.getD i 0) else 0) ∧ Below w.heap.size w wr) ∧ w.heap.size < wr.heap.size) (fun i _ => ts.length - (intOf i).toNat)
  case atStart => exact ⟨0, by omega, rfl, H0, by simp⟩
  case round =>
    clear H0 mk
    obtain ⟨k, hk, rfl, HR, hsz⟩ := hrel
    by_cases hlt : k < ts.length
    · obtain ⟨bt', offt, rfl, e1⟩ := (HX.out.below HR.out.2).int hlt
      have htk := HT.out.2 k hlt
      have hkc : k < P.curves.length := by have := HS.out.1; have := HS.out.2; omega
      have hgd : ts.getD k 0 = ts[k] := by rw [List.getD_eq_getElem?_getD, List.getElem?_eq_getElem hlt]; rfl
      have hone := Lib.hid (fineOne_any b P oi ci oc cc ov cv k ts[k] wr (HH.out.below HR.out.2) HOK.out hkc htk.1 htk.2)
      obtain ⟨F, hF⟩ : ∃ F, F = fineV P k ts[k] := ⟨_, rfl⟩
      have HN : Hid (∀ w2, Below wr.heap.size wr w2 → (FTab (Value.int .i64) (w2.setCell ⟨w.heap.size, k, none⟩ (.int .i64 F)) w.heap.size ts.length (fun i => if i < k + 1 then fineV P i (ts.getD i 0) else 0) ∧ Below w.heap.size w (w2.setCell ⟨w.heap.size, k, none⟩ (.int .i64 F)))) := fun w2 hb2 => by
        refine ⟨((HR.out.1.below hb2 hsz).set hlt F).congr fun i hi => ?_, (bthen HR.out.2 hb2).setCell (p := ⟨w.heap.size, k, none⟩) (Nat.le_refl _) _⟩
        by_cases e : i = k
        · subst e
          rw [if_pos rfl, if_pos (by omega), hgd, hF]
        · rw [if_neg e]
          by_cases e2 : i < k
          · rw [if_pos e2, if_pos (by omega)]
          · rw [if_neg e2, if_neg (by omega)]
      have hcell : Hid (∀ w2, Below wr.heap.size wr w2 → (∃ y, w2.cell? ⟨w.heap.size, k, none⟩ = some (.int .i64 y)) ∧ w2.frozen? ⟨w.heap.size, k, none⟩ = false) := fun w2 hb2 => ⟨⟨_, (HR.out.1.below hb2 hsz).at' k hlt⟩, (HR.out.1.below hb2 hsz).fz k⟩
      have hFF := Lib.hid hF
      clear hF hgd
      go_wp2_with (go_at_call 26; refine hone.out.mono ?_; rintro e w2 ⟨rfl, _, hb2⟩; rw [← hFF.out]; obtain ⟨⟨y, hy⟩, hz⟩ := hcell.out w2 hb2; have HB2 := Lib.hid hb2; clear hb2)
      go_roundw
      case rel => exact ⟨k + 1, by omega, by go_num, HN.out _ HB2.out, by have := HB2.out.size; simp; omega⟩
      case measure => simp [intOf]; omega
    · obtain rfl : k = ts.length := by omega
      have HF : Hid (RetRow ts.length (fun i => fineV P i (ts.getD i 0)) w (.returned (.slice (some ⟨w.heap.size, 0, none⟩) ts.length ts.length)) wr) :=
        ⟨w.heap.size, rfl, Nat.le_refl _, hsz, HR.out.1.congr fun i hi => if_pos hi, HR.out.2⟩
      go_wp2
      go_ret
      exact HF.out
end Go.Proofs.Ytiokmfmcmfbjoaa
