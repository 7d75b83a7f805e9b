/-
  The walk of the machine's empty. Own text.
-/
import Derived.Test.YtcpjpmijfjdifaaGreatDoorMach
namespace Go.Proofs.YtcpjpmijfjdifaaGreatDoor
open Go.RowKit
set_option linter.unusedVariables false
theorem drewN_drewN (w : World) (p q : Nat) : (w.drewN p).drewN q = w.drewN (p + q) := by simp [World.drewN, Nat.add_assoc]
theorem hasEmpty_yes {fs : List (List Pt)} {a : Nat → Nat} {k : Nat} (hk : k < fs.length) (h : (a k == ln fs k) = true) : hasEmpty fs a = true :=
  List.any_eq_true.2 ⟨k, List.mem_range.2 hk, h⟩
theorem hasEmpty_none {fs : List (List Pt)} {a : Nat → Nat} (h : ∀ k, k < fs.length → (a k == ln fs k) = false) : hasEmpty fs a = false :=
  List.any_eq_false.2 fun k hk => by rw [h k (List.mem_range.1 hk)]; simp
def RetDrew (v : Value) (w : World) (e : Ending) (w' : World) : Prop := e = .returned v ∧ ∃ q, w' = w.drewN q
section
variable {w0 w : World} {fs : List (List Pt)} {so : Nat → Option Addr} {sc : Nat → Nat} {mb bf cf : Nat} {fb a : Nat → Nat} {u : Nat → Int} {vg vp : Value} {c : Nat}
set_option maxRecDepth 100000 in
set_option maxHeartbeats 1000000 in
theorem indexE_any (h : Mach w0 w fs so sc mb bf cf fb a u vg vp c) (hw : Within fs a) (r : Bool) (hr : hasEmpty fs a = r) :
    Calls Tryz.prog 86 #[.slice (some ⟨bf, 0, none⟩) fs.length cf, .func (.func 69) #[] #[]] w (fun e w' => ∃ x : Int, e = .returned (.int .i64 x) ∧ (decide (0 ≤ x) = r) ∧ ∃ q, w' = w.drewN q) := by
  have hfew := h.few
  have H := Lib.hid h
  have HW := Lib.hid hw
  have HR := Lib.hid hr
  obtain ⟨n, hn⟩ : ∃ n, n = fs.length := ⟨_, rfl⟩
  rw [← hn] at hfew ⊢
  have HN := Lib.hid hn
  clear h hw hr hn
  go_enter Tryz.func86, Tryz.ntmps86
  go_wp2
  go_loopw [8] (fun i wr => ∃ k : Nat, k ≤ n ∧ i = .int .i64 k ∧ Hid ((∃ q, wr = w.drewN q) ∧ ∀ j, j < k → (a j == ln fs j) = false)) (fun i _ => n - (intOf i).toNat)
  case atStart => exact ⟨0, by omega, rfl, ⟨0, rfl⟩, fun j hj => by omega⟩
  case round =>
    obtain ⟨k, hk, rfl, HX⟩ := hrel
    obtain ⟨q, hq⟩ := HX.out.1
    by_cases hlt : k < n
    · have hkx : k < fs.length := by have := HN.out; omega
      have HM : Hid (Mach w0 wr fs so sc mb bf cf fb a u vg vp c) := by rw [hq]; exact H.out.drewN q
      have c0 : wr.cell? ⟨bf, k, none⟩ = some (.pointer (some ⟨fb k, 0, none⟩)) := HM.out.ptr k hkx
      have kd : (k : Int) < (n : Int) := by omega
      have k0 : (0 : Int) ≤ (k : Int) := by omega
      have HT : Hid (Calls Tryz.prog 69 #[.pointer (some ⟨fb k, 0, none⟩)] wr fun e w' => e = .returned (.bool (a k == ln fs k)) ∧ ∃ q, w' = wr.drewN q) := by
        rw [ln_get fs k hkx]
        exact empty1_any (fb k) (so k) (sc k) fs[k] (a k) (u k) wr (HM.out.fat hkx) (by have := HW.out k hkx; rw [ln_get fs k hkx] at this; exact this) (by have := HM.out.low k; rw [ln_get fs k hkx] at this; exact this)
      obtain ⟨bb, hbb⟩ : ∃ bb, bb = (a k == ln fs k) := ⟨_, rfl⟩
      rw [← hbb] at HT
      have HBB := Lib.hid hbb
      have HQ := Lib.hid hq
      clear hbb hq
      go_wp2_with fail
      refine HT.out.mono ?_
      rintro e w2 ⟨rfl, q2, rfl⟩
      have HQ2 : Hid (∃ q, wr.drewN q2 = w.drewN q) := ⟨q + q2, by rw [HQ.out, drewN_drewN]⟩
      clear HT c0 HQ HM
      generalize wr.drewN q2 = w2 at *
      cases bb with
      | true =>
        have HF : Hid (∃ x : Int, Ending.returned (.int .i64 (k : Int)) = .returned (.int .i64 x) ∧ (decide (0 ≤ x) = r) ∧ ∃ q, w2 = w.drewN q) :=
          ⟨k, rfl, by rw [← HR.out, hasEmpty_yes hkx HBB.out.symm]; simp, HQ2.out⟩
        clear HX
        go_wp2
        go_ret
        exact HF.out
      | false =>
        have HNX : Hid ((∃ q, w2 = w.drewN q) ∧ ∀ j, j < k + 1 → (a j == ln fs j) = false) := ⟨HQ2.out, fun j hj => by
          by_cases e : j = k
          · subst e; exact HBB.out.symm
          · exact HX.out.2 j (by omega)⟩
        clear HX
        go_wp2
        go_roundw
        case rel => exact ⟨k + 1, by omega, by go_num, HNX⟩
        case measure => simp [intOf]; omega
    · obtain rfl : n = k := by omega
      have HF : Hid (∃ x : Int, Ending.returned (.int .i64 (-1)) = .returned (.int .i64 x) ∧ (decide (0 ≤ x) = r) ∧ ∃ q, wr = w.drewN q) :=
        ⟨-1, rfl, by rw [← HR.out, hasEmpty_none fun j hj => HX.out.2 j (by have := HN.out; omega)]; rfl, HX.out.1⟩
      clear HX hq
      go_wp2
      go_ret
      exact HF.out
set_option maxRecDepth 100000 in
set_option maxHeartbeats 1000000 in
theorem containsE_any (h : Mach w0 w fs so sc mb bf cf fb a u vg vp c) (hw : Within fs a) (r : Bool) (hr : hasEmpty fs a = r) :
    Calls Tryz.prog 68 #[.slice (some ⟨bf, 0, none⟩) fs.length cf, .func (.func 69) #[] #[]] w (RetDrew (.bool r) w) := by
  have HI := Lib.hid (indexE_any h hw r hr)
  generalize fs.length = n at *
  clear h hw hr
  go_enter Tryz.func68, Tryz.ntmps68
  go_wp2_with fail
  refine HI.out.mono ?_
  rintro e w2 ⟨x, rfl, hx, q, rfl⟩
  have HF : Hid (RetDrew (.bool r) w (.returned (.bool r)) (w.drewN q)) := ⟨rfl, q, rfl⟩
  have hx' : decide (x ≥ 0) = r := hx
  clear hx HI
  go_wp2
  go_ret
  exact HF.out
set_option maxRecDepth 100000 in
set_option maxHeartbeats 1000000 in
theorem empty_any (h : Mach w0 w fs so sc mb bf cf fb a u vg vp c) (hw : Within fs a) (r : Bool) (hr : hasEmpty fs a = r) :
    Calls Tryz.prog 40 #[.pointer (some ⟨mb, 0, none⟩)] w (RetDrew (.bool r) w) := by
  have HI := Lib.hid (containsE_any h hw r hr)
  have c0 : w.cell? ⟨mb, 0, none⟩ = some (.slice (some ⟨bf, 0, none⟩) fs.length cf) := h.tab.at' 0 (by omega)
  generalize fs.length = n at *
  clear h hw hr
  go_enter Tryz.func40, Tryz.ntmps40
  go_wp2_with fail
  refine HI.out.mono ?_
  rintro e w2 ⟨rfl, q, rfl⟩
  have HF : Hid (RetDrew (.bool r) w (.returned (.bool r)) (w.drewN q)) := ⟨rfl, q, rfl⟩
  clear c0 HI
  go_wp2
  go_ret
  exact HF.out
end
end Go.Proofs.YtcpjpmijfjdifaaGreatDoor
