/-
  The walk of sCodes. Own text.
-/
import Derived.Test.YtcadgjhfdolejaaPlR
namespace Go.Proofs.Ytcadgjhfdolejaa
open Go.RowKit
set_option linter.unusedVariables false
theorem wAt_bd (l : List UInt8) (hl : DigL l) (i : Nat) (hi : i < (widV l).length) : 1 ≤ wAt l i ∧ wAt l i ≤ 4 := by
  rw [widV_len] at hi
  by_cases e : i = 6 * (vsL l).length
  · rw [e, wAt_last]; omega
  · have hj : i / 6 < (vsL l).length := by omega
    have e2 : i = 6 * (i / 6) + i % 6 := by omega
    rw [e2, wAt_sym l hj (by omega)]
    have hb := vsN_bd l hl (i / 6) hj
    exact tab_bd _ (by omega) _ (by omega)
def RetYes (w : World) (e : Ending) (w' : World) : Prop := e = .returned (.bool true) ∧ Below w.heap.size w w'
set_option maxRecDepth 100000 in
set_option maxHeartbeats 1000000 in
theorem codes_any (w : World) : Calls Try.prog 4 #[] w (RetYes w) := by
  obtain ⟨l, hl⟩ : ∃ l : List UInt8, l = [48, 48] := ⟨_, rfl⟩
  have hd : DigL l := by rw [hl]; intro c hc; simp at hc; rw [hc]; decide
  have hn : (widV l).length = 25 := by rw [hl]; decide +kernel
  have h2 : l.length = 2 := by rw [hl]; rfl
  have HEN : Hid (Calls Try.prog 13 #[.string ⟨#[48, 48]⟩] w (RetSyms (widV l) w)) := by
    have e := encode_any l hd (by omega) (by omega) w
    rw [show strB l = ⟨#[48, 48]⟩ by rw [hl]; rfl] at e
    exact e
  have HDE : Hid (∀ w1 g c, 25 ≤ c → NRow w1 g 0 25 (fun i => (widV l).getD i 0) → Calls Try.prog 14 #[.slice (some ⟨g, 0, none⟩) 25 c] w1 (fun e w' => e = .returned (.tuple #[.string ⟨#[48, 48]⟩, .int .i64 0]) ∧ Below w1.heap.size w1 w')) := fun w1 g c hc hr => by
    have hb : ∀ i, i < 25 → 1 ≤ wAt l i ∧ wAt l i ≤ 4 := fun i hi => wAt_bd l hd i (by omega)
    have e := dec_good l hd (by omega) (by omega) 1 0 (by omega) 25 hn.symm (fun i => (wAt l i).toNat) (fun i hi => by
      have := hb i hi
      show (((wAt l i).toNat : Nat) : Int) = _
      split <;> omega) (fun i hi => by have := hb i hi; show 1 ≤ (wAt l i).toNat ∧ (wAt l i).toNat ≤ 1024; omega) (fun i => (wAt l i).toNat) (.inl fun i hi => rfl) w1 g 0 c hc (fun i hi => by
      rw [hr i hi]
      have := hb i hi
      show some (Value.int .i64 (wAt l i)) = some (Value.int .i64 (((wAt l i).toNat : Nat) : Int))
      rw [Int.toNat_of_nonneg (by omega)])
    unfold RetTxt at e
    rw [show strB l = ⟨#[48, 48]⟩ by rw [hl]; rfl] at e
    exact e
  have HN := Lib.hid hn
  clear hl hd hn h2
  go_enter Try.func4, Try.ntmps4
  go_wp2_with fail
  refine HEN.out.mono ?_
  rintro e w1 ⟨v, rfl, ho, hb1⟩
  obtain ⟨g, c, rfl, hc, -, -, hr⟩ := NRow.own ho (by intro e; have := HN.out; rw [e] at this; cases this)
  rw [HN.out] at hc hr ⊢
  have HD1 := Lib.hid (HDE.out w1 g c hc hr)
  have HB1 := Lib.hid hb1
  clear HEN HDE ho hb1 hr hc
  go_wp2_with fail
  refine HD1.out.mono ?_
  rintro e w2 ⟨rfl, hb2⟩
  have HF : Hid (RetYes w (.returned (.bool true)) w2) := ⟨rfl, bthen HB1.out hb2⟩
  clear HD1 HB1 hb2
  go_wp2
  go_ret
  exact HF.out
end Go.Proofs.Ytcadgjhfdolejaa
