/-
  The walk of filter.group. Own text.
-/
import Derived.Test.YtnnnihjagjfkdaaGreatDoorHex
import Derived.Test.YtnnnihjagjfkdaaGreatDoorGroupV
namespace Go.Proofs.YtnnnihjagjfkdaaGreatDoor
open Go.RowKit
set_option linter.unusedVariables false
theorem byteAt_str {s : ByteArray} {k : Nat} (h : k < s.size) : byteAt s.data.toList k = (s[k].toNat : Int) := by
  unfold byteAt
  rw [List.getD_eq_getElem?_getD, List.getElem?_eq_getElem (by simpa using h)]
  rfl
theorem byteAt_out {s : ByteArray} {k : Nat} (h : s.size ≤ k) : byteAt s.data.toList k = 0 := by
  unfold byteAt
  rw [List.getD_eq_getElem?_getD, List.getElem?_eq_none (by simpa using h)]
  rfl
/-- The digits behind k rounds. -/
def digN (v : Int) (k j : Nat) : Int := if 5 - k ≤ j then digV v j else 0
theorem p85_step {v : Int} {k : Nat} (h : k < 5) : v / p85 k / 85 = v / p85 (k + 1) := by
  match k, h with
  | 0, _ => simp only [p85]; omega
  | 1, _ => simp only [p85]; omega
  | 2, _ => simp only [p85]; omega
  | 3, _ => simp only [p85]; omega
  | 4, _ => simp only [p85]; omega
/-- The first n cells of an array of five. -/
theorem run_cut5 (W : World) (g n : Nat) (hn : n ≤ 5) : (Instr.sliceAt 207 (.pointer (some ⟨g, 0, none⟩)) none (some (.int .i64 (n : Int))) none).run Tryz.prog W = .ok (.slice (some ⟨g, 0, none⟩) n 5) W := by
  have hal : Tryz.prog.arrayLen 207 = 5 := by kernel_rfl
  rw [run_sliceAt_array_h (P := Tryz.prog) W 207 ⟨g, 0, none⟩ (by kernel_rfl) .i64 (n : Int) (by omega) (by rw [hal]; omega)]
  go_simp
set_option maxRecDepth 100000 in
set_option maxHeartbeats 2000000 in
theorem group_any (s : ByteArray) (w : World) (h1 : 1 ≤ s.size) (h4 : s.size ≤ 4) :
    Calls Tryz.prog 151 #[.string s] w fun e w' => e = .returned (.string ⟨(groupV s.data.toList).toArray⟩) ∧ Below w.heap.size w w' := by
  have hlen : s.data.toList.length = s.size := by simp
  obtain ⟨l, hl⟩ : ∃ l, l = s.data.toList := ⟨_, rfl⟩
  have HL := Lib.hid hl
  have HBS : Hid (∀ k (h : k < s.size), byteAt l k = (s[k].toNat : Int)) := fun k h => by rw [hl]; exact byteAt_str h
  have HBO : Hid (∀ k, s.size ≤ k → byteAt l k = 0) := fun k h => by rw [hl]; exact byteAt_out h
  rw [← hl] at hlen
  have HLEN := Lib.hid hlen
  rw [← hl]
  clear hl hlen
  go_enter Tryz.func151, Tryz.ntmps151
  go_wp2
  go_loop [3, 7] (fun v i => ∃ k : Nat, k ≤ 4 ∧ i = .int .i64 k ∧ v = .int .u32 (numTo l k)) (fun _ i => 4 - (intOf i).toNat)
  case atStart => exact ⟨0, by omega, rfl, rfl⟩
  case round =>
    obtain ⟨k, hk, rfl, rfl⟩ := hrel
    by_cases hlt : k < 4
    · obtain ⟨b0, b1⟩ := numTo_small l k hlt
      have HS : Hid (numTo l (k + 1) = numTo l k * 256 + byteAt l k) := rfl
      generalize numTo l k = v at *
      by_cases hks : k < s.size
      · have hby := HBS.out k hks
        have hc : (s[k].toNat : Int) < 256 := by have := s[k].toNat_lt; omega
        have hor : bits .or .u32 (v * 256) (s[k].toNat : Int) = v * 256 + (s[k].toNat : Int) := bits_or256 b0 b1 (by omega) hc
        have HBY := Lib.hid hby
        clear hby
        go_wp2
        go_round
        case rel => exact ⟨k + 1, by omega, by go_num, by rw [HS.out, HBY.out]⟩
        case measure => simp [intOf]; omega
      · have hby := HBO.out k (by omega)
        have HBY := Lib.hid hby
        clear hby
        go_wp2
        go_round
        case rel => exact ⟨k + 1, by omega, by go_num, by rw [HS.out, HBY.out, Int.add_zero]⟩
        case measure => simp [intOf]; omega
    · obtain rfl : k = 4 := by omega
      obtain ⟨v0, v1⟩ := numTo_bd l 4 (by omega)
      simp only [p256] at v1
      have HG : Hid (groupV l = if numTo l 4 = 0 ∧ s.size = 4 then [122] else (List.range (s.size + 1)).map (digC (numTo l 4))) := by show groupV l = _; unfold groupV; rw [HLEN.out]
      generalize numTo l 4 = v at *
      by_cases hz : v = 0 ∧ s.size = 4
      · obtain ⟨hz1, hz2⟩ := hz
        have e1 : (v == 0) = true := by simpa using hz1
        have e2 : ((s.size : Int) == 4) = true := by simp; omega
        have HZ : Hid (groupV l = [122]) := by rw [HG.out, if_pos ⟨hz1, hz2⟩]; rfl
        clear hz1 hz2
        go_wp2
        go_ret
        exact ⟨by rw [HZ.out]; rfl, Below.refl _ _⟩
      · have HZ : Hid (groupV l = (List.range (s.size + 1)).map (digC v)) := by rw [HG.out, if_neg hz]; rfl
        have ht : (v == 0) = false ∨ (v == 0) = true ∧ ((s.size : Int) == 4) = false := by
          by_cases hv : v = 0
          · exact .inr ⟨by simpa using hv, by simp; omega⟩
          · exact .inl (by simpa using hv)
        have hi5 : (s.size : Int) + 1 ≤ 5 := by omega
        have hsl := fun (W : World) (g : Nat) => run_cut5 W g (s.size + 1) (by omega)
        have ecast : ((s.size + 1 : Nat) : Int) = (s.size : Int) + 1 := by omega
        simp only [ecast] at hsl
        clear hz HG ecast
        rcases ht with e1 | ⟨e1, e2⟩
        all_goals
          go_wp2
          have HM : Hid (FTab (Value.int .u8) (w.alloc (.cells #[.int .u8 0, .int .u8 0, .int .u8 0, .int .u8 0, .int .u8 0] 207)) w.heap.size 5 (digN v 0)) := by
            refine ⟨fun i hi => ?_, fun o => ?_⟩
            · have hb := heap_alloc_new w (.cells #[.int .u8 0, .int .u8 0, .int .u8 0, .int .u8 0, .int .u8 0] 207)
              rw [cell_of_row _ w.heap.size i _ _ (0, 0) hb]
              match i, hi with
              | 0, _ => rfl
              | 1, _ => rfl
              | 2, _ => rfl
              | 3, _ => rfl
              | 4, _ => rfl
            · unfold World.frozen?
              rw [heap_alloc_new]
              simp
          have HB := Lib.hid (balloc (Below.refl _ w) (.cells #[.int .u8 0, .int .u8 0, .int .u8 0, .int .u8 0, .int .u8 0] 207))
          generalize w.alloc (.cells #[.int .u8 0, .int .u8 0, .int .u8 0, .int .u8 0, .int .u8 0] 207) = w1 at *
          go_loopw [3, 6] (fun u i wr => ∃ k : Nat, k ≤ 5 ∧ i = .int .i64 (4 - (k : Int)) ∧ u = .int .u32 (v / p85 k) ∧ Hid (FTab (Value.int .u8) wr w.heap.size 5 (digN v k) ∧ Below w.heap.size w wr)) (fun _ i _ => (intOf i + 1).toNat)
          case atStart => exact ⟨0, by omega, rfl, by simp [p85], HM.out, HB.out⟩
          case round =>
            obtain ⟨k, hk, rfl, rfl, HR⟩ := hrel
            by_cases hlt : k < 5
            · have hp := p85_step (v := v) hlt
              have HS := Lib.hid hp
              have HD : Hid (digV v (4 - k) = 33 + v / p85 k % 85) := by
                show 33 + v / p85 (4 - (4 - k)) % 85 = _
                rw [show 4 - (4 - k) = k by omega]
              have q0 : 0 ≤ v / p85 k := Int.ediv_nonneg v0 (by unfold p85; split <;> omega)
              have q1 : v / p85 k < 4294967296 := by have := Int.ediv_le_self (p85 k) v0; omega
              obtain ⟨q, hq⟩ : ∃ q, q = v / p85 k := ⟨_, rfl⟩
              rw [← hq] at HS HD q0 q1
              rw [← hq]
              have f1 : ∃ u, wr.cell? ⟨w.heap.size, 4 - k, none⟩ = some (.int .u8 u) := ⟨_, HR.out.1.at' (4 - k) (by omega)⟩
              obtain ⟨u, f1⟩ := f1
              have f2 := HR.out.1.fz (4 - k)
              have ei : (4 - (k : Int)).toNat = 4 - k := by omega
              have i0 : (0 : Int) ≤ 4 - (k : Int) := by omega
              have i1 : 4 - (k : Int) < 5 := by omega
              have r0 : 0 ≤ q % 85 := by omega
              have r1 : q % 85 < 85 := by omega
              have HE : Hid (FTab (Value.int .u8) (wr.setCell ⟨w.heap.size, 4 - k, none⟩ (.int .u8 (33 + q % 85))) w.heap.size 5 (digN v (k + 1)) ∧ Below w.heap.size w (wr.setCell ⟨w.heap.size, 4 - k, none⟩ (.int .u8 (33 + q % 85)))) := by
                refine ⟨(HR.out.1.set (by omega) _).congr fun i hi => ?_, HR.out.2.setCell (p := ⟨w.heap.size, 4 - k, none⟩) (Nat.le_refl _) _⟩
                unfold digN
                by_cases e : i = 4 - k
                · subst e
                  rw [if_pos rfl, if_pos (by omega), HD.out]
                · rw [if_neg e]
                  by_cases e2 : 5 - k ≤ i
                  · rw [if_pos e2, if_pos (by omega)]
                  · rw [if_neg e2, if_neg (by omega)]
              clear hp hq
              go_wp2
              go_roundw
              case rel => exact ⟨k + 1, by omega, by go_num, by rw [← HS.out], HE.out⟩
              case measure => simp [intOf]; omega
            · obtain rfl : k = 5 := by omega
              have HF := HR.out.1
              have hcv : ∀ dst, Tryz.prog.underlying dst = some .string → (convert 121 dst (.slice (some ⟨w.heap.size, 0, none⟩) (s.size + 1) 5)).run Tryz.prog wr = .ok (.string ⟨(groupV l).toArray⟩) wr := fun dst hd => by
                have hgl : ((List.range (s.size + 1)).map (digC v)).length = s.size + 1 := by simp
                have h := run_convert_bytes_back (P := Tryz.prog) wr 121 dst 5 ⟨w.heap.size, 0, none⟩ 5 ((List.range (s.size + 1)).map (digC v)) Tryz.underlying121 Tryz.underlying5 hd (fun j hj => by
                  rw [add_none, Nat.zero_add]
                  have hj8 : j < 5 := by rw [hgl] at hj; omega
                  have h1 := HF.at' j hj8
                  have hd := digC_toNat v0 j
                  simpa [digN, hd] using h1)
                rw [hgl] at h
                rw [HZ.out]
                exact h
              have hcv9 := hcv 9 Tryz.underlying9
              clear HF hcv
              go_wp2
              go_ret
              exact ⟨rfl, HR.out.2⟩
end Go.Proofs.YtnnnihjagjfkdaaGreatDoor
