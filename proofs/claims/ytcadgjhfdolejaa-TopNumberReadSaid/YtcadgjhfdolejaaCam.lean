/-
  The walks of camera.Check, CheckView and window. Own text.
-/
import Derived.Test.YtcadgjhfdolejaaInk
namespace Go.Proofs.Ytcadgjhfdolejaa
open Go.RowKit
set_option linter.unusedVariables false
set_option maxHeartbeats 2000000 in
theorem gcheck_any (d c W H n : Nat) (hW : 1 ≤ W ∧ W ≤ 1024) (hH : 1 ≤ H ∧ H ≤ 1024) (hn : n = W * H) (w : World) :
    Calls Try.prog 27 #[.agg #[.int .i64 W, .int .i64 H, .slice (some ⟨d, 0, none⟩) n c]] w fun e w' => e = .returned (.int .i64 0) ∧ Below w.heap.size w w' := by
  have hnb : n ≤ 1024 * 1024 := by rw [hn]; exact Nat.mul_le_mul hW.2 hH.2
  have x1 : IntKind.i64.wrap ((W : Int) * (H : Int)) = (n : Int) := by rw [hn, ← Int.natCast_mul]; exact IntWalk.i64_in _ (by rw [← hn]; omega)
  obtain ⟨W1, hW1⟩ : ∃ W1, W1 = w.alloc (.cells #[.int .i64 W, .int .i64 H, .slice (some ⟨d, 0, none⟩) n c] 48) := ⟨_, rfl⟩
  have hb1 : Below w.heap.size w W1 := by rw [hW1]; exact balloc (Below.refl _ _) _
  have t1 : T3 W1 w.heap.size (.int .i64 W) (.int .i64 H) (.slice (some ⟨d, 0, none⟩) n c) := by rw [hW1]; exact T3.new w _ _ _ _
  have HW1 : Hid (w.alloc (.cells #[.int .i64 W, .int .i64 H, .slice (some ⟨d, 0, none⟩) n c] 48) = W1) := hW1.symm
  have HB1 := Lib.hid hb1
  have e0 := t1.c0
  have e1 := t1.c1
  have e2 := t1.c2
  have n1 : decide ((W : Int) < 1) = false := decide_eq_false (by omega)
  have n2 : decide (1024 < (W : Int)) = false := decide_eq_false (by omega)
  have n3 : decide ((H : Int) < 1) = false := decide_eq_false (by omega)
  have n4 : decide (1024 < (H : Int)) = false := decide_eq_false (by omega)
  have n2' : decide (1024 < W) = false := decide_eq_false (by omega)
  have n4' : decide (1024 < H) = false := decide_eq_false (by omega)
  clear hn hW1 hb1 t1 hW hH
  go_enter Try.func27, Try.ntmps27
  go_upto_region 1 with fail
  rw [HW1.out]
  clear HW1
  go_wp2
  go_ret
  exact ⟨rfl, HB1.out⟩
/-- A view. -/
structure Vw where
  sc : Nat
  x : Nat
  y : Nat
  turn : Nat
  blur : Nat
  light : Nat
  dark : Nat
  noise : List Int
structure VwOk (v : Vw) : Prop where
  sc : 1 ≤ v.sc ∧ v.sc ≤ 3
  x : v.x ≤ 32
  y : v.y ≤ 32
  turn : v.turn ≤ 3
  blur : v.blur ≤ 1
  tone : v.dark < v.light ∧ v.light ≤ 255
  len : v.noise.length ≤ 20
  val : ∀ k ∈ v.noise, -64 ≤ k ∧ k ≤ 64
def vwF (v : Vw) (on : Option Addr) (cn : Nat) : Nat → Value
  | 0 => .int .i64 v.sc
  | 1 => .int .i64 v.x
  | 2 => .int .i64 v.y
  | 3 => .int .i64 v.turn
  | 4 => .int .i64 v.blur
  | 5 => .int .i64 v.light
  | 6 => .int .i64 v.dark
  | _ => .slice on v.noise.length cn
def T8 (w : World) (g : Nat) (v : Vw) (on : Option Addr) (cn : Nat) : Prop := FTab (fun v : Value => v) w g 8 (vwF v on cn)
theorem T8.new (w : World) (v : Vw) (on : Option Addr) (cn : Nat) (t : TypeId) : T8 (w.alloc (.cells #[.int .i64 v.sc, .int .i64 v.x, .int .i64 v.y, .int .i64 v.turn, .int .i64 v.blur, .int .i64 v.light, .int .i64 v.dark, .slice on v.noise.length cn] t)) w.heap.size v on cn := by
  refine ⟨fun i hi => ?_, fun o => ?_⟩
  · rw [cell_of_row _ w.heap.size i _ _ (0, 0) (heap_alloc_new w _)]
    match i, hi with
    | 0, _ => rfl
    | 1, _ => rfl
    | 2, _ => rfl
    | 3, _ => rfl
    | 4, _ => rfl
    | 5, _ => rfl
    | 6, _ => rfl
    | 7, _ => rfl
  · unfold World.frozen?
    rw [heap_alloc_new]
    simp
theorem T8.below {w w' : World} {g : Nat} {v : Vw} {on : Option Addr} {cn : Nat} (h : T8 w g v on cn) (hb : Below w.heap.size w w') : T8 w' g v on cn := FTab.below h hb (FTab.lt h (by omega))
theorem Flat.i1 {w : World} {oa : Option Addr} {l : List Int} (h : Flat w 1 encInt oa l) {i : Nat} (hi : i < l.length) : ∃ b off, oa = some ⟨b, off, none⟩ ∧ w.cell? ⟨b, off + i, none⟩ = some (.int .i64 l[i]) := Flat.int h hi
set_option maxRecDepth 100000 in
set_option maxHeartbeats 8000000 in
theorem cview_any (v : Vw) (hv : VwOk v) (on : Option Addr) (cn : Nat) (w : World) (hf : Flat w 1 encInt on v.noise) :
    Calls Try.prog 23 #[.agg #[.int .i64 v.sc, .int .i64 v.x, .int .i64 v.y, .int .i64 v.turn, .int .i64 v.blur, .int .i64 v.light, .int .i64 v.dark, .slice on v.noise.length cn]] w fun e w' => e = .returned (.int .i64 0) ∧ Below w.heap.size w w' := by
  obtain ⟨W1, hW1⟩ : ∃ W1, W1 = w.alloc (.cells #[.int .i64 v.sc, .int .i64 v.x, .int .i64 v.y, .int .i64 v.turn, .int .i64 v.blur, .int .i64 v.light, .int .i64 v.dark, .slice on v.noise.length cn] 24) := ⟨_, rfl⟩
  have hb1 : Below w.heap.size w W1 := by rw [hW1]; exact balloc (Below.refl _ _) _
  have t1 : T8 W1 w.heap.size v on cn := by rw [hW1]; exact T8.new w v on cn _
  have HF : Hid (Flat W1 1 encInt on v.noise) := hf.below hb1
  have HV := Lib.hid hv.val
  obtain ⟨sc, x, y, tu, bl, li, da, no⟩ := v
  obtain ⟨⟨s1, s2⟩, x2, y2, r2, b2, ⟨d1, d2⟩, l2, -⟩ := hv
  simp only at s1 s2 x2 y2 r2 b2 d1 d2 l2 hW1 HF HV
  obtain ⟨n, hn⟩ : ∃ n, n = no.length := ⟨_, rfl⟩
  have e0 : W1.cell? ⟨w.heap.size, 0, none⟩ = some (.int .i64 sc) := t1.at' 0 (by omega)
  have e1 : W1.cell? ⟨w.heap.size, 1, none⟩ = some (.int .i64 x) := t1.at' 1 (by omega)
  have e2 : W1.cell? ⟨w.heap.size, 2, none⟩ = some (.int .i64 y) := t1.at' 2 (by omega)
  have e3 : W1.cell? ⟨w.heap.size, 3, none⟩ = some (.int .i64 tu) := t1.at' 3 (by omega)
  have e4 : W1.cell? ⟨w.heap.size, 4, none⟩ = some (.int .i64 bl) := t1.at' 4 (by omega)
  have e5 : W1.cell? ⟨w.heap.size, 5, none⟩ = some (.int .i64 li) := t1.at' 5 (by omega)
  have e6 : W1.cell? ⟨w.heap.size, 6, none⟩ = some (.int .i64 da) := t1.at' 6 (by omega)
  have e7 : W1.cell? ⟨w.heap.size, 7, none⟩ = some (.slice on no.length cn) := t1.at' 7 (by omega)
  show Calls Try.prog _ #[.agg #[.int .i64 sc, .int .i64 x, .int .i64 y, .int .i64 tu, .int .i64 bl, .int .i64 li, .int .i64 da, .slice on no.length cn]] w _
  rw [← hn] at hW1 e7 l2 ⊢
  have HN := Lib.hid hn
  have HW1 : Hid (w.alloc (.cells #[.int .i64 sc, .int .i64 x, .int .i64 y, .int .i64 tu, .int .i64 bl, .int .i64 li, .int .i64 da, .slice on n cn] 24) = W1) := hW1.symm
  have HB1 := Lib.hid hb1
  have n1 : decide (sc < 1) = false := decide_eq_false (by omega)
  have m1 : decide (8 < sc) = false := decide_eq_false (by omega)
  have m2 : decide (32 < x) = false := decide_eq_false (by omega)
  have m3 : decide (32 < y) = false := decide_eq_false (by omega)
  have m4 : decide (3 < tu) = false := decide_eq_false (by omega)
  have m5 : decide (2 < bl) = false := decide_eq_false (by omega)
  have m6 : decide (255 < li) = false := decide_eq_false (by omega)
  have m7 : decide (255 < da) = false := decide_eq_false (by omega)
  have m8 : decide (li ≤ da) = false := decide_eq_false (by omega)
  have m9 : decide (64 < n) = false := decide_eq_false (by omega)
  have N1 : decide ((sc : Int) < 1) = false := decide_eq_false (by omega)
  have M1 : decide (8 < (sc : Int)) = false := decide_eq_false (by omega)
  have N2 : decide ((x : Int) < 0) = false := decide_eq_false (by omega)
  have M2 : decide (32 < (x : Int)) = false := decide_eq_false (by omega)
  have N3 : decide ((y : Int) < 0) = false := decide_eq_false (by omega)
  have M3 : decide (32 < (y : Int)) = false := decide_eq_false (by omega)
  have N4 : decide ((tu : Int) < 0) = false := decide_eq_false (by omega)
  have M4 : decide (3 < (tu : Int)) = false := decide_eq_false (by omega)
  have N5 : decide ((bl : Int) < 0) = false := decide_eq_false (by omega)
  have M5 : decide (2 < (bl : Int)) = false := decide_eq_false (by omega)
  have N6 : decide ((li : Int) < 0) = false := decide_eq_false (by omega)
  have M6 : decide (255 < (li : Int)) = false := decide_eq_false (by omega)
  have N7 : decide ((da : Int) < 0) = false := decide_eq_false (by omega)
  have M7 : decide (255 < (da : Int)) = false := decide_eq_false (by omega)
  have M8 : decide ((li : Int) ≤ (da : Int)) = false := decide_eq_false (by omega)
  have M9 : decide (64 < (n : Int)) = false := decide_eq_false (by omega)
  clear hW1 hb1 t1 hn hf
  go_enter Try.func23, Try.ntmps23
  go_upto_region 1 with fail
  rw [HW1.out]
  clear HW1
  go_upto_region 9 with fail
  clear n1 m1 m2 m3 m4 m5 m6 m7 m8 m9 N1 M1 N2 M2 N3 M3 N4 M4 N5 M5 N6 M6 N7 M7 M8 M9
  go_wp2_with fail
  go_loopw [83] (fun i wr => ∃ k : Nat, k ≤ n ∧ i = .int .i64 k ∧ W1 = wr) (fun i _ => n - (intOf i).toNat)
  case atStart => exact ⟨0, by omega, rfl, rfl⟩
  case round =>
    obtain ⟨k, hk, rfl, rfl⟩ := hrel
    by_cases hlt : k < n
    · have kd : (k : Int) < (n : Int) := by omega
      have hkl : k < no.length := by rw [← HN.out]; exact hlt
      obtain ⟨b, off, rfl, hc⟩ := Flat.i1 HF.out hkl
      have hbd := HV.out _ (List.getElem_mem hkl)
      generalize no[k] = q at hc hbd
      have p1 : decide (q < -64) = false := decide_eq_false (by omega)
      have p2 : decide (64 < q) = false := decide_eq_false (by omega)
      have kk : IntKind.i64.wrap ((k : Int) + 1) = (k : Int) + 1 := IntWalk.i64_in _ (by omega)
      go_wp2_with fail
      go_roundw
      case rel => exact ⟨k + 1, by omega, by go_num, trivial⟩
      case measure => simp [intOf]; omega
    · obtain rfl : n = k := by omega
      go_wp2_with fail
      go_ret
      exact ⟨rfl, HB1.out⟩
end Go.Proofs.Ytcadgjhfdolejaa
