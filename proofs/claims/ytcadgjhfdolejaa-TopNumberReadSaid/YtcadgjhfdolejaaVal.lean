/-
  linear.value: plain, and its walk. Own text.
-/
import Derived.Test.YtcadgjhfdolejaaPats
import Derived.Test.YtcadgjhfdolejaaNear
namespace Go.Proofs.Ytcadgjhfdolejaa
open Go.RowKit
set_option linter.unusedVariables false
/-- The six widths of a pattern. -/
def Pt.at (p : Pt) : Nat → Int
  | 0 => p.a
  | 1 => p.b
  | 2 => p.c
  | 3 => p.d
  | 4 => p.e
  | _ => p.f
def totV (u : Nat → Nat) : Nat := u 0 + u 1 + u 2 + u 3 + u 4 + u 5
def edgeV (u : Nat → Nat) (j : Nat) : Int := nearV (11 * ((u j : Int) + (u (j + 1) : Int))) (totV u)
def fitsV (u : Nat → Nat) (p : Pt) (n : Nat) : Bool := decide (∀ j, j < n → p.at j + p.at (j + 1) = edgeV u j)
/-- The symbol that six widths show, or -1. -/
def valV (u : Nat → Nat) : Int := match patV.findIdx? (fun p => fitsV u p 4) with
  | some i => (i : Int)
  | none => -1
theorem patV_len : patV.length = 103 := by decide +kernel
theorem patV_bd : ∀ p ∈ patV, ∀ j, j < 6 → 0 ≤ p.at j ∧ p.at j ≤ 11 := by decide +kernel
theorem edge_bd {u : Nat → Nat} (h1 : 1 ≤ totV u) {j : Nat} (hj : j < 4) : 0 ≤ edgeV u j ∧ edgeV u j ≤ 11 := by
  have h : u j + u (j + 1) ≤ totV u := by
    unfold totV
    match j, hj with
    | 0, _ => show u 0 + u 1 ≤ _; omega
    | 1, _ => show u 1 + u 2 ≤ _; omega
    | 2, _ => show u 2 + u 3 ≤ _; omega
    | 3, _ => show u 3 + u 4 ≤ _; omega
  unfold edgeV
  refine ⟨le_nearV (by omega) (by omega), nearV_le (by omega) (by omega)⟩
theorem val_yes {u : Nat → Nat} {k : Nat} (hk : k < patV.length) (hn : ∀ i (h : i < patV.length), i < k → fitsV u patV[i] 4 = false) (hy : fitsV u patV[k] 4 = true) : valV u = k := by
  unfold valV
  rw [show patV.findIdx? (fun p => fitsV u p 4) = some k from List.findIdx?_eq_some_iff_getElem.2 ⟨hk, hy, fun i hi => by rw [hn i (by omega) hi]; decide⟩]
theorem val_no {u : Nat → Nat} (hn : ∀ i (h : i < patV.length), fitsV u patV[i] 4 = false) : valV u = -1 := by
  unfold valV
  rw [List.findIdx?_eq_none_iff.2 fun p hp => by
    obtain ⟨i, hi, rfl⟩ := List.getElem_of_mem hp
    exact hn i hi]
/-- Six widths in memory. -/
def Six (w : World) (g o : Nat) (u : Nat → Nat) : Prop := ∀ i, i < 6 → w.cell? ⟨g, o + i, none⟩ = some (.int .i64 (u i))
def RetVal (v : Int) (w : World) (e : Ending) (w' : World) : Prop := e = .returned (.int .i64 v) ∧ Below w.heap.size w w'
theorem ix4 (E : Nat → Int) (e0 e1 e2 e3 : Int) (h0 : E 0 = e0) (h1 : E 1 = e1) (h2 : E 2 = e2) (h3 : E 3 = e3) (j : Nat) (hj : j < 4) (W : World) : (Instr.index 86 (.agg #[.int .i64 e0, .int .i64 e1, .int .i64 e2, .int .i64 e3]) (.int .i64 (j : Nat))).run Try.prog W = .ok (.int .i64 (E j)) W := by
  have a0 : (Instr.index 86 (.agg #[.int .i64 e0, .int .i64 e1, .int .i64 e2, .int .i64 e3]) (.int .i64 0)).run Try.prog W = .ok (.int .i64 e0) W := by kernel_rfl
  have a1 : (Instr.index 86 (.agg #[.int .i64 e0, .int .i64 e1, .int .i64 e2, .int .i64 e3]) (.int .i64 1)).run Try.prog W = .ok (.int .i64 e1) W := by kernel_rfl
  have a2 : (Instr.index 86 (.agg #[.int .i64 e0, .int .i64 e1, .int .i64 e2, .int .i64 e3]) (.int .i64 2)).run Try.prog W = .ok (.int .i64 e2) W := by kernel_rfl
  have a3 : (Instr.index 86 (.agg #[.int .i64 e0, .int .i64 e1, .int .i64 e2, .int .i64 e3]) (.int .i64 3)).run Try.prog W = .ok (.int .i64 e3) W := by kernel_rfl
  match j, hj with
  | 0, _ => rw [h0]; exact a0
  | 1, _ => rw [h1]; exact a1
  | 2, _ => rw [h2]; exact a2
  | 3, _ => rw [h3]; exact a3
set_option maxRecDepth 100000 in
set_option maxHeartbeats 8000000 in
theorem value_any (gp cp gw o n c : Nat) (u : Nat → Nat) (hu : ∀ i, i < 6 → u i ≤ 1024) (h1 : 1 ≤ totV u) (hn : 6 ≤ n) (w : World) (hp : Flat w 6 encPt (some ⟨gp, 0, none⟩) patV) (hs : Six w gw o u) :
    Calls Try.prog 32 #[.slice (some ⟨gp, 0, none⟩) 103 cp, .slice (some ⟨gw, o, none⟩) n c] w (RetVal (valV u) w) := by
  obtain ⟨tot, htot⟩ : ∃ t, t = totV u := ⟨_, rfl⟩
  have q0 := hs 0 (by omega)
  have q1 := hs 1 (by omega)
  have q2 := hs 2 (by omega)
  have q3 := hs 3 (by omega)
  have q4 := hs 4 (by omega)
  have q5 := hs 5 (by omega)
  rw [Nat.add_zero] at q0
  have b0 := hu 0 (by omega)
  have b1 := hu 1 (by omega)
  have b2 := hu 2 (by omega)
  have b3 := hu 3 (by omega)
  have b4 := hu 4 (by omega)
  have b5 := hu 5 (by omega)
  have ht : tot = u 0 + u 1 + u 2 + u 3 + u 4 + u 5 := htot
  obtain ⟨t1, e1⟩ : ∃ t, t = u 0 + u 1 := ⟨_, rfl⟩
  obtain ⟨t2, e2⟩ : ∃ t, t = t1 + u 2 := ⟨_, rfl⟩
  obtain ⟨t3, e3⟩ : ∃ t, t = t2 + u 3 := ⟨_, rfl⟩
  obtain ⟨t4, e4⟩ : ∃ t, t = t3 + u 4 := ⟨_, rfl⟩
  have x1 : IntKind.i64.wrap ((u 0 : Int) + (u 1 : Int)) = (t1 : Int) := by rw [e1, Int.natCast_add]; exact IntWalk.i64_in _ (by omega)
  have x2 : IntKind.i64.wrap ((t1 : Int) + (u 2 : Int)) = (t2 : Int) := by rw [e2, Int.natCast_add]; exact IntWalk.i64_in _ (by omega)
  have x3 : IntKind.i64.wrap ((t2 : Int) + (u 3 : Int)) = (t3 : Int) := by rw [e3, Int.natCast_add]; exact IntWalk.i64_in _ (by omega)
  have x4 : IntKind.i64.wrap ((t3 : Int) + (u 4 : Int)) = (t4 : Int) := by rw [e4, Int.natCast_add]; exact IntWalk.i64_in _ (by omega)
  have x5 : IntKind.i64.wrap ((t4 : Int) + (u 5 : Int)) = (tot : Int) := by rw [show tot = t4 + u 5 by omega, Int.natCast_add]; exact IntWalk.i64_in _ (by omega)
  have n0 : 0 < n := by omega
  have n1 : 1 < n := by omega
  have n2 : 2 < n := by omega
  have n3 : 3 < n := by omega
  have n4 : 4 < n := by omega
  have n5 : 5 < n := by omega
  have HU := Lib.hid hu
  have HT : Hid (tot = totV u ∧ 1 ≤ tot ∧ tot ≤ 6144) := ⟨htot, by rw [htot]; exact h1, by omega⟩
  have HS := Lib.hid hs
  have HP := Lib.hid hp
  clear e1 e2 e3 e4 ht htot b0 b1 b2 b3 b4 b5 hu hs hp h1
  go_enter Try.func32, Try.ntmps32
  go_upto_region 1 with fail
  refine wp_scope_straight ?_
  go_upto_region 1 with fail
  go_quiet (fail)
  obtain ⟨wa, hwa⟩ : ∃ w', w' = w.drewN nq := ⟨_, rfl⟩
  rw [← hwa]
  have HBA : Hid (Below w.heap.size w wa) := by rw [hwa]; exact bdrewN (Below.refl _ _) _
  clear hwa q0 q1 q2 q3 q4 q5 x1 x2 x3 x4 x5
  obtain ⟨W1, hW1⟩ : ∃ W1, W1 = wa.alloc (.cells #[.int .i64 0, .int .i64 0, .int .i64 0, .int .i64 0] 86) := ⟨_, rfl⟩
  have HW1 : Hid (wa.alloc (.cells #[.int .i64 0, .int .i64 0, .int .i64 0, .int .i64 0] 86) = W1) := hW1.symm
  obtain ⟨g, hg⟩ : ∃ g, g = wa.heap.size := ⟨_, rfl⟩
  have HG : Hid (wa.heap.size = g) := hg.symm
  have HX0 : Hid (Below w.heap.size w W1 ∧ FTab (Value.int .i64) W1 g 4 (fun j => if j < 0 then edgeV u j else 0) ∧ w.heap.size ≤ g) := by
    have h0 := World.alloc_heap_new wa (.cells #[.int .i64 0, .int .i64 0, .int .i64 0, .int .i64 0] 86)
    rw [← hW1, ← hg] at h0
    refine ⟨by rw [hW1]; exact balloc HBA.out _, ⟨fun i hi => ?_, fun o => by unfold World.frozen?; rw [h0]; rfl⟩, by rw [hg]; exact HBA.out.size⟩
    rw [cell_of_row _ _ i _ _ (0, 0) h0]
    match i, hi with
    | 0, _ => rfl
    | 1, _ => rfl
    | 2, _ => rfl
    | 3, _ => rfl
  clear hW1 hg
  go_upto_region 3 with fail
  rw [HW1.out, HG.out]
  clear HW1 HG HBA
  go_wp2_with fail
  go_loopw [35] (fun i wr => ∃ k : Nat, k ≤ 4 ∧ i = .int .i64 k ∧ Hid (Below w.heap.size w wr ∧ FTab (Value.int .i64) wr g 4 (fun j => if j < k then edgeV u j else 0) ∧ w.heap.size ≤ g)) (fun i _ => 4 - (intOf i).toNat)
  case atStart => exact ⟨0, by omega, rfl, HX0⟩
  case round =>
    clear HX0
    obtain ⟨k, hk, rfl, HX⟩ := hrel
    obtain ⟨wb, rfl⟩ : ∃ wb : World, wb = wr := ⟨_, rfl⟩
    by_cases hlt : k < 4
    · have kd : (k : Int) < 4 := by omega
      obtain ⟨m, hm⟩ : ∃ m, m = k + 1 := ⟨_, rfl⟩
      have km : IntKind.i64.wrap ((k : Int) + 1) = (m : Int) := by rw [hm, Int.natCast_add]; exact IntWalk.i64_in _ (by omega)
      have HMK : Hid (m = k + 1 ∧ m ≤ 4) := ⟨hm, by omega⟩
      obtain ⟨x, hx⟩ : ∃ x, x = u k := ⟨_, rfl⟩
      obtain ⟨y, hy⟩ : ∃ y, y = u m := ⟨_, rfl⟩
      have hx9 : x ≤ 1024 := by rw [hx]; exact HU.out k (by omega)
      have hy9 : y ≤ 1024 := by rw [hy]; exact HU.out m (by omega)
      have c1 : wb.drew.cell? ⟨gw, o + k, none⟩ = some (.int .i64 x) := by rw [hx]; exact keepCell HX.out.1 (HS.out k (by omega))
      have c2 : wb.drew.cell? ⟨gw, o + m, none⟩ = some (.int .i64 y) := by rw [hy]; exact keepCell HX.out.1 (HS.out m (by omega))
      have x1 : IntKind.i64.wrap ((x : Int) + (y : Int)) = (x : Int) + (y : Int) := IntWalk.i64_in _ (by omega)
      obtain ⟨z, hz⟩ : ∃ z, z = 11 * ((x : Int) + (y : Int)) := ⟨_, rfl⟩
      have x2 : IntKind.i64.wrap (11 * ((x : Int) + (y : Int))) = z := by rw [hz]; exact IntWalk.i64_in _ (by omega)
      obtain ⟨ed, hed⟩ : ∃ ed, ed = edgeV u k := ⟨_, rfl⟩
      have HNR : Hid (∀ W', Calls Try.prog 26 #[.int .i64 z, .int .i64 tot] W' fun e w' => e = .returned (.int .i64 ed) ∧ w' = W') := fun W' => by
        have e : ed = nearV z tot := by rw [hed, hz, hx, hy, HT.out.1, hm]; rfl
        rw [e]
        refine (nearest_any z tot W' (by omega) (by omega) (by have := HT.out; omega) (by have := HT.out; omega)).mono ?_
        rintro e w' ⟨h1, h2⟩
        exact ⟨h1, h2.symm⟩
      have hcg := HX.out.2.1.drew.at' k hlt
      have hfz := HX.out.2.1.drew.fz
      have k4 : k < n := by omega
      have m4 : m < n := by omega
      have HNX : Hid (Below w.heap.size w ((wb.setCell ⟨g, k, none⟩ (.int .i64 ed)).drew) ∧ FTab (Value.int .i64) ((wb.setCell ⟨g, k, none⟩ (.int .i64 ed)).drew) g 4 (fun j => if j < m then edgeV u j else 0) ∧ w.heap.size ≤ g) := by
        rw [hm]
        refine ⟨(HX.out.1.trans ((Below.refl _ wb).setCell (p := ⟨g, k, none⟩) HX.out.2.2 _)).drew, ((HX.out.2.1.set hlt ed).congr fun i hi => ?_).drew, HX.out.2.2⟩
        show (if i = k then ed else if i < k then edgeV u i else 0) = if i < k + 1 then edgeV u i else 0
        by_cases e : i = k
        · rw [if_pos e, if_pos (by omega), hed, e]
        · rw [if_neg e]
          by_cases e2 : i < k
          · rw [if_pos e2, if_pos (by omega)]
          · rw [if_neg e2, if_neg (by omega)]
      clear HX hx hy hx9 hy9 hm hed hz
      go_upto_region 6 with fail
      refine wp_region_still_tail 15 (by kernel_rfl) (by kernel_rfl) ?_
      simp only [List.take_succ_cons, List.take_zero, List.drop_succ_cons, List.drop_zero]
      repeat (first | still_step | (refine wpStill_step (fun K hK => ?_); go_simp; (with_reducible refine ⟨_, HNR.out _, hK _ ?_⟩); clear hK K))
      refine wpStill_nil ?_
      change wpList _ _ _ _ _ wb.drew
      go_wp2_with fail
      go_roundw
      case rel => exact ⟨m, HMK.out.2, by go_num, HNX⟩
      case measure => have := HMK.out; simp [intOf]; omega
    · have kd : ¬ (k : Int) < 4 := by omega
      have hk4 : k = 4 := by omega
      have HY0 : Hid (Below w.heap.size w wb ∧ FTab (Value.int .i64) wb g 4 (edgeV u) ∧ w.heap.size ≤ g) := ⟨HX.out.1, HX.out.2.1.congr fun i hi => if_pos (by rw [hk4]; exact hi), HX.out.2.2⟩
      have d0 := HY0.out.2.1.at' 0 (by decide)
      have d1 := HY0.out.2.1.at' 1 (by decide)
      have d2 := HY0.out.2.1.at' 2 (by decide)
      have d3 := HY0.out.2.1.at' 3 (by decide)
      clear HX hk4 hk hlt
      go_wp2_with fail
      refine wp_label ?_
      go_upto_region 8 with fail
      go_wp2_with fail
      go_loopw [56] (fun i wr => ∃ k : Nat, k ≤ 103 ∧ i = .int .i64 k ∧ Hid ((∀ i (h : i < patV.length), i < k → fitsV u patV[i] 4 = false) ∧ Below w.heap.size w wr ∧ FTab (Value.int .i64) wr g 4 (edgeV u) ∧ w.heap.size ≤ g)) (fun i _ => 103 - (intOf i).toNat)
      case atStart => exact ⟨0, by omega, rfl, fun _ _ h => absurd h (Nat.not_lt_zero _), HY0.out⟩
      case round =>
        clear HY0 d0 d1 d2 d3
        obtain ⟨k, hk, rfl, HX⟩ := hrel
        obtain ⟨wb, rfl⟩ : ∃ wb : World, wb = wr := ⟨_, rfl⟩
        by_cases hlt : k < 103
        · have kd : (k : Int) < 103 := by omega
          have kk : IntKind.i64.wrap ((k : Int) + 1) = (k : Int) + 1 := IntWalk.i64_in _ (by omega)
          have hkl : k < patV.length := by rw [patV_len]; exact hlt
          obtain ⟨p, hp⟩ : ∃ p, p = patV[k] := ⟨_, rfl⟩
          have hcells : ∀ j (v : Value), (encPt p)[j]? = some v → j < 6 → wb.cell? ⟨gp, k * 6 + j, none⟩ = some v := fun j v hv hj => by
            obtain ⟨v', h1, b, off, h2, h3⟩ := HP.out k hkl j hj
            rw [← hp, hv] at h1
            cases h1; cases h2
            rw [Nat.zero_add] at h3
            exact keepCell HX.out.2.1 h3
          have p0 := hcells 0 _ rfl (by decide)
          have p1 := hcells 1 _ rfl (by decide)
          have p2 := hcells 2 _ rfl (by decide)
          have p3 := hcells 3 _ rfl (by decide)
          have p4 := hcells 4 _ rfl (by decide)
          have p5 := hcells 5 _ rfl (by decide)
          rw [Nat.add_zero] at p0
          have hbd := patV_bd p (by rw [hp]; exact List.getElem_mem hkl)
          have HPE : Hid (∀ h : k < patV.length, patV[k] = p) := fun _ => hp.symm
          obtain ⟨e0, he0⟩ : ∃ e, e = edgeV u 0 := ⟨_, rfl⟩
          obtain ⟨e1, he1⟩ : ∃ e, e = edgeV u 1 := ⟨_, rfl⟩
          obtain ⟨e2, he2⟩ : ∃ e, e = edgeV u 2 := ⟨_, rfl⟩
          obtain ⟨e3, he3⟩ : ∃ e, e = edgeV u 3 := ⟨_, rfl⟩
          have HIX : Hid (∀ j, j < 4 → ∀ W, (Instr.index 86 (.agg #[.int .i64 e0, .int .i64 e1, .int .i64 e2, .int .i64 e3]) (.int .i64 (j : Nat))).run Try.prog W = .ok (.int .i64 (edgeV u j)) W) := fun j hj W => by
            exact ix4 (edgeV u) e0 e1 e2 e3 he0.symm he1.symm he2.symm he3.symm j hj W
          obtain ⟨W2, hW2⟩ : ∃ W2, W2 = wb.alloc (.cells #[.int .i64 p.a, .int .i64 p.b, .int .i64 p.c, .int .i64 p.d, .int .i64 p.e, .int .i64 p.f] 77) := ⟨_, rfl⟩
          have HW2 : Hid (wb.alloc (.cells #[.int .i64 p.a, .int .i64 p.b, .int .i64 p.c, .int .i64 p.d, .int .i64 p.e, .int .i64 p.f] 77) = W2) := hW2.symm
          have hB2 : Below w.heap.size w W2 := by rw [hW2]; exact balloc HX.out.2.1 _
          have hF2 : FTab (Value.int .i64) W2 g 4 (edgeV u) := by rw [hW2]; exact HX.out.2.2.1.alloc (HX.out.2.2.1.lt (by decide)) _
          have HC9 : Hid (∀ j, j < 6 → W2.cell? ⟨wb.heap.size, j, none⟩ = some (.int .i64 (p.at j))) := fun j hj => by
            have h0 := World.alloc_heap_new wb (.cells #[.int .i64 p.a, .int .i64 p.b, .int .i64 p.c, .int .i64 p.d, .int .i64 p.e, .int .i64 p.f] 77)
            rw [← hW2] at h0
            rw [cell_of_row _ _ j _ _ (0, 0) h0]
            match j, hj with
            | 0, _ => rfl
            | 1, _ => rfl
            | 2, _ => rfl
            | 3, _ => rfl
            | 4, _ => rfl
            | 5, _ => rfl
          have d0 := hF2.at' 0 (by decide)
          have d1 := hF2.at' 1 (by decide)
          have d2 := hF2.at' 2 (by decide)
          have d3 := hF2.at' 3 (by decide)
          rw [← he0] at d0
          rw [← he1] at d1
          rw [← he2] at d2
          rw [← he3] at d3
          obtain ⟨g9, hg9⟩ : ∃ g9, g9 = wb.heap.size := ⟨_, rfl⟩
          have HG9 : Hid (wb.heap.size = g9) := hg9.symm
          rw [← hg9] at HC9
          have HY : Hid ((∀ i (h : i < patV.length), i < k → fitsV u patV[i] 4 = false) ∧ Below w.heap.size w W2 ∧ FTab (Value.int .i64) W2 g 4 (edgeV u) ∧ w.heap.size ≤ g) := ⟨HX.out.1, hB2, hF2, HX.out.2.2.2⟩
          have HBD := Lib.hid hbd
          have HKL := Lib.hid hkl
          clear hcells hp he0 he1 he2 he3 hW2 hB2 hF2 HX hbd hkl hg9
          go_upto_region 11 with fail
          rw [HW2.out, HG9.out]
          clear HW2 HG9 p0 p1 p2 p3 p4 p5
          go_wp2_with fail
          go_loopw [62] (fun i wr => ∃ j : Nat, j ≤ 4 ∧ i = .int .i64 j ∧ Hid ((∀ i, i < j → p.at i + p.at (i + 1) = edgeV u i) ∧ Below W2.heap.size W2 wr)) (fun i _ => 4 - (intOf i).toNat)
          case atStart => exact ⟨0, by omega, rfl, fun i hi => absurd hi (Nat.not_lt_zero _), Below.refl _ _⟩
          case round =>
            clear d0 d1 d2 d3
            obtain ⟨j, hj, rfl, HZ⟩ := hrel
            obtain ⟨wz, rfl⟩ : ∃ wb : World, wb = wr := ⟨_, rfl⟩
            by_cases hjl : j < 4
            · have jd : (j : Int) < 4 := by omega
              obtain ⟨m, hm⟩ : ∃ m, m = j + 1 := ⟨_, rfl⟩
              have km : IntKind.i64.wrap ((j : Int) + 1) = (m : Int) := by rw [hm, Int.natCast_add]; exact IntWalk.i64_in _ (by omega)
              have hix := HIX.out j hjl
              obtain ⟨ed, hed⟩ : ∃ e, e = edgeV u j := ⟨_, rfl⟩
              obtain ⟨x, hx⟩ : ∃ e, e = p.at j := ⟨_, rfl⟩
              obtain ⟨y, hy⟩ : ∃ e, e = p.at m := ⟨_, rfl⟩
              have c1 : wz.cell? ⟨g9, j, none⟩ = some (.int .i64 x) := by rw [hx]; exact keepCell HZ.out.2 (HC9.out j (by omega))
              have c2 : wz.cell? ⟨g9, m, none⟩ = some (.int .i64 y) := by rw [hy]; exact keepCell HZ.out.2 (HC9.out m (by omega))
              have bx := HBD.out j (by omega)
              have byy := HBD.out m (by omega)
              rw [← hx] at bx
              rw [← hy] at byy
              obtain ⟨z, hz⟩ : ∃ z, z = x + y := ⟨_, rfl⟩
              have x1 : IntKind.i64.wrap (x + y) = z := by rw [hz]; exact IntWalk.i64_in _ (by omega)
              have j6 : j < 6 := by omega
              have m6 : m < 6 := by omega
              have j6' : (j : Int) < 6 := by omega
              have m6' : (m : Int) < 6 := by omega
              rw [← hed] at hix
              have HMJ : Hid (m = j + 1) := hm
              have HE : Hid (z = p.at j + p.at (j + 1) ∧ ed = edgeV u j) := ⟨by rw [hz, hx, hy, hm], hed⟩
              have HJL := Lib.hid hjl
              clear hm hed hx hy bx byy hjl hj hz
              by_cases hxy : z = ed
              · have hxy2 : (z != ed) = false := by rw [bne_eq_false_iff_eq]; exact hxy
                have HHX := Lib.hid hxy
                clear hxy
                go_upto_region 14 with fail
                go_quiet (fail)
                have HNX : Hid ((∀ i, i < m → p.at i + p.at (i + 1) = edgeV u i) ∧ Below W2.heap.size W2 (wz.drewN nq)) := ⟨fun i hi => by
                  have h1 := HMJ.out
                  by_cases e : i = j
                  · rw [e, ← HE.out.1, ← HE.out.2]; exact HHX.out
                  · exact HZ.out.1 i (by omega), bdrewN HZ.out.2 _⟩
                clear HZ c1 c2 hxy2 x1 hix
                go_wp2_with fail
                go_roundw
                case rel => exact ⟨m, by have := HMJ.out; have := HJL.out; omega, by go_num, HNX⟩
                case measure => have := HMJ.out; have := HJL.out; simp [intOf]; omega
              · have hxy2 : (z != ed) = true := by rw [bne_iff_ne]; exact hxy
                have HNF : Hid (fitsV u p 4 = false) := decide_eq_false fun H => hxy (by rw [HE.out.1, HE.out.2]; exact H j HJL.out)
                go_upto_region 14 with fail
                go_quiet (fail)
                have HNX : Hid ((∀ i (h : i < patV.length), i < k + 1 → fitsV u patV[i] 4 = false) ∧ Below w.heap.size w (wz.drewN nq) ∧ FTab (Value.int .i64) (wz.drewN nq) g 4 (edgeV u) ∧ w.heap.size ≤ g) := ⟨fun i h hi => by
                  by_cases e : i = k
                  · subst e; rw [HPE.out h]; exact HNF.out
                  · exact HY.out.1 i h (by omega), bthen HY.out.2.1 (bdrewN HZ.out.2 _), HY.out.2.2.1.below (bdrewN HZ.out.2 _) (HY.out.2.2.1.lt (by decide)), HY.out.2.2.2⟩
                clear HZ c1 c2 hxy hxy2 x1 hix HY
                go_wp2_with fail
                go_roundw
                case rel => exact ⟨k + 1, by omega, by go_num, HNX⟩
                case measure => simp [intOf]; omega
            · have jd : ¬ (j : Int) < 4 := by omega
              have HF : Hid (RetVal (valV u) w (.returned (.int .i64 k)) wz) := by
                refine ⟨?_, bthen HY.out.2.1 HZ.out.2⟩
                rw [val_yes HKL.out HY.out.1 (decide_eq_true fun i hi => by rw [HPE.out HKL.out]; exact HZ.out.1 i (by omega))]
              clear HZ HY
              go_wp2
              first
                | exact HF.out
                | (go_ret; exact HF.out)
                | (rw [Exit.noGoto_ret]; go_ret; exact HF.out)
        · have kd : ¬ (k : Int) < 103 := by omega
          have HF : Hid (RetVal (valV u) w (.returned (.int .i64 (-1))) wb) := ⟨by rw [val_no fun i h => HX.out.1 i h (by rw [patV_len] at h; omega)], HX.out.2.1⟩
          clear HX
          go_wp2
          first
            | exact HF.out
            | (go_ret; exact HF.out)
            | (rw [Exit.noGoto_ret]; go_ret; exact HF.out)
end Go.Proofs.Ytcadgjhfdolejaa
