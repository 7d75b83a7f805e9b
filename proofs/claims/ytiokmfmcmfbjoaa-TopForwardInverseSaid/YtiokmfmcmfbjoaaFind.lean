/-
  inverse.Find at good arguments. Own text.
-/
import Derived.Test.YtiokmfmcmfbjoaaInvW
namespace Go.Proofs.Ytiokmfmcmfbjoaa
open Go.RowKit
set_option linter.unusedVariables false
theorem vals_lab {P : Prof} (hok : OkProf P) (d o : Nat) (ho : o < 3) (c : Nat → Int) {lo hi : Int} (hz : lo ≤ 0 ∧ 0 ≤ hi) (hL : ∀ q, 3 * q + 2 < P.vals.length → lo ≤ P.vals.getD (3 * q + o) 0 ∧ P.vals.getD (3 * q + o) 0 ≤ hi) : lo ≤ valAt P d o c ∧ valAt P d o c ≤ hi := by
  unfold valAt
  rw [hok.axes.2]
  obtain ⟨n, hn⟩ : ∃ n, n = nodeV P.size ((List.range d).map c) := ⟨_, rfl⟩
  rw [← hn]
  have e : (n * 3).toNat + o = 3 * n.toNat + o := by omega
  rw [e]
  by_cases h : 3 * n.toNat + o < P.vals.length
  · refine hL _ ?_
    have hg := hok.grid.len
    rw [hok.axes.2] at hg
    omega
  · rw [List.getD_eq_getElem?_getD, List.getElem?_eq_none (by omega)]
    exact hz
theorem labV_ok {P : Prof} (hok : OkProf P) (ts : List Int) : OkLab (labV P ts 0) (labV P ts 1) (labV P ts 2) := by
  obtain ⟨s1, _⟩ := hok.step
  have key : ∀ o, o < 3 → ∀ lo hi : Int, (lo ≤ 0 ∧ 0 ≤ hi) → (∀ q, 3 * q + 2 < P.vals.length → lo ≤ P.vals.getD (3 * q + o) 0 ∧ P.vals.getD (3 * q + o) 0 ≤ hi) → lo ≤ labV P ts o ∧ labV P ts o ≤ hi := fun o ho lo hi hz hL => by
    unfold labV
    exact quickV_bd (low := fineL P ts) (high := fineL P ts) (by omega) (fun i _ => ⟨Int.le_refl _, Int.le_refl _⟩) (fun c _ => vals_lab hok _ _ ho c hz hL)
  have l := hok.labs
  exact ⟨key 0 (by omega) 0 10000 (by omega) fun q hq => (l q hq).1, key 1 (by omega) (-12800) 12800 (by omega) fun q hq => (l q hq).2.1, key 2 (by omega) (-12800) 12800 (by omega) fun q hq => (l q hq).2.2⟩
theorem FTab.tones {w : World} {g d : Nat} {v : Int} (h : FTab (Value.int .i64) w g d (fun _ => v)) (h0 : 0 ≤ v) (h1 : v ≤ 255) : Flat w 1 encInt (some ⟨g, 0, none⟩) (List.replicate d v) ∧ OkTones (List.replicate d v) d := by
  have e : (List.range d).map (fun _ => v) = List.replicate d v := by
    refine List.ext_getElem (by simp) fun i h1 h2 => ?_
    rw [List.getElem_map, List.getElem_replicate]
  refine ⟨?_, ?_, fun i hi => ?_⟩
  · rw [← e]; exact h.flat
  · rw [List.length_replicate]
  · rw [List.getElem_replicate]; exact ⟨h0, h1⟩
set_option maxRecDepth 100000 in
set_option maxHeartbeats 4000000 in
theorem find_any (P : Prof) (oi : Option Addr) (ci : Nat) (oc : Option Addr) (cc : Nat) (ov : Option Addr) (cv : Nat) (tv m : Nat → Int) (st tt : Int) (gl0 gh0 cl ch d : Nat) (w : World) (hp : ProfAt w P oi ci oc cc ov cv) (hok : OkProf P) (hd : d = P.inks.length)
    (hlow : FTab (Value.int .i64) w gl0 d (fun _ => 0)) (hhigh : FTab (Value.int .i64) w gh0 d (fun _ => 255)) (htt : (d : Int) * 255 ≤ tt) (htt2 : tt ≤ 2040) (hst : st = 51 ∨ st = 85) (htv : ∀ o, o < 3 → tv o = labV P (candL d st m) o) (hm : ∀ i, i < d → 0 ≤ m i ∧ m i * st ≤ 255) :
    Calls Try.prog 8 #[.agg (profCells P oi ci oc cc ov cv), .agg (askCells tv st tt (some ⟨gl0, 0, none⟩) cl (some ⟨gh0, 0, none⟩) ch d)] w (RetFind P d st tv w) := by
  have hf := hok.few
  have d1 : 1 ≤ d := by omega
  have d4 : d ≤ 4 := by omega
  have hlab : OkLab (tv 0) (tv 1) (tv 2) := by rw [htv 0 (by omega), htv 1 (by omega), htv 2 (by omega)]; exact labV_ok hok _
  have zl := hlow.lt d1
  have zh := hhigh.lt d1
  have hbox := BoxAt.new w (profCells P oi ci oc cc ov cv) 28
  have hb0 := balloc (Below.refl _ w) (.cells (profCells P oi ci oc cc ov cv) 28)
  have hs1 : (w.alloc (.cells (profCells P oi ci oc cc ov cv) 28)).heap.size = w.heap.size + 1 := World.size_alloc _ _
  obtain ⟨W1, hW1⟩ : ∃ W1, W1 = w.alloc (.cells (profCells P oi ci oc cc ov cv) 28) := ⟨_, rfl⟩
  rw [← hW1] at hbox hb0 hs1
  have z0 := BoxAt.new W1 (askCells tv st tt (some ⟨gl0, 0, none⟩) cl (some ⟨gh0, 0, none⟩) ch d) 35
  have hb1 := balloc (Below.refl _ W1) (.cells (askCells tv st tt (some ⟨gl0, 0, none⟩) cl (some ⟨gh0, 0, none⟩) ch d) 35)
  rw [hs1] at z0
  obtain ⟨W2, hW2⟩ : ∃ W2, W2 = W1.alloc (.cells (askCells tv st tt (some ⟨gl0, 0, none⟩) cl (some ⟨gh0, 0, none⟩) ch d) 35) := ⟨_, rfl⟩
  rw [← hW2] at z0 hb1
  have hb2 := bthen hb0 hb1
  have hH : HeldAt W2 w.heap.size P oi ci oc cc ov cv := ⟨hbox.below hb1, hp.below hb2⟩
  have a0 : W2.cell? ⟨w.heap.size + 1, 0, none⟩ = some (.int .i64 (tv 0)) := z0.at' 0 _ rfl
  have a1 : W2.cell? ⟨w.heap.size + 1, 1, none⟩ = some (.int .i64 (tv 1)) := z0.at' 1 _ rfl
  have a2 : W2.cell? ⟨w.heap.size + 1, 2, none⟩ = some (.int .i64 (tv 2)) := z0.at' 2 _ rfl
  have a3 : W2.cell? ⟨w.heap.size + 1, 3, none⟩ = some (.int .i64 st) := z0.at' 3 _ rfl
  have a4 : W2.cell? ⟨w.heap.size + 1, 4, none⟩ = some (.int .i64 tt) := z0.at' 4 _ rfl
  have a5 : W2.cell? ⟨w.heap.size + 1, 5, none⟩ = some (.slice (some ⟨gl0, 0, none⟩) d cl) := z0.at' 5 _ rfl
  have a6 : W2.cell? ⟨w.heap.size + 1, 6, none⟩ = some (.slice (some ⟨gh0, 0, none⟩) d ch) := z0.at' 6 _ rfl
  have y1 : W2.cell? ⟨w.heap.size, 1, none⟩ = some (.slice oi d ci) := by rw [hd]; exact (hbox.below hb1).at' 1 _ rfl
  have hA : AskAt W2 (w.heap.size + 1) tv st tt := ⟨a0, a1, a2, a3, a4⟩
  have hlo2 := hlow.below hb2 zl
  have hhi2 := hhigh.below hb2 zh
  have hzl2 : gl0 < W2.heap.size := Nat.lt_of_lt_of_le zl hb2.size
  have hzh2 : gh0 < W2.heap.size := Nat.lt_of_lt_of_le zh hb2.size
  have hchk := Lib.hid (RetChk.pos (profcheck_any P oi ci oc cc ov cv W2 hH.prof) hok)
  have HCH : Hid (∀ W, Below W2.heap.size W2 W → Calls Try.prog 17 #[.int .i64 d, .agg (askCells tv st tt (some ⟨gl0, 0, none⟩) cl (some ⟨gh0, 0, none⟩) ch d)] W (fun e w' => e = .returned (.int .i64 0) ∧ Below W.heap.size W w')) := fun W hb => by
    obtain ⟨q1, q2⟩ := (hlo2.below hb hzl2).tones (by omega) (by omega)
    obtain ⟨q3, q4⟩ := (hhi2.below hb hzh2).tones (by omega) (by omega)
    exact invcheck_any d tv st tt _ _ cl _ _ ch W d1 d4 hlab (by omega) (by omega) htt2 q1 q3 q2 q4
  have HQ : Hid (∀ W, Below W2.heap.size W2 W → Calls Try.prog 18 #[.pointer (some ⟨w.heap.size, 0, none⟩), .pointer (some ⟨w.heap.size + 1, 0, none⟩)] W (RetFind P d st tv W)) := fun W hb =>
    invquick_any w.heap.size (w.heap.size + 1) d P oi ci oc cc ov cv tv m st tt gl0 gh0 cl ch W (hH.below hb) hok (hA.below hb) (keepCell hb a5) (keepCell hb a6) (fun i hi => (hlo2.below hb hzl2).at' i hi) (fun i hi => (hhi2.below hb hzh2).at' i hi) hd htt hst htv hm
  have hi9 : (d : Int) ≤ 9223372036854775807 := by omega
  have HW1 := Lib.hid hW1
  have HW2 := Lib.hid hW2
  have HB2 := Lib.hid hb2
  have HA6 := Lib.hid (And.intro (And.intro a0 a1) (And.intro (And.intro a2 a3) (And.intro a4 (And.intro a5 a6))))
  obtain ⟨t0, ht0⟩ : ∃ t, t = tv 0 := ⟨_, rfl⟩
  obtain ⟨t1, ht1⟩ : ∃ t, t = tv 1 := ⟨_, rfl⟩
  obtain ⟨t2, ht2⟩ : ∃ t, t = tv 2 := ⟨_, rfl⟩
  have HPC : Hid (profCells P oi ci oc cc ov cv = #[.string P.name, .slice oi d ci, .slice oc P.curves.length cc, .int .i64 P.inn, .int .i64 P.out, .int .i64 P.size, .slice ov P.vals.length cv]) := by unfold profCells Hid; rw [hd]
  rw [HPC.out] at hchk HW1
  unfold askCells at *
  rw [HPC.out]
  rw [← ht0, ← ht1, ← ht2] at HCH HW2
  rw [← ht0, ← ht1, ← ht2]
  rw [← ht0] at a0
  rw [← ht1] at a1
  rw [← ht2] at a2
  have HHT := Lib.hid (And.intro ht0 (And.intro ht1 ht2))
  clear ht0 ht1 ht2 hA hH hlow hhigh htv hm hlab hok hp hW1 hW2 hb0 hb1 hb2 hbox z0 hs1 hlo2 hhi2 hzl2 hzh2 zl zh hf HPC hd
  go_enter Try.func8, Try.ntmps8
  go_wp2_with fail
  rw [← HW1.out, ← HW2.out]
  refine hchk.out.mono ?_
  rintro e w3 ⟨rfl, hb3⟩
  have HB3 := Lib.hid hb3
  have v1 := keepCell hb3 y1
  have v2 : w3.cell? ⟨w.heap.size + 1, 0, none⟩ = some (.int .i64 t0) := keepCell hb3 a0
  have v3 : w3.cell? ⟨w.heap.size + 1, 1, none⟩ = some (.int .i64 t1) := keepCell hb3 a1
  have v4 : w3.cell? ⟨w.heap.size + 1, 2, none⟩ = some (.int .i64 t2) := keepCell hb3 a2
  have v5 := keepCell hb3 a3
  have v6 := keepCell hb3 a4
  have v7 := keepCell hb3 a5
  have v8 := keepCell hb3 a6
  clear hb3 hchk y1 a0 a1 a2 a3 a4 a5 a6
  go_wp2_with fail
  refine (HCH.out _ HB3.out).mono ?_
  rintro e w4 ⟨rfl, hb4⟩
  have HB4 := Lib.hid (bthen HB3.out hb4)
  clear hb4 v1 v2 v3 v4 v5 v6 v7 v8
  go_wp2_with fail
  refine (HQ.out _ HB4.out).mono ?_
  rintro e w5 ⟨g, M, rfl, hT, hM, hD, hb5⟩
  have HFIN : Hid (RetFind P d st tv w (.returned (.tuple #[.slice (some ⟨g, 0, none⟩) d d, .int .i64 0, .int .i64 0])) w5) := ⟨g, M, rfl, hT, hM, hD, bthen HB2.out (bthen HB4.out hb5)⟩
  clear hT hM hD hb5
  go_wp2
  go_ret3
  exact HFIN.out
end Go.Proofs.Ytiokmfmcmfbjoaa
