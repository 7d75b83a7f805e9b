/-
  The walk of collate.Run. Own text.
-/
import Derived.Test.YtcpjpmijfjdifaaGreatDoorRunL
namespace Go.Proofs.YtcpjpmijfjdifaaGreatDoor
open Go.RowKit
set_option linter.unusedVariables false
def zeroRep : Value := .agg #[.slice none 0 0, .slice none 0 0, .slice none 0 0, .int .i64 0, .slice none 0 0, .slice none 0 0, .slice none 0 0]
def RetBad (E : Int) (w : World) (e : Ending) (w' : World) : Prop := e = .returned (.tuple #[zeroRep, .int .i64 E]) ∧ Below w.heap.size w w'
def RetRun (fs : List (List Pt)) (F : List Ft) (w : World) (e : Ending) (w' : World) : Prop :=
  ∃ (c : Nat) (a : Nat → Nat) (g : List Int) (p : List (List Int)) (vg vp : Value) (vs : Nat → Value) (rv : List Value) (Z : Nat), e = .returned (.tuple #[.agg #[vg, vp, vs 0, .int .i64 c, vs 1, vs 2, vs 3], .int .i64 0]) ∧
    Runs fs F 0 (fun _ => 0) [] [] c a g p ∧ Rep w' Z vg vp rv g p ∧ (∀ i, i < 4 → Own w' Z 3 1 encInt (vs i) (finX fs g a i)) ∧ w.heap.size ≤ Z ∧ Below w.heap.size w w'
def RetAll (fs : List (List Pt)) (F : List Ft) (E : Int) (w : World) (e : Ending) (w' : World) : Prop := (E ≠ 0 ∧ RetBad E w e w') ∨ (E = 0 ∧ RetRun fs F w e w')
theorem elemP : ElemType Tryz.prog 62 (.pointer none) 1 8 := ElemType.mk (by kernel_rfl) rfl (by decide)
/-- The result's cells. -/
structure ZB (w0 w : World) : Prop where
  bel : Below w0.heap.size w0 w
  zb : FTab (fun v : Value => v) w w0.heap.size 7 zeroR
theorem ZB.below {w0 w w' : World} (h : ZB w0 w) (hb : Below w.heap.size w w') : ZB w0 w' := ⟨h.bel.trans (hb.mono h.bel.size), h.zb.below hb (h.zb.lt (by omega))⟩
theorem ZB.start (w : World) : ZB w (w.alloc (.cells #[.slice none 0 0, .slice none 0 0, .slice none 0 0, .int .i64 0, .slice none 0 0, .slice none 0 0, .slice none 0 0] 37)) := by
  refine ⟨balloc (Below.refl _ w) _, ⟨fun i hi => ?_, fun o => ?_⟩⟩
  · rw [cell_of_row _ w.heap.size i _ _ (0, 0) (heap_alloc_new w _)]
    match i, hi with
    | 0, _ => rfl
    | 1, _ => rfl
    | 2, _ => rfl
    | 3, _ => rfl
    | 4, _ => rfl
    | 5, _ => rfl
    | 6, _ => rfl
  · unfold World.frozen?
    rw [heap_alloc_new]
    simp
theorem Flat.takeN {α : Type} {w : World} {k : Nat} {enc : α → List Value} {oa : Option Addr} {xs : List α} (h : Flat w k enc oa xs) (m : Nat) : Flat w k enc oa (xs.take m) := by
  intro i hi j hj
  have hi' : i < xs.length := by rw [List.length_take] at hi; omega
  obtain ⟨v, hv, r⟩ := h i hi' j hj
  exact ⟨v, by rw [List.getElem_take]; exact hv, r⟩
/-- The zero report is stored. -/
def zeroed (w0 w : World) : World := ((((((w.setCell ⟨w0.heap.size, 0, none⟩ (.slice none 0 0)).setCell ⟨w0.heap.size, 1, none⟩ (.slice none 0 0)).setCell ⟨w0.heap.size, 2, none⟩ (.slice none 0 0)).setCell ⟨w0.heap.size, 3, none⟩ (.int .i64 0)).setCell ⟨w0.heap.size, 4, none⟩ (.slice none 0 0)).setCell ⟨w0.heap.size, 5, none⟩ (.slice none 0 0)).setCell ⟨w0.heap.size, 6, none⟩ (.slice none 0 0)
theorem ZB.bad {w0 w : World} (h : ZB w0 w) {fs : List (List Pt)} {F : List Ft} {E : Int} (hE : E ≠ 0) : RetAll fs F E w0 (.returned (.tuple #[zeroRep, .int .i64 E])) (zeroed w0 w) := by
  refine .inl ⟨hE, rfl, ?_⟩
  have hp : ∀ o : Nat, w0.heap.size ≤ (⟨w0.heap.size, o, none⟩ : Addr).block := fun o => Nat.le_refl _
  exact ((((((h.bel.setCell (hp 0) _).setCell (hp 1) _).setCell (hp 2) _).setCell (hp 3) _).setCell (hp 4) _).setCell (hp 5) _).setCell (hp 6) _
set_option maxRecDepth 100000 in
set_option maxHeartbeats 8000000 in
theorem run_any (fs : List (List Pt)) (F : List Ft) (oa : Option Addr) (so : Nat → Option Addr) (sc : Nat → Nat) (ca : Nat) (oF : Option Addr) (cF : Nat) (w : World) (hA : Args w fs oa so sc) (hm : fs.length ≤ maxLen) (hF : Flat w 3 encFt oF F) (hFm : F.length ≤ maxLen) (hFc : F.length ≤ cF) (hF0 : oF = none → cF = 0) (E : Int) (hE : runErr fs F = E) :
    Calls Tryz.prog 9 #[.slice oa fs.length ca, .slice oF F.length cF] w (RetAll fs F E w) := by
  have HZ0 := Lib.hid (ZB.start w)
  have HCK := Lib.hid (check_any fs oa so sc ca _ (hA.below HZ0.out.bel) hm)
  have HA := Lib.hid hA
  have HF := Lib.hid hF
  have HF0 := Lib.hid hF0
  have HE := Lib.hid hE
  have HFC := Lib.hid hFc
  have HM := Lib.hid hm
  have HFM := Lib.hid hFm
  obtain ⟨n, hn⟩ : ∃ n, n = fs.length := ⟨_, rfl⟩
  have HN := Lib.hid hn
  rw [← hn] at HCK
  rw [← hn]
  obtain ⟨M, hM⟩ : ∃ M, M = F.length := ⟨_, rfl⟩
  have HMM := Lib.hid hM
  rw [← hM]
  have hres : Tryz.f9.results = #[.cell 4 37, .tmp 5] := rfl
  clear hA hF hF0 hE hn hm hFc hFm hM
  go_enter Tryz.func9, Tryz.ntmps9
  go_wp2_with fail
  refine HCK.out.mono ?_
  rintro e w2 ⟨rfl, hb2⟩
  have HZ2 := Lib.hid (HZ0.out.below hb2)
  clear hb2 HCK HZ0
  obtain ⟨C, hC⟩ : ∃ C, C = checkV fs := ⟨_, rfl⟩
  rw [← hC]
  have HC := Lib.hid hC
  clear hC
  by_cases hc0 : C = 0
  · have hE1 : (if 512 < M then 2 else fltScan n [] F) = E := by
      have h1 : runErr fs F = if 512 < F.length then 2 else fltScan fs.length [] F := by unfold runErr; rw [if_pos (HC.out.symm.trans hc0)]
      rw [← HE.out, h1, HMM.out, HN.out]
    have HE1 := Lib.hid hE1
    have HFO := Lib.hid (checkV_ok (HC.out.symm.trans hc0))
    subst hc0
    clear hE1
    by_cases h512 : 512 < M
    · have hE2 : E = 2 := by rw [← HE1.out, if_pos h512]
      subst hE2
      have HB := Lib.hid (HZ2.out.bad (fs := fs) (F := F) (E := 2) (by decide))
      have k1 : (512 : Int) < (M : Int) := by omega
      have z0 : (w2).cell? ⟨w.heap.size, 0, none⟩ = some (.slice none 0 0) := HZ2.out.zb.at' 0 (by omega)
      have z1 : (w2).cell? ⟨w.heap.size, 1, none⟩ = some (.slice none 0 0) := HZ2.out.zb.at' 1 (by omega)
      have z2 : (w2).cell? ⟨w.heap.size, 2, none⟩ = some (.slice none 0 0) := HZ2.out.zb.at' 2 (by omega)
      have z3 : (w2).cell? ⟨w.heap.size, 3, none⟩ = some (.int .i64 0) := HZ2.out.zb.at' 3 (by omega)
      have z4 : (w2).cell? ⟨w.heap.size, 4, none⟩ = some (.slice none 0 0) := HZ2.out.zb.at' 4 (by omega)
      have z5 : (w2).cell? ⟨w.heap.size, 5, none⟩ = some (.slice none 0 0) := HZ2.out.zb.at' 5 (by omega)
      have z6 : (w2).cell? ⟨w.heap.size, 6, none⟩ = some (.slice none 0 0) := HZ2.out.zb.at' 6 (by omega)
      have zf := HZ2.out.zb.fz
      go_wp2
      refine bodyPost_ret (v := .tuple #[.agg #[.slice none 0 0, .slice none 0 0, .slice none 0 0, .int .i64 0, .slice none 0 0, .slice none 0 0, .slice none 0 0], .int .i64 2]) (by simp only [results, hres]; go_simp) rfl ?_
      exact HB.out
    · have k1 : ¬ (512 : Int) < (M : Int) := by omega
      have HE2 : Hid (fltScan n [] F = E) := by show _ = _; rw [← HE1.out, if_neg h512]
      clear HE1
      go_wp2
      go_loopw [27] (fun i wr => ∃ k : Nat, k ≤ M ∧ i = .int .i64 k ∧ Hid (Below w2.heap.size w2 wr ∧ fltScan n [] F = fltScan n (F.take k) (F.drop k))) (fun i _ => M - (intOf i).toNat)
      case atStart => exact ⟨0, by omega, rfl, Below.refl _ _, rfl⟩
      case round =>
        obtain ⟨k, hk, rfl, HX⟩ := hrel
        by_cases hlt : k < M
        · have hkx : k < F.length := by have := HMM.out; omega
          have hflat := HF.out.below (HZ2.out.below HX.out.1).bel
          obtain ⟨bo, oo, hso, i0, i1, i2⟩ := hflat.ft hkx
          subst hso
          have HFT : Hid (Flat wr 3 encFt (some ⟨bo, oo, none⟩) (F.take k)) := hflat.takeN k
          have hdr : F.drop k = F[k] :: F.drop (k + 1) := List.drop_eq_getElem_cons hkx
          have htk : F.take (k + 1) = F.take k ++ [F[k]] := List.take_succ_eq_append_getElem hkx
          obtain ⟨x, hx⟩ : ∃ x, x = F[k] := ⟨_, rfl⟩
          rw [← hx] at i0 i1 i2 hdr htk
          have HSC : Hid (E = if badF n x then 3 else if (F.take k).any (sameF x) then 7 else fltScan n (F.take (k + 1)) (F.drop (k + 1))) := by
            have h1 := HX.out.2
            rw [hdr, HE2.out] at h1
            rw [htk]
            exact h1
          obtain ⟨xc, xf, xd⟩ := x
          dsimp only at i0 i1 i2
          have kd : (k : Int) < (M : Int) := by omega
          have k0 : (0 : Int) ≤ (k : Int) := by omega
          have hkc : k ≤ cF := by have := HFC.out; omega
          have hbw3 : Below wr.heap.size wr (wr.alloc (.cells #[.int .i64 xc, .int .i64 xf, .bool xd] 55)) := balloc (Below.refl _ wr) _
          have HB3 : Hid (Below w2.heap.size w2 (wr.alloc (.cells #[.int .i64 xc, .int .i64 xf, .bool xd] 55))) := HX.out.1.trans (hbw3.mono HX.out.1.size)
          have HZ3 := Lib.hid (HZ2.out.below HB3.out)
          have HFT3 := Lib.hid (HFT.out.below hbw3)
          have q0 : (wr.alloc (.cells #[.int .i64 xc, .int .i64 xf, .bool xd] 55)).cell? ⟨wr.heap.size, 0, none⟩ = some (.int .i64 xc) := by rw [cell_of_row _ wr.heap.size 0 _ _ (0, 0) (heap_alloc_new wr _)]; rfl
          have q1 : (wr.alloc (.cells #[.int .i64 xc, .int .i64 xf, .bool xd] 55)).cell? ⟨wr.heap.size, 1, none⟩ = some (.int .i64 xf) := by rw [cell_of_row _ wr.heap.size 1 _ _ (0, 0) (heap_alloc_new wr _)]; rfl
          clear HX hflat hx hdr htk hbw3 HFT
          by_cases hbad : badF n ⟨xc, xf, xd⟩
          · have hE3 : E = 3 := by rw [HSC.out, if_pos hbad]
            have HB := Lib.hid (HZ3.out.bad (fs := fs) (F := F) (E := 3) (by decide))
            have hbad' : xc < 0 ∨ 512 ≤ xc ∨ xf < 0 ∨ (n : Int) ≤ xf := hbad
            subst hE3
            have z0 : (wr.alloc (.cells #[.int .i64 xc, .int .i64 xf, .bool xd] 55)).cell? ⟨w.heap.size, 0, none⟩ = some (.slice none 0 0) := HZ3.out.zb.at' 0 (by omega)
            have z1 : (wr.alloc (.cells #[.int .i64 xc, .int .i64 xf, .bool xd] 55)).cell? ⟨w.heap.size, 1, none⟩ = some (.slice none 0 0) := HZ3.out.zb.at' 1 (by omega)
            have z2 : (wr.alloc (.cells #[.int .i64 xc, .int .i64 xf, .bool xd] 55)).cell? ⟨w.heap.size, 2, none⟩ = some (.slice none 0 0) := HZ3.out.zb.at' 2 (by omega)
            have z3 : (wr.alloc (.cells #[.int .i64 xc, .int .i64 xf, .bool xd] 55)).cell? ⟨w.heap.size, 3, none⟩ = some (.int .i64 0) := HZ3.out.zb.at' 3 (by omega)
            have z4 : (wr.alloc (.cells #[.int .i64 xc, .int .i64 xf, .bool xd] 55)).cell? ⟨w.heap.size, 4, none⟩ = some (.slice none 0 0) := HZ3.out.zb.at' 4 (by omega)
            have z5 : (wr.alloc (.cells #[.int .i64 xc, .int .i64 xf, .bool xd] 55)).cell? ⟨w.heap.size, 5, none⟩ = some (.slice none 0 0) := HZ3.out.zb.at' 5 (by omega)
            have z6 : (wr.alloc (.cells #[.int .i64 xc, .int .i64 xf, .bool xd] 55)).cell? ⟨w.heap.size, 6, none⟩ = some (.slice none 0 0) := HZ3.out.zb.at' 6 (by omega)
            have zf := HZ3.out.zb.fz
            clear hbad HSC q0 q1
            by_cases b1 : xc < 0
            · clear hbad'
              go_wp2
              refine bodyPost_ret (v := .tuple #[.agg #[.slice none 0 0, .slice none 0 0, .slice none 0 0, .int .i64 0, .slice none 0 0, .slice none 0 0, .slice none 0 0], .int .i64 3]) (by simp only [results, hres]; go_simp) rfl ?_
              exact HB.out
            · by_cases b2 : 512 ≤ xc
              · clear hbad'
                go_wp2
                refine bodyPost_ret (v := .tuple #[.agg #[.slice none 0 0, .slice none 0 0, .slice none 0 0, .int .i64 0, .slice none 0 0, .slice none 0 0, .slice none 0 0], .int .i64 3]) (by simp only [results, hres]; go_simp) rfl ?_
                exact HB.out
              · by_cases b3 : xf < 0
                · clear hbad'
                  go_wp2
                  refine bodyPost_ret (v := .tuple #[.agg #[.slice none 0 0, .slice none 0 0, .slice none 0 0, .int .i64 0, .slice none 0 0, .slice none 0 0, .slice none 0 0], .int .i64 3]) (by simp only [results, hres]; go_simp) rfl ?_
                  exact HB.out
                · have b4 : (n : Int) ≤ xf := by omega
                  clear hbad'
                  go_wp2
                  refine bodyPost_ret (v := .tuple #[.agg #[.slice none 0 0, .slice none 0 0, .slice none 0 0, .int .i64 0, .slice none 0 0, .slice none 0 0, .slice none 0 0], .int .i64 3]) (by simp only [results, hres]; go_simp) rfl ?_
                  exact HB.out
          · have b1 : ¬ xc < 0 := fun h => hbad (.inl h)
            have b2 : ¬ 512 ≤ xc := fun h => hbad (.inr (.inl h))
            have b3 : ¬ xf < 0 := fun h => hbad (.inr (.inr (.inl h)))
            have b4 : ¬ (n : Int) ≤ xf := fun h => hbad (.inr (.inr (.inr h)))
            have HSC2 : Hid (E = if (F.take k).any (sameF ⟨xc, xf, xd⟩) then 7 else fltScan n (F.take (k + 1)) (F.drop (k + 1))) := by show _ = _; rw [HSC.out, if_neg hbad]
            have hmf : ∀ (fn : Fn) (first cap : Array Value) (w : World), (Instr.makeFunc fn first cap).run Tryz.prog w = .ok (.func fn first cap) w := fun _ _ _ _ => rfl
            have hlk : (F.take k).length = k := by rw [List.length_take]; omega
            have HCF : Hid (∀ r, (F.take k).any (sameF ⟨xc, xf, xd⟩) = r → Calls Tryz.prog 17 #[.slice (some ⟨bo, oo, none⟩) k cF, .func (.func 18) #[] #[.pointer (some ⟨wr.heap.size, 0, none⟩)]] (wr.alloc (.cells #[.int .i64 xc, .int .i64 xf, .bool xd] 55)) (RetAny r (wr.alloc (.cells #[.int .i64 xc, .int .i64 xf, .bool xd] 55)))) := fun r hr => by
              have h1 := containsF_any (some ⟨bo, oo, none⟩) (F.take k) cF ⟨xc, xf, xd⟩ wr.heap.size _ r hr (by omega) HFT3.out q0 q1
              rw [hlk] at h1
              exact h1
            clear hbad HSC hlk
            cases hany : (F.take k).any (sameF ⟨xc, xf, xd⟩) with
            | true =>
              have hE7 : E = 7 := by rw [HSC2.out, if_pos hany]
              have HC2 := Lib.hid (HCF.out true hany)
              subst hE7
              clear HSC2 HCF hany
              go_wp2_with fail
              refine HC2.out.mono ?_
              rintro e w4 ⟨rfl, hb4⟩
              have HZ4 := Lib.hid (HZ3.out.below hb4)
              have HB := Lib.hid (HZ4.out.bad (fs := fs) (F := F) (E := 7) (by decide))
              have z0 : (w4).cell? ⟨w.heap.size, 0, none⟩ = some (.slice none 0 0) := HZ4.out.zb.at' 0 (by omega)
              have z1 : (w4).cell? ⟨w.heap.size, 1, none⟩ = some (.slice none 0 0) := HZ4.out.zb.at' 1 (by omega)
              have z2 : (w4).cell? ⟨w.heap.size, 2, none⟩ = some (.slice none 0 0) := HZ4.out.zb.at' 2 (by omega)
              have z3 : (w4).cell? ⟨w.heap.size, 3, none⟩ = some (.int .i64 0) := HZ4.out.zb.at' 3 (by omega)
              have z4 : (w4).cell? ⟨w.heap.size, 4, none⟩ = some (.slice none 0 0) := HZ4.out.zb.at' 4 (by omega)
              have z5 : (w4).cell? ⟨w.heap.size, 5, none⟩ = some (.slice none 0 0) := HZ4.out.zb.at' 5 (by omega)
              have z6 : (w4).cell? ⟨w.heap.size, 6, none⟩ = some (.slice none 0 0) := HZ4.out.zb.at' 6 (by omega)
              have zf := HZ4.out.zb.fz
              clear hb4 HC2 q0 q1
              go_wp2
              refine bodyPost_ret (v := .tuple #[.agg #[.slice none 0 0, .slice none 0 0, .slice none 0 0, .int .i64 0, .slice none 0 0, .slice none 0 0, .slice none 0 0], .int .i64 7]) (by simp only [results, hres]; go_simp) rfl ?_
              exact HB.out
            | false =>
              have HNE : Hid (E = fltScan n (F.take (k + 1)) (F.drop (k + 1))) := by show _ = _; rw [HSC2.out, if_neg (by rw [hany]; decide)]
              have HC2 := Lib.hid (HCF.out false hany)
              clear HSC2 HCF hany
              go_wp2_with fail
              refine HC2.out.mono ?_
              rintro e w4 ⟨rfl, hb4⟩
              have HNX : Hid (Below w2.heap.size w2 w4 ∧ fltScan n [] F = fltScan n (F.take (k + 1)) (F.drop (k + 1))) := ⟨HB3.out.trans (hb4.mono HB3.out.size), HE2.out.trans HNE.out⟩
              clear hb4 HC2 q0 q1
              go_wp2
              go_roundw
              case rel => exact ⟨k + 1, by omega, by go_num, HNX⟩
              case measure => simp [intOf]; omega
        · obtain rfl : M = k := by omega
          have hE0 : E = 0 := by
            have h1 := HX.out.2
            rw [HE2.out, List.drop_eq_nil_of_le (by have := HMM.out; omega)] at h1
            exact h1
          subst hE0
          obtain ⟨w3, rfl⟩ : ∃ w3 : World, w3 = wr := ⟨_, rfl⟩
          have HZ3 := Lib.hid (HZ2.out.below HX.out.1)
          have HA3 := Lib.hid (HA.out.below HZ3.out.bel)
          have HF3 := Lib.hid (HF.out.below HZ3.out.bel)
          have HFL := Lib.hid (runErr_ok HE.out).2
          have hn8 : n ≤ 8 := by have := HFO.out.few; have := HN.out; omega
          have hn1 : 1 ≤ n := by have := HFO.out.one; have := HN.out; omega
          have HB0 : Hid (Built w3 (w3.alloc (.cells #[.slice none 0 0, .slice none 0 0, .slice none 0 0, .slice none 0 0, .int .i64 0, .slice none 0 0, .slice none 0 0, .slice none 0 0] 61)) fs so sc w3.heap.size (.slice none 0 0) (fun _ => 0) 0) := Built.start (Nat.le_refl _) (Below.refl _ _)
          clear HX HZ2 HE2 HA HF
          go_wp2
          generalize w3.alloc (.cells #[.slice none 0 0, .slice none 0 0, .slice none 0 0, .slice none 0 0, .int .i64 0, .slice none 0 0, .slice none 0 0, .slice none 0 0] 61) = w4 at *
          obtain ⟨mb, hmb⟩ : ∃ mb, mb = w3.heap.size := ⟨_, rfl⟩
          rw [← hmb] at HB0
          rw [← hmb]
          clear hmb
          go_loopw [64] (fun i wr => ∃ k : Nat, k ≤ n ∧ i = .int .i64 k ∧ Hid (∃ vf fb, Built w3 wr fs so sc mb vf fb k)) (fun i _ => n - (intOf i).toNat)
          case atStart => exact ⟨0, by omega, rfl, _, _, HB0.out⟩
          case round =>
            clear HB0
            obtain ⟨k, hk, rfl, HX⟩ := hrel
            by_cases hlt : k < n
            · have hkx : k < fs.length := by have := HN.out; omega
              obtain ⟨vf, fb, hbt⟩ := HX.out
              obtain ⟨ba, offa, hoa, p0⟩ := (HA3.out.below hbt.bel).hd k hkx
              subst hoa
              have HBT := Lib.hid hbt
              have kd : (k : Int) < (n : Int) := by omega
              have k0 : (0 : Int) ≤ (k : Int) := by omega
              have hlt' := hbt.lt
              have m0 : wr.cell? ⟨mb, 0, none⟩ = some vf := hbt.tab.at' 0 (by omega)
              have hb5 : Below wr.heap.size wr ((wr.alloc (.cells #[.slice (so k) (ln fs k) (sc k), .int .i64 0, .int .i64 0] 64)).alloc (.cells #[.pointer (some ⟨wr.heap.size, 0, none⟩)] 62)) := bthen (balloc (Below.refl _ wr) _) (balloc (Below.refl _ _) _)
              have HO5 := Lib.hid (hbt.own.below hb5)
              have HNEW : Hid (∀ (j : Nat) (u : Value), (encP wr.heap.size)[j]? = some u → ((wr.alloc (.cells #[.slice (so k) (ln fs k) (sc k), .int .i64 0, .int .i64 0] 64)).alloc (.cells #[.pointer (some ⟨wr.heap.size, 0, none⟩)] 62)).cell? ((⟨wr.heap.size + 1, 0, none⟩ : Addr).add j) = some u) := by
                have h := World.news_of_block (cs := #[.pointer (some ⟨wr.heap.size, 0, none⟩)]) (t := 62) (fr := (0, 0)) (heap_alloc_new (wr.alloc (.cells #[.slice (so k) (ln fs k) (sc k), .int .i64 0, .int .i64 0] 64)) _)
                rw [World.size_alloc] at h
                exact h
              have hll : ((List.range k).map fb).length = k := by simp
              have HLL := Lib.hid hll
              have HSZ : Hid (mb + 1 ≤ ((wr.alloc (.cells #[.slice (so k) (ln fs k) (sc k), .int .i64 0, .int .i64 0] 64)).alloc (.cells #[.pointer (some ⟨wr.heap.size, 0, none⟩)] 62)).heap.size) := Nat.le_trans hlt' hb5.size
              obtain ⟨bl, hbl⟩ : ∃ bl, bl = (List.range k).map fb := ⟨_, rfl⟩
              rw [← hbl] at HO5 HLL
              have HBL := Lib.hid hbl
              clear hbt HX hb5 hll hbl
              go_wp2_with (at_builtin; refine wpList_appAt rfl (.tmp 72) (.tmp 76) 59 rfl elemP Tryz.underlying59 (mb + 1) vf bl encP rfl HO5.out wr.heap.size ⟨wr.heap.size + 1, 0, none⟩ 1 rfl rfl HNEW.out ?c1 ?c2 ?c3 ?c4 ?_)
              case c1 => simp [encP, Value.oneCell']
              case c2 => rw [HLL.out]; omega
              case c3 => rw [HLL.out]; unfold maxLen; omega
              case c4 => exact HSZ.out
              intro v' w5 hown5 hg5 hat5
              obtain ⟨ov5, cv5, rfl, -, -⟩ := hown5.flat (fun _ => rfl)
              generalize (bl ++ [wr.heap.size]).length = lv at *
              rw [HBL.out] at hown5
              have hnx := HBT.out.next (o2 := .cells #[.pointer (some ⟨wr.heap.size, 0, none⟩)] 62) rfl hown5 hg5 (by simpa using hat5)
              have s0 : w5.cell? ⟨mb, 0, none⟩ = some vf := hnx.1.at' 0 (by omega)
              have sf := hnx.1.fz
              have HNX : Hid (∃ vf fb, Built w3 (w5.setCell ⟨mb, 0, none⟩ (.slice ov5 lv cv5)) fs so sc mb vf fb (k + 1)) := ⟨_, _, hnx.2⟩
              clear hown5 hg5 hat5 hnx HBT HO5 HNEW HBL HLL HSZ m0 p0
              go_wp2
              go_roundw
              case rel => exact ⟨k + 1, by omega, by go_num, HNX⟩
              case measure => simp [intOf]; omega
            · obtain rfl : n = k := by omega
              obtain ⟨w6, rfl⟩ : ∃ w6 : World, w6 = wr := ⟨_, rfl⟩
              obtain ⟨vf, fb, hbt⟩ := HX.out
              obtain ⟨bf, cf, rfl, hmach, hlay⟩ := Built.mach (fb := fb) (vf := vf) (by rw [← HN.out]; exact hbt) (by have := HN.out; omega) (by have := HN.out; omega) HA3.out.row HFO.out.low
              have HMA := Lib.hid hmach
              have HLY := Lib.hid hlay
              have HZ6 := Lib.hid (HZ3.out.below hbt.bel)
              have HF6 := Lib.hid (HF3.out.below hbt.bel)
              have HCL : Hid (Calls Tryz.prog 19 #[.slice oF M cF] w6 (RetRows 55 3 encFt F w6)) := by
                have hml := HFL.out.len
                cases oF with
                | none =>
                  have h0 := HF0.out rfl
                  have h1 := HFC.out
                  have h2 := HMM.out
                  obtain rfl : F = [] := List.eq_nil_of_length_eq_zero (by omega)
                  rw [h0, h2]
                  exact cloneF_nil w6
                | some ad =>
                  rw [HMM.out]
                  exact cloneF ad F cF w6 (by omega) HF6.out
              clear hbt HX hmach hlay
              go_wp2_with fail
              refine HCL.out.mono ?_
              rintro e w7 ⟨vF, rfl, hown7, hb7⟩
              have HSO := Lib.hid (sortF_any w6.heap.size vF F w7 hown7 HFL.out.len)
              have HB7 := Lib.hid hb7
              obtain ⟨oG, cG, rfl, -, -⟩ := hown7.flat (fun _ => rfl)
              rw [← HMM.out] at HSO
              rw [← HMM.out]
              clear hown7 hb7 HCL
              go_wp2_with fail
              refine HSO.out.mono ?_
              rintro e w8 ⟨S, rfl, hperm, hsort, hown8, hpres⟩
              have HB8 : Hid (Below w6.heap.size w6 w8) := hpres _ _ (Nat.le_refl _) HB7.out
              have HSL : Hid (S.length = M) := by show S.length = M; rw [hperm.length_eq, HMM.out]
              have HST : Hid (Stand F S 0 0) := Stand.zero hperm hsort fun x hx => (HFL.out.rng x hx).1
              have HR0 : Hid (RunAt w3 w8 w6.heap.size fs so sc mb bf cf fb F S (.slice oG M cG) 0 0 (fun _ => 0) [] [] (.slice none 0 0) (.slice none 0 0) []) :=
                ⟨HMA.out.below HB8.out, Rep.nil _ _, hown8, fun j hj => ⟨fun e => (by cases e), fun e => (by cases e)⟩, HST.out, RunInv.zero fs, HB8.out.size, fun _ _ _ _ h => h⟩
              have HIN : Hid (0 + (remTo fs (fun _ => 0) fs.length + (S.length - 0)) ≤ 10000) := by
                have h1 := remTo_bd fs (fun _ => 0) HFO.out.low fs.length
                have h2 := HFO.out.few
                have h3 := HSL.out
                have h4 := HFL.out.len
                have h5 := HMM.out
                show _ ≤ _
                omega
              have HRM0 : Hid (RemAt (.slice oG M cG) S 0 (.slice oG M cG)) := by
                rcases hown8.2 with ⟨e1, hn0⟩ | ⟨g0, cap0, cur0, e1, _, _, hn0, _⟩
                · simp only [Value.slice.injEq] at e1
                  refine ⟨oG, cG, by rw [HSL.out, Nat.sub_zero], by rw [hn0]; omega, .inl ⟨e1.1, e1.2.2⟩⟩
                · simp only [Value.slice.injEq] at e1
                  refine ⟨oG, cG, by rw [HSL.out, Nat.sub_zero], by rw [e1.2.2, Nat.sub_zero]; exact hn0, .inr ⟨g0, 0, e1.1, fun _ => ⟨M, cG, by rw [e1.1], by rw [Nat.zero_mul]⟩⟩⟩
              clear hperm hsort hown8 hpres HSO HMA
              go_wp2
              go_loopg [1] (remTo fs (fun _ => 0) fs.length + (S.length - 0)) (fun gk v wr => ∃ (c d : Nat) (a : Nat → Nat), gk = remTo fs a fs.length + (S.length - d) ∧ Hid (∃ g p vg vp rv, RunAt w3 wr w6.heap.size fs so sc mb bf cf fb F S (.slice oG M cG) c d a g p vg vp rv) ∧ Hid (RemAt (.slice oG M cG) S d v) ∧ Hid (c + gk ≤ 10000))
              case atStart => exact ⟨0, 0, fun _ => 0, rfl, ⟨_, _, _, _, _, HR0.out⟩, HRM0.out, HIN.out⟩
              case round =>
                clear HR0 HRM0
                obtain ⟨c, d, a, hgk, HX, HRM, HCC⟩ := hrel
                have HGK := Lib.hid hgk
                clear hgk
                obtain ⟨o1, c1, rfl, hc1, ho1⟩ := HRM.out
                have HC1 := Lib.hid hc1
                have HO1 := Lib.hid ho1
                clear hc1 ho1 HRM
                obtain ⟨L, hL⟩ : ∃ L, L = S.length - d := ⟨_, rfl⟩
                rw [← hL] at HC1
                rw [← hL]
                have HLL := Lib.hid hL
                clear hL
                obtain ⟨g, p, vg, vp, rv, hra⟩ := HX.out
                have HRA := Lib.hid hra
                have HAL := Lib.hid (align_any hra.m HLY.out (Nat.le_refl _) hra.inv.win hra.inv.used)
                clear hra HX
                obtain ⟨w9, rfl⟩ : ∃ w9 : World, w9 = wr := ⟨_, rfl⟩
                go_wp2_with fail
                refine HAL.out.mono ?_
                rintro e w10 ⟨r, a1, rfl, hal, hm10, hc10⟩
                have HA1 := Lib.hid hal
                have HR10 : Hid (RunAt w3 w10 w6.heap.size fs so sc mb bf cf fb F S (.slice oG M cG) c d a1 g p vg vp rv ∨ True) := .inr trivial
                have HM10 := Lib.hid hm10
                have HRP := Lib.hid (HRA.out.r.calm hc10)
                have HOW := Lib.hid (HRA.out.own.calm hc10)
                have HI1 := Lib.hid (HRA.out.inv.align hal)
                have HZS : Hid (w6.heap.size ≤ w10.heap.size) := Nat.le_trans HRA.out.zs hc10.size
                clear hal hm10 hc10 HAL HR10
                cases r with
                | none =>
                  unfold alignRes
                  obtain ⟨og, cg, rfl, -, -⟩ := HRP.out.og.flat (fun _ => rfl)
                  obtain ⟨op, cp, rfl, -, -⟩ := HRP.out.op.flat (fun _ => rfl)
                  have hfi := finish_any oa ca HM10.out HRP.out (HA3.out.below HM10.out.old) HI1.out.win (HRA.out.gl HFO.out.one)
                  rw [← HN.out] at hfi
                  have HFI := Lib.hid hfi
                  have HZ10 := Lib.hid (HZ3.out.below HM10.out.old)
                  have HBK := Lib.hid (HRA.out.back _ _ _ _ (.stop c a a1 g p HA1.out))
                  clear hfi
                  go_wp2_with fail
                  refine HFI.out.mono ?_
                  rintro e w11 ⟨vs, rfl, hows, hb11⟩
                  have HZ11 := Lib.hid (HZ10.out.below hb11)
                  obtain ⟨q0, d0, hv0, -, -⟩ := (hows 0 (by omega)).flat (fun _ => rfl)
                  obtain ⟨q1, d1, hv1, -, -⟩ := (hows 1 (by omega)).flat (fun _ => rfl)
                  obtain ⟨q2, d2, hv2, -, -⟩ := (hows 2 (by omega)).flat (fun _ => rfl)
                  obtain ⟨q3, d3, hv3, -, -⟩ := (hows 3 (by omega)).flat (fun _ => rfl)
                  generalize (finX fs g a1 0).length = l0 at *
                  generalize (finX fs g a1 1).length = l1 at *
                  generalize (finX fs g a1 2).length = l2 at *
                  generalize (finX fs g a1 3).length = l3 at *
                  generalize g.length = lg at *
                  generalize rv.length = lr at *
                  rw [hv0, hv1, hv2, hv3]
                  have HFF : Hid (RetAll fs F 0 w (.returned (.tuple #[.agg #[.slice og lg cg, .slice op lr cp, .slice q0 l0 d0, .int .i64 c, .slice q1 l1 d1, .slice q2 l2 d2, .slice q3 l3 d3], .int .i64 0]))
                      (((((((w11.setCell ⟨w.heap.size, 0, none⟩ (.slice og lg cg)).setCell ⟨w.heap.size, 1, none⟩ (.slice op lr cp)).setCell ⟨w.heap.size, 2, none⟩ (.slice q0 l0 d0)).setCell ⟨w.heap.size, 3, none⟩ (.int .i64 c)).setCell ⟨w.heap.size, 4, none⟩ (.slice q1 l1 d1)).setCell ⟨w.heap.size, 5, none⟩ (.slice q2 l2 d2)).setCell ⟨w.heap.size, 6, none⟩ (.slice q3 l3 d3))) := by
                    have hz : w.heap.size < w6.heap.size := HZ6.out.zb.lt (by omega)
                    refine .inr ⟨rfl, c, a1, g, p, _, _, vs, rv, w6.heap.size, by rw [hv0, hv1, hv2, hv3], HBK.out, ?_, fun i hi => ?_, Nat.le_of_lt hz, ?_⟩
                    · exact HRP.out.calm ((((((((Calm.refl w6.heap.size w10).below hb11).set hz 0 _).set hz 1 _).set hz 2 _).set hz 3 _).set hz 4 _).set hz 5 _ |>.set hz 6 _)
                    · have h1 := (hows i hi).rebase HZS.out
                      exact ((((((h1.setLow hz _ _).setLow hz _ _).setLow hz _ _).setLow hz _ _).setLow hz _ _).setLow hz _ _).setLow hz _ _
                    · have hp : ∀ o : Nat, w.heap.size ≤ (⟨w.heap.size, o, none⟩ : Addr).block := fun o => Nat.le_refl _
                      exact ((((((HZ11.out.bel.setCell (hp 0) _).setCell (hp 1) _).setCell (hp 2) _).setCell (hp 3) _).setCell (hp 4) _).setCell (hp 5) _).setCell (hp 6) _
                  have z0 : w11.cell? ⟨w.heap.size, 0, none⟩ = some (.slice none 0 0) := HZ11.out.zb.at' 0 (by omega)
                  have z1 : w11.cell? ⟨w.heap.size, 1, none⟩ = some (.slice none 0 0) := HZ11.out.zb.at' 1 (by omega)
                  have z2 : w11.cell? ⟨w.heap.size, 2, none⟩ = some (.slice none 0 0) := HZ11.out.zb.at' 2 (by omega)
                  have z3 : w11.cell? ⟨w.heap.size, 3, none⟩ = some (.int .i64 0) := HZ11.out.zb.at' 3 (by omega)
                  have z4 : w11.cell? ⟨w.heap.size, 4, none⟩ = some (.slice none 0 0) := HZ11.out.zb.at' 4 (by omega)
                  have z5 : w11.cell? ⟨w.heap.size, 5, none⟩ = some (.slice none 0 0) := HZ11.out.zb.at' 5 (by omega)
                  have z6 : w11.cell? ⟨w.heap.size, 6, none⟩ = some (.slice none 0 0) := HZ11.out.zb.at' 6 (by omega)
                  have zf := HZ11.out.zb.fz
                  clear hows hb11 hv0 hv1 hv2 hv3 HFI HBK HRP HRA
                  (first | dsimp only | skip)
                  go_wp2_with fail
                  repeat (first | go_values | go_skip | go_guarded | go_step | go_upon)
                  refine bodyPost_ret (v := .tuple #[.agg #[.slice og lg cg, .slice op lr cp, .slice q0 l0 d0, .int .i64 c, .slice q1 l1 d1, .slice q2 l2 d2, .slice q3 l3 d3], .int .i64 0]) (by simp only [results, hres]; go_simp) rfl ?_
                  exact HFF.out
                | some m =>
                  unfold alignRes
                  have HSM := Lib.hid (HA1.out.some_at m rfl)
                  have HMA2 : Hid (w3.heap.size ≤ w6.heap.size) := by have h1 := HLY.out.lom; have h2 := HLY.out.him; show _ ≤ _; omega
                  have hL512 : L ≤ 512 := by have h1 := HLL.out; have h2 := HSL.out; have h3 := HMM.out; have h4 := HFL.out.len; omega
                  rcases HO1.out with ⟨e1, e2⟩ | ⟨bb, x, e1, hr⟩
                  · subst e1 e2
                    obtain rfl : L = 0 := by have := HC1.out; omega
                    go_wp2
                    go_loopw [14] (fun v wr => ∃ n1 : Nat, n1 ≤ 0 ∧ v = .int .i64 n1 ∧ Hid ((∃ q, wr = w10.drewN q) ∧ ∀ i (hi : i < S.length), d ≤ i → i < d + n1 → S[i].cyc = c)) (fun v _ => 0 - (intOf v).toNat)
                    case atStart => exact ⟨0, by omega, rfl, ⟨0, rfl⟩, fun i hi h1 h2 => by omega⟩
                    case round =>
                      obtain ⟨n1, hn1, rfl, HX⟩ := hrel
                      obtain rfl : n1 = 0 := by omega
                      clear hn1
                      rw [show ((0 : Nat) : Int) = 0 from rfl]
                      have m4 : wr.cell? ⟨mb, 4, none⟩ = some (.int .i64 c) := by obtain ⟨q, hq⟩ := HX.out.1; rw [hq]; exact HM10.out.tab.at' 4 (by omega)
                      have HN1 : Hid (d + 0 ≤ S.length) := by have := HLL.out; have := HRA.out.st.dl; show _ ≤ _; omega
                      have HEND : Hid (∀ hi : d + 0 < S.length, S[d + 0].cyc ≠ c) := fun hi => by have := HLL.out; omega
                      have HEQ := Lib.hid HX.out.2
                      have HQX := Lib.hid HX.out.1
                      clear HX
                      go_wp2
                      go_quiet (fail)
                      have HQ : Hid (∃ q, wr.drewN nq = w10.drewN q) := by
                        obtain ⟨q, hq⟩ := HQX.out
                        exact ⟨q + nq, by rw [hq, drewN_drewN]⟩
                      clear m4 HQX
                      generalize wr.drewN nq = w12 at *
                      have hpl : ((S.drop d).take 0).length = 0 := by rw [List.length_take, List.length_drop]; omega
                      have HPL := Lib.hid hpl
                      clear hpl
                      obtain ⟨b, hb⟩ : ∃ b, b = fineV fs F c a1 := ⟨_, rfl⟩
                      have HB := Lib.hid hb
                      clear hb
                      have HCA : Hid (CycAt w3 w12 w6.heap.size fs so sc mb bf cf fb a1 g p c vg vp rv F ((S.drop d).take 0)) := by
                        obtain ⟨q, hq⟩ := HQ.out
                        rw [hq]
                        refine ⟨HM10.out.drewN q, HRP.out.calm ((Calm.refl _ w10).drewN q), HZS.out, HSM.out.1, HI1.out.win, HI1.out.used, HRA.out.gl HFO.out.one, HI1.out.len, ?_, fun k _ => HRA.out.st.fed HFL.out.one HN1.out HEQ.out HEND.out k⟩
                        have h1 := HPL.out
                        have h2 := HSL.out
                        have h3 := HMM.out
                        have h4 := HFL.out.len
                        have h5 := HN1.out
                        omega
                      have HOW12 : Hid (Own w12 w6.heap.size 55 3 encFt (.slice oG M cG) S) := by obtain ⟨q, hq⟩ := HQ.out; rw [hq]; exact HOW.out.drewN q
                      have HPF : Hid (Flat w12 3 encFt none ((S.drop d).take 0)) := fun i hi => by simp at hi
                      have hcy := cycle_any none 0 m HCA.out HLY.out (Nat.le_refl _) HMA2.out HPF.out b HB.out.symm
                      rw [HPL.out] at hcy
                      have HCY := Lib.hid hcy
                      clear hcy HPF HCA
                      go_wp2_with fail
                      refine HCY.out.mono ?_
                      rintro e w13 ⟨vg2, vp2, rv2, rfl, hm13, hr13, hs13, hk13⟩
                      have HM13 := Lib.hid hm13
                      have HR13 := Lib.hid hr13
                      have HK13 := Lib.hid hk13
                      have hs13' : w10.heap.size ≤ w13.heap.size := by obtain ⟨q, hq⟩ := HQ.out; rw [hq] at hs13; exact hs13
                      have HS13 := Lib.hid hs13'
                      have m4 : w13.cell? ⟨mb, 4, none⟩ = some (.int .i64 c) := hm13.tab.at' 4 (by omega)
                      have mf := hm13.tab.fz
                      have HNE : Hid (∀ j, (Value.slice oG M cG).ownBlock = some j → w13.heap[j]? = w12.heap[j]? ∧ vg2.ownBlock ≠ some j ∧ vp2.ownBlock ≠ some j) := fun j hj => hk13 j (HOW12.out.lt hj).1 (HOW12.out.lt hj).2 (HRA.out.ne j hj).1 (HRA.out.ne j hj).2
                      have x9 : IntKind.i64.wrap ((c : Int) + 1) = (c : Int) + 1 := IntWalk.i64_in _ (by have := HCC.out; omega)
                      have HNX : Hid (∃ g p vg vp rv, RunAt w3 (w13.setCell ⟨mb, 4, none⟩ (.int .i64 ((c : Int) + 1))) w6.heap.size fs so sc mb bf cf fb F S (.slice oG M cG) (c + 1) (d + 0) (goOn fs F c a1) g p vg vp rv) := by
                        have hcalm : Calm w6.heap.size w13 (w13.setCell ⟨mb, 4, none⟩ (.int .i64 ((c : Int) + 1))) := (Calm.refl _ w13).set HLY.out.him 4 _
                        refine ⟨_, _, vg2, vp2, rv2, ⟨HM13.out.setM HLY.out (Nat.le_refl _) (i := 4) (by omega) (.int .i64 ((c : Int) + 1)) (fun j hj => by
                          match j, hj with
                          | 0, _ => rfl
                          | 1, _ => rfl
                          | 2, _ => rfl
                          | 3, _ => rfl
                          | 4, _ => rfl
                          | 5, _ => rfl
                          | 6, _ => rfl
                          | 7, _ => rfl), HR13.out.calm hcalm, (HOW12.out.blocks fun j hj => (HNE.out j hj).1).calm hcalm, fun j hj => (HNE.out j hj).2, HRA.out.st.next HN1.out HEQ.out HEND.out, ?_, ?_, fun c' a' g' p' hrun => HRA.out.back c' a' g' p' (back_next HA1.out b HB.out.symm hrun)⟩⟩
                        · rw [HSM.out.2.2]
                          exact HI1.out.next HSM.out.1 HSM.out.2.1 b HB.out.symm
                        · exact Nat.le_trans HZS.out (Nat.le_trans HS13.out hcalm.size)
                      have HMS : Hid (remTo fs (goOn fs F c a1) fs.length + (S.length - (d + 0)) < gk) := by
                        have h1 := rem_go HRA.out.st HFL.out.one HN1.out HEQ.out HEND.out HSM.out.1 HI1.out.win HFO.out.one
                        have h2 := remTo_le fs a a1 fs.length fun k _ => (HA1.out.within HRA.out.inv.win).2 k
                        have h3 := HGK.out
                        show _ < _
                        omega
                      have HC2 : Hid (c + 1 + (remTo fs (goOn fs F c a1) fs.length + (S.length - (d + 0))) ≤ 10000) := by
                        have h1 := HCC.out
                        have h2 := HMS.out
                        show _ ≤ _
                        omega
                      have HRR : Hid (RemAt (.slice oG M cG) S (d + 0) (.slice none 0 0)) := by
                        have h := HLL.out
                        exact ⟨none, 0, by rw [Nat.add_zero, ← h], by omega, .inl ⟨rfl, rfl⟩⟩
                      clear hm13 hr13 hk13 hs13 hs13' HCY HNE HM13 HR13 HK13
                      go_wp2
                      go_roundg (remTo fs (goOn fs F c a1) fs.length + (S.length - (d + 0)))
                      case measure => exact HMS.out
                      case rel => exact ⟨c + 1, d + 0, goOn fs F c a1, rfl, HNX, HRR, HC2⟩
                  · subst e1
                    have HHR := Lib.hid hr
                    clear hr
                    go_wp2
                    go_loopw [14] (fun v wr => ∃ n1 : Nat, n1 ≤ L ∧ v = .int .i64 n1 ∧ Hid ((∃ q, wr = w10.drewN q) ∧ ∀ i (hi : i < S.length), d ≤ i → i < d + n1 → S[i].cyc = c)) (fun v _ => L - (intOf v).toNat)
                    case atStart => exact ⟨0, by omega, rfl, ⟨0, rfl⟩, fun i hi h1 h2 => by omega⟩
                    case round =>
                      obtain ⟨n1, hn1, rfl, HX⟩ := hrel
                      have m4 : wr.cell? ⟨mb, 4, none⟩ = some (.int .i64 c) := by obtain ⟨q, hq⟩ := HX.out.1; rw [hq]; exact HM10.out.tab.at' 4 (by omega)
                      by_cases hlt : n1 < L
                      · have hix : d + n1 < S.length := by have := HLL.out; omega
                        have HOWR : Hid (Own wr w6.heap.size 55 3 encFt (.slice oG M cG) S) := by obtain ⟨q, hq⟩ := HX.out.1; rw [hq]; exact HOW.out.drewN q
                        have f0 := RemAt.cell HOWR.out HHR.out hix
                        obtain ⟨y, hy⟩ : ∃ y, y = S[d + n1].cyc := ⟨_, rfl⟩
                        rw [← hy] at f0
                        have HY := Lib.hid hy
                        have kd : (n1 : Int) < (L : Int) := by omega
                        have k0 : (0 : Int) ≤ (n1 : Int) := by omega
                        clear hy HOWR
                        by_cases hyc : y = (c : Int)
                        · have HNX : Hid (∀ i (hi : i < S.length), d ≤ i → i < d + (n1 + 1) → S[i].cyc = c) := fun i hi h1 h2 => by
                            by_cases e : i = d + n1
                            · subst e; rw [← HY.out]; exact hyc
                            · exact HX.out.2 i hi h1 (by omega)
                          have HQX := Lib.hid HX.out.1
                          subst hyc
                          clear HX
                          go_wp2
                          go_quiet (fail)
                          have HNX2 : Hid ((∃ q, wr.drewN nq = w10.drewN q) ∧ ∀ i (hi : i < S.length), d ≤ i → i < d + (n1 + 1) → S[i].cyc = c) := by
                            obtain ⟨q, hq⟩ := HQX.out
                            exact ⟨⟨q + nq, by rw [hq, drewN_drewN]⟩, HNX.out⟩
                          clear f0 m4
                          go_wp2
                          go_roundw
                          case rel => exact ⟨n1 + 1, by omega, by go_num, HNX2⟩
                          case measure => simp [intOf]; omega
                        · have hbe : (y == (c : Int)) = false := by simpa using hyc
                          have HN1 : Hid (d + n1 ≤ S.length) := by show _ ≤ _; omega
                          have HEND : Hid (∀ hi : d + n1 < S.length, S[d + n1].cyc ≠ c) := fun hi => by rw [← HY.out]; exact hyc
                          have HEQ := Lib.hid HX.out.2
                          have HQX := Lib.hid HX.out.1
                          clear HX
                          go_wp2
                          go_quiet (fail)
                          have HQ : Hid (∃ q, wr.drewN nq = w10.drewN q) := by
                            obtain ⟨q, hq⟩ := HQX.out
                            exact ⟨q + nq, by rw [hq, drewN_drewN]⟩
                          clear f0 m4 HQX hyc hbe
                          generalize wr.drewN nq = w12 at *
                          have hpl : ((S.drop d).take n1).length = n1 := by rw [List.length_take, List.length_drop]; have := HN1.out; omega
                          have HPL := Lib.hid hpl
                          clear hpl
                          obtain ⟨b, hb⟩ : ∃ b, b = fineV fs F c a1 := ⟨_, rfl⟩
                          have HB := Lib.hid hb
                          clear hb
                          have HCA : Hid (CycAt w3 w12 w6.heap.size fs so sc mb bf cf fb a1 g p c vg vp rv F ((S.drop d).take n1)) := by
                            obtain ⟨q, hq⟩ := HQ.out
                            rw [hq]
                            refine ⟨HM10.out.drewN q, HRP.out.calm ((Calm.refl _ w10).drewN q), HZS.out, HSM.out.1, HI1.out.win, HI1.out.used, HRA.out.gl HFO.out.one, HI1.out.len, ?_, fun k _ => HRA.out.st.fed HFL.out.one HN1.out HEQ.out HEND.out k⟩
                            have h1 := HPL.out
                            have h2 := HSL.out
                            have h3 := HMM.out
                            have h4 := HFL.out.len
                            have h5 := HN1.out
                            omega
                          have HOW12 : Hid (Own w12 w6.heap.size 55 3 encFt (.slice oG M cG) S) := by obtain ⟨q, hq⟩ := HQ.out; rw [hq]; exact HOW.out.drewN q
                          have HPF : Hid (Flat w12 3 encFt (some ⟨bb, x, none⟩) ((S.drop d).take n1)) := RemAt.flat HOW12.out HHR.out HN1.out
                          have hcy := cycle_any (some ⟨bb, x, none⟩) c1 m HCA.out HLY.out (Nat.le_refl _) HMA2.out HPF.out b HB.out.symm
                          rw [HPL.out] at hcy
                          have HCY := Lib.hid hcy
                          have hn1c : n1 ≤ c1 := by have := HC1.out; omega
                          clear hcy HPF HCA
                          go_wp2_with fail
                          refine HCY.out.mono ?_
                          rintro e w13 ⟨vg2, vp2, rv2, rfl, hm13, hr13, hs13, hk13⟩
                          have HM13 := Lib.hid hm13
                          have HR13 := Lib.hid hr13
                          have HK13 := Lib.hid hk13
                          have hs13' : w10.heap.size ≤ w13.heap.size := by obtain ⟨q, hq⟩ := HQ.out; rw [hq] at hs13; exact hs13
                          have HS13 := Lib.hid hs13'
                          have m4 : w13.cell? ⟨mb, 4, none⟩ = some (.int .i64 c) := hm13.tab.at' 4 (by omega)
                          have mf := hm13.tab.fz
                          have HNE : Hid (∀ j, (Value.slice oG M cG).ownBlock = some j → w13.heap[j]? = w12.heap[j]? ∧ vg2.ownBlock ≠ some j ∧ vp2.ownBlock ≠ some j) := fun j hj => hk13 j (HOW12.out.lt hj).1 (HOW12.out.lt hj).2 (HRA.out.ne j hj).1 (HRA.out.ne j hj).2
                          have x9 : IntKind.i64.wrap ((c : Int) + 1) = (c : Int) + 1 := IntWalk.i64_in _ (by have := HCC.out; omega)
                          have HNX : Hid (∃ g p vg vp rv, RunAt w3 (w13.setCell ⟨mb, 4, none⟩ (.int .i64 ((c : Int) + 1))) w6.heap.size fs so sc mb bf cf fb F S (.slice oG M cG) (c + 1) (d + n1) (goOn fs F c a1) g p vg vp rv) := by
                            have hcalm : Calm w6.heap.size w13 (w13.setCell ⟨mb, 4, none⟩ (.int .i64 ((c : Int) + 1))) := (Calm.refl _ w13).set HLY.out.him 4 _
                            refine ⟨_, _, vg2, vp2, rv2, ⟨HM13.out.setM HLY.out (Nat.le_refl _) (i := 4) (by omega) (.int .i64 ((c : Int) + 1)) (fun j hj => by
                              match j, hj with
                              | 0, _ => rfl
                              | 1, _ => rfl
                              | 2, _ => rfl
                              | 3, _ => rfl
                              | 4, _ => rfl
                              | 5, _ => rfl
                              | 6, _ => rfl
                              | 7, _ => rfl), HR13.out.calm hcalm, (HOW12.out.blocks fun j hj => (HNE.out j hj).1).calm hcalm, fun j hj => (HNE.out j hj).2, HRA.out.st.next HN1.out HEQ.out HEND.out, ?_, ?_, fun c' a' g' p' hrun => HRA.out.back c' a' g' p' (back_next HA1.out b HB.out.symm hrun)⟩⟩
                            · rw [HSM.out.2.2]
                              exact HI1.out.next HSM.out.1 HSM.out.2.1 b HB.out.symm
                            · exact Nat.le_trans HZS.out (Nat.le_trans HS13.out hcalm.size)
                          have HMS : Hid (remTo fs (goOn fs F c a1) fs.length + (S.length - (d + n1)) < gk) := by
                            have h1 := rem_go HRA.out.st HFL.out.one HN1.out HEQ.out HEND.out HSM.out.1 HI1.out.win HFO.out.one
                            have h2 := remTo_le fs a a1 fs.length fun k _ => (HA1.out.within HRA.out.inv.win).2 k
                            have h3 := HGK.out
                            show _ < _
                            omega
                          have HC2 : Hid (c + 1 + (remTo fs (goOn fs F c a1) fs.length + (S.length - (d + n1))) ≤ 10000) := by
                            have h1 := HCC.out
                            have h2 := HMS.out
                            show _ ≤ _
                            omega
                          have hn1L : n1 ≤ L := by have := HN1.out; have := HLL.out; omega
                          have HRC : Hid (c1 = n1 → RemAt (.slice oG M cG) S (d + n1) (.slice (some ⟨bb, x, none⟩) (L - n1) (c1 - n1))) := fun e => by
                            have h1 := HC1.out
                            rw [HLL.out] at h1 ⊢
                            exact RemAt.cutN h1 HN1.out e (.inr ⟨bb, x, rfl⟩)
                          have HRS2 : Hid (RemAt (.slice oG M cG) S (d + n1) (.slice (some ⟨bb, x + n1 * 3, none⟩) (L - n1) (c1 - n1))) := by
                            have h1 := HC1.out
                            show RemAt _ _ _ _
                            rw [HLL.out] at h1 ⊢
                            exact RemAt.cutS h1 HN1.out HHR.out
                          clear hm13 hr13 hk13 hs13 hs13' HCY HNE HM13 HR13 HK13
                          by_cases hcn : c1 = n1
                          · have h5 := HRC.out hcn
                            clear HRC HRS2
                            subst hcn
                            rw [Nat.sub_self] at h5
                            have HRR := Lib.hid h5
                            clear h5
                            go_wp2
                            go_roundg (remTo fs (goOn fs F c a1) fs.length + (S.length - (d + c1)))
                            case measure => exact HMS.out
                            case rel => exact ⟨c + 1, d + c1, goOn fs F c a1, rfl, HNX, HRR, HC2⟩
                          · clear HRC
                            go_wp2
                            go_roundg (remTo fs (goOn fs F c a1) fs.length + (S.length - (d + n1)))
                            case measure => exact HMS.out
                            case rel => exact ⟨c + 1, d + n1, goOn fs F c a1, rfl, HNX, HRS2, HC2⟩
                      · have hnl : ¬ (n1 : Int) < (L : Int) := by omega
                        have HN1 : Hid (d + n1 ≤ S.length) := by have := HLL.out; have := HRA.out.st.dl; show _ ≤ _; omega
                        have HEND : Hid (∀ hi : d + n1 < S.length, S[d + n1].cyc ≠ c) := fun hi => by have := HLL.out; omega
                        have HEQ := Lib.hid HX.out.2
                        have HQX := Lib.hid HX.out.1
                        clear HX
                        go_wp2
                        go_quiet (fail)
                        have HQ : Hid (∃ q, wr.drewN nq = w10.drewN q) := by
                          obtain ⟨q, hq⟩ := HQX.out
                          exact ⟨q + nq, by rw [hq, drewN_drewN]⟩
                        clear m4 HQX hnl hlt
                        generalize wr.drewN nq = w12 at *
                        have hpl : ((S.drop d).take n1).length = n1 := by rw [List.length_take, List.length_drop]; have := HN1.out; omega
                        have HPL := Lib.hid hpl
                        clear hpl
                        obtain ⟨b, hb⟩ : ∃ b, b = fineV fs F c a1 := ⟨_, rfl⟩
                        have HB := Lib.hid hb
                        clear hb
                        have HCA : Hid (CycAt w3 w12 w6.heap.size fs so sc mb bf cf fb a1 g p c vg vp rv F ((S.drop d).take n1)) := by
                          obtain ⟨q, hq⟩ := HQ.out
                          rw [hq]
                          refine ⟨HM10.out.drewN q, HRP.out.calm ((Calm.refl _ w10).drewN q), HZS.out, HSM.out.1, HI1.out.win, HI1.out.used, HRA.out.gl HFO.out.one, HI1.out.len, ?_, fun k _ => HRA.out.st.fed HFL.out.one HN1.out HEQ.out HEND.out k⟩
                          have h1 := HPL.out
                          have h2 := HSL.out
                          have h3 := HMM.out
                          have h4 := HFL.out.len
                          have h5 := HN1.out
                          omega
                        have HOW12 : Hid (Own w12 w6.heap.size 55 3 encFt (.slice oG M cG) S) := by obtain ⟨q, hq⟩ := HQ.out; rw [hq]; exact HOW.out.drewN q
                        have HPF : Hid (Flat w12 3 encFt (some ⟨bb, x, none⟩) ((S.drop d).take n1)) := RemAt.flat HOW12.out HHR.out HN1.out
                        have hcy := cycle_any (some ⟨bb, x, none⟩) c1 m HCA.out HLY.out (Nat.le_refl _) HMA2.out HPF.out b HB.out.symm
                        rw [HPL.out] at hcy
                        have HCY := Lib.hid hcy
                        have hn1c : n1 ≤ c1 := by have := HC1.out; omega
                        clear hcy HPF HCA
                        go_wp2_with fail
                        refine HCY.out.mono ?_
                        rintro e w13 ⟨vg2, vp2, rv2, rfl, hm13, hr13, hs13, hk13⟩
                        have HM13 := Lib.hid hm13
                        have HR13 := Lib.hid hr13
                        have HK13 := Lib.hid hk13
                        have hs13' : w10.heap.size ≤ w13.heap.size := by obtain ⟨q, hq⟩ := HQ.out; rw [hq] at hs13; exact hs13
                        have HS13 := Lib.hid hs13'
                        have m4 : w13.cell? ⟨mb, 4, none⟩ = some (.int .i64 c) := hm13.tab.at' 4 (by omega)
                        have mf := hm13.tab.fz
                        have HNE : Hid (∀ j, (Value.slice oG M cG).ownBlock = some j → w13.heap[j]? = w12.heap[j]? ∧ vg2.ownBlock ≠ some j ∧ vp2.ownBlock ≠ some j) := fun j hj => hk13 j (HOW12.out.lt hj).1 (HOW12.out.lt hj).2 (HRA.out.ne j hj).1 (HRA.out.ne j hj).2
                        have x9 : IntKind.i64.wrap ((c : Int) + 1) = (c : Int) + 1 := IntWalk.i64_in _ (by have := HCC.out; omega)
                        have HNX : Hid (∃ g p vg vp rv, RunAt w3 (w13.setCell ⟨mb, 4, none⟩ (.int .i64 ((c : Int) + 1))) w6.heap.size fs so sc mb bf cf fb F S (.slice oG M cG) (c + 1) (d + n1) (goOn fs F c a1) g p vg vp rv) := by
                          have hcalm : Calm w6.heap.size w13 (w13.setCell ⟨mb, 4, none⟩ (.int .i64 ((c : Int) + 1))) := (Calm.refl _ w13).set HLY.out.him 4 _
                          refine ⟨_, _, vg2, vp2, rv2, ⟨HM13.out.setM HLY.out (Nat.le_refl _) (i := 4) (by omega) (.int .i64 ((c : Int) + 1)) (fun j hj => by
                            match j, hj with
                            | 0, _ => rfl
                            | 1, _ => rfl
                            | 2, _ => rfl
                            | 3, _ => rfl
                            | 4, _ => rfl
                            | 5, _ => rfl
                            | 6, _ => rfl
                            | 7, _ => rfl), HR13.out.calm hcalm, (HOW12.out.blocks fun j hj => (HNE.out j hj).1).calm hcalm, fun j hj => (HNE.out j hj).2, HRA.out.st.next HN1.out HEQ.out HEND.out, ?_, ?_, fun c' a' g' p' hrun => HRA.out.back c' a' g' p' (back_next HA1.out b HB.out.symm hrun)⟩⟩
                          · rw [HSM.out.2.2]
                            exact HI1.out.next HSM.out.1 HSM.out.2.1 b HB.out.symm
                          · exact Nat.le_trans HZS.out (Nat.le_trans HS13.out hcalm.size)
                        have HMS : Hid (remTo fs (goOn fs F c a1) fs.length + (S.length - (d + n1)) < gk) := by
                          have h1 := rem_go HRA.out.st HFL.out.one HN1.out HEQ.out HEND.out HSM.out.1 HI1.out.win HFO.out.one
                          have h2 := remTo_le fs a a1 fs.length fun k _ => (HA1.out.within HRA.out.inv.win).2 k
                          have h3 := HGK.out
                          show _ < _
                          omega
                        have HC2 : Hid (c + 1 + (remTo fs (goOn fs F c a1) fs.length + (S.length - (d + n1))) ≤ 10000) := by
                          have h1 := HCC.out
                          have h2 := HMS.out
                          show _ ≤ _
                          omega
                        have hn1L : n1 ≤ L := by have := HN1.out; have := HLL.out; omega
                        have HRC : Hid (c1 = n1 → RemAt (.slice oG M cG) S (d + n1) (.slice (some ⟨bb, x, none⟩) (L - n1) (c1 - n1))) := fun e => by
                          have h1 := HC1.out
                          rw [HLL.out] at h1 ⊢
                          exact RemAt.cutN h1 HN1.out e (.inr ⟨bb, x, rfl⟩)
                        have HRS2 : Hid (RemAt (.slice oG M cG) S (d + n1) (.slice (some ⟨bb, x + n1 * 3, none⟩) (L - n1) (c1 - n1))) := by
                          have h1 := HC1.out
                          show RemAt _ _ _ _
                          rw [HLL.out] at h1 ⊢
                          exact RemAt.cutS h1 HN1.out HHR.out
                        clear hm13 hr13 hk13 hs13 hs13' HCY HNE HM13 HR13 HK13
                        by_cases hcn : c1 = n1
                        · have h5 := HRC.out hcn
                          clear HRC HRS2
                          subst hcn
                          rw [Nat.sub_self] at h5
                          have HRR := Lib.hid h5
                          clear h5
                          go_wp2
                          go_roundg (remTo fs (goOn fs F c a1) fs.length + (S.length - (d + c1)))
                          case measure => exact HMS.out
                          case rel => exact ⟨c + 1, d + c1, goOn fs F c a1, rfl, HNX, HRR, HC2⟩
                        · clear HRC
                          go_wp2
                          go_roundg (remTo fs (goOn fs F c a1) fs.length + (S.length - (d + n1)))
                          case measure => exact HMS.out
                          case rel => exact ⟨c + 1, d + n1, goOn fs F c a1, rfl, HNX, HRS2, HC2⟩
  · have hEC : E = C := by rw [← HE.out]; unfold runErr; rw [if_neg (by rw [← HC.out]; exact hc0), ← HC.out]
    have hbe : (C == 0) = false := by simpa using hc0
    have hbn : (C != 0) = true := by simpa using hc0
    have HB := Lib.hid (HZ2.out.bad (fs := fs) (F := F) (E := C) hc0)
    subst hEC
    have z0 : (w2).cell? ⟨w.heap.size, 0, none⟩ = some (.slice none 0 0) := HZ2.out.zb.at' 0 (by omega)
    have z1 : (w2).cell? ⟨w.heap.size, 1, none⟩ = some (.slice none 0 0) := HZ2.out.zb.at' 1 (by omega)
    have z2 : (w2).cell? ⟨w.heap.size, 2, none⟩ = some (.slice none 0 0) := HZ2.out.zb.at' 2 (by omega)
    have z3 : (w2).cell? ⟨w.heap.size, 3, none⟩ = some (.int .i64 0) := HZ2.out.zb.at' 3 (by omega)
    have z4 : (w2).cell? ⟨w.heap.size, 4, none⟩ = some (.slice none 0 0) := HZ2.out.zb.at' 4 (by omega)
    have z5 : (w2).cell? ⟨w.heap.size, 5, none⟩ = some (.slice none 0 0) := HZ2.out.zb.at' 5 (by omega)
    have z6 : (w2).cell? ⟨w.heap.size, 6, none⟩ = some (.slice none 0 0) := HZ2.out.zb.at' 6 (by omega)
    have zf := HZ2.out.zb.fz
    go_wp2
    refine bodyPost_ret (v := .tuple #[.agg #[.slice none 0 0, .slice none 0 0, .slice none 0 0, .int .i64 0, .slice none 0 0, .slice none 0 0, .slice none 0 0], .int .i64 E]) (by simp only [results, hres]; go_simp) rfl ?_
    exact HB.out
end Go.Proofs.YtcpjpmijfjdifaaGreatDoor
