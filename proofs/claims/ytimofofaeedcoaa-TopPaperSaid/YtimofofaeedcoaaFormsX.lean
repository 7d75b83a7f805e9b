/-
  The walk of gang.Forms. Own text.
-/
import Derived.Test.YtimofofaeedcoaaFormsW
namespace Go.Proofs.Ytimofofaeedcoaa
open Go.RowKit
set_option linter.unusedVariables false
theorem omem_start (w : World) (od : Option Addr) (ds : List Int) (cd : Nat) : OMem w w.heap.size (w.heap.size + 1 + 1) (w.heap.size + 1) od ds cd (fun j => if j < 0 then (j : Int) else 0) (((w.alloc (.cells #[.slice od ds.length cd] 23)).alloc (.cells (madeArr (.int .i64 0) ds.length) 3)).alloc (.cells #[.slice (some ⟨w.heap.size + 1, 0, none⟩) ds.length ds.length] 23)) := by
  have s1 : (w.alloc (.cells #[.slice od ds.length cd] 23)).heap.size = w.heap.size + 1 := World.size_alloc _ _
  have s2 : ((w.alloc (.cells #[.slice od ds.length cd] 23)).alloc (.cells (madeArr (.int .i64 0) ds.length) 3)).heap.size = w.heap.size + 1 + 1 := by rw [World.size_alloc, s1]
  have ht : FTab (Value.int .i64) ((w.alloc (.cells #[.slice od ds.length cd] 23)).alloc (.cells (madeArr (.int .i64 0) ds.length) 3)) (w.heap.size + 1) ds.length (fun _ => 0) := by
    rw [← s1]
    exact FTab.made (Value.int .i64) _ _ 0 _
  refine ⟨balloc (balloc (balloc (Below.refl _ _) _) _) _, ?_, ?_, ?_, by rw [World.size_alloc, s2]; omega⟩
  · rw [← s2, cell_of_row _ _ 0 _ _ (0, 0) (heap_alloc_new _ _)]; rfl
  · go_simp
  · exact (ht.alloc (by rw [s2]; omega) _).congr fun i hi => (if_neg (by omega)).symm
theorem OMem.step {w0 w : World} {bd bo go : Nat} {od : Option Addr} {ds : List Int} {cd k : Nat} (h : OMem w0 bd bo go od ds cd (fun j => if j < k then (j : Int) else 0) w) (l3 : w0.heap.size ≤ go) (d1 : bd ≠ go) (d2 : bo ≠ go) (hk : k < ds.length) :
    OMem w0 bd bo go od ds cd (fun j => if j < k + 1 then (j : Int) else 0) (w.setCell ⟨go, k, none⟩ (.int .i64 (k : Int))) := by
  refine ⟨h.bel.trans ((Below.refl _ _).setCell l3 _), ?_, ?_, (h.ot.set hk (k : Int)).congr fun i hi => ?_, ?_⟩
  · have := h.co; go_simp
  · have := h.cd; go_simp
  · by_cases e : i = k
    · subst e; rw [if_pos rfl, if_pos (by omega)]
    · rw [if_neg e]
      by_cases e2 : i < k
      · rw [if_pos e2, if_pos (by omega)]
      · rw [if_neg e2, if_neg (by omega)]
  · have := h.lt
    simpa [World.setCell] using this
theorem OMem.sorted {w0 w w' : World} {bd bo go : Nat} {od : Option Addr} {ds : List Int} {cd : Nat} {T : Nat → Int} (h : OMem w0 bd bo go od ds cd T w) (l3 : w0.heap.size ≤ go) (d1 : bd ≠ go) (d2 : bo ≠ go)
    (hs : Below go w w' ∧ (∀ a : Addr, a.block ≠ go → w'.cell? a = w.cell? a) ∧ w'.heap.size = w.heap.size ∧ FTab (Value.int .i64) w' go ds.length (fun i => (((ordV ds).getD i 0 : Nat) : Int))) :
    OMem w0 bd bo go od ds cd (fun i => (((ordV ds).getD i 0 : Nat) : Int)) w' := by
  obtain ⟨h1, h2, h3, h4⟩ := hs
  exact ⟨h.bel.trans (h1.mono l3), by rw [h2 _ d2]; exact h.co, by rw [h2 _ d1]; exact h.cd, h4, by rw [h3]; exact h.lt⟩
set_option maxRecDepth 100000 in
set_option maxHeartbeats 4000000 in
theorem forms_ok (od : Option Addr) (ds : List Int) (cd : Nat) (s p : Int) (w : World) (hx : Flat w 1 encInt od ds) (hc : gchk ds s = 0) (hp0 : 0 ≤ p) (hp1 : p ≤ 1048576) :
    Calls Try.prog 6 #[.slice od ds.length cd, .int .i64 s, .int .i64 p] w (RetForms ds s p w) := by
  obtain ⟨l1, l2, hd, s1, s2⟩ := gchk_zero hc
  have hm : ds.length ≤ maxLen := by unfold maxLen; omega
  obtain ⟨bx, ox, hod, hcx⟩ := hx.int (i := 0) (by omega)
  have hbx : bx < w.heap.size := cell?_lt hcx
  clear hcx
  have hod2 : Hid (∀ b off, od = some ⟨b, off, none⟩ → b < w.heap.size) := by
    intro b off e
    rw [hod] at e
    cases e
    exact hbx
  clear hod hbx
  obtain ⟨m, hmm⟩ : ∃ m, ds.length = m + 1 := ⟨ds.length - 1, by omega⟩
  have HMM := Lib.hid hmm; clear hmm
  have hb0 := Lib.hid (balloc (Below.refl _ w) (.cells #[.slice od ds.length cd] 23))
  have hx1 := hx.below hb0.out
  have HD := Lib.hid (vals_demands hd); clear hd
  have HC := Lib.hid hc; clear hc
  have HX := Lib.hid hx; clear hx
  have mk := run_makeArr (P := Try.prog) elemInt Try.underlying23 (.int .i64 0) rfl ds.length (by omega) (by omega)
  go_enter Try.func6, Try.ntmps6
  go_wp2_with (go_at_call 13; refine (gcheck_any _ _ _ _ _ hm hx1).mono ?_; rintro e w' ⟨rfl, rfl⟩; rw [HC.out])
  have HO : Hid (OMem w w.heap.size (w.heap.size + 1 + 1) (w.heap.size + 1) od ds cd (fun j => if j < 0 then (j : Int) else 0) (((w.alloc (.cells #[.slice od ds.length cd] 23)).alloc (.cells (madeArr (.int .i64 0) ds.length) 3)).alloc (.cells #[.slice (some ⟨w.heap.size + 1, 0, none⟩) ds.length ds.length] 23))) := omem_start w od ds cd
  have HA : Hid (w.heap.size ≤ w.heap.size ∧ w.heap.size ≤ w.heap.size + 1 + 1 ∧ w.heap.size ≤ w.heap.size + 1 ∧ w.heap.size ≠ w.heap.size + 1 ∧ w.heap.size + 1 + 1 ≠ w.heap.size + 1 ∧ w.heap.size ≠ w.heap.size + 1 + 1) := ⟨by omega, by omega, by omega, by omega, by omega, by omega⟩
  clear mk hx1 hb0
  generalize hbo : w.heap.size + 1 + 1 = bo at *
  generalize hgo : w.heap.size + 1 = go at *
  clear hbo hgo
  go_loopw [42] (fun t wr => ∃ k : Nat, k ≤ ds.length ∧ t = .int .i64 k ∧ Hid (OMem w w.heap.size bo go od ds cd (fun j => if j < k then (j : Int) else 0) wr)) (fun t _ => ds.length - (intOf t).toNat)
  case atStart => exact ⟨0, by omega, rfl, HO⟩
  case round =>
    clear HO
    obtain ⟨k, hk, rfl, HO⟩ := hrel
    have c1 := HO.out.co
    by_cases hlt : k < ds.length
    · have c2 := HO.out.ot.at' k hlt
      have c3 := HO.out.ot.fz k
      have HN : Hid (OMem w w.heap.size bo go od ds cd (fun j => if j < k + 1 then (j : Int) else 0) (wr.setCell ⟨go, k, none⟩ (.int .i64 (k : Int)))) := OMem.step HO.out HA.out.2.2.1 HA.out.2.2.2.1 HA.out.2.2.2.2.1 hlt
      go_wp2
      go_roundw
      case rel => exact ⟨k + 1, by omega, by go_num, HN⟩
      case measure => simp [intOf]; omega
    · obtain rfl : k = ds.length := by omega
      have HT : Hid (FTab (Value.int .i64) wr go ds.length (fun j => (j : Int))) := HO.out.ot.congr fun i hi => if_pos hi
      have hsort : Hid (∀ cap, Calls Try.prog 14 #[.slice (some ⟨go, 0, none⟩) ds.length cap, .func (.func 15) #[] #[.pointer (some ⟨w.heap.size, 0, none⟩)]] wr (Sorted0 ds go wr)) := fun cap =>
        sortStable_any (m := m) w.heap.size od ds cd go cap wr HMM.out (by omega) HO.out.cd (HX.out.below HO.out.bel) HA.out.2.2.2.1 (fun b off e => by have := hod2.out b off e; have := HA.out.2.2.1; omega) HT.out
      go_upto_region 15 with (go_at_call 14; refine (hsort.out _).mono ?_; rintro e w1 ⟨rfl, hS⟩; have HS := Lib.hid (OMem.sorted HO.out HA.out.2.2.1 HA.out.2.2.2.1 HA.out.2.2.2.2.1 hS); clear hS; have c4 := HS.out.co)
      clear hsort HT HO c1 hm
      obtain ⟨N1, hN1⟩ : ∃ N1 : Nat, N1 = ds.length + 1 := ⟨_, rfl⟩
      have mk1 := run_makeArr (P := Try.prog) elemInt Try.underlying23 (.int .i64 0) rfl N1 (by omega) (by omega)
      have mk2 := run_makeArr (P := Try.prog) elemInt Try.underlying23 (.int .i64 0) rfl ds.length (by omega) (by omega)
      have g1 : IntKind.i64.wrap ((ds.length : Int) + 1) = (N1 : Int) := by rw [IntWalk.i64_in _ (by omega)]; omega
      replace hN1 := Lib.hid hN1
      go_cut [14, 15] (fun s14 s15 wx => ∃ bb nb : Nat, s14 = .slice (some ⟨bb, 0, none⟩) N1 N1 ∧ s15 = .slice (some ⟨nb, 0, none⟩) ds.length ds.length ∧ Hid (FApart w.heap.size w.heap.size bo go bb nb ∧ FMem w w.heap.size bo go bb nb od ds cd (fun _ => 0) (fun _ => 0) wx))
      case first =>
        go_region
        all_goals
          go_wp2_with fail
          go_meet
        all_goals exact ⟨_, _, rfl, rfl, close2 hN1.out rfl HS.out HA.out.1 HA.out.2.1 HA.out.2.2.1 HA.out.2.2.2.1 HA.out.2.2.2.2.1 (by constructor) (by constructor) (by omega)⟩
      case rest =>
        obtain ⟨bb, nb, rfl, rfl, HAM⟩ := hcut
        have HAP := Lib.hid HAM.out.1
        have hvl : (vals ds).length = ds.length := vals_len ds
        have HM0 : Hid (∃ B N, BestFrom (vals ds) s p B N ds.length ∧ FMem w w.heap.size bo go bb nb od ds cd B N wc) := ⟨_, _, hvl ▸ BestFrom.start, HAM.out.2⟩
        have ne1 : bb ≠ nb := fun e => HAM.out.1.d9 e.symm
        have ne2 : nb ≠ bb := HAM.out.1.d9
        clear HAM mk1 mk2 g1 HS c4 HA hod2
        have i0 : ¬ N1 = 0 := by have := hN1.out; omega
        go_wp2
        go_loopw [16] (fun i wr => ∃ k : Nat, k ≤ ds.length ∧ i = .int .i64 ((k : Int) - 1) ∧ Hid (∃ B N, BestFrom (vals ds) s p B N k ∧ FMem w w.heap.size bo go bb nb od ds cd B N wr)) (fun i _ => (intOf i + 1).toNat)
        case atStart => exact ⟨ds.length, Nat.le_refl _, by go_num, HM0⟩
        case round =>
          clear HM0
          obtain ⟨k, hk, rfl, HF⟩ := hrel
          cases k with
          | zero =>
            obtain ⟨B, N, hB, hM⟩ := HF.out
            clear HF
            have HB := Lib.hid hB
            have HM := Lib.hid hM
            clear hB hM
            have hj0 : (((0 : Nat) : Int) - 1) = -1 := by omega
            rw [hj0]
            go_wp2
            obtain ⟨wo, rfl⟩ : ∃ wo : World, wo = wr := ⟨_, rfl⟩
            have HL0 : Hid (FormsIn wo.heap.size wo (.slice none 0 0) (formsV ds s N 0) [] ∧ Below wo.heap.size wo wo) := ⟨FormsIn.nil _ _, Below.refl _ _⟩
            go_loopw [20, 21] (fun l t wr => ∃ (a : Nat) (xs : List FormC), a ≤ pos N a ∧ pos N a ≤ ds.length ∧ Hid (∀ b, b < a → pos N b < ds.length) ∧ t = .int .i64 (pos N a) ∧ Hid (FormsIn wo.heap.size wr l (formsV ds s N a) xs ∧ Below wo.heap.size wo wr)) (fun _ t _ => ds.length - (intOf t).toNat)
            case atStart => exact ⟨0, [], Nat.le_refl _, Nat.zero_le _, fun b h => by omega, rfl, HL0⟩
            case round =>
              clear HL0
              obtain ⟨a, xs, ha, hal, hlts, rfl, HL⟩ := hrel
              obtain ⟨i, hi⟩ : ∃ i, i = pos N a := ⟨_, rfl⟩
              rw [← hi] at ha hal ⊢
              replace hi := Lib.hid hi
              by_cases hlt : i < ds.length
              · have hBA := HB.out.at' i (by omega) (by rw [hvl]; exact hlt)
                obtain ⟨k, hk⟩ : ∃ k, k = N i := ⟨_, rfl⟩
                have hik : i < k := by rw [hk]; exact hBA.lo
                have hkn : k ≤ ds.length := by have := hBA.hi; rw [hvl, ← hk] at this; exact this
                have hks : ((k - i : Nat) : Int) ≤ s := by rw [hk]; exact hBA.fit
                clear hBA
                have HM9 := Lib.hid (HM.out.below (by omega) HL.out.2)
                have t2 : wr.cell? ⟨nb, i, none⟩ = some (.int .i64 (k : Int)) := by rw [hk]; exact HM9.out.tn.at' i hlt
                have Hk := Lib.hid hk
                clear hk
                have hsl : (seg (vals ds) i k).length = k - i := seg_len (by omega) (by rw [hvl]; exact hkn)
                obtain ⟨R, hR⟩ : ∃ R, R = leastV (seg (vals ds) i k) s := ⟨_, rfl⟩
                obtain ⟨ys, hys⟩ : ∃ ys, ys = allotV (seg (vals ds) i k) R := ⟨_, rfl⟩
                have hpart : Hid (Calls Try.prog 17 #[.int .i64 i, .int .i64 k, .pointer (some ⟨bo, 0, none⟩), .pointer (some ⟨w.heap.size, 0, none⟩)] wr (RetSeg (seg (vals ds) i k) wr)) :=
                  part_any bo w.heap.size go od ds cd i k wr l2 (by omega) hkn HM9.out.co HM9.out.cd HM9.out.ot (HX.out.below HM9.out.bel)
                have hseg : Hid (gchk (seg (vals ds) i k) s = 0) := gchk_ok (by omega) (by omega) (fun d hd => HD.out d (seg_mem hd)) s1 s2
                have hal2 : Hid (∀ oa2 c2 w2, Flat w2 1 encInt oa2 (seg (vals ds) i k) → Calls Try.prog 19 #[.slice oa2 (k - i) c2, .int .i64 s] w2 (RetPlate (k - i) ys R w2)) := fun oa2 c2 w2 hf2 =>
                  allot_plate oa2 (seg (vals ds) i k) c2 (k - i) s R ys w2 hsl (by unfold maxLen; omega) hf2 hseg.out (by rw [hsl]; exact hks) hR hys
                have HSL := Lib.hid hsl
                have HRY : Hid (R = leastV (seg (vals ds) i k) s ∧ ys = allotV (seg (vals ds) i k) R) := ⟨hR, hys⟩
                have hpos : Hid (0 < ds.length) := by show 0 < ds.length; omega
                clear hsl hR hys
                go_upto_region 32 with (first
                  | (go_at_call 17; refine hpart.out.mono ?_; rintro e w2 ⟨oa2, c2, rfl, hz2, hf2, hb2⟩; rw [HSL.out]; have HF2 := Lib.hid hf2; have HM2 := Lib.hid (HM9.out.below hpos.out hb2); have HL2 := Lib.hid (HL.out.1.below hb2); have HW2 := Lib.hid (HL.out.2.trans (hb2.mono HL.out.2.size)); have HS2 := Lib.hid hb2.size; have HB2 := Lib.hid hb2; clear hb2 hf2)
                  | (go_at_call 19; refine (hal2.out _ _ _ HF2.out).mono ?_; rintro e w3 ⟨gu, cu, rfl, hf3, hgu1, hgu2, hb3⟩; have HF3 := Lib.hid hf3; have HM3 := Lib.hid (HM2.out.below hpos.out hb3); have HL3 := Lib.hid (HL2.out.below hb3); have HW3 := Lib.hid (HW2.out.trans (hb3.mono HW2.out.size)); have HG3 := Lib.hid (And.intro hgu1 hgu2); have HB3 := Lib.hid (bthen HB2.out hb3); clear hb3 hf3 hgu1 hgu2))
                have hXL : xs.length ≤ 12 := by
                  have h1 := HL.out.1.len
                  rw [formsV_len] at h1
                  omega
                have k1 := HM3.out.co
                have k2 : w3.cell? ⟨nb, i, none⟩ = some (.int .i64 (k : Int)) := by rw [Hk.out]; exact HM3.out.tn.at' i hlt
                have hcl : Hid (∀ w', Below wo.heap.size w3 w' → Calls Try.prog 20 #[.slice (some ⟨go, i, none⟩) (k - i) (ds.length - i)] w' (RetCloneT (k - i) (fun j => (((ordV ds).getD (j + i) 0 : Nat) : Int)) w')) := fun w' hb =>
                  cloneTab go (k - i) ds.length (ds.length - i) i _ w' (by omega) (by omega) (HM3.out.ot.below hb (HM.out.ot.lt hpos.out)) (by omega)
                have hS : Hid (∀ w', Below wo.heap.size w3 w' → (Below wo.heap.size w3 w' ∧ w'.cell? ⟨bo, 0, none⟩ = some (.slice (some ⟨go, 0, none⟩) ds.length ds.length) ∧ w'.cell? ⟨nb, i, none⟩ = some (.int .i64 (k : Int)))) := fun w' hb => ⟨hb, (hb.cell (p := ⟨bo, 0, none⟩) (cell?_lt HM.out.co)).trans k1, (hb.cell (p := ⟨nb, i, none⟩) (HM.out.tn.lt hpos.out)).trans k2⟩
                have hki : (k : Int) - (i : Int) = ((k - i : Nat) : Int) := by omega
                have HW3s := HW3.out.size
                have b1 : (0 : Int) ≤ (i : Int) := by omega
                have b2 : (i : Int) ≤ (k : Int) := by omega
                have b3 : (k : Int) ≤ (ds.length : Int) := by omega
                have b4 : ¬ ds.length = i := by omega
                have b5 : i ≤ k := by omega
                have b6 : (i : Int) ≤ (ds.length : Int) := by omega
                have b7 : (i : Int) < (ds.length : Int) := by omega
                have b8 : ¬ ds.length - i = 0 := by omega
                go_region_held3 (fun w' => Below wo.heap.size w3 w' ∧ w'.cell? ⟨bo, 0, none⟩ = some (.slice (some ⟨go, 0, none⟩) ds.length ds.length) ∧ w'.cell? ⟨nb, i, none⟩ = some (.int .i64 (k : Int)))
                  ((refine hS.out _ ?_; (first | assumption | go_grown | exact Below.alloc (by assumption) (by omega) _)))
                  (first | fail | (go_simp; go_at_call 20; (with_reducible refine (hcl.out _ (And.left (by assumption))).mono ?_); rintro e w5 ⟨gj, cj, rfl, hTj, lj1, lj2, hb5⟩; have hz5 : Below w3.heap.size w3 w5 := bthen (by go_grown) hb5; have hTj := Lib.hid hTj; have hz5s := hz5.size; have lj1' : w3.heap.size ≤ gj := lj1; have hy5 : Below wo.heap.size w3 w5 := hz5.mono HW3s) | (refine step_app1L (by rfl) (.tmp 131) (.tmp 143) 30 (by rfl) elemForm Try.underlying30 wo.heap.size _ xs encF (by rfl) ((HL3.out.below hz5).own.alloc (.cells #[.slice (some ⟨gj, 0, none⟩) (k - i) cj, .slice (some ⟨gu, 0, none⟩) (k - i) cu, .int .i64 R] 34)) (.slice (some ⟨gj, 0, none⟩) (k - i) cj, .slice (some ⟨gu, 0, none⟩) (k - i) cu, R) ⟨w5.heap.size, 0, none⟩ 1 (by rfl) (by rfl) (World.news_of_block (cs := #[.slice (some ⟨gj, 0, none⟩) (k - i) cj, .slice (some ⟨gu, 0, none⟩) (k - i) cu, .int .i64 R]) (t := 34) (fr := (0, 0)) (heap_alloc_new w5 _)) (by simp [encF, Value.oneCell']) (by omega) (by unfold maxLen; omega) (by simp; omega) ?_; intro g9 cap9 w9 hown9 hg9 hat9; have hz9 : Below wo.heap.size w3 w9 := below_app HL3.out hz5 HW3s hg9))
                have hHN : Hid (FormsIn wo.heap.size w9 (.slice (some ⟨g9, 0, none⟩) (xs.length + 1) cap9) (formsV ds s N (a + 1)) (xs ++ [(.slice (some ⟨gj, 0, none⟩) (k - i) cj, .slice (some ⟨gu, 0, none⟩) (k - i) cu, R)]) ∧ Below wo.heap.size wo w9) :=
                  ⟨plate_more HL.out.1 HB3.out hz5 (balloc (Below.refl _ _) _) lj1' lj2 hTj.out (by have h1 := HG3.out.1; have h2 := HS2.out; omega) HG3.out.2 HF3.out hi.out Hk.out HRY.out hik hkn hown9 hg9 (hat_own hat9), HW3.out.trans hz9⟩
                have k9 : w9.cell? ⟨nb, i, none⟩ = some (.int .i64 (k : Int)) := (hz9.cell (p := ⟨nb, i, none⟩) (HM.out.tn.lt hpos.out)).trans k2
                have hpk : Hid (k = pos N (a + 1)) := by show k = N (pos N a); rw [← hi.out]; exact Hk.out
                have hlts2 : Hid (∀ b, b < a + 1 → pos N b < ds.length) := by
                  intro b hb
                  by_cases e : b = a
                  · rw [e, ← hi.out]; exact hlt
                  · exact hlts.out b (by omega)
                clear hown9 hg9 hat9 hz9 hz5 hTj hy5 HL3 HM3 HF3 HRY HG3 HW3 k1 k2 hcl hS
                go_wp2
                go_roundw
                case rel =>
                  refine ⟨a + 1, _, ?_, ?_, hlts2, ?_, hHN⟩
                  · rw [← hpk.out]; omega
                  · rw [← hpk.out]; omega
                  · rw [← hpk.out]
                case measure => simp [intOf]; omega
              · have hin : ds.length = i := by omega
                subst hin
                obtain ⟨oa, cap, e20, hFA⟩ := HL.out.1.at' (formsV_ok HD.out l2 HB.out hlts.out)
                rw [formsV_len] at e20
                subst e20
                have kb0 : wr.cell? ⟨bb, 0, none⟩ = some (.int .i64 (B 0)) := ((HM.out.below (by omega) HL.out.2).tb.at' 0 (by omega))
                have hN0 : 0 < N1 := by omega
                have HFA := Lib.hid hFA
                have HBW : Hid (Below w.heap.size w wr) := bthen HM.out.bel HL.out.2
                clear HL hFA
                go_wp2
                go_quiet (fail)
                go_wp2
                go_ret3
                refine ⟨B, N, a, oa, cap, rfl, HB.out, by omega, hi.out.symm, hlts.out, ?_, bdrewN HBW.out _⟩
                exact HFA.out.below (bdrewN (Below.refl _ _) _)
          | succ j =>
            have hj1 : (((j + 1 : Nat) : Int) - 1) = (j : Int) := by omega
            rw [hj1]
            have hjn : j < ds.length := by omega
            go_wp2
            go_loopw [17] (fun t wr => ∃ q : Nat, j + 1 ≤ q ∧ q ≤ ds.length + 1 ∧ t = .int .i64 q ∧ Hid (∃ B N, Tried (vals ds) s p B N j q ∧ FMem w w.heap.size bo go bb nb od ds cd B N wr)) (fun t _ => ds.length + 1 - (intOf t).toNat)
            case atStart =>
              obtain ⟨B, N, h1, h2⟩ := HF.out
              exact ⟨j + 1, Nat.le_refl _, by omega, by go_num, ⟨B, N, Tried.start h1, h2⟩⟩
            case round =>
              clear HF
              obtain ⟨q, hq1, hq2, rfl, HF⟩ := hrel
              by_cases hlt : q ≤ ds.length
              · obtain ⟨B, N, hT, hM⟩ := HF.out
                have HTr := Lib.hid hT
                have HM := Lib.hid hM
                have hbq : 0 ≤ B q ∧ B q ≤ 25165824 := by
                  have := hT.bd q hq1 (by rw [hvl]; exact hlt)
                  rw [hvl] at this
                  omega
                clear hT hM
                have hsl : (seg (vals ds) j q).length = q - j := seg_len (by omega) (by rw [hvl]; exact hlt)
                have hpart : Hid (Calls Try.prog 17 #[.int .i64 j, .int .i64 q, .pointer (some ⟨bo, 0, none⟩), .pointer (some ⟨w.heap.size, 0, none⟩)] wr (RetSeg (seg (vals ds) j q) wr)) :=
                  part_any bo w.heap.size go od ds cd j q wr l2 (by omega) hlt HM.out.co HM.out.cd HM.out.ot (HX.out.below HM.out.bel)
                have hseg1 : Hid (Demands (seg (vals ds) j q)) := fun d hd => HD.out d (seg_mem hd)
                have hseg2 : 1 ≤ (seg (vals ds) j q).length := by omega
                have hseg3 : (seg (vals ds) j q).length ≤ 12 := by omega
                have hpos : Hid (0 < ds.length) := by show 0 < ds.length; omega
                by_cases hfit : s < ((q - j : Nat) : Int)
                · have hR : Hid (leastV (seg (vals ds) j q) s = 0) := runV_zero (by omega) (by rw [hvl]; exact hlt) hfit
                  clear hsl
                  go_wp2_with (first
                    | (go_at_call 17; refine hpart.out.mono ?_; rintro e w2 ⟨oa2, c2, rfl, hz2, hf2, hb2⟩; have HM2 := Lib.hid (HM.out.below hpos.out hb2); clear hb2)
                    | (go_at_call 18; refine (least_any _ _ _ _ _ (by omega) hseg2 hf2 hseg1.out).mono ?_; rintro e w' ⟨rfl, rfl⟩; rw [hR.out]))
                  have HN : Hid (∃ B N, BestFrom (vals ds) s p B N j ∧ FMem w w.heap.size bo go bb nb od ds cd B N w2) := by
                    refine ⟨B, N, HTr.out.done HD.out ⟨hp0, hp1⟩ (by omega) ?_ (by omega) (.inr hfit), HM2.out⟩
                    by_cases e : q = j + 1
                    · subst e; omega
                    · omega
                  go_roundw
                  case rel => exact ⟨j, by omega, by go_num, HN⟩
                  case measure => simp [intOf]
                · obtain ⟨R, hR⟩ : ∃ R, R = leastV (seg (vals ds) j q) s := ⟨_, rfl⟩
                  have hRb : 1 ≤ R ∧ R ≤ 1048576 := by
                    have := (runV_least (s := s) (i := j) (k := q) HD.out (by omega) (by rw [hvl]; exact hlt) (by omega)).2
                    rw [hR]
                    exact this
                  have hR0 : (R == 0) = false := by simp; omega
                  have hC : Hid (costV (vals ds) s p B j q = p + R + B q) := by
                    show _ = _
                    unfold costV runV
                    rw [hR]
                  have HR := Lib.hid hR.symm
                  clear hR hsl
                  have hcase : (N j = 0) ∨ (N j ≠ 0 ∧ p + R + B q < B j) ∨ (N j ≠ 0 ∧ ¬ p + R + B q < B j) := by omega
                  rcases hcase with hc | hc | hc
                  · have hqN : q < N1 := by have := hN1.out; omega
                    have hjN : j < N1 := by have := hN1.out; omega
                    go_wp2_with (first
                      | (go_at_call 17; refine hpart.out.mono ?_; rintro e w2 ⟨oa2, c2, rfl, hz2, hf2, hb2⟩; have HM2 := Lib.hid (HM.out.below hpos.out hb2); have t1 := HM2.out.tb.at' q (by omega); have t2 : w2.cell? ⟨nb, j, none⟩ = some (.int .i64 0) := (HM2.out.tn.at' j (by omega)).trans (by rw [hc]; rfl); have t3 := HM2.out.tb.at' j (by omega); have f1 := HM2.out.tb.fz j; have f2 := HM2.out.tn.fz j; clear hb2)
                      | (go_at_call 18; refine (least_any _ _ _ _ _ (by omega) hseg2 hf2 hseg1.out).mono ?_; rintro e w' ⟨rfl, rfl⟩; rw [HR.out]))
                    have HN : Hid (∃ B2 N2, Tried (vals ds) s p B2 N2 j (q + 1) ∧ FMem w w.heap.size bo go bb nb od ds cd B2 N2 ((w2.setCell ⟨bb, j, none⟩ (.int .i64 (p + R + B q))).setCell ⟨nb, j, none⟩ (.int .i64 (q : Int)))) :=
                      ⟨_, _, HTr.out.take (by omega) (by rw [hvl]; exact hlt) (by omega) (.inl hc), by rw [hC.out]; exact (HM2.out.setB (i := j) HAP.out (by omega) _).setN HAP.out hjn q⟩
                    go_roundw
                    case rel => exact ⟨q + 1, by omega, by omega, by go_num, HN⟩
                    case measure => simp [intOf]; omega
                  · have hqN : q < N1 := by have := hN1.out; omega
                    have hjN : j < N1 := by have := hN1.out; omega
                    have hne : ((N j : Int) == 0) = false := by simp; omega
                    have hlc := hc.2
                    go_wp2_with (first
                      | (go_at_call 17; refine hpart.out.mono ?_; rintro e w2 ⟨oa2, c2, rfl, hz2, hf2, hb2⟩; have HM2 := Lib.hid (HM.out.below hpos.out hb2); have t1 := HM2.out.tb.at' q (by omega); have t2 : w2.cell? ⟨nb, j, none⟩ = some (.int .i64 (N j : Int)) := HM2.out.tn.at' j (by omega); have t3 := HM2.out.tb.at' j (by omega); have f1 := HM2.out.tb.fz j; have f2 := HM2.out.tn.fz j; clear hb2)
                      | (go_at_call 18; refine (least_any _ _ _ _ _ (by omega) hseg2 hf2 hseg1.out).mono ?_; rintro e w' ⟨rfl, rfl⟩; rw [HR.out]))
                    have HN : Hid (∃ B2 N2, Tried (vals ds) s p B2 N2 j (q + 1) ∧ FMem w w.heap.size bo go bb nb od ds cd B2 N2 ((w2.setCell ⟨bb, j, none⟩ (.int .i64 (p + R + B q))).setCell ⟨nb, j, none⟩ (.int .i64 (q : Int)))) :=
                      ⟨_, _, HTr.out.take (by omega) (by rw [hvl]; exact hlt) (by omega) (.inr (by rw [hC.out]; exact hc.2)), by rw [hC.out]; exact (HM2.out.setB (i := j) HAP.out (by omega) _).setN HAP.out hjn q⟩
                    go_roundw
                    case rel => exact ⟨q + 1, by omega, by omega, by go_num, HN⟩
                    case measure => simp [intOf]; omega
                  · have hqN : q < N1 := by have := hN1.out; omega
                    have hjN : j < N1 := by have := hN1.out; omega
                    have hne : ((N j : Int) == 0) = false := by simp; omega
                    have hlc := hc.2
                    go_wp2_with (first
                      | (go_at_call 17; refine hpart.out.mono ?_; rintro e w2 ⟨oa2, c2, rfl, hz2, hf2, hb2⟩; have HM2 := Lib.hid (HM.out.below hpos.out hb2); have t1 := HM2.out.tb.at' q (by omega); have t2 : w2.cell? ⟨nb, j, none⟩ = some (.int .i64 (N j : Int)) := HM2.out.tn.at' j (by omega); have t3 := HM2.out.tb.at' j (by omega); have f1 := HM2.out.tb.fz j; have f2 := HM2.out.tn.fz j; clear hb2)
                      | (go_at_call 18; refine (least_any _ _ _ _ _ (by omega) hseg2 hf2 hseg1.out).mono ?_; rintro e w' ⟨rfl, rfl⟩; rw [HR.out]))
                    have HN : Hid (∃ B N, Tried (vals ds) s p B N j (q + 1) ∧ FMem w w.heap.size bo go bb nb od ds cd B N w2) :=
                      ⟨B, N, HTr.out.keep (by omega) (by rw [hC.out]; omega), HM2.out⟩
                    go_roundw
                    case rel => exact ⟨q + 1, by omega, by omega, by go_num, HN⟩
                    case measure => simp [intOf]; omega
              · obtain rfl : q = ds.length + 1 := by omega
                have HN : Hid (∃ B N, BestFrom (vals ds) s p B N j ∧ FMem w w.heap.size bo go bb nb od ds cd B N wr) := by
                  obtain ⟨B, N, h1, h2⟩ := HF.out
                  exact ⟨B, N, h1.done HD.out ⟨hp0, hp1⟩ (by omega) (by omega) (by omega) (.inl (by omega)), h2⟩
                clear HF
                go_wp2
                go_roundw
                case rel => exact ⟨j, by omega, by go_num, HN⟩
                case measure => simp [intOf]
end Go.Proofs.Ytimofofaeedcoaa
