/-
  The walk of linear.Decode. Own text.
-/
import Derived.Test.YtcadgjhfdolejaaEnc
import Derived.Deep.CutRange
namespace Go.Proofs.Ytcadgjhfdolejaa
open Go.RowKit
set_option linter.unusedVariables false
set_option maxHeartbeats 1000000 in
/-- Fewer than 25 widths. -/
theorem dec_short (oa : Option Addr) (n c : Nat) (hn : n < 25) (w : World) :
    Calls Try.prog 14 #[.slice oa n c] w (fun e w' => e = .returned (.tuple #[.string (strB []), .int .i64 12]) ∧ w' = w) := by
  have h1 : ¬ (85 : Int) < (n : Int) := by omega
  have h2 : (n : Int) < 25 := by omega
  have h1' : ¬ 85 < n := by omega
  go_enter Try.func14, Try.ntmps14
  go_wp2
  go_ret2
  exact ⟨rfl, rfl⟩
/-- Decode's state between two symbols. -/
structure DecI (w wr : World) (B g o' N' C' k gp : Nat) (us : Nat → Nat) (vs : Nat → Int) (v : Value) : Prop where
  bel : Below w.heap.size w wr
  fr : NRow wr g o' N' (fun i => (us (6 * k + i) : Int))
  row : Own wr B 3 1 encInt v ((List.range k).map vs)
  pats : Flat wr 6 encPt (some ⟨gp, 0, none⟩) patV
  sz : B ≤ wr.heap.size
  b : w.heap.size ≤ B ∧ gp < B ∧ g < B
section
variable {w wr w' : World} {B g o' N' C' k gp : Nat} {us : Nat → Nat} {vs : Nat → Int} {v : Value}
theorem DecI.below (h : DecI w wr B g o' N' C' k gp us vs v) (hb : Below wr.heap.size wr w') : DecI w w' B g o' N' C' k gp us vs v :=
  ⟨bthen h.bel hb, h.fr.below hb, h.row.below hb, h.pats.below hb, Nat.le_trans h.sz hb.size, h.b⟩
theorem FlatPt.kept {b : Nat} {xs : List Pt} (h : Flat wr 6 encPt (some ⟨b, 0, none⟩) xs) {row : Option Nat} (hg : wr.grownBy w' row) (hl : b < wr.heap.size) (hne : some b ≠ row) : Flat w' 6 encPt (some ⟨b, 0, none⟩) xs := by
  intro i hi j hj
  obtain ⟨u, h1, b2, off, h2, h3⟩ := h i hi j hj
  cases h2
  exact ⟨u, h1, b, 0, rfl, by rw [World.cell?_of_block (w := wr) (hg.block b hl hne)]; exact h3⟩
/-- A symbol is read. -/
theorem DecI.app (h : DecI w wr B g o' N' C' k gp us vs v) {tmp : Obj} {v' : Value} {N2 C2 : Nat} (ho : Own w' B 3 1 encInt v' ((List.range (k + 1)).map vs)) (hg : (wr.alloc tmp).grownBy w' v.ownBlock) (hN : 6 ≤ N') (hN2 : N' - 6 = N2) :
    DecI w w' B g (o' + 6) N2 C2 (k + 1) gp us vs v' := by
  have hz := h.sz
  have hb := h.b
  have hs := hg.size
  rw [World.size_alloc] at hs
  have hge : ∀ x, x < B → some x ≠ v.ownBlock := fun x hx e => by have := ownsRow_ge h.row e.symm; omega
  refine ⟨Below.grown (h.bel.alloc h.bel.size tmp) hg (by rw [World.size_alloc]; have := h.bel.size; omega) (fun j e => by have := ownsRow_ge h.row e; omega), ?_, ho, FlatPt.kept (h.pats.below (balloc (Below.refl _ wr) tmp)) hg (by rw [World.size_alloc]; omega) (hge _ hb.2.1), by omega, hb⟩
  have e := NRow.kept ((h.fr.cut 6 N2 (by omega)).below (balloc (Below.refl _ wr) tmp)) hg (by rw [World.size_alloc]; omega) (hge _ hb.2.2)
  intro i hi
  rw [e i hi]
  show some (Value.int .i64 (us (6 * k + (6 + i)) : Int)) = some (Value.int .i64 (us (6 * (k + 1) + i) : Int))
  rw [show 6 * k + (6 + i) = 6 * (k + 1) + i by omega]
end
def slcLen : Value → Nat
  | .slice _ n _ => n
  | _ => 0
set_option maxRecDepth 100000 in
set_option maxHeartbeats 1000000 in
theorem dec_ok (g o n c m : Nat) (u us : Nat → Nat) (vs : Nat → Int) (res : List UInt8) (hm : n = 6 * m + 1) (hm4 : 4 ≤ m) (hm14 : m ≤ 14) (hc : n ≤ c)
    (hu : ∀ i, i < n → 1 ≤ u i ∧ u i ≤ 1024) (hus : if valV u = 101 then ∀ i, i < n → us i = u i else ∀ i, i < n → us i = u (n - 1 - i))
    (hvs : ∀ j, j < m → valV (fun i => us (6 * j + i)) = vs j ∧ 0 ≤ vs j ∧ vs j ≤ 102) (h0 : vs 0 = 101) (h9 : vs (m - 1) = 102) (hsum : sumV (fun i => vs (1 + i)) (m - 3) = vs (m - 2))
    (hd : ∀ W g o c, NRow W g o (m - 3) (fun i => vs (1 + i)) → m - 3 ≤ c → Calls Try.prog 34 #[.slice (some ⟨g, o, none⟩) (m - 3 : Nat) c] W (RetTxt res W))
    (w : World) (hr : NRow w g o n (fun i => (u i : Int))) :
    Calls Try.prog 14 #[.slice (some ⟨g, o, none⟩) n c] w (RetTxt res w) := by
  have hgl : g < w.heap.size := cell?_lt (hr 0 (by omega))
  have e1 : ¬ (85 : Int) < (n : Int) := by omega
  have e1' : ¬ 85 < n := by omega
  have e2 : ¬ (n : Int) < 25 := by omega
  have e2' : ¬ n < 25 := by omega
  have e3 : (n : Int).tmod 6 = 1 := by rw [Int.tmod_eq_emod_of_nonneg (by omega)]; omega
  have e4 : (n : Int) % 6 = 1 := by omega
  have e5 : n % 6 = 1 := by omega
  have hn9 : n ≤ 85 := by omega
  have hn25 : 25 ≤ n := by omega
  have HM : Hid (n = 6 * m + 1 ∧ 4 ≤ m ∧ m ≤ 14 ∧ n ≤ c) := ⟨hm, hm4, hm14, hc⟩
  have HU := Lib.hid hu
  have HUS := Lib.hid hus
  have HUB : Hid (∀ i, i < n → 1 ≤ us i ∧ us i ≤ 1024) := fun i hi => by
    by_cases e : valV u = 101
    · rw [if_pos e] at hus
      rw [hus i hi]; exact hu i hi
    · rw [if_neg e] at hus
      rw [hus i hi]; exact hu _ (by omega)
  have HVS := Lib.hid hvs
  have HEND : Hid (vs 0 = 101 ∧ vs (m - 1) = 102 ∧ sumV (fun i => vs (1 + i)) (m - 3) = vs (m - 2)) := ⟨h0, h9, hsum⟩
  have HD := Lib.hid hd
  have HR := Lib.hid hr
  have HGL := Lib.hid hgl
  have HPA : Hid (∀ W', Calls Try.prog 31 #[] W' (RetPats W')) := fun W' => pats_any W'
  clear hm hm4 hm14 hc hu hus hvs h0 h9 hsum hd hr hgl
  go_enter Try.func14, Try.ntmps14
  go_wp2_with fail
  go_loopw [25] (fun i wr => ∃ k : Nat, k ≤ n ∧ i = .int .i64 k ∧ w = wr) (fun i _ => n - (intOf i).toNat)
  case atStart => exact ⟨0, by omega, rfl, rfl⟩
  case round =>
    obtain ⟨k, hk, rfl, rfl⟩ := hrel
    by_cases hlt : k < n
    · have kd : (k : Int) < (n : Int) := by omega
      have kk : IntKind.i64.wrap ((k : Int) + 1) = (k : Int) + 1 := IntWalk.i64_in _ (by omega)
      obtain ⟨x, hx⟩ : ∃ x, x = u k := ⟨_, rfl⟩
      have hc := HR.out k hlt
      simp only [← hx] at hc
      have hv := HU.out k hlt
      rw [← hx] at hv
      have d1 : ¬ (x : Int) < 1 := by omega
      have d2 : ¬ (1024 : Int) < (x : Int) := by omega
      have d1' : ¬ x = 0 := by omega
      have d2' : ¬ 1024 < x := by omega
      clear hx
      go_wp2_with fail
      go_roundw
      case rel => exact ⟨k + 1, by omega, by go_num, trivial⟩
      case measure => simp [intOf]; omega
    · obtain rfl : n = k := by omega
      clear hk hlt
      have HP1 := Lib.hid (HPA.out w)
      go_wp2_with fail
      refine HP1.out.mono ?_
      rintro e w2 ⟨gp, cp, rfl, hcp, hfp, hgp, hlp, hb2⟩
      have HV0 : Hid (Calls Try.prog 32 #[.slice (some ⟨gp, 0, none⟩) 103 cp, .slice (some ⟨g, o, none⟩) n c] w2 (RetVal (valV u) w2)) := by
        refine value_any gp cp g o n c u (fun i hi => (HU.out i (by omega)).2) ?_ (by omega) w2 hfp (fun i hi => keepCell hb2 (HR.out i (by omega)))
        have := (HU.out 0 (by omega)).1
        unfold totV
        omega
      obtain ⟨V0, hV0⟩ : ∃ V, V = valV u := ⟨_, rfl⟩
      rw [← hV0] at HV0
      have HA2 : Hid (Below w.heap.size w w2 ∧ Flat w2 6 encPt (some ⟨gp, 0, none⟩) patV ∧ w.heap.size ≤ gp ∧ gp < w2.heap.size) := ⟨hb2, hfp, hgp, hlp⟩
      have HVE := Lib.hid hV0
      clear HP1 HPA hcp hfp hgp hlp hb2 hV0
      go_wp2_with fail
      refine HV0.out.mono ?_
      rintro e w3 ⟨rfl, hb3⟩
      have HA3 : Hid (Below w.heap.size w w3 ∧ Flat w3 6 encPt (some ⟨gp, 0, none⟩) patV ∧ w.heap.size ≤ gp ∧ gp < w3.heap.size) := by
        obtain ⟨a1, a2, a3, a4⟩ := HA2.out
        exact ⟨bthen a1 hb3, a2.below hb3, a3, Nat.lt_of_lt_of_le a4 hb3.size⟩
      clear HV0 HA2 hb3
      go_upto_if 40 with fail
      go_cut [0] from 106 to 105 (fun s0 wx => ∃ g2 o2 c2, s0 = .slice (some ⟨g2, o2, none⟩) n c2 ∧ Hid (Below w.heap.size w wx ∧ Flat wx 6 encPt (some ⟨gp, 0, none⟩) patV ∧ w.heap.size ≤ gp ∧ gp < wx.heap.size ∧ NRow wx g2 o2 n (fun i => (us i : Int)) ∧ n ≤ c2 ∧ g2 < wx.heap.size))
      case first =>
        by_cases hv : V0 = 101
        · have hne : (V0 != 101) = false := by rw [bne_eq_false_iff_eq]; exact hv
          have hus := HUS.out
          rw [← HVE.out, if_pos hv] at hus
          have HF : Hid (Below w.heap.size w w3 ∧ Flat w3 6 encPt (some ⟨gp, 0, none⟩) patV ∧ w.heap.size ≤ gp ∧ gp < w3.heap.size ∧ NRow w3 g o n (fun i => (us i : Int)) ∧ n ≤ c ∧ g < w3.heap.size) := by
            obtain ⟨a1, a2, a3, a4⟩ := HA3.out
            exact ⟨a1, a2, a3, a4, fun i hi => by show _ = some (Value.int .i64 (us i : Int)); rw [hus i hi]; exact keepCell a1 (HR.out i hi), HM.out.2.2.2, Nat.lt_of_lt_of_le HGL.out a1.size⟩
          clear hv hus
          go_wp2_with fail
          go_meet
          exact ⟨g, o, c, rfl, HF⟩
        · have hne : (V0 != 101) = true := by rw [bne_iff_ne]; exact hv
          have hus := HUS.out
          rw [← HVE.out, if_neg hv] at hus
          have HUS2 := Lib.hid hus
          have mk := run_makeArr (P := Try.prog) elemI Try.underlying22 (.int .i64 0) rfl n (by omega) (by omega)
          obtain ⟨w4, hw4⟩ : ∃ w4, w4 = w3.alloc (.cells (madeArr (.int .i64 0) n) 3) := ⟨_, rfl⟩
          have HW4 : Hid (w3.alloc (.cells (madeArr (.int .i64 0) n) 3) = w4) := hw4.symm
          obtain ⟨g8, hg8⟩ : ∃ g8, g8 = w3.heap.size := ⟨_, rfl⟩
          have HG8 : Hid (w3.heap.size = g8) := hg8.symm
          have HX0 : Hid (Below w3.heap.size w3 w4 ∧ FTab (Value.int .i64) w4 g8 n (fun j => if n - 1 - j < 0 then (us j : Int) else 0)) := by
            refine ⟨by rw [hw4]; exact balloc (Below.refl _ _) _, ?_⟩
            have e := FTab.made (Value.int .i64) w3 n 0 3
            rw [← hw4, ← hg8] at e
            exact e.congr fun j _ => by rw [if_neg (by omega)]
          clear hv hus hw4 hg8
          go_upto_region 17 with fail
          rw [HW4.out, HG8.out]
          clear HW4 mk
          go_wp2_with fail
          go_loopw [45] (fun i wr => ∃ k : Nat, k ≤ n ∧ i = .int .i64 k ∧ Hid (Below w3.heap.size w3 wr ∧ FTab (Value.int .i64) wr g8 n (fun j => if n - 1 - j < k then (us j : Int) else 0))) (fun i _ => n - (intOf i).toNat)
          case atStart => exact ⟨0, by omega, rfl, HX0⟩
          case round =>
            clear HX0
            obtain ⟨k, hk, rfl, HX⟩ := hrel
            obtain ⟨wb, rfl⟩ : ∃ wb : World, wb = wr := ⟨_, rfl⟩
            by_cases hlt : k < n
            · have kd : (k : Int) < (n : Int) := by omega
              have kk : IntKind.i64.wrap ((k : Int) + 1) = (k : Int) + 1 := IntWalk.i64_in _ (by omega)
              obtain ⟨x, hx⟩ : ∃ x, x = u k := ⟨_, rfl⟩
              have hc : wb.cell? ⟨g, o + k, none⟩ = some (.int .i64 (x : Int)) := by rw [hx]; exact keepCell (bthen HA3.out.1 HX.out.1) (HR.out k hlt)
              obtain ⟨q, hq⟩ : ∃ q, q = n - 1 - k := ⟨_, rfl⟩
              have w1 : IntKind.i64.wrap ((n : Int) - 1) = (n : Int) - 1 := IntWalk.i64_in _ (by omega)
              have w2 : IntKind.i64.wrap ((n : Int) - 1 - (k : Int)) = (q : Int) := by rw [hq, show (n : Int) - 1 - (k : Int) = ((n - 1 - k : Nat) : Int) by omega]; exact IntWalk.i64_in _ (by omega)
              have qn : q < n := by omega
              have qd : (q : Int) < (n : Int) := by omega
              have hcg := HX.out.2.at' q qn
              have hfz := HX.out.2.fz
              have HNX : Hid (Below w3.heap.size w3 (wb.setCell ⟨g8, q, none⟩ (.int .i64 (x : Int))) ∧ FTab (Value.int .i64) (wb.setCell ⟨g8, q, none⟩ (.int .i64 (x : Int))) g8 n (fun j => if n - 1 - j < k + 1 then (us j : Int) else 0)) := by
                refine ⟨HX.out.1.trans ((Below.refl _ wb).setCell (p := ⟨g8, q, none⟩) (by show w3.heap.size ≤ g8; rw [HG8.out]; exact Nat.le_refl _) _), (HX.out.2.set qn (x : Int)).congr fun j hj => ?_⟩
                show (if j = q then (x : Int) else if n - 1 - j < k then (us j : Int) else 0) = if n - 1 - j < k + 1 then (us j : Int) else 0
                by_cases e : j = q
                · rw [if_pos e, if_pos (by omega), e, HUS2.out q qn, hx, show n - 1 - q = k by omega]
                · rw [if_neg e]
                  by_cases e2 : n - 1 - j < k
                  · rw [if_pos e2, if_pos (by omega)]
                  · rw [if_neg e2, if_neg (by omega)]
              clear HX hx hq
              go_wp2_with fail
              go_roundw
              case rel => exact ⟨k + 1, by omega, by go_num, HNX⟩
              case measure => simp [intOf]; omega
            · obtain rfl : n = k := by omega
              have HF : Hid (Below w.heap.size w wb ∧ Flat wb 6 encPt (some ⟨gp, 0, none⟩) patV ∧ w.heap.size ≤ gp ∧ gp < wb.heap.size ∧ NRow wb g8 0 n (fun i => (us i : Int)) ∧ n ≤ n ∧ g8 < wb.heap.size) := by
                obtain ⟨a1, a2, a3, a4⟩ := HA3.out
                refine ⟨bthen a1 HX.out.1, a2.below HX.out.1, a3, Nat.lt_of_lt_of_le a4 HX.out.1.size, fun i hi => ?_, Nat.le_refl _, HX.out.2.lt (by omega)⟩
                have e := HX.out.2.at' i hi
                rw [if_pos (by omega)] at e
                rw [Nat.zero_add]
                exact e
              clear HX hk hlt
              go_wp2_with fail
              go_meet
              exact ⟨g8, 0, n, rfl, HF⟩
      case rest =>
        obtain ⟨g2, o2, c2, rfl, HB⟩ := hcut
        obtain ⟨w5, rfl⟩ : ∃ q, q = wc := ⟨_, rfl⟩
        have HX0 : Hid (o2 = o2 + 6 * 0 ∧ n = n - 6 * 0 ∧ n ≤ c2 ∧ DecI w w5 w5.heap.size g2 o2 n c2 0 gp us vs (.slice none 0 0)) := by
          obtain ⟨a1, a2, a3, a4, a5, a6, a7⟩ := HB.out
          exact ⟨rfl, rfl, a6, a1, fun i hi => by show _ = some (Value.int .i64 (us (6 * 0 + i) : Int)); rw [Nat.mul_zero, Nat.zero_add]; exact a5 i hi, Own.nil _ _ _ _ _, a2, Nat.le_refl _, a1.size, a4, a7⟩
        obtain ⟨B, hB⟩ : ∃ B, B = w5.heap.size := ⟨_, rfl⟩
        rw [← hB] at HX0
        clear HB HA3 HU HUS HR HGL HVE hB
        go_upto_region 23 with fail
        go_wp2_with fail
        go_loopw [0, 11] (fun s t wr => ∃ k o' N' C' oa cap, s = .slice (some ⟨g2, o', none⟩) N' C' ∧ t = .slice oa k cap ∧ k ≤ m ∧ Hid (o' = o2 + 6 * k ∧ N' = n - 6 * k ∧ N' ≤ C' ∧ DecI w wr B g2 o' N' C' k gp us vs (.slice oa k cap))) (fun s _ _ => slcLen s)
        case atStart => exact ⟨0, _, _, _, _, _, rfl, rfl, by omega, HX0⟩
        case round =>
          clear HX0
          obtain ⟨k, o', N', C', oa, cap, rfl, rfl, hk, HX⟩ := hrel
          obtain ⟨wb, rfl⟩ : ∃ wb : World, wb = wr := ⟨_, rfl⟩
          have hM := HM.out
          have hN' := HX.out.2.1
          have hC' := HX.out.2.2.1
          by_cases hlt : k < m
          · have n1 : (1 : Int) < (N' : Int) := by omega
            have n1' : 1 < N' := by omega
            have n6 : 6 ≤ N' := by omega
            have c6 : 6 ≤ C' := by omega
            have c7 : 6 < C' := by omega
            obtain ⟨N2, hN2⟩ : ∃ N2, N' - 6 = N2 := ⟨_, rfl⟩
            obtain ⟨C2, hC2⟩ : ∃ C2, C' - 6 = C2 := ⟨_, rfl⟩
            obtain ⟨x, hx⟩ : ∃ x, x = vs k := ⟨_, rfl⟩
            have hvk := HVS.out k hlt
            rw [← hx] at hvk
            have HVA : Hid (Calls Try.prog 32 #[.slice (some ⟨gp, 0, none⟩) 103 cp, .slice (some ⟨g2, o', none⟩) N' C'] wb (RetVal x wb)) := by
              rw [← hvk.1]
              refine value_any gp cp g2 o' N' C' (fun i => us (6 * k + i)) (fun i hi => (HUB.out (6 * k + i) (by omega)).2) ?_ n6 wb HX.out.2.2.2.pats (fun i hi => HX.out.2.2.2.fr i (by omega))
              have := (HUB.out (6 * k + 0) (by omega)).1
              unfold totV
              show 1 ≤ us (6 * k + 0) + us (6 * k + 1) + us (6 * k + 2) + us (6 * k + 3) + us (6 * k + 4) + us (6 * k + 5)
              omega
            have hx0 : ¬ x < 0 := by omega
            have HO : Hid (o' = o2 + 6 * k ∧ N2 = n - 6 * (k + 1) ∧ N2 ≤ C2 ∧ N' ≤ C' ∧ N2 < N') := ⟨HX.out.1, by omega, by omega, hC', by omega⟩
            have HDI := Lib.hid HX.out.2.2.2
            have HXE := Lib.hid hx
            have HLT := Lib.hid hlt
            clear HX hM hN' hC' hx hvk hlt hk
            go_wp2_with fail
            refine HVA.out.mono ?_
            rintro e w7 ⟨rfl, hb7⟩
            have HD7 := Lib.hid (HDI.out.below hb7)
            have HOW := Lib.hid (Own.alloc HD7.out.row (.cells #[.int .i64 x] 3))
            have HNEW : Hid (∀ (j : Nat) (u : Value), (encInt x)[j]? = some u → (w7.alloc (.cells #[.int .i64 x] 3)).cell? ((⟨w7.heap.size, 0, none⟩ : Addr).add j) = some u) := World.news_of_block (cs := #[.int .i64 x]) (t := 3) (fr := (0, 0)) (heap_alloc_new w7 _)
            have HLN : Hid (((List.range k).map vs).length = k) := by show _ = _; simp
            clear HVA HDI hb7
            go_wp2_with (at_builtin; refine wpList_app1L rfl (.tmp 69) (.tmp 71) 22 rfl elemI Try.underlying22 B (.slice oa k cap) ((List.range k).map vs) encInt rfl HOW.out x ⟨w7.heap.size, 0, none⟩ 1 rfl rfl HNEW.out ?c1 ?c2 ?c3 ?c4 ?_)
            case c1 => simp [encInt, Value.oneCell']
            case c2 => have := HLN.out; have := HLT.out; have := HM.out; omega
            case c3 => have := HLN.out; have := HLT.out; have := HM.out; unfold maxLen; omega
            case c4 => have := HD7.out.sz; (first | omega | (rw [World.size_alloc]; omega))
            try rw [HLN.out]
            intro g3 cap3 w8 hown3 hgr3 _
            have HNX : Hid (o' + 6 = o2 + 6 * (k + 1) ∧ N2 = n - 6 * (k + 1) ∧ N2 ≤ C2 ∧ DecI w w8 B g2 (o' + 6) N2 C2 (k + 1) gp us vs (.slice (some ⟨g3, 0, none⟩) (k + 1) cap3)) := by
              refine ⟨by have := HO.out; omega, HO.out.2.1, HO.out.2.2.1, HD7.out.app ?_ hgr3 n6 hN2⟩
              rw [List.range_succ, List.map_append, List.map_singleton, ← HXE.out]
              exact hown3
            clear hown3 hgr3 HOW HNEW HD7 HLN
            go_wp2_with fail
            go_roundw
            case rel => exact ⟨k + 1, _, _, _, _, _, by go_num, rfl, HLT.out, HNX⟩
            case measure => have := HO.out; simp [slcLen]; omega
          · obtain rfl : k = m := by omega
            have hnn : ¬ (1 : Int) < (N' : Int) := by omega
            have hnn' : ¬ 1 < N' := by omega
            have hrow := HX.out.2.2.2.row
            have hbel := HX.out.2.2.2.bel
            have hll : ((List.range k).map vs).length = k := by simp
            obtain ⟨g5, cap5, e5, hcc, -, -, hnr⟩ := NRow.own hrow (by intro e; rw [e] at hll; simp at hll; omega)
            rw [hll] at e5 hcc hnr
            cases e5
            have hNR : NRow wb g5 0 k vs := fun i hi => by
              have e := hnr i hi
              rw [e]
              show some (Value.int .i64 (((List.range k).map vs).getD i 0)) = _
              rw [List.getD_eq_getElem?_getD, List.getElem?_map, List.getElem?_range hi]
              rfl
            obtain ⟨q1, hq1⟩ : ∃ q, q = k - 1 := ⟨_, rfl⟩
            obtain ⟨q2, hq2⟩ : ∃ q, q = k - 2 := ⟨_, rfl⟩
            obtain ⟨q3, hq3⟩ : ∃ q, q = k - 3 := ⟨_, rfl⟩
            have r0 : wb.cell? ⟨g5, 0, none⟩ = some (.int .i64 101) := by rw [← HEND.out.1]; exact hNR 0 (by omega)
            have r1 : wb.cell? ⟨g5, q1, none⟩ = some (.int .i64 102) := by
              have e := hNR q1 (by omega)
              rw [Nat.zero_add] at e
              rw [e, hq1, HEND.out.2.1]
            obtain ⟨x2, hx2⟩ : ∃ x, x = vs q2 := ⟨_, rfl⟩
            have r2 : wb.cell? ⟨g5, q2, none⟩ = some (.int .i64 x2) := by
              have e := hNR q2 (by omega)
              rw [Nat.zero_add] at e
              rw [e, hx2]
            have v1 : IntKind.i64.wrap ((k : Int) - 1) = (q1 : Int) := by rw [show (k : Int) - 1 = (q1 : Int) by omega]; exact IntWalk.i64_in _ (by omega)
            have v2 : IntKind.i64.wrap ((k : Int) - 2) = (q2 : Int) := by rw [show (k : Int) - 2 = (q2 : Int) by omega]; exact IntWalk.i64_in _ (by omega)
            have v3 : q2 - 1 = q3 := by omega
            have k0 : 0 < k := by omega
            have k1 : q1 < k := by omega
            have k2 : q2 < k := by omega
            have k3 : 1 ≤ q2 := by omega
            have k4 : q2 ≤ cap := by omega
            have k5 : 1 < cap := by omega
            have hcut : NRow wb g5 1 q3 (fun i => vs (1 + i)) := by
              have e := hNR.cut 1 q3 (by omega)
              rw [Nat.zero_add] at e
              exact e
            have HSM : Hid (Calls Try.prog 33 #[.slice (some ⟨g5, 1, none⟩) q3 (cap - 1)] wb (fun e w' => e = .returned (.int .i64 x2) ∧ w' = wb)) := by
              rw [hx2, hq2, ← HEND.out.2.2, ← hq3]
              exact sum_any g5 1 q3 (cap - 1) (fun i => vs (1 + i)) (fun i hi => by have := HVS.out (1 + i) (by omega); show 0 ≤ vs (1 + i) ∧ vs (1 + i) ≤ 1000; omega) (by omega) wb hcut
            have HDG : Hid (Calls Try.prog 34 #[.slice (some ⟨g5, 1, none⟩) q3 (cap - 1)] wb (RetTxt res wb)) := by
              have e := HD.out wb g5 1 (cap - 1) (by rw [← hq3]; exact hcut) (by omega)
              rw [← hq3] at e
              exact e
            have HBL := Lib.hid hbel
            clear HX hrow hbel hll hnr hNR hq1 hq2 hq3 hx2 hcut HD HEND HVS HUB
            go_wp2_with fail
            refine HSM.out.mono ?_
            rintro e w' ⟨rfl, rfl⟩
            clear HSM
            go_wp2_with fail
            refine HDG.out.mono ?_
            rintro e w9 ⟨rfl, hb9⟩
            have HF : Hid (RetTxt res w (.returned (.tuple #[.string (strB res), .int .i64 0])) w9) := ⟨rfl, bthen HBL.out hb9⟩
            clear HDG HBL hb9
            go_wp2
            go_ret2
            exact HF.out
end Go.Proofs.Ytcadgjhfdolejaa
