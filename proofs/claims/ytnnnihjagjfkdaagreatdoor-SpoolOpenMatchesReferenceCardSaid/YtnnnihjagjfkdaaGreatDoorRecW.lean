/-
  The walk of the scan's record. Own text.
-/
import Derived.Test.YtnnnihjagjfkdaaGreatDoorRec
namespace Go.Proofs.YtnnnihjagjfkdaaGreatDoor
open Go.RowKit
set_option linter.unusedVariables false
/-- The words of a record as they are handed back. -/
def WordsAt (w : World) (g : Nat) (ws : List (List UInt8)) : Prop := g < w.heap.size ∧ ∀ j x, ws[j]? = some x → w.cell? ⟨g, j, none⟩ = some (.string (strB x))
theorem WordsAt.below {w w' : World} {g : Nat} {ws : List (List UInt8)} (h : WordsAt w g ws) (hb : Below w.heap.size w w') : WordsAt w' g ws := ⟨Nat.lt_of_lt_of_le h.1 hb.size, fun j x hx => keepCell hb (h.2 j x hx)⟩
theorem WordsAt.only {w w' : World} {b g : Nat} {ws : List (List UInt8)} (h : WordsAt w g ws) (hb : Only b w w') (hn : g ≠ b) : WordsAt w' g ws := ⟨Nat.lt_of_lt_of_le h.1 hb.size, fun j x hx => hb.cell hn (h.2 j x hx)⟩
def RetRecYes (b : Nat) (ws : List (List UInt8)) (s' : Sc) (w : World) (e : Ending) (w' : World) : Prop :=
  ∃ g, e = .returned (.tuple #[.slice (some ⟨g, 0, none⟩) ws.length (ws.length + 1), .bool true]) ∧ w.heap.size ≤ g ∧ WordsAt w' g ws ∧ ScAt w' b s' ∧ Only b w w'
def RetRecNo (b : Nat) (s' : Sc) (w : World) (e : Ending) (w' : World) : Prop := e = .returned (.tuple #[.slice none 0 0, .bool false]) ∧ ScAt w' b s' ∧ Only b w w'
set_option maxRecDepth 100000 in
set_option maxHeartbeats 4000000 in
/-- No line feed is left. -/
theorem rec_none (b : Nat) (s : Sc) (w : World) (hs : ScAt w b s) (hok : ScOk s) (ht : Tabz w) (hc : cutNl s.rest = none) :
    Calls Tryz.prog 24 #[.pointer (some ⟨b, 0, none⟩)] w (RetRecNo b s w) := by
  have hlen := hok.len
  have hrd := hok.rd
  have h := cut_any s.rest w (by omega) ht
  rw [hc] at h
  have HC := Lib.hid h
  have HS := Lib.hid hs
  have c0 : w.cell? ⟨b, 0, none⟩ = some (.string (strB s.rest)) := FTab.at' hs 0 (by omega)
  clear h hs hok ht hc hlen hrd
  go_enter Tryz.func24, Tryz.ntmps24
  go_wp2_with fail
  refine HC.out.mono ?_
  rintro e w2 ⟨⟨n, rfl⟩, rfl⟩
  go_wp2
  go_ret2
  exact ⟨rfl, FTab.drewN HS.out n, (Only.refl b w).drewN n⟩
/-- What the front of record leaves. -/
structure FrontAt (w : World) (b g : Nat) (s : Sc) (ep : Int) (ws : List (List UInt8)) (w' : World) : Prop where
  sc : ScAt w' b { s with epoch := ep }
  only : Only b w w'
  words : WordsAt w' g ws
  new : w.heap.size ≤ g
theorem dropLast_get {α : Type} {xs : List α} {j : Nat} {x : α} (h : xs.dropLast[j]? = some x) : xs[j]? = some x := by
  rw [List.getElem?_dropLast] at h
  split at h
  · exact h
  · cases h
def RetRec (b : Nat) (L T : List UInt8) (ws : List (List UInt8)) (s1 s2 : Sc) (w : World) (e : Ending) (w' : World) : Prop := (L = T → RetRecYes b ws s1 w e w') ∧ (¬ L = T → RetRecNo b s2 w e w')
set_option maxRecDepth 100000 in
set_option maxHeartbeats 4000000 in
theorem rec_some (b : Nat) (s : Sc) (w : World) (hs : ScAt w b s) (hok : ScOk s) (htb : ∀ W, Only b w W → Tabz W) (p : List UInt8 × List UInt8) (hc : cutNl s.rest = some p) :
    Calls Tryz.prog 24 #[.pointer (some ⟨b, 0, none⟩)] w (RetRec b (lineV (epochV s (wordsV p.1)) s.seq (wordsV p.1).dropLast) (p.1 ++ [10]) (wordsV p.1).dropLast { rest := p.2, epoch := epochV s (wordsV p.1), seq := s.seq + 1, read := s.read + p.1.length + 1 } { s with epoch := epochV s (wordsV p.1) } w) := by
  have ht := htb w (Only.refl b w)
  have HTB := Lib.hid htb
  have hlen := hok.len
  have hrd := hok.rd
  have hsq := hok.sq
  have hep := epochV_bd hok (wordsV p.1)
  have hpl : s.rest.length = p.1.length + 1 + p.2.length := by
    have h1 := (cutNl_some (a := p.1) (b := p.2) (by rw [hc])).1
    rw [h1]
    simp
    omega
  have h := cut_any s.rest w (by omega) ht
  rw [hc] at h
  have HC : Hid (Calls Tryz.prog 37 #[.string (strB s.rest), .string ⟨#[10]⟩] w fun e w' => (∃ n, w' = w.drewN n) ∧ e = .returned (.tuple #[.string (strB p.1), .string (strB p.2), .bool true])) := h
  have HS := Lib.hid hs
  have HT := Lib.hid ht
  have HSP : Hid (∀ W, Tabz W → Calls Tryz.prog 38 #[.string (strB p.1), .string ⟨#[32]⟩] W fun e w' => e = .returned (.slice (some ⟨W.heap.size, 0, none⟩) (wordsV p.1).length (wordsV p.1).length) ∧ w' = W.alloc (.cells (wordCells (wordsV p.1)) 9)) := fun W hW => split_any p.1 W (by omega) hW
  have hwl := wordsV_len p.1
  have hwn : 1 ≤ (wordsV p.1).length := by
    have := wordsV_ne p.1
    cases h : wordsV p.1 with
    | nil => exact absurd h this
    | cons a l => simp
  obtain ⟨ws, hws⟩ : ∃ ws, ws = wordsV p.1 := ⟨_, rfl⟩
  have HWSZ : Hid (∀ x ∈ ws, x.length ≤ 1000000) := fun x hx => by rw [hws] at hx; have := word_le p.1 x hx; omega
  rw [← hws] at HSP hwl hwn hep
  rw [← hws]
  obtain ⟨N, hN⟩ : ∃ N, N = ws.length := ⟨_, rfl⟩
  have HN := Lib.hid hN
  rw [← hN] at HSP hwl hwn
  obtain ⟨M, rfl⟩ : ∃ M, N = M + 1 := ⟨N - 1, by omega⟩
  obtain ⟨ep, hepv⟩ : ∃ ep, ep = epochV s ws := ⟨_, rfl⟩
  have HEP := Lib.hid hepv
  rw [← hepv] at hep
  rw [← hepv]
  have hbl : (bodyV ws.dropLast).length ≤ 70000 := by
    have h1 : bodyV ws = p.1 := by rw [hws]; exact join_words p.1
    have h2 : (bodyV ws.dropLast).length ≤ (bodyV ws).length := body_dropLast ws
    rw [h1] at h2
    omega
  obtain ⟨L, hL⟩ : ∃ L, L = lineV ep s.seq ws.dropLast := ⟨_, rfl⟩
  rw [← hL]
  have HLN : Hid (∀ W g, WordsAt W g ws → Tabz W → Calls Tryz.prog 31 #[.int .i64 ep, .int .i64 s.seq, .slice (some ⟨g, 0, none⟩) M (M + 1)] W (RetStr L W)) := fun W g hw hW => by
    have h := line_gen ep s.seq g 0 (ws.dropLast.map strB) (M + 1) W (fun j x hx => by
      rw [Nat.zero_add]
      rw [List.getElem?_map] at hx
      cases e : ws.dropLast[j]? with
      | none => rw [e] at hx; cases hx
      | some y =>
        rw [e] at hx
        have hx' : strB y = x := Option.some.inj hx
        rw [← hx']
        exact hw.2 j y (dropLast_get e)) hw.1 (by rw [List.length_map, List.length_dropLast]; omega) (by rw [List.length_map, List.length_dropLast]; omega)
      (by rw [List.map_map]; have e : (fun x : ByteArray => x.data.toList) ∘ strB = id := by funext x; rfl
          rw [e, List.map_id]; omega) hep.1 hep.2 (by omega) (by omega) hW.tabs
    rw [List.length_map, List.length_dropLast, ← hN, Nat.add_sub_cancel, List.map_map] at h
    have e : (fun x : ByteArray => x.data.toList) ∘ strB = id := by funext x; rfl
    rw [e, List.map_id, ← hL] at h
    exact h
  have hLs : L.length ≤ 70010 := by rw [hL, lineV_len]; omega
  have c0 : w.cell? ⟨b, 0, none⟩ = some (.string (strB s.rest)) := FTab.at' hs 0 (by omega)
  have hbw := hs.lt
  have HTX : Hid (strB (p.1 ++ [10]) = strB p.1 ++ (⟨#[10]⟩ : ByteArray)) := by show _ = _; rw [← strB_app]; rfl
  obtain ⟨s1, hs1⟩ : ∃ s1 : Sc, s1 = { rest := p.2, epoch := ep, seq := s.seq + 1, read := s.read + p.1.length + 1 } := ⟨_, rfl⟩
  obtain ⟨s2, hs2⟩ : ∃ s2 : Sc, s2 = { s with epoch := ep } := ⟨_, rfl⟩
  rw [← hs1, ← hs2]
  have HS1 := Lib.hid hs1
  have HS2 := Lib.hid hs2
  obtain ⟨sq, hsqv⟩ : ∃ sq, sq = s.seq := ⟨_, rfl⟩
  have HSQ := Lib.hid hsqv
  obtain ⟨rd, hrdv⟩ : ∃ rd, rd = s.read := ⟨_, rfl⟩
  have HRD := Lib.hid hrdv
  rw [← hsqv] at HLN hsq
  rw [← hrdv] at hsq hrd
  have hlen2 : (s.rest.length : Int) + rd ≤ 65536 := by omega
  obtain ⟨P, hP⟩ : ∃ P, P = strB p.1 := ⟨_, rfl⟩
  have hPs : P.size ≤ 65536 := by rw [hP, strB_size]; omega
  have HP := Lib.hid hP
  have HPL : Hid (P.size = p.1.length) := by show _ = _; rw [hP, strB_size]
  rw [← hP] at HSP HTX HC
  have hrd2 : rd + (P.size : Int) + 1 ≤ 65536 := by rw [HPL.out]; omega
  have hsq2 : sq ≤ 65536 := by omega
  have HMB : Hid (M ≤ 70000) := by show _ ≤ _; omega
  have HB : Hid (RetRec b L (p.1 ++ [10]) ws.dropLast s1 s2 w = RetRec b L (p.1 ++ [10]) ws.dropLast s1 s2 w) := rfl
  obtain ⟨R, hR⟩ : ∃ R, R = p.2 := ⟨_, rfl⟩
  obtain ⟨T, hTT⟩ : ∃ T, T = strB (p.1 ++ [10]) := ⟨_, rfl⟩
  have HTT := Lib.hid hTT
  have hadd : ∀ w : World, (binOp .add 9 (.string P) (.string ⟨#[10]⟩)).run Tryz.prog w = .ok (.string T) w := fun w => by rw [hTT, HTX.out]; exact run_add P ⟨#[10]⟩ (by have : (⟨#[10]⟩ : ByteArray).size = 1 := rfl; omega) w
  have HR := Lib.hid hR
  rw [← hR] at HC
  clear h hs hok ht htb hc hws hN hepv hL hbl hP hs1 hs2 hsqv hrdv hR hpl hTT
  by_cases hA : sq = 0 ∧ 1 < M + 1
  · obtain ⟨hA1, hA2⟩ := hA
    have hw1 : 1 < ws.length := by have := HN.out; omega
    have HEA : Hid (ep = (numV (strB ws[1]).data.toList).1) := by
      show ep = _
      rw [HEP.out]
      unfold epochV
      rw [if_pos ⟨by rw [← HSQ.out]; exact hA1, hw1⟩, strB_data, List.getD_eq_getElem?_getD, List.getElem?_eq_getElem hw1]
      rfl
    obtain ⟨x, hx⟩ : ∃ x, x = strB ws[1] := ⟨_, rfl⟩
    have HX := Lib.hid hx
    have hxs : x.size ≤ 1000000 := by rw [hx, strB_size]; exact HWSZ.out _ (List.getElem_mem hw1)
    rw [← hx] at HEA
    have hq0 : (sq == 0) = true := by simpa using hA1
    have n1 : (1 : Int) < ((M : Int) + 1) := by omega
    have HW1 := Lib.hid hw1
    clear hA1 hx
    go_enter Tryz.func24, Tryz.ntmps24
    go_wp2_with fail
    refine HC.out.mono ?_
    rintro e w2 ⟨⟨n, rfl⟩, rfl⟩
    go_wp2_with fail
    refine (HSP.out _ (HTB.out _ ((Only.refl b w).drewN n))).mono ?_
    rintro e w3 ⟨rfl, rfl⟩
    have hz0 : (w.drewN n).heap.size = w.heap.size := rfl
    have HW0 : Hid (WordsAt ((w.drewN n).alloc (.cells (wordCells ws) 9)) w.heap.size ws) := ⟨by show w.heap.size < ((w.drewN n).alloc (.cells (wordCells ws) 9)).heap.size; rw [World.size_alloc]; exact Nat.lt_succ_self _, fun j x hx => wordCells_at (w.drewN n) ws hx⟩
    have HO0 : Hid (Only b w ((w.drewN n).alloc (.cells (wordCells ws) 9))) := ((Only.refl b w).drewN n).below (balloc (Below.refl _ _) _)
    have HSC0 : Hid (ScAt ((w.drewN n).alloc (.cells (wordCells ws) 9)) b s) := ScAt.below (FTab.drewN HS.out n) (balloc (Below.refl _ _) _)
    rw [hz0]
    generalize (w.drewN n).alloc (.cells (wordCells ws) 9) = W0 at *
    clear hz0 HSP HC c0
    have d2 : W0.cell? ⟨b, 2, none⟩ = some (.int .i64 sq) := (FTab.at' HSC0.out 2 (by omega)).trans (by show some (Value.int .i64 s.seq) = _; rw [HSQ.out])
    have d1 : W0.cell? ⟨w.heap.size, 1, none⟩ = some (.string x) := by rw [HX.out]; exact HW0.out.2 1 _ (List.getElem?_eq_getElem HW1.out)
    have HNU := Lib.hid (number_any x W0 hxs (HTB.out _ HO0.out))
    go_wp2_with fail
    refine HNU.out.mono ?_
    rintro e w5 ⟨rfl, hb5⟩
    rw [← HEA.out]
    have hsc5 := HSC0.out.below hb5
    have e1 : w5.cell? ⟨b, 1, none⟩ = some (.int .i64 s.epoch) := FTab.at' hsc5 1 (by omega)
    have e2 := FTab.fz hsc5
    have HFR : Hid (FrontAt w b w.heap.size s ep ws (w5.setCell ⟨b, 1, none⟩ (.int .i64 ep))) := by
      refine ⟨ScAt.put hsc5 (i := 1) (by omega) _ fun j hj => ?_, (HO0.out.below hb5).set 1 _, (HW0.out.below hb5).only ((Only.refl b w5).set 1 _) (by omega), Nat.le_refl _⟩
      match j, hj with
      | 0, _ => rfl
      | 1, _ => rfl
      | 2, _ => rfl
      | 3, _ => rfl
    clear hb5 hsc5 HNU d1 d2 HSC0 HO0 HW0
    go_upto_region 7 with fail
    generalize w5.setCell ⟨b, 1, none⟩ (.int .i64 ep) = W at *
    clear e1 e2
    have c1 : W.cell? ⟨b, 1, none⟩ = some (.int .i64 ep) := FTab.at' HFR.out.sc 1 (by omega)
    have c2 : W.cell? ⟨b, 2, none⟩ = some (.int .i64 sq) := (FTab.at' HFR.out.sc 2 (by omega)).trans (by show some (Value.int .i64 s.seq) = _; rw [HSQ.out])
    have HLW : Hid (Calls Tryz.prog 31 #[.int .i64 ep, .int .i64 sq, .slice (some ⟨w.heap.size, 0, none⟩) M (M + 1)] W.drew (RetStr L W.drew)) := HLN.out W.drew w.heap.size HFR.out.words (HTB.out _ (HFR.out.only.drewN 1))
    have y4 : ¬ 9223372036854775807 < P.size + 1 := by omega
    have y1 : (0 : Int) ≤ (M : Int) := by omega
    have x1 : IntKind.i64.wrap (M : Int) = (M : Int) := IntWalk.i64_in _ (by have := HMB.out; omega)
    have x2 : IntKind.i64.wrap ((M : Int) + 1 - 1) = (M : Int) := by rw [Int.add_sub_cancel]; exact x1
    have y2 : (M : Int) ≤ (M : Int) + 1 := by omega
    have y3 : M ≤ M + 1 := by omega
    go_upto_region 7 with fail
    go_region_held3 (fun w' => w'.cell? ⟨b, 1, none⟩ = some (.int .i64 ep) ∧ w'.cell? ⟨b, 2, none⟩ = some (.int .i64 sq)) (first | exact ⟨c1, c2⟩ | exact ⟨keepCell hb3 c1, keepCell hb3 c2⟩) (first | fail | (go_simp; go_at_call 31; ((with_reducible refine HLW.out.mono ?_); rintro e w4 ⟨rfl, hb3⟩)))
    have hb4 : Below W.heap.size W w4 := ⟨hb3.os, hb3.tape, hb3.output, hb3.size, hb3.block⟩
    have HF4 : Hid (FrontAt w b w.heap.size s ep ws w4) := ⟨HFR.out.sc.below hb4, HFR.out.only.below hb4, HFR.out.words.below hb4, Nat.le_refl _⟩
    have hdl : ws.dropLast.length = M := by rw [List.length_dropLast, ← HN.out]; omega
    have HDL := Lib.hid hdl
    have HWD : Hid (∀ W', WordsAt W' w.heap.size ws → WordsAt W' w.heap.size ws.dropLast) := fun W' h => ⟨h.1, fun j x hx => h.2 j x (dropLast_get hx)⟩
    rename_i hHeld
    clear hHeld hb3 hb4 hdl c1 c2 HFR HLW
    by_cases hLT : L = p.1 ++ [10]
    · have hq : ((strB L).toList == (P ++ (⟨#[10]⟩ : ByteArray)).toList) = true := by rw [hLT, HTX.out]; simp
      have c0 : w4.cell? ⟨b, 0, none⟩ = some (.string (strB s.rest)) := FTab.at' HF4.out.sc 0 (by omega)
      have c2 : w4.cell? ⟨b, 2, none⟩ = some (.int .i64 sq) := (FTab.at' HF4.out.sc 2 (by omega)).trans (by show some (Value.int .i64 s.seq) = _; rw [HSQ.out])
      have c3 : w4.cell? ⟨b, 3, none⟩ = some (.int .i64 rd) := (FTab.at' HF4.out.sc 3 (by omega)).trans (by show some (Value.int .i64 s.read) = _; rw [HRD.out])
      have cf := FTab.fz HF4.out.sc
      have z1 : IntKind.i64.wrap (sq + 1) = sq + 1 := IntWalk.i64_in _ (by omega)
      have z2 : IntKind.i64.wrap (rd + (P.size : Int)) = rd + (P.size : Int) := IntWalk.i64_in _ (by omega)
      have z3 : IntKind.i64.wrap (rd + (P.size : Int) + 1) = rd + (P.size : Int) + 1 := IntWalk.i64_in _ (by omega)
      have HF : Hid (RetRec b L (p.1 ++ [10]) ws.dropLast s1 s2 w (.returned (.tuple #[.slice (some ⟨w.heap.size, 0, none⟩) M (M + 1), .bool true])) ((((w4.setCell ⟨b, 0, none⟩ (.string (strB R))).setCell ⟨b, 2, none⟩ (.int .i64 (sq + 1))).setCell ⟨b, 3, none⟩ (.int .i64 (rd + (P.size : Int) + 1))).drew)) := by
        refine ⟨fun _ => ⟨w.heap.size, by rw [HDL.out], Nat.le_refl _, ?_, ?_, ?_⟩, fun h => absurd hLT h⟩
        · exact HWD.out _ (HF4.out.words.only (((((Only.refl b w4).set 0 _).set 2 _).set 3 _).drewN 1) (by omega))
        · have q1 := ScAt.put (s' := { rest := R, epoch := ep, seq := s.seq, read := s.read }) HF4.out.sc (i := 0) (by omega) (.string (strB R)) (fun j hj => by
            match j, hj with
            | 0, _ => rfl
            | 1, _ => rfl
            | 2, _ => rfl
            | 3, _ => rfl)
          have q2 := ScAt.put (s' := { rest := R, epoch := ep, seq := sq + 1, read := s.read }) q1 (i := 2) (by omega) (.int .i64 (sq + 1)) (fun j hj => by
            match j, hj with
            | 0, _ => rfl
            | 1, _ => rfl
            | 2, _ => rfl
            | 3, _ => rfl)
          have q3 := ScAt.put (s' := { rest := R, epoch := ep, seq := sq + 1, read := rd + (P.size : Int) + 1 }) q2 (i := 3) (by omega) (.int .i64 (rd + (P.size : Int) + 1)) (fun j hj => by
            match j, hj with
            | 0, _ => rfl
            | 1, _ => rfl
            | 2, _ => rfl
            | 3, _ => rfl)
          rw [HS1.out, ← HSQ.out, ← HRD.out, ← HPL.out, ← HR.out]
          exact FTab.drewN q3 1
        · exact ((((HF4.out.only).set 0 _).set 2 _).set 3 _).drewN 1
      clear HF4 HWD
      go_wp2_with fail
      · rename_i h9
        have h8 : (!((strB L).toList == (P ++ (⟨#[10]⟩ : ByteArray)).toList)) = true := h9
        rw [hq] at h8
        cases h8
      · go_region
        all_goals
          go_wp2
          go_ret2
          exact HF.out
    · have hq : ((strB L).toList == (P ++ (⟨#[10]⟩ : ByteArray)).toList) = false := by
        rw [ByteArray.toList_eq, ByteArray.toList_eq, beq_eq_false_iff_ne]
        intro e2
        rw [← HTX.out] at e2
        exact hLT e2
      have HF : Hid (RetRec b L (p.1 ++ [10]) ws.dropLast s1 s2 w (.returned (.tuple #[.slice none 0 0, .bool false])) w4) :=
        ⟨fun h => absurd h hLT, fun _ => ⟨rfl, by rw [HS2.out]; exact HF4.out.sc, HF4.out.only⟩⟩
      clear HF4 HWD
      go_wp2_with fail
      · go_ret2
        exact HF.out
      · rename_i h9 _ _
        have h8 : (!((strB L).toList == (P ++ (⟨#[10]⟩ : ByteArray)).toList)) = false := h9
        rw [hq] at h8
        cases h8
  · have HEB : Hid (ep = s.epoch) := by
      show ep = _
      rw [HEP.out]
      unfold epochV
      rw [if_neg (by rw [← HSQ.out, ← HN.out]; exact hA)]
    have hB : ((sq == 0) = true ∧ ¬ 1 < M + 1) ∨ (sq == 0) = false := by
      by_cases e : sq = 0
      · exact .inl ⟨by simpa using e, fun h => hA ⟨e, h⟩⟩
      · exact .inr (by simpa using e)
    clear hA
    go_enter Tryz.func24, Tryz.ntmps24
    go_wp2_with fail
    refine HC.out.mono ?_
    rintro e w2 ⟨⟨n, rfl⟩, rfl⟩
    go_wp2_with fail
    refine (HSP.out _ (HTB.out _ ((Only.refl b w).drewN n))).mono ?_
    rintro e w3 ⟨rfl, rfl⟩
    have hz0 : (w.drewN n).heap.size = w.heap.size := rfl
    have HW0 : Hid (WordsAt ((w.drewN n).alloc (.cells (wordCells ws) 9)) w.heap.size ws) := ⟨by show w.heap.size < ((w.drewN n).alloc (.cells (wordCells ws) 9)).heap.size; rw [World.size_alloc]; exact Nat.lt_succ_self _, fun j x hx => wordCells_at (w.drewN n) ws hx⟩
    have HO0 : Hid (Only b w ((w.drewN n).alloc (.cells (wordCells ws) 9))) := ((Only.refl b w).drewN n).below (balloc (Below.refl _ _) _)
    have HSC0 : Hid (ScAt ((w.drewN n).alloc (.cells (wordCells ws) 9)) b s) := ScAt.below (FTab.drewN HS.out n) (balloc (Below.refl _ _) _)
    rw [hz0]
    generalize (w.drewN n).alloc (.cells (wordCells ws) 9) = W0 at *
    clear hz0 HSP HC c0
    have d2 : W0.cell? ⟨b, 2, none⟩ = some (.int .i64 sq) := (FTab.at' HSC0.out 2 (by omega)).trans (by show some (Value.int .i64 s.seq) = _; rw [HSQ.out])
    have HFR : Hid (FrontAt w b w.heap.size s ep ws W0) := ⟨by rw [HEB.out]; exact HSC0.out, HO0.out, HW0.out, Nat.le_refl _⟩
    clear HSC0 HO0 HW0
    obtain ⟨W, hW⟩ : ∃ W : World, W = W0 := ⟨_, rfl⟩
    rw [← hW] at HFR d2
    rw [← hW]
    clear hW
    rcases hB with ⟨hq0, hN1⟩ | hq0
    · have n1 : ¬ (1 : Int) < ((M : Int) + 1) := by omega
      go_upto_region 7 with fail
      have c1 : W.cell? ⟨b, 1, none⟩ = some (.int .i64 ep) := FTab.at' HFR.out.sc 1 (by omega)
      have c2 : W.cell? ⟨b, 2, none⟩ = some (.int .i64 sq) := (FTab.at' HFR.out.sc 2 (by omega)).trans (by show some (Value.int .i64 s.seq) = _; rw [HSQ.out])
      have HLW : Hid (Calls Tryz.prog 31 #[.int .i64 ep, .int .i64 sq, .slice (some ⟨w.heap.size, 0, none⟩) M (M + 1)] W.drew (RetStr L W.drew)) := HLN.out W.drew w.heap.size HFR.out.words (HTB.out _ (HFR.out.only.drewN 1))
      have y4 : ¬ 9223372036854775807 < P.size + 1 := by omega
      have y1 : (0 : Int) ≤ (M : Int) := by omega
      have x1 : IntKind.i64.wrap (M : Int) = (M : Int) := IntWalk.i64_in _ (by have := HMB.out; omega)
      have x2 : IntKind.i64.wrap ((M : Int) + 1 - 1) = (M : Int) := by rw [Int.add_sub_cancel]; exact x1
      have y2 : (M : Int) ≤ (M : Int) + 1 := by omega
      have y3 : M ≤ M + 1 := by omega
      go_upto_region 7 with fail
      go_region_held3 (fun w' => w'.cell? ⟨b, 1, none⟩ = some (.int .i64 ep) ∧ w'.cell? ⟨b, 2, none⟩ = some (.int .i64 sq)) (first | exact ⟨c1, c2⟩ | exact ⟨keepCell hb3 c1, keepCell hb3 c2⟩) (first | fail | (go_simp; go_at_call 31; ((with_reducible refine HLW.out.mono ?_); rintro e w4 ⟨rfl, hb3⟩)))
      have hb4 : Below W.heap.size W w4 := ⟨hb3.os, hb3.tape, hb3.output, hb3.size, hb3.block⟩
      have HF4 : Hid (FrontAt w b w.heap.size s ep ws w4) := ⟨HFR.out.sc.below hb4, HFR.out.only.below hb4, HFR.out.words.below hb4, Nat.le_refl _⟩
      have hdl : ws.dropLast.length = M := by rw [List.length_dropLast, ← HN.out]; omega
      have HDL := Lib.hid hdl
      have HWD : Hid (∀ W', WordsAt W' w.heap.size ws → WordsAt W' w.heap.size ws.dropLast) := fun W' h => ⟨h.1, fun j x hx => h.2 j x (dropLast_get hx)⟩
      rename_i hHeld
      clear hHeld hb3 hb4 hdl c1 c2 HFR HLW
      by_cases hLT : L = p.1 ++ [10]
      · have hq : ((strB L).toList == (P ++ (⟨#[10]⟩ : ByteArray)).toList) = true := by rw [hLT, HTX.out]; simp
        have c0 : w4.cell? ⟨b, 0, none⟩ = some (.string (strB s.rest)) := FTab.at' HF4.out.sc 0 (by omega)
        have c2 : w4.cell? ⟨b, 2, none⟩ = some (.int .i64 sq) := (FTab.at' HF4.out.sc 2 (by omega)).trans (by show some (Value.int .i64 s.seq) = _; rw [HSQ.out])
        have c3 : w4.cell? ⟨b, 3, none⟩ = some (.int .i64 rd) := (FTab.at' HF4.out.sc 3 (by omega)).trans (by show some (Value.int .i64 s.read) = _; rw [HRD.out])
        have cf := FTab.fz HF4.out.sc
        have z1 : IntKind.i64.wrap (sq + 1) = sq + 1 := IntWalk.i64_in _ (by omega)
        have z2 : IntKind.i64.wrap (rd + (P.size : Int)) = rd + (P.size : Int) := IntWalk.i64_in _ (by omega)
        have z3 : IntKind.i64.wrap (rd + (P.size : Int) + 1) = rd + (P.size : Int) + 1 := IntWalk.i64_in _ (by omega)
        have HF : Hid (RetRec b L (p.1 ++ [10]) ws.dropLast s1 s2 w (.returned (.tuple #[.slice (some ⟨w.heap.size, 0, none⟩) M (M + 1), .bool true])) ((((w4.setCell ⟨b, 0, none⟩ (.string (strB R))).setCell ⟨b, 2, none⟩ (.int .i64 (sq + 1))).setCell ⟨b, 3, none⟩ (.int .i64 (rd + (P.size : Int) + 1))).drew)) := by
          refine ⟨fun _ => ⟨w.heap.size, by rw [HDL.out], Nat.le_refl _, ?_, ?_, ?_⟩, fun h => absurd hLT h⟩
          · exact HWD.out _ (HF4.out.words.only (((((Only.refl b w4).set 0 _).set 2 _).set 3 _).drewN 1) (by omega))
          · have q1 := ScAt.put (s' := { rest := R, epoch := ep, seq := s.seq, read := s.read }) HF4.out.sc (i := 0) (by omega) (.string (strB R)) (fun j hj => by
              match j, hj with
              | 0, _ => rfl
              | 1, _ => rfl
              | 2, _ => rfl
              | 3, _ => rfl)
            have q2 := ScAt.put (s' := { rest := R, epoch := ep, seq := sq + 1, read := s.read }) q1 (i := 2) (by omega) (.int .i64 (sq + 1)) (fun j hj => by
              match j, hj with
              | 0, _ => rfl
              | 1, _ => rfl
              | 2, _ => rfl
              | 3, _ => rfl)
            have q3 := ScAt.put (s' := { rest := R, epoch := ep, seq := sq + 1, read := rd + (P.size : Int) + 1 }) q2 (i := 3) (by omega) (.int .i64 (rd + (P.size : Int) + 1)) (fun j hj => by
              match j, hj with
              | 0, _ => rfl
              | 1, _ => rfl
              | 2, _ => rfl
              | 3, _ => rfl)
            rw [HS1.out, ← HSQ.out, ← HRD.out, ← HPL.out, ← HR.out]
            exact FTab.drewN q3 1
          · exact ((((HF4.out.only).set 0 _).set 2 _).set 3 _).drewN 1
        clear HF4 HWD
        go_wp2_with fail
        · rename_i h9
          have h8 : (!((strB L).toList == (P ++ (⟨#[10]⟩ : ByteArray)).toList)) = true := h9
          rw [hq] at h8
          cases h8
        · go_region
          all_goals
            go_wp2
            go_ret2
            exact HF.out
      · have hq : ((strB L).toList == (P ++ (⟨#[10]⟩ : ByteArray)).toList) = false := by
          rw [ByteArray.toList_eq, ByteArray.toList_eq, beq_eq_false_iff_ne]
          intro e2
          rw [← HTX.out] at e2
          exact hLT e2
        have HF : Hid (RetRec b L (p.1 ++ [10]) ws.dropLast s1 s2 w (.returned (.tuple #[.slice none 0 0, .bool false])) w4) :=
          ⟨fun h => absurd h hLT, fun _ => ⟨rfl, by rw [HS2.out]; exact HF4.out.sc, HF4.out.only⟩⟩
        clear HF4 HWD
        go_wp2_with fail
        · go_ret2
          exact HF.out
        · rename_i h9 _ _
          have h8 : (!((strB L).toList == (P ++ (⟨#[10]⟩ : ByteArray)).toList)) = false := h9
          rw [hq] at h8
          cases h8
    · go_upto_region 7 with fail
      have c1 : W.cell? ⟨b, 1, none⟩ = some (.int .i64 ep) := FTab.at' HFR.out.sc 1 (by omega)
      have c2 : W.cell? ⟨b, 2, none⟩ = some (.int .i64 sq) := (FTab.at' HFR.out.sc 2 (by omega)).trans (by show some (Value.int .i64 s.seq) = _; rw [HSQ.out])
      have HLW : Hid (Calls Tryz.prog 31 #[.int .i64 ep, .int .i64 sq, .slice (some ⟨w.heap.size, 0, none⟩) M (M + 1)] W.drew (RetStr L W.drew)) := HLN.out W.drew w.heap.size HFR.out.words (HTB.out _ (HFR.out.only.drewN 1))
      have y4 : ¬ 9223372036854775807 < P.size + 1 := by omega
      have y1 : (0 : Int) ≤ (M : Int) := by omega
      have x1 : IntKind.i64.wrap (M : Int) = (M : Int) := IntWalk.i64_in _ (by have := HMB.out; omega)
      have x2 : IntKind.i64.wrap ((M : Int) + 1 - 1) = (M : Int) := by rw [Int.add_sub_cancel]; exact x1
      have y2 : (M : Int) ≤ (M : Int) + 1 := by omega
      have y3 : M ≤ M + 1 := by omega
      go_upto_region 7 with fail
      go_region_held3 (fun w' => w'.cell? ⟨b, 1, none⟩ = some (.int .i64 ep) ∧ w'.cell? ⟨b, 2, none⟩ = some (.int .i64 sq)) (first | exact ⟨c1, c2⟩ | exact ⟨keepCell hb3 c1, keepCell hb3 c2⟩) (first | fail | (go_simp; go_at_call 31; ((with_reducible refine HLW.out.mono ?_); rintro e w4 ⟨rfl, hb3⟩)))
      have hb4 : Below W.heap.size W w4 := ⟨hb3.os, hb3.tape, hb3.output, hb3.size, hb3.block⟩
      have HF4 : Hid (FrontAt w b w.heap.size s ep ws w4) := ⟨HFR.out.sc.below hb4, HFR.out.only.below hb4, HFR.out.words.below hb4, Nat.le_refl _⟩
      have hdl : ws.dropLast.length = M := by rw [List.length_dropLast, ← HN.out]; omega
      have HDL := Lib.hid hdl
      have HWD : Hid (∀ W', WordsAt W' w.heap.size ws → WordsAt W' w.heap.size ws.dropLast) := fun W' h => ⟨h.1, fun j x hx => h.2 j x (dropLast_get hx)⟩
      rename_i hHeld
      clear hHeld hb3 hb4 hdl c1 c2 HFR HLW
      by_cases hLT : L = p.1 ++ [10]
      · have hq : ((strB L).toList == (P ++ (⟨#[10]⟩ : ByteArray)).toList) = true := by rw [hLT, HTX.out]; simp
        have c0 : w4.cell? ⟨b, 0, none⟩ = some (.string (strB s.rest)) := FTab.at' HF4.out.sc 0 (by omega)
        have c2 : w4.cell? ⟨b, 2, none⟩ = some (.int .i64 sq) := (FTab.at' HF4.out.sc 2 (by omega)).trans (by show some (Value.int .i64 s.seq) = _; rw [HSQ.out])
        have c3 : w4.cell? ⟨b, 3, none⟩ = some (.int .i64 rd) := (FTab.at' HF4.out.sc 3 (by omega)).trans (by show some (Value.int .i64 s.read) = _; rw [HRD.out])
        have cf := FTab.fz HF4.out.sc
        have z1 : IntKind.i64.wrap (sq + 1) = sq + 1 := IntWalk.i64_in _ (by omega)
        have z2 : IntKind.i64.wrap (rd + (P.size : Int)) = rd + (P.size : Int) := IntWalk.i64_in _ (by omega)
        have z3 : IntKind.i64.wrap (rd + (P.size : Int) + 1) = rd + (P.size : Int) + 1 := IntWalk.i64_in _ (by omega)
        have HF : Hid (RetRec b L (p.1 ++ [10]) ws.dropLast s1 s2 w (.returned (.tuple #[.slice (some ⟨w.heap.size, 0, none⟩) M (M + 1), .bool true])) ((((w4.setCell ⟨b, 0, none⟩ (.string (strB R))).setCell ⟨b, 2, none⟩ (.int .i64 (sq + 1))).setCell ⟨b, 3, none⟩ (.int .i64 (rd + (P.size : Int) + 1))).drew)) := by
          refine ⟨fun _ => ⟨w.heap.size, by rw [HDL.out], Nat.le_refl _, ?_, ?_, ?_⟩, fun h => absurd hLT h⟩
          · exact HWD.out _ (HF4.out.words.only (((((Only.refl b w4).set 0 _).set 2 _).set 3 _).drewN 1) (by omega))
          · have q1 := ScAt.put (s' := { rest := R, epoch := ep, seq := s.seq, read := s.read }) HF4.out.sc (i := 0) (by omega) (.string (strB R)) (fun j hj => by
              match j, hj with
              | 0, _ => rfl
              | 1, _ => rfl
              | 2, _ => rfl
              | 3, _ => rfl)
            have q2 := ScAt.put (s' := { rest := R, epoch := ep, seq := sq + 1, read := s.read }) q1 (i := 2) (by omega) (.int .i64 (sq + 1)) (fun j hj => by
              match j, hj with
              | 0, _ => rfl
              | 1, _ => rfl
              | 2, _ => rfl
              | 3, _ => rfl)
            have q3 := ScAt.put (s' := { rest := R, epoch := ep, seq := sq + 1, read := rd + (P.size : Int) + 1 }) q2 (i := 3) (by omega) (.int .i64 (rd + (P.size : Int) + 1)) (fun j hj => by
              match j, hj with
              | 0, _ => rfl
              | 1, _ => rfl
              | 2, _ => rfl
              | 3, _ => rfl)
            rw [HS1.out, ← HSQ.out, ← HRD.out, ← HPL.out, ← HR.out]
            exact FTab.drewN q3 1
          · exact ((((HF4.out.only).set 0 _).set 2 _).set 3 _).drewN 1
        clear HF4 HWD
        go_wp2_with fail
        · rename_i h9
          have h8 : (!((strB L).toList == (P ++ (⟨#[10]⟩ : ByteArray)).toList)) = true := h9
          rw [hq] at h8
          cases h8
        · go_region
          all_goals
            go_wp2
            go_ret2
            exact HF.out
      · have hq : ((strB L).toList == (P ++ (⟨#[10]⟩ : ByteArray)).toList) = false := by
          rw [ByteArray.toList_eq, ByteArray.toList_eq, beq_eq_false_iff_ne]
          intro e2
          rw [← HTX.out] at e2
          exact hLT e2
        have HF : Hid (RetRec b L (p.1 ++ [10]) ws.dropLast s1 s2 w (.returned (.tuple #[.slice none 0 0, .bool false])) w4) :=
          ⟨fun h => absurd h hLT, fun _ => ⟨rfl, by rw [HS2.out]; exact HF4.out.sc, HF4.out.only⟩⟩
        clear HF4 HWD
        go_wp2_with fail
        · go_ret2
          exact HF.out
        · rename_i h9 _ _
          have h8 : (!((strB L).toList == (P ++ (⟨#[10]⟩ : ByteArray)).toList)) = false := h9
          rw [hq] at h8
          cases h8
end Go.Proofs.YtnnnihjagjfkdaaGreatDoor
