/-
  The walk of the reference's wordsOf. Own text.
-/
import Derived.Test.YtnnnihjagjfkdaaGreatDoorRefO
import Derived.Laws.Concat
namespace Go.Proofs.YtnnnihjagjfkdaaGreatDoor
open Go.RowKit
set_option linter.unusedVariables false
def RetWO (r : Option (List (List UInt8))) (w : World) (e : Ending) (w' : World) : Prop := Below w.heap.size w w' ∧ ((r = none ∧ e = .returned (.slice none 0 0)) ∨ ∃ ws g cap, r = some ws ∧ e = .returned (.slice (some ⟨g, 0, none⟩) ws.length cap) ∧ w.heap.size ≤ g ∧ g < w'.heap.size ∧ 1 ≤ ws.length ∧ Flat w' 1 encT (some ⟨g, 0, none⟩) ws)
/-- The row of a list that is not empty. -/
theorem own_row {w : World} {base : Nat} {e : TypeId} {v : Value} {xs : List (List UInt8)} (h : Own w base e 1 encT v xs) (hn : 0 < xs.length) : ∃ g cap, v = .slice (some ⟨g, 0, none⟩) xs.length cap ∧ xs.length ≤ cap ∧ base ≤ g ∧ g < w.heap.size ∧ Flat w 1 encT (some ⟨g, 0, none⟩) xs := by
  obtain ⟨oa, c, e1, _, hf⟩ := h.flat (fun _ => rfl)
  rcases h.2 with ⟨e2, h0⟩ | ⟨g, cap, cur, e2, hbg, hrow, hc, _⟩
  · omega
  · rw [e2] at e1
    simp only [Value.slice.injEq] at e1
    obtain ⟨rfl, -, -⟩ := e1
    exact ⟨g, cap, e2, hc, hbg, (Array.getElem?_eq_some_iff.1 hrow).1, hf⟩
theorem Flat.preT {w : World} {oa : Option Addr} {xs : List (List UInt8)} (h : Flat w 1 encT oa xs) (k : Nat) : Flat w 1 encT oa (xs.take k) := fun i hi j hj => by
  rw [List.length_take] at hi
  have h1 := h i (by omega) j hj
  rw [List.getElem_take]
  exact h1
theorem wordsV_le (l : List UInt8) : ∀ x ∈ wordsV l, x.length ≤ l.length := by
  rw [← splitV_words]; exact splitV_le 32 l
set_option maxRecDepth 100000 in
set_option maxHeartbeats 4000000 in
theorem wordsOf_any (line epS : ByteArray) (sq : Nat) (w : World) (hl : line.size ≤ 70000) (he : epS.size ≤ 70000) (hsq : sq ≤ 100000) :
    Calls Tryz.prog 42 #[.string line, .string epS, .int .i64 sq] w (RetWO (wordsOfV line.data.toList epS.data.toList sq) w) := by
  have HPA : Hid (Calls Tryz.prog 41 #[.string line, .int .u8 32] w (RetParts (wordsV line.data.toList) w)) := by
    have h := parts_any line 32 w (by omega)
    rw [splitV_words] at h
    exact h
  obtain ⟨P, hP⟩ : ∃ P, P = wordsV line.data.toList := ⟨_, rfl⟩
  have hPn : 0 < P.length := by rw [hP]; exact List.length_pos_iff.2 (wordsV_ne _)
  have hPl : P.length ≤ 70001 := by rw [hP]; have := wordsV_len line.data.toList; have h2 : line.data.toList.length = line.size := by simp
                                    omega
  have HWV : Hid (wordsOfV line.data.toList epS.data.toList sq = if P.length < 2 then none else if hexV (sumV (epS.data.toList ++ [32] ++ Lib.itoa sq ++ [32] ++ bodyV P.dropLast)) = P.getLastD [] then some P.dropLast else none) := by rw [hP]; rfl
  rw [← hP] at HPA
  have HPE := Lib.hid hP
  clear hP
  go_enter Tryz.func42, Tryz.ntmps42
  go_wp2_with fail
  refine HPA.out.mono ?_
  rintro e w1 ⟨v1, rfl, hv1, hb1⟩
  obtain ⟨g, cap, rfl, hcap, hg0, hg1, hf1⟩ := own_row hv1 hPn
  have HB1 := Lib.hid hb1
  have HF1 := Lib.hid hf1
  obtain ⟨n, hn⟩ : ∃ n, n = P.length := ⟨_, rfl⟩
  have HN := Lib.hid hn
  rw [← hn] at hPn hPl hcap
  rw [← hn]
  clear hv1 hb1 hf1 hn HPA
  by_cases h2 : n < 2
  · have HF : Hid (RetWO (wordsOfV line.data.toList epS.data.toList sq) w (.returned (.slice none 0 0)) w1) := ⟨HB1.out, .inl ⟨by rw [HWV.out, if_pos (by rw [← HN.out]; exact h2)], rfl⟩⟩
    have k2 : (n : Int) < 2 := by omega
    clear h2
    go_wp2
    go_ret
    exact HF.out
  · have k2 : ¬ (n : Int) < 2 := by omega
    obtain ⟨m, hm⟩ : ∃ m, n = m + 1 := ⟨n - 1, by omega⟩
    have em : (n : Int) - 1 = (m : Int) := by omega
    have m0 : (0 : Int) ≤ (m : Int) := by omega
    have mn : (m : Int) < (n : Int) := by omega
    have hlast : P.getLastD [] = P[m]'(by rw [← HN.out]; omega) := by
      rw [List.getLastD_eq_getLast?, List.getLast?_eq_getElem?]
      have e : P.length - 1 = m := by rw [← HN.out]; omega
      rw [e, List.getElem?_eq_getElem (by rw [← HN.out]; omega)]
      rfl
    have hpre := line_pre (line := line.data.toList) (by rw [← HPE.out, ← HN.out]; omega)
    rw [← HPE.out, hlast] at hpre
    obtain ⟨b9, off9, e9, c9⟩ := HF1.out.tx (i := m) (by rw [← HN.out]; omega)
    simp only [Option.some.injEq, Addr.mk.injEq, and_true] at e9
    obtain ⟨rfl, rfl⟩ := e9
    rw [Nat.zero_add] at c9
    obtain ⟨la, hla⟩ : ∃ la, la = P[m]'(by rw [← HN.out]; omega) := ⟨_, rfl⟩
    rw [← hla] at c9 hpre hlast
    obtain ⟨bo, hbo⟩ : ∃ bo, bo = bodyV P.dropLast := ⟨_, rfl⟩
    rw [← hbo] at hpre
    have hsz : line.size = bo.length + (la.length + 1) := by
      have h := congrArg List.length hpre
      have h2 : line.data.toList.length = line.size := by simp
      rw [List.length_append, List.length_cons] at h
      omega
    obtain ⟨LS, hLS⟩ : ∃ LS, LS = strB la := ⟨_, rfl⟩
    rw [← hLS] at c9
    have hLz : LS.size = la.length := by rw [hLS, strB_size]
    obtain ⟨bl, hbl⟩ : ∃ bl, bl = bo.length := ⟨_, rfl⟩
    have e24 : (line.size : Int) - (LS.size : Int) - 1 = (bl : Int) := by omega
    have bl0 : (0 : Int) ≤ (bl : Int) := by omega
    have bls : (bl : Int) ≤ (line.size : Int) := by omega
    have LSs : LS.size ≤ 70000 := by omega
    obtain ⟨LB, hLB⟩ : ∃ LB, LB = line.extract 0 bl := ⟨_, rfl⟩
    have hLBe : LB = strB bo := by
      rw [hLB]
      apply ByteArray.ext
      apply Array.ext'
      rw [extractL, List.drop_zero, hpre, hbl, Nat.sub_zero, List.take_left' rfl]
      rfl
    have hLBs : LB.size ≤ 70000 := by rw [hLBe, strB_size]; omega
    obtain ⟨D, hD⟩ : ∃ D, D = strB (Lib.itoa (sq : Int)) := ⟨_, rfl⟩
    have hDs : D.size ≤ 21 := by rw [hD, strB_size]; exact Lib.itoa_length_le _ (by omega) (by omega)
    obtain ⟨T, hT⟩ : ∃ T, T = epS.data.toList ++ [32] ++ Lib.itoa (sq : Int) ++ [32] ++ bo := ⟨_, rfl⟩
    have hTe : epS ++ (⟨#[32]⟩ : ByteArray) ++ D ++ (⟨#[32]⟩ : ByteArray) ++ LB = strB T := by
      rw [hD, hLBe, hT, ← strB_app, ← strB_app, ← strB_app, ← strB_app, strB_eq]
      rfl
    have hTl : (strB T).size ≤ 1000000 := by
      rw [← hTe]
      simp only [ByteArray.size_append]
      have : (⟨#[32]⟩ : ByteArray).size = 1 := rfl
      omega
    obtain ⟨x, hx⟩ : ∃ x, x = sumV T := ⟨_, rfl⟩
    have x0 : 0 ≤ x := by rw [hx]; exact (sumV_bd T).1
    have x1 : x < 4294967296 := by rw [hx]; exact (sumV_bd T).2
    obtain ⟨H, hH⟩ : ∃ H, H = strB (hexV x) := ⟨_, rfl⟩
    have HDE : Hid (∀ W, Calls Tryz.prog 59 #[.int .i64 sq] W (fun e w' => e = .returned (.string D) ∧ Below W.heap.size W w')) := fun W => by
      rw [hD]
      exact decimal_any sq W (by omega)
    have HCK : Hid (∀ W, Calls Tryz.prog 58 #[.string (epS ++ (⟨#[32]⟩ : ByteArray) ++ D ++ (⟨#[32]⟩ : ByteArray) ++ LB)] W (fun e w' => e = .returned (.int .u32 x) ∧ Below W.heap.size W w')) := fun W => by
      rw [hTe, hx]
      exact (check_any (strB T) W hTl).mono fun e w' h => ⟨h.1, by rw [h.2]; exact Below.refl _ _⟩
    have HHX : Hid (∀ W, Calls Tryz.prog 57 #[.int .u32 x] W (fun e w' => e = .returned (.string H) ∧ Below W.heap.size W w')) := fun W => by
      rw [hH]
      exact (hexed_any x W x0 x1).mono fun e w' h => ⟨h.1, by rw [h.2]; exact Below.refl _ _⟩
    have HRS : Hid (wordsOfV line.data.toList epS.data.toList sq = if H = LS then some P.dropLast else none) := by
      show _ = _
      rw [HWV.out, if_neg (by rw [← HN.out]; omega), ← hbo, ← hT, ← hx, hlast]
      by_cases e : hexV x = la
      · rw [if_pos e, if_pos (by rw [hH, hLS, e])]
      · rw [if_neg e, if_neg (fun h => e (by rw [hH, hLS] at h; exact congrArg (fun z : ByteArray => z.data.toList) h))]
    rw [hLB] at HCK hLBs
    have HPX : Hid (1 ≤ P.dropLast.length ∧ P.dropLast.length = m ∧ Flat w1 1 encT (some ⟨g, 0, none⟩) P.dropLast) := by
      have e : P.dropLast.length = m := by rw [List.length_dropLast, ← HN.out]; omega
      refine ⟨by omega, e, ?_⟩
      have h := HF1.out.preT m
      have e2 : P.take m = P.dropLast := by rw [List.dropLast_eq_take]; congr 1; rw [← HN.out]; omega
      rw [e2] at h
      exact h
    clear hlast hpre hla hbo hsz hLS hLz hbl hLB hLBe hD hT hTe hTl hx hH HWV h2 hm
    go_upto_region 5 with fail
    have r1 : ∀ W, (Op.stringOp .add epS ⟨#[32]⟩).run Tryz.prog W = .ok (.string (epS ++ (⟨#[32]⟩ : ByteArray))) W := fun W => run_string_add_sum W _ _ (by have : (⟨#[32]⟩ : ByteArray).size = 1 := rfl; omega)
    have r2 : ∀ W, (Op.stringOp .add (epS ++ (⟨#[32]⟩ : ByteArray)) D).run Tryz.prog W = .ok (.string (epS ++ (⟨#[32]⟩ : ByteArray) ++ D)) W := fun W => run_string_add_sum W _ _ (by have : (⟨#[32]⟩ : ByteArray).size = 1 := rfl; rw [ByteArray.size_append]; omega)
    have r3 : ∀ W, (Op.stringOp .add (epS ++ (⟨#[32]⟩ : ByteArray) ++ D) ⟨#[32]⟩).run Tryz.prog W = .ok (.string (epS ++ (⟨#[32]⟩ : ByteArray) ++ D ++ (⟨#[32]⟩ : ByteArray))) W := fun W => run_string_add_sum W _ _ (by have : (⟨#[32]⟩ : ByteArray).size = 1 := rfl; rw [ByteArray.size_append, ByteArray.size_append]; omega)
    have r4 : ∀ W, (Op.stringOp .add (epS ++ (⟨#[32]⟩ : ByteArray) ++ D ++ (⟨#[32]⟩ : ByteArray)) (line.extract 0 bl)).run Tryz.prog W = .ok (.string (epS ++ (⟨#[32]⟩ : ByteArray) ++ D ++ (⟨#[32]⟩ : ByteArray) ++ line.extract 0 bl)) W := fun W => run_string_add_sum W _ _ (by have : (⟨#[32]⟩ : ByteArray).size = 1 := rfl; rw [ByteArray.size_append, ByteArray.size_append, ByteArray.size_append]; omega)
    have w15 : IntKind.i64.wrap ((n : Int) - 1) = (m : Int) := by rw [em]; exact IntWalk.i64_in _ (by omega)
    have w16 : IntKind.i64.wrap (m : Int) = (m : Int) := IntWalk.i64_in _ (by omega)
    have mnN : m < n := by omega
    have hS : Hid (∀ W, Below w1.heap.size w1 W → Below w1.heap.size w1 W ∧ W.cell? ⟨g, m, none⟩ = some (.string LS)) := fun W hb => ⟨hb, keepCell hb c9⟩
    by_cases hHL : H = LS
    · have f1 : (H.toList == LS.toList) = true := by rw [hHL, beq_iff_eq]
      have HFI : Hid (∀ W, Below w1.heap.size w1 W → RetWO (wordsOfV line.data.toList epS.data.toList sq) w (.returned (.slice (some ⟨g, 0, none⟩) m cap)) W) := fun W hb => by
        obtain ⟨p1, p2, p3⟩ := HPX.out
        refine ⟨bthen HB1.out hb, .inr ⟨P.dropLast, g, cap, by rw [HRS.out, if_pos hHL], by rw [p2], hg0, Nat.lt_of_lt_of_le hg1 hb.size, p1, p3.below hb⟩⟩
      have mc : (m : Int) ≤ (cap : Int) := by omega
      clear hHL
      go_region_held3 (fun w' => Below w1.heap.size w1 w' ∧ w'.cell? ⟨g, m, none⟩ = some (.string LS))
        (first | (refine hS.out _ ?_; (first | assumption | go_grown)))
        (first | fail | (go_at_call 59; ((with_reducible refine (HDE.out _).mono ?_); rintro e w7 ⟨rfl, hb7⟩; have hz7 : Below w1.heap.size w1 w7 := bthen (And.left (by assumption)) hb7)) | (go_at_call 58; ((with_reducible refine (HCK.out _).mono ?_); rintro e w8 ⟨rfl, hb8⟩; have hz8 : Below w1.heap.size w1 w8 := bthen (And.left (by assumption)) hb8)) | (go_at_call 57; ((with_reducible refine (HHX.out _).mono ?_); rintro e w9 ⟨rfl, hb9⟩; have hz9 : Below w1.heap.size w1 w9 := bthen (And.left (by assumption)) hb9)))
      all_goals
        have HF := Lib.hid (HFI.out _ hz9)
        go_wp2
        go_ret
        exact HF.out
    · have f1 : (H.toList == LS.toList) = false := by
        rw [beq_eq_false_iff_ne]
        exact fun e => hHL (toList_inj.1 e)
      have HFI : Hid (∀ W, Below w1.heap.size w1 W → RetWO (wordsOfV line.data.toList epS.data.toList sq) w (.returned (.slice none 0 0)) W) := fun W hb =>
        ⟨bthen HB1.out hb, .inl ⟨by rw [HRS.out, if_neg hHL], rfl⟩⟩
      clear hHL
      go_region_held3 (fun w' => Below w1.heap.size w1 w' ∧ w'.cell? ⟨g, m, none⟩ = some (.string LS))
        (first | (refine hS.out _ ?_; (first | assumption | go_grown)))
        (first | fail | (go_at_call 59; ((with_reducible refine (HDE.out _).mono ?_); rintro e w7 ⟨rfl, hb7⟩; have hz7 : Below w1.heap.size w1 w7 := bthen (And.left (by assumption)) hb7)) | (go_at_call 58; ((with_reducible refine (HCK.out _).mono ?_); rintro e w8 ⟨rfl, hb8⟩; have hz8 : Below w1.heap.size w1 w8 := bthen (And.left (by assumption)) hb8)) | (go_at_call 57; ((with_reducible refine (HHX.out _).mono ?_); rintro e w9 ⟨rfl, hb9⟩; have hz9 : Below w1.heap.size w1 w9 := bthen (And.left (by assumption)) hb9)))
      all_goals
        have HF := Lib.hid (HFI.out _ hz9)
        go_wp2
        go_ret
        exact HF.out
end Go.Proofs.YtnnnihjagjfkdaaGreatDoor
