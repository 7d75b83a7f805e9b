/-
  printworkskeep4.washes: its walk. Own text (printed by gen_washes.py).
-/
import Derived.Test.YtjggcnpnjnmamaaOrder
import Derived.Test.YtjggcnpnjnmamaaReverseI
import Derived.Test.YtjggcnpnjnmamaaShiftV
namespace Go.Proofs.Ytjggcnpnjnmamaa
open Go.RowKit
set_option linter.unusedVariables false
def fw (x : Int) : Int := wi x 0 1000
/-- The costs that washes makes. -/
def firV (first : List Int) : List Int := if first.length = 0 then [3] else (first.take 7).map fw
def cellV (W : List (List Int)) (i k : Nat) : Int := if i < W.length ∧ k < (W.getD i []).length then fw ((W.getD i []).getD k 0) else 7 * (i : Int) + 3 * (k : Int)
theorem fw_bd (x : Int) : 0 ≤ fw x ∧ fw x ≤ 1000 := wi_bd x 0 1000 (by omega)
theorem firV_len (first : List Int) : (firV first).length = if first.length = 0 then 1 else min 7 first.length := by
  unfold firV
  split
  · rfl
  · simp
theorem cellV_bd {W : List (List Int)} {i k : Nat} (hi : i ≤ 7) (hk : k ≤ 7) : 0 ≤ cellV W i k ∧ cellV W i k ≤ 1000 := by
  unfold cellV
  split
  · exact fw_bd _
  · omega
/-- What washes returns. -/
def RetWashes (first : List Int) (W : List (List Int)) (n : Nat) (w : World) (e : Ending) (w' : World) : Prop :=
  ∃ g c g2 c2, e = .returned (.tuple #[.slice (some ⟨g, 0, none⟩) n c, .slice (some ⟨g2, 0, none⟩) n c2]) ∧ Flat w' 1 encInt (some ⟨g, 0, none⟩) (firV first) ∧ Rows1 w' 1 encInt (some ⟨g2, 0, none⟩) (tabF n n (cellV W)) ∧ Below w.heap.size w w'
theorem takeMap {xs M : List Int} {i : Nat} (h : i < xs.length) (hM : M = xs.map fw) : M.take (i + 1) = M.take i ++ [fw xs[i]] := by
  subst hM
  rw [List.take_succ_eq_append_getElem (by rw [List.length_map]; exact h), List.getElem_map]
theorem lst_succ2 (n : Nat) (f : Nat → Int) : lst (n + 1) f = lst n f ++ [f n] := by simp [lst, List.range_succ]
set_option maxRecDepth 100000 in
set_option maxHeartbeats 8000000 in
theorem washes_nil (oa ob : Option Addr) (first : List Int) (W : List (List Int)) (ca cb : Nat) (w : World) (h0 : first.length = 0) (hm2 : W.length ≤ maxLen) (hx : Rows1 w 1 encInt ob W) :
    Calls Try.prog 35 #[.slice oa first.length ca, .slice ob W.length cb] w (RetWashes first W 1 w) := by
  have HX := Lib.hid hx
  obtain ⟨N2, hN2⟩ : ∃ N2, N2 = W.length := ⟨_, rfl⟩
  have hN9 : N2 ≤ 9223372036854775807 := by rw [hN2]; unfold maxLen at hm2; omega
  have HN2 := Lib.hid hN2
  rw [← hN2]
  have HF0 : Hid (firV first = [3]) := by show _ = _; unfold firV; rw [if_pos h0]
  obtain ⟨n, hn⟩ : ∃ n : Nat, n = 1 := ⟨_, rfl⟩
  rw [h0]
  clear h0 hx hN2 hm2
  clear hn
  go_enter Try.func35, Try.ntmps35
  go_wp2
  go_loopw [6, 8] (fun s6 s8 wr => s6 = .slice none 0 0 ∧ s8 = .int .i64 0 ∧ w = wr) (fun _ _ _ => 0)
  case atStart => exact ⟨rfl, rfl, rfl⟩
  case round =>
    obtain ⟨rfl, rfl, rfl⟩ := hrel
    go_upto_region 9 with fail
    have HFL0 : Hid (Flat (w.alloc (.cells #[.int .i64 3] 3)) 1 encInt (some ⟨w.heap.size, 0, none⟩) (firV first)) := by
      rw [HF0.out]
      exact Flat.litN w 1 encInt [(3 : Int)] 3 (fun _ => rfl)
    have HB9 : Hid (Below w.heap.size w (w.alloc (.cells #[.int .i64 3] 3))) := balloc (Below.refl _ _) _
    generalize w.alloc (.cells #[.int .i64 3] 3) = w9 at *
    generalize hsv : Value.slice (some ⟨w.heap.size, 0, none⟩) 1 1 = sv at *
    obtain ⟨n, gf, cg, HN1, hgf, hsv2⟩ : ∃ n gf cg, Hid (n = 1) ∧ Hid (gf = w.heap.size) ∧ sv = .slice (some ⟨gf, 0, none⟩) n cg := ⟨1, w.heap.size, 1, Lib.hid rfl, Lib.hid rfl, hsv.symm⟩
    clear hsv
    subst hsv2
    have HFL : Hid (Flat w9 1 encInt (some ⟨gf, 0, none⟩) (firV first)) := by rw [hgf.out]; exact HFL0.out
    have hn1 : 1 ≤ n ∧ n ≤ 7 := by have := HN1.out; omega
    go_wp2
    go_loopw [7, 37] (fun s7 s37 wr => ∃ (i : Nat) (v : Value), i ≤ n ∧ s37 = .int .i64 i ∧ s7 = v ∧ Hid (Below w9.heap.size w9 wr ∧ ∃ vs, Own wr w9.heap.size 25 1 encV v vs ∧ Clones wr n i (cellV W) vs ∧ (vs = [] → v = .slice none 0 0))) (fun _ s37 _ => n - (intOf s37).toNat)
    case atStart => exact ⟨0, _, by omega, rfl, rfl, Lib.hid ⟨Below.refl _ _, [], Own.nil _ _ _ _ _, ⟨rfl, fun i h => by simp at h⟩, fun _ => rfl⟩⟩
    case round =>
      obtain ⟨i, v, hi, rfl, hv, HW⟩ := hrel
      subst hv
      obtain ⟨vs, hown, hcl, hnil⟩ := HW.out.2
      have HBO := Lib.hid HW.out.1
      have HOWN := Lib.hid hown
      have HCL := Lib.hid hcl
      have HNIL := Lib.hid hnil
      clear HW hown hcl hnil
      by_cases hlt : i < n
      · obtain ⟨w4, hw4⟩ : ∃ w4 : World, w4 = wr := ⟨_, rfl⟩
        subst hw4
        have g1 : IntKind.i64.wrap (7 * (i : Int)) = 7 * (i : Int) := IntWalk.i64_in _ (by omega)
        go_wp2
        go_loopw [10, 42] (fun s10 s42 wx => ∃ (k : Nat) (v2 : Value), k ≤ n ∧ s42 = .int .i64 k ∧ s10 = v2 ∧ Hid (Below w4.heap.size w4 wx ∧ Own wx w4.heap.size 3 1 encInt v2 (lst k (cellV W i)))) (fun _ s42 _ => n - (intOf s42).toNat)
        case atStart => exact ⟨0, _, by omega, rfl, rfl, Lib.hid ⟨Below.refl _ _, Own.nil _ _ _ _ _⟩⟩
        case round =>
          obtain ⟨k, v2, hk, rfl, hv, HI⟩ := hrel
          subst hv
          have HBI := Lib.hid HI.out.1
          have HOI := Lib.hid HI.out.2
          clear HI
          by_cases hltk : k < n
          · have g2 : IntKind.i64.wrap (3 * (k : Int)) = 3 * (k : Int) := IntWalk.i64_in _ (by omega)
            have HLEN : Hid ((lst k (cellV W i)).length ≤ 12) := by show _ ≤ _; rw [lst_length]; omega
            by_cases hi2 : (i : Int) < (N2 : Int)
            · have hiW : i < W.length := by have := HN2.out; omega
              obtain ⟨bw, offw, rfl⟩ := HX.out.some (by omega)
              obtain ⟨oak, capk, ck, hmk, hfk⟩ := (HX.out.below (bthen HB9.out (bthen HBO.out HBI.out))).at hiW
              obtain ⟨r, hr⟩ : ∃ r, r = W[i].length := ⟨_, rfl⟩
              have hr9 : r ≤ 9223372036854775807 := by rw [hr]; unfold maxLen at hmk; omega
              rw [← hr] at ck
              have hg : W.getD i [] = W[i] := by simp [List.getD_eq_getElem?_getD, hiW]
              by_cases hk2 : (k : Int) < (r : Int)
              · have hkr : k < W[i].length := by rw [← hr]; omega
                obtain ⟨bk, offk, rfl, kc⟩ := hfk.int hkr
                have HV : Hid (cellV W i k = fw W[i][k]) := by
                  show _ = _
                  unfold cellV
                  rw [hg, if_pos ⟨hiW, hkr⟩]
                  simp [List.getD_eq_getElem?_getD, hkr]
                generalize W[i][k] = x at *
                obtain ⟨V, hVV⟩ : ∃ V, V = fw x := ⟨_, rfl⟩
                have HWI : Hid (∀ w', Calls Try.prog 20 #[.int .i64 x, .int .i64 0, .int .i64 1000] w' fun e w'' => e = .returned (.int .i64 V) ∧ w' = w'') := fun w' => by rw [hVV]; exact within_any x 0 1000 w' (by omega) (by omega) (by omega)
                rw [← hVV] at HV
                have hown2 := HOI.out.alloc (.cells #[.int .i64 V] 3)
                clear hr hg hfk hmk hVV
                go_wp2_with (first | (go_at_call 20; (with_reducible refine (HWI.out _).mono ?_); rintro e w' ⟨rfl, rfl⟩) | (at_builtin; go_must (refine wpList_app1 rfl (.tmp 71) (.tmp 73) 25 rfl elemInt Try.underlying25 w4.heap.size _ _ encInt rfl hown2 V ⟨wr.heap.size, 0, none⟩ 1 rfl rfl ?c1 ?c2 ?c3 ?c4 ?c5 ?_)))
                case c1 => first | exact cell_one_new _ _ _ | exact fun _ _ h => h
                case c2 => simp [encInt, Value.oneCell']
                case c3 => have := HLEN.out; omega
                case c4 => have := HLEN.out; unfold maxLen; omega
                case c5 => have := HBI.out.size; simp; omega
                intro v' w6 hown6 hg6
                have HN : Hid (Below w4.heap.size w4 w6 ∧ Own w6 w4.heap.size 3 1 encInt v' (lst (k + 1) (cellV W i))) := ⟨hown2.grown (balloc HBI.out _) (Nat.le_refl _) hg6, by rw [lst_succ2, HV.out]; exact hown6⟩
                clear hown6 hg6 hown2
                go_wp2
                go_roundw
                case rel => exact ⟨k + 1, _, by omega, by go_num, rfl, HN⟩
                case measure => simp [intOf]; omega
              · obtain ⟨V, hVV⟩ : ∃ V, V = 7 * (i : Int) + 3 * (k : Int) := ⟨_, rfl⟩
                have HV : Hid (cellV W i k = V) := by
                  show _ = _
                  unfold cellV
                  rw [hg, if_neg (fun h => by omega), hVV]
                have g3 : IntKind.i64.wrap (7 * (i : Int) + 3 * (k : Int)) = V := by rw [hVV]; exact IntWalk.i64_in _ (by omega)
                have hown2 := HOI.out.alloc (.cells #[.int .i64 V] 3)
                clear hr hg hfk hmk hVV
                go_wp2_with (at_builtin; go_must (refine wpList_app1 rfl (.tmp 71) (.tmp 73) 25 rfl elemInt Try.underlying25 w4.heap.size _ _ encInt rfl hown2 V ⟨wr.heap.size, 0, none⟩ 1 rfl rfl ?c1 ?c2 ?c3 ?c4 ?c5 ?_))
                case c1 => first | exact cell_one_new _ _ _ | exact fun _ _ h => h
                case c2 => simp [encInt, Value.oneCell']
                case c3 => have := HLEN.out; omega
                case c4 => have := HLEN.out; unfold maxLen; omega
                case c5 => have := HBI.out.size; simp; omega
                intro v' w6 hown6 hg6
                have HN : Hid (Below w4.heap.size w4 w6 ∧ Own w6 w4.heap.size 3 1 encInt v' (lst (k + 1) (cellV W i))) := ⟨hown2.grown (balloc HBI.out _) (Nat.le_refl _) hg6, by rw [lst_succ2, HV.out]; exact hown6⟩
                clear hown6 hg6 hown2
                go_wp2
                go_roundw
                case rel => exact ⟨k + 1, _, by omega, by go_num, rfl, HN⟩
                case measure => simp [intOf]; omega
            · obtain ⟨V, hVV⟩ : ∃ V, V = 7 * (i : Int) + 3 * (k : Int) := ⟨_, rfl⟩
              have HV : Hid (cellV W i k = V) := by
                show _ = _
                unfold cellV
                rw [if_neg (fun h => by have := HN2.out; omega), hVV]
              have g3 : IntKind.i64.wrap (7 * (i : Int) + 3 * (k : Int)) = V := by rw [hVV]; exact IntWalk.i64_in _ (by omega)
              have hown2 := HOI.out.alloc (.cells #[.int .i64 V] 3)
              clear hVV
              go_wp2_with (at_builtin; go_must (refine wpList_app1 rfl (.tmp 71) (.tmp 73) 25 rfl elemInt Try.underlying25 w4.heap.size _ _ encInt rfl hown2 V ⟨wr.heap.size, 0, none⟩ 1 rfl rfl ?c1 ?c2 ?c3 ?c4 ?c5 ?_))
              case c1 => first | exact cell_one_new _ _ _ | exact fun _ _ h => h
              case c2 => simp [encInt, Value.oneCell']
              case c3 => have := HLEN.out; omega
              case c4 => have := HLEN.out; unfold maxLen; omega
              case c5 => have := HBI.out.size; simp; omega
              intro v' w6 hown6 hg6
              have HN : Hid (Below w4.heap.size w4 w6 ∧ Own w6 w4.heap.size 3 1 encInt v' (lst (k + 1) (cellV W i))) := ⟨hown2.grown (balloc HBI.out _) (Nat.le_refl _) hg6, by rw [lst_succ2, HV.out]; exact hown6⟩
              clear hown6 hg6 hown2
              go_wp2
              go_roundw
              case rel => exact ⟨k + 1, _, by omega, by go_num, rfl, HN⟩
              case measure => simp [intOf]; omega
          · obtain rfl : n = k := by omega
            rcases HOI.out.ftab with ⟨hz, _⟩ | ⟨g, cg, hvg, hgb, ht⟩
            · exfalso
              have := lst_length n (cellV W i)
              rw [hz] at this
              simp at this
              omega
            · rw [lst_length] at hvg ht
              subst hvg
              have ht2 : FTab (Value.int .i64) wr g n (cellV W i) := ht.congr (fun j hj => by simp [lst, List.getD_eq_getElem?_getD, hj])
              have HT6 := Lib.hid ht2
              have HGS : Hid (g < wr.heap.size) := ht2.lt (by omega)
              have HBR := Lib.hid (bthen HBO.out HBI.out)
              have hown2 := (HOWN.out.below HBI.out).alloc (.cells #[.slice (some ⟨g, 0, none⟩) n cg] 25)
              have HLEN := Lib.hid HCL.out.1
              clear ht ht2 hgb
              go_wp2_with (at_builtin; go_must (refine wpList_app1 rfl (.tmp 76) (.tmp 78) 22 rfl elemInts Try.underlying22 w9.heap.size _ _ encV rfl hown2 (.slice (some ⟨g, 0, none⟩) n cg) ⟨wr.heap.size, 0, none⟩ 1 rfl rfl ?c1 ?c2 ?c3 ?c4 ?c5 ?_))
              case c1 => first | exact cell_one_new _ _ _ | exact fun _ _ h => h
              case c2 => simp [encV, Value.oneCell']
              case c3 => have := HLEN.out; omega
              case c4 => have := HLEN.out; unfold maxLen; omega
              case c5 => have := HBR.out.size; simp; omega
              intro v' w6 hown6 hg6
              have HW6 : Hid (Below w9.heap.size w9 w6 ∧ ∃ vs, Own w6 w9.heap.size 25 1 encV v' vs ∧ Clones w6 n (i + 1) (cellV W) vs ∧ (vs = [] → v' = .slice none 0 0)) := by
                have hc1 := (HCL.out.below HBI.out).below (balloc (Below.refl _ wr) (.cells #[.slice (some ⟨g, 0, none⟩) n cg] 25))
                have ht1 := HT6.out.alloc HGS.out (.cells #[.slice (some ⟨g, 0, none⟩) n cg] 25)
                have hne := own_apart hown2 HNIL.out hc1.slices ht1 (by omega)
                have hgl : g < (wr.alloc (.cells #[.slice (some ⟨g, 0, none⟩) n cg] 25)).heap.size := by have := HGS.out; rw [World.size_alloc]; omega
                have ht3 := ht1.sameBlock (hg6.block g hgl (fun e => hne e.symm))
                exact ⟨hown2.grown (balloc HBR.out _) (Nat.le_refl _) hg6, _, hown6, (hc1.grown (by omega) hown2 HNIL.out hg6).snoc ht3 (Nat.lt_of_lt_of_le hgl hg6.size), fun e => by simp at e⟩
              clear hown6 hg6 hown2
              go_wp2
              go_roundw
              case rel => exact ⟨i + 1, _, by omega, by go_num, rfl, HW6⟩
              case measure => simp [intOf]; omega
      · obtain rfl : n = i := by omega
        obtain ⟨g2, c2, hv2, hR⟩ := HCL.out.rows (by omega) (by omega) HOWN.out
        subst hv2
        have HR := Lib.hid hR
        clear hR
        go_wp2
        go_returns
        rw [← HN1.out]
        exact ⟨gf, _, g2, c2, rfl, HFL.out.below HBO.out, HR.out, bthen HB9.out HBO.out⟩
set_option maxRecDepth 100000 in
set_option maxHeartbeats 8000000 in
theorem washes_some (oa ob : Option Addr) (first : List Int) (W : List (List Int)) (ca cb n : Nat) (w : World) (h0 : first.length ≠ 0) (hn : n = min 7 first.length) (hm : first.length ≤ maxLen) (hf : Flat w 1 encInt oa first) (hm2 : W.length ≤ maxLen) (hx : Rows1 w 1 encInt ob W) :
    Calls Try.prog 35 #[.slice oa first.length ca, .slice ob W.length cb] w (RetWashes first W n w) := by
  have HX := Lib.hid hx
  have HF := Lib.hid hf
  obtain ⟨N2, hN2⟩ : ∃ N2, N2 = W.length := ⟨_, rfl⟩
  have hN9 : N2 ≤ 9223372036854775807 := by rw [hN2]; unfold maxLen at hm2; omega
  have HN2 := Lib.hid hN2
  rw [← hN2]
  obtain ⟨N, hN⟩ : ∃ N, N = first.length := ⟨_, rfl⟩
  have hN10 : N ≤ 9223372036854775807 := by rw [hN]; unfold maxLen at hm; omega
  have HN := Lib.hid hN
  rw [← hN]
  rw [← hN] at hn h0
  have hn1 : 1 ≤ n ∧ n ≤ 7 ∧ n ≤ N := by omega
  have HNN := Lib.hid hn
  obtain ⟨M, hM⟩ : ∃ M, M = first.map fw := ⟨_, rfl⟩
  have hML : M.length = N := by rw [hM, List.length_map, hN]
  have HML := Lib.hid hML
  have HF0 : Hid (firV first = M.take n) := by
    show _ = _
    unfold firV
    rw [if_neg (by omega), hn, List.map_take, ← hM]
    by_cases e : 7 ≤ N
    · rw [show min 7 N = 7 by omega]
    · rw [show min 7 N = N by omega, List.take_of_length_le (by omega), List.take_of_length_le (by omega)]
  have HM := Lib.hid hM
  clear h0 hx hf hN2 hm2 hN hm hn hM hML
  go_enter Try.func35, Try.ntmps35
  go_wp2
  go_loopw [6, 8] (fun s6 s8 wr => ∃ (i : Nat) (v : Value), i ≤ n ∧ s8 = .int .i64 i ∧ s6 = v ∧ Hid (Below w.heap.size w wr ∧ Own wr w.heap.size 3 1 encInt v (M.take i))) (fun _ s8 _ => n - (intOf s8).toNat)
  case atStart => exact ⟨0, _, by omega, rfl, rfl, Lib.hid ⟨Below.refl _ _, Own.nil _ _ _ _ _⟩⟩
  case round =>
    obtain ⟨i, v, hi, rfl, hv, HW⟩ := hrel
    subst hv
    have HBW := Lib.hid HW.out.1
    have HOW := Lib.hid HW.out.2
    clear HW
    by_cases hlt : i < n
    · have hiN : i < first.length := by rw [← HN.out]; omega
      obtain ⟨bf, off, rfl, kc⟩ := (HF.out.below HBW.out).int hiN
      have ET : Hid (M.take (i + 1) = M.take i ++ [fw first[i]]) := takeMap hiN HM.out
      have HLEN : Hid ((M.take i).length ≤ 12) := by show _ ≤ _; rw [List.length_take]; omega
      generalize first[i] = x at *
      obtain ⟨V, hVV⟩ : ∃ V, V = fw x := ⟨_, rfl⟩
      have HWI : Hid (∀ w', Calls Try.prog 20 #[.int .i64 x, .int .i64 0, .int .i64 1000] w' fun e w'' => e = .returned (.int .i64 V) ∧ w' = w'') := fun w' => by rw [hVV]; exact within_any x 0 1000 w' (by omega) (by omega) (by omega)
      rw [← hVV] at ET
      have hown2 := HOW.out.alloc (.cells #[.int .i64 V] 3)
      have t1 : (i : Int) < (N : Int) := by omega
      have t2 : (i : Int) < 7 := by omega
      clear hVV
      go_wp2_with (first | (go_at_call 20; (with_reducible refine (HWI.out _).mono ?_); rintro e w' ⟨rfl, rfl⟩) | (at_builtin; go_must (refine wpList_app1 rfl (.tmp 23) (.tmp 29) 25 rfl elemInt Try.underlying25 w.heap.size _ _ encInt rfl hown2 V ⟨wr.heap.size, 0, none⟩ 1 rfl rfl ?c1 ?c2 ?c3 ?c4 ?c5 ?_)))
      case c1 => first | exact cell_one_new _ _ _ | exact fun _ _ h => h
      case c2 => simp [encInt, Value.oneCell']
      case c3 => have := HLEN.out; omega
      case c4 => have := HLEN.out; unfold maxLen; omega
      case c5 => have := HBW.out.size; simp; omega
      intro v' w6 hown6 hg6
      have HN6 : Hid (Below w.heap.size w w6 ∧ Own w6 w.heap.size 3 1 encInt v' (M.take (i + 1))) := ⟨hown2.grown (balloc HBW.out _) (Nat.le_refl _) hg6, by rw [ET.out]; exact hown6⟩
      clear hown6 hg6 hown2
      go_wp2
      go_roundw
      case rel => exact ⟨i + 1, _, by omega, by go_num, rfl, HN6⟩
      case measure => simp [intOf]; omega
    · obtain rfl : n = i := by omega
      have hFl : (M.take n).length = n := by rw [List.length_take, HML.out]; omega
      rcases HOW.out.ftab with ⟨hz, _⟩ | ⟨gf, cg, hvg, hgb, ht⟩
      · exfalso
        rw [hz] at hFl
        simp at hFl
        omega
      · obtain ⟨oax, capx, ex, _, hfx⟩ := HOW.out.flat (fun _ => rfl)
        rw [hvg] at ex
        cases ex
        have HFL : Hid (Flat wr 1 encInt (some ⟨gf, 0, none⟩) (firV first)) := by rw [HF0.out]; exact hfx
        rw [hFl] at hvg
        subst hvg
        have HB9 := HBW
        obtain ⟨w9, hw9⟩ : ∃ w9 : World, w9 = wr := ⟨_, rfl⟩
        subst hw9
        have tn : ((n : Int) == 0) = false := by simp; omega
        clear hFl ht hfx hgb
        by_cases hNn : (n : Int) < (N : Int)
        · have t2 : ¬ (n : Int) < 7 := by have := HNN.out; omega
          have t3 : decide ((n : Int) < (N : Int)) = true := decide_eq_true hNn
          have t4 : decide ((n : Int) < 7) = false := decide_eq_false t2
          go_wp2
          clear t3 t4 t2
          go_loopw [7, 37] (fun s7 s37 wr => ∃ (i : Nat) (v : Value), i ≤ n ∧ s37 = .int .i64 i ∧ s7 = v ∧ Hid (Below w9.heap.size w9 wr ∧ ∃ vs, Own wr w9.heap.size 25 1 encV v vs ∧ Clones wr n i (cellV W) vs ∧ (vs = [] → v = .slice none 0 0))) (fun _ s37 _ => n - (intOf s37).toNat)
          case atStart => exact ⟨0, _, by omega, rfl, rfl, Lib.hid ⟨Below.refl _ _, [], Own.nil _ _ _ _ _, ⟨rfl, fun i h => by simp at h⟩, fun _ => rfl⟩⟩
          case round =>
            obtain ⟨i, v, hi, rfl, hv, HW⟩ := hrel
            subst hv
            obtain ⟨vs, hown, hcl, hnil⟩ := HW.out.2
            have HBO := Lib.hid HW.out.1
            have HOWN := Lib.hid hown
            have HCL := Lib.hid hcl
            have HNIL := Lib.hid hnil
            clear HW hown hcl hnil
            by_cases hlt : i < n
            · obtain ⟨w4, hw4⟩ : ∃ w4 : World, w4 = wr := ⟨_, rfl⟩
              subst hw4
              have g1 : IntKind.i64.wrap (7 * (i : Int)) = 7 * (i : Int) := IntWalk.i64_in _ (by omega)
              go_wp2
              go_loopw [10, 42] (fun s10 s42 wx => ∃ (k : Nat) (v2 : Value), k ≤ n ∧ s42 = .int .i64 k ∧ s10 = v2 ∧ Hid (Below w4.heap.size w4 wx ∧ Own wx w4.heap.size 3 1 encInt v2 (lst k (cellV W i)))) (fun _ s42 _ => n - (intOf s42).toNat)
              case atStart => exact ⟨0, _, by omega, rfl, rfl, Lib.hid ⟨Below.refl _ _, Own.nil _ _ _ _ _⟩⟩
              case round =>
                obtain ⟨k, v2, hk, rfl, hv, HI⟩ := hrel
                subst hv
                have HBI := Lib.hid HI.out.1
                have HOI := Lib.hid HI.out.2
                clear HI
                by_cases hltk : k < n
                · have g2 : IntKind.i64.wrap (3 * (k : Int)) = 3 * (k : Int) := IntWalk.i64_in _ (by omega)
                  have HLEN : Hid ((lst k (cellV W i)).length ≤ 12) := by show _ ≤ _; rw [lst_length]; omega
                  by_cases hi2 : (i : Int) < (N2 : Int)
                  · have hiW : i < W.length := by have := HN2.out; omega
                    obtain ⟨bw, offw, rfl⟩ := HX.out.some (by omega)
                    obtain ⟨oak, capk, ck, hmk, hfk⟩ := (HX.out.below (bthen HB9.out (bthen HBO.out HBI.out))).at hiW
                    obtain ⟨r, hr⟩ : ∃ r, r = W[i].length := ⟨_, rfl⟩
                    have hr9 : r ≤ 9223372036854775807 := by rw [hr]; unfold maxLen at hmk; omega
                    rw [← hr] at ck
                    have hg : W.getD i [] = W[i] := by simp [List.getD_eq_getElem?_getD, hiW]
                    by_cases hk2 : (k : Int) < (r : Int)
                    · have hkr : k < W[i].length := by rw [← hr]; omega
                      obtain ⟨bk, offk, rfl, kc⟩ := hfk.int hkr
                      have HV : Hid (cellV W i k = fw W[i][k]) := by
                        show _ = _
                        unfold cellV
                        rw [hg, if_pos ⟨hiW, hkr⟩]
                        simp [List.getD_eq_getElem?_getD, hkr]
                      generalize W[i][k] = x at *
                      obtain ⟨V, hVV⟩ : ∃ V, V = fw x := ⟨_, rfl⟩
                      have HWI : Hid (∀ w', Calls Try.prog 20 #[.int .i64 x, .int .i64 0, .int .i64 1000] w' fun e w'' => e = .returned (.int .i64 V) ∧ w' = w'') := fun w' => by rw [hVV]; exact within_any x 0 1000 w' (by omega) (by omega) (by omega)
                      rw [← hVV] at HV
                      have hown2 := HOI.out.alloc (.cells #[.int .i64 V] 3)
                      clear hr hg hfk hmk hVV
                      go_wp2_with (first | (go_at_call 20; (with_reducible refine (HWI.out _).mono ?_); rintro e w' ⟨rfl, rfl⟩) | (at_builtin; go_must (refine wpList_app1 rfl (.tmp 71) (.tmp 73) 25 rfl elemInt Try.underlying25 w4.heap.size _ _ encInt rfl hown2 V ⟨wr.heap.size, 0, none⟩ 1 rfl rfl ?c1 ?c2 ?c3 ?c4 ?c5 ?_)))
                      case c1 => first | exact cell_one_new _ _ _ | exact fun _ _ h => h
                      case c2 => simp [encInt, Value.oneCell']
                      case c3 => have := HLEN.out; omega
                      case c4 => have := HLEN.out; unfold maxLen; omega
                      case c5 => have := HBI.out.size; simp; omega
                      intro v' w6 hown6 hg6
                      have HN : Hid (Below w4.heap.size w4 w6 ∧ Own w6 w4.heap.size 3 1 encInt v' (lst (k + 1) (cellV W i))) := ⟨hown2.grown (balloc HBI.out _) (Nat.le_refl _) hg6, by rw [lst_succ2, HV.out]; exact hown6⟩
                      clear hown6 hg6 hown2
                      go_wp2
                      go_roundw
                      case rel => exact ⟨k + 1, _, by omega, by go_num, rfl, HN⟩
                      case measure => simp [intOf]; omega
                    · obtain ⟨V, hVV⟩ : ∃ V, V = 7 * (i : Int) + 3 * (k : Int) := ⟨_, rfl⟩
                      have HV : Hid (cellV W i k = V) := by
                        show _ = _
                        unfold cellV
                        rw [hg, if_neg (fun h => by omega), hVV]
                      have g3 : IntKind.i64.wrap (7 * (i : Int) + 3 * (k : Int)) = V := by rw [hVV]; exact IntWalk.i64_in _ (by omega)
                      have hown2 := HOI.out.alloc (.cells #[.int .i64 V] 3)
                      clear hr hg hfk hmk hVV
                      go_wp2_with (at_builtin; go_must (refine wpList_app1 rfl (.tmp 71) (.tmp 73) 25 rfl elemInt Try.underlying25 w4.heap.size _ _ encInt rfl hown2 V ⟨wr.heap.size, 0, none⟩ 1 rfl rfl ?c1 ?c2 ?c3 ?c4 ?c5 ?_))
                      case c1 => first | exact cell_one_new _ _ _ | exact fun _ _ h => h
                      case c2 => simp [encInt, Value.oneCell']
                      case c3 => have := HLEN.out; omega
                      case c4 => have := HLEN.out; unfold maxLen; omega
                      case c5 => have := HBI.out.size; simp; omega
                      intro v' w6 hown6 hg6
                      have HN : Hid (Below w4.heap.size w4 w6 ∧ Own w6 w4.heap.size 3 1 encInt v' (lst (k + 1) (cellV W i))) := ⟨hown2.grown (balloc HBI.out _) (Nat.le_refl _) hg6, by rw [lst_succ2, HV.out]; exact hown6⟩
                      clear hown6 hg6 hown2
                      go_wp2
                      go_roundw
                      case rel => exact ⟨k + 1, _, by omega, by go_num, rfl, HN⟩
                      case measure => simp [intOf]; omega
                  · obtain ⟨V, hVV⟩ : ∃ V, V = 7 * (i : Int) + 3 * (k : Int) := ⟨_, rfl⟩
                    have HV : Hid (cellV W i k = V) := by
                      show _ = _
                      unfold cellV
                      rw [if_neg (fun h => by have := HN2.out; omega), hVV]
                    have g3 : IntKind.i64.wrap (7 * (i : Int) + 3 * (k : Int)) = V := by rw [hVV]; exact IntWalk.i64_in _ (by omega)
                    have hown2 := HOI.out.alloc (.cells #[.int .i64 V] 3)
                    clear hVV
                    go_wp2_with (at_builtin; go_must (refine wpList_app1 rfl (.tmp 71) (.tmp 73) 25 rfl elemInt Try.underlying25 w4.heap.size _ _ encInt rfl hown2 V ⟨wr.heap.size, 0, none⟩ 1 rfl rfl ?c1 ?c2 ?c3 ?c4 ?c5 ?_))
                    case c1 => first | exact cell_one_new _ _ _ | exact fun _ _ h => h
                    case c2 => simp [encInt, Value.oneCell']
                    case c3 => have := HLEN.out; omega
                    case c4 => have := HLEN.out; unfold maxLen; omega
                    case c5 => have := HBI.out.size; simp; omega
                    intro v' w6 hown6 hg6
                    have HN : Hid (Below w4.heap.size w4 w6 ∧ Own w6 w4.heap.size 3 1 encInt v' (lst (k + 1) (cellV W i))) := ⟨hown2.grown (balloc HBI.out _) (Nat.le_refl _) hg6, by rw [lst_succ2, HV.out]; exact hown6⟩
                    clear hown6 hg6 hown2
                    go_wp2
                    go_roundw
                    case rel => exact ⟨k + 1, _, by omega, by go_num, rfl, HN⟩
                    case measure => simp [intOf]; omega
                · obtain rfl : n = k := by omega
                  rcases HOI.out.ftab with ⟨hz, _⟩ | ⟨g, cg, hvg, hgb, ht⟩
                  · exfalso
                    have := lst_length n (cellV W i)
                    rw [hz] at this
                    simp at this
                    omega
                  · rw [lst_length] at hvg ht
                    subst hvg
                    have ht2 : FTab (Value.int .i64) wr g n (cellV W i) := ht.congr (fun j hj => by simp [lst, List.getD_eq_getElem?_getD, hj])
                    have HT6 := Lib.hid ht2
                    have HGS : Hid (g < wr.heap.size) := ht2.lt (by omega)
                    have HBR := Lib.hid (bthen HBO.out HBI.out)
                    have hown2 := (HOWN.out.below HBI.out).alloc (.cells #[.slice (some ⟨g, 0, none⟩) n cg] 25)
                    have HLEN := Lib.hid HCL.out.1
                    clear ht ht2 hgb
                    go_wp2_with (at_builtin; go_must (refine wpList_app1 rfl (.tmp 76) (.tmp 78) 22 rfl elemInts Try.underlying22 w9.heap.size _ _ encV rfl hown2 (.slice (some ⟨g, 0, none⟩) n cg) ⟨wr.heap.size, 0, none⟩ 1 rfl rfl ?c1 ?c2 ?c3 ?c4 ?c5 ?_))
                    case c1 => first | exact cell_one_new _ _ _ | exact fun _ _ h => h
                    case c2 => simp [encV, Value.oneCell']
                    case c3 => have := HLEN.out; omega
                    case c4 => have := HLEN.out; unfold maxLen; omega
                    case c5 => have := HBR.out.size; simp; omega
                    intro v' w6 hown6 hg6
                    have HW6 : Hid (Below w9.heap.size w9 w6 ∧ ∃ vs, Own w6 w9.heap.size 25 1 encV v' vs ∧ Clones w6 n (i + 1) (cellV W) vs ∧ (vs = [] → v' = .slice none 0 0)) := by
                      have hc1 := (HCL.out.below HBI.out).below (balloc (Below.refl _ wr) (.cells #[.slice (some ⟨g, 0, none⟩) n cg] 25))
                      have ht1 := HT6.out.alloc HGS.out (.cells #[.slice (some ⟨g, 0, none⟩) n cg] 25)
                      have hne := own_apart hown2 HNIL.out hc1.slices ht1 (by omega)
                      have hgl : g < (wr.alloc (.cells #[.slice (some ⟨g, 0, none⟩) n cg] 25)).heap.size := by have := HGS.out; rw [World.size_alloc]; omega
                      have ht3 := ht1.sameBlock (hg6.block g hgl (fun e => hne e.symm))
                      exact ⟨hown2.grown (balloc HBR.out _) (Nat.le_refl _) hg6, _, hown6, (hc1.grown (by omega) hown2 HNIL.out hg6).snoc ht3 (Nat.lt_of_lt_of_le hgl hg6.size), fun e => by simp at e⟩
                    clear hown6 hg6 hown2
                    go_wp2
                    go_roundw
                    case rel => exact ⟨i + 1, _, by omega, by go_num, rfl, HW6⟩
                    case measure => simp [intOf]; omega
            · obtain rfl : n = i := by omega
              obtain ⟨g2, c2, hv2, hR⟩ := HCL.out.rows (by omega) (by omega) HOWN.out
              subst hv2
              have HR := Lib.hid hR
              clear hR
              go_wp2
              go_returns
              exact ⟨gf, _, g2, c2, rfl, HFL.out.below HBO.out, HR.out, bthen HB9.out HBO.out⟩
        · have t3 : decide ((n : Int) < (N : Int)) = false := decide_eq_false hNn
          go_wp2
          clear t3
          go_loopw [7, 37] (fun s7 s37 wr => ∃ (i : Nat) (v : Value), i ≤ n ∧ s37 = .int .i64 i ∧ s7 = v ∧ Hid (Below w9.heap.size w9 wr ∧ ∃ vs, Own wr w9.heap.size 25 1 encV v vs ∧ Clones wr n i (cellV W) vs ∧ (vs = [] → v = .slice none 0 0))) (fun _ s37 _ => n - (intOf s37).toNat)
          case atStart => exact ⟨0, _, by omega, rfl, rfl, Lib.hid ⟨Below.refl _ _, [], Own.nil _ _ _ _ _, ⟨rfl, fun i h => by simp at h⟩, fun _ => rfl⟩⟩
          case round =>
            obtain ⟨i, v, hi, rfl, hv, HW⟩ := hrel
            subst hv
            obtain ⟨vs, hown, hcl, hnil⟩ := HW.out.2
            have HBO := Lib.hid HW.out.1
            have HOWN := Lib.hid hown
            have HCL := Lib.hid hcl
            have HNIL := Lib.hid hnil
            clear HW hown hcl hnil
            by_cases hlt : i < n
            · obtain ⟨w4, hw4⟩ : ∃ w4 : World, w4 = wr := ⟨_, rfl⟩
              subst hw4
              have g1 : IntKind.i64.wrap (7 * (i : Int)) = 7 * (i : Int) := IntWalk.i64_in _ (by omega)
              go_wp2
              go_loopw [10, 42] (fun s10 s42 wx => ∃ (k : Nat) (v2 : Value), k ≤ n ∧ s42 = .int .i64 k ∧ s10 = v2 ∧ Hid (Below w4.heap.size w4 wx ∧ Own wx w4.heap.size 3 1 encInt v2 (lst k (cellV W i)))) (fun _ s42 _ => n - (intOf s42).toNat)
              case atStart => exact ⟨0, _, by omega, rfl, rfl, Lib.hid ⟨Below.refl _ _, Own.nil _ _ _ _ _⟩⟩
              case round =>
                obtain ⟨k, v2, hk, rfl, hv, HI⟩ := hrel
                subst hv
                have HBI := Lib.hid HI.out.1
                have HOI := Lib.hid HI.out.2
                clear HI
                by_cases hltk : k < n
                · have g2 : IntKind.i64.wrap (3 * (k : Int)) = 3 * (k : Int) := IntWalk.i64_in _ (by omega)
                  have HLEN : Hid ((lst k (cellV W i)).length ≤ 12) := by show _ ≤ _; rw [lst_length]; omega
                  by_cases hi2 : (i : Int) < (N2 : Int)
                  · have hiW : i < W.length := by have := HN2.out; omega
                    obtain ⟨bw, offw, rfl⟩ := HX.out.some (by omega)
                    obtain ⟨oak, capk, ck, hmk, hfk⟩ := (HX.out.below (bthen HB9.out (bthen HBO.out HBI.out))).at hiW
                    obtain ⟨r, hr⟩ : ∃ r, r = W[i].length := ⟨_, rfl⟩
                    have hr9 : r ≤ 9223372036854775807 := by rw [hr]; unfold maxLen at hmk; omega
                    rw [← hr] at ck
                    have hg : W.getD i [] = W[i] := by simp [List.getD_eq_getElem?_getD, hiW]
                    by_cases hk2 : (k : Int) < (r : Int)
                    · have hkr : k < W[i].length := by rw [← hr]; omega
                      obtain ⟨bk, offk, rfl, kc⟩ := hfk.int hkr
                      have HV : Hid (cellV W i k = fw W[i][k]) := by
                        show _ = _
                        unfold cellV
                        rw [hg, if_pos ⟨hiW, hkr⟩]
                        simp [List.getD_eq_getElem?_getD, hkr]
                      generalize W[i][k] = x at *
                      obtain ⟨V, hVV⟩ : ∃ V, V = fw x := ⟨_, rfl⟩
                      have HWI : Hid (∀ w', Calls Try.prog 20 #[.int .i64 x, .int .i64 0, .int .i64 1000] w' fun e w'' => e = .returned (.int .i64 V) ∧ w' = w'') := fun w' => by rw [hVV]; exact within_any x 0 1000 w' (by omega) (by omega) (by omega)
                      rw [← hVV] at HV
                      have hown2 := HOI.out.alloc (.cells #[.int .i64 V] 3)
                      clear hr hg hfk hmk hVV
                      go_wp2_with (first | (go_at_call 20; (with_reducible refine (HWI.out _).mono ?_); rintro e w' ⟨rfl, rfl⟩) | (at_builtin; go_must (refine wpList_app1 rfl (.tmp 71) (.tmp 73) 25 rfl elemInt Try.underlying25 w4.heap.size _ _ encInt rfl hown2 V ⟨wr.heap.size, 0, none⟩ 1 rfl rfl ?c1 ?c2 ?c3 ?c4 ?c5 ?_)))
                      case c1 => first | exact cell_one_new _ _ _ | exact fun _ _ h => h
                      case c2 => simp [encInt, Value.oneCell']
                      case c3 => have := HLEN.out; omega
                      case c4 => have := HLEN.out; unfold maxLen; omega
                      case c5 => have := HBI.out.size; simp; omega
                      intro v' w6 hown6 hg6
                      have HN : Hid (Below w4.heap.size w4 w6 ∧ Own w6 w4.heap.size 3 1 encInt v' (lst (k + 1) (cellV W i))) := ⟨hown2.grown (balloc HBI.out _) (Nat.le_refl _) hg6, by rw [lst_succ2, HV.out]; exact hown6⟩
                      clear hown6 hg6 hown2
                      go_wp2
                      go_roundw
                      case rel => exact ⟨k + 1, _, by omega, by go_num, rfl, HN⟩
                      case measure => simp [intOf]; omega
                    · obtain ⟨V, hVV⟩ : ∃ V, V = 7 * (i : Int) + 3 * (k : Int) := ⟨_, rfl⟩
                      have HV : Hid (cellV W i k = V) := by
                        show _ = _
                        unfold cellV
                        rw [hg, if_neg (fun h => by omega), hVV]
                      have g3 : IntKind.i64.wrap (7 * (i : Int) + 3 * (k : Int)) = V := by rw [hVV]; exact IntWalk.i64_in _ (by omega)
                      have hown2 := HOI.out.alloc (.cells #[.int .i64 V] 3)
                      clear hr hg hfk hmk hVV
                      go_wp2_with (at_builtin; go_must (refine wpList_app1 rfl (.tmp 71) (.tmp 73) 25 rfl elemInt Try.underlying25 w4.heap.size _ _ encInt rfl hown2 V ⟨wr.heap.size, 0, none⟩ 1 rfl rfl ?c1 ?c2 ?c3 ?c4 ?c5 ?_))
                      case c1 => first | exact cell_one_new _ _ _ | exact fun _ _ h => h
                      case c2 => simp [encInt, Value.oneCell']
                      case c3 => have := HLEN.out; omega
                      case c4 => have := HLEN.out; unfold maxLen; omega
                      case c5 => have := HBI.out.size; simp; omega
                      intro v' w6 hown6 hg6
                      have HN : Hid (Below w4.heap.size w4 w6 ∧ Own w6 w4.heap.size 3 1 encInt v' (lst (k + 1) (cellV W i))) := ⟨hown2.grown (balloc HBI.out _) (Nat.le_refl _) hg6, by rw [lst_succ2, HV.out]; exact hown6⟩
                      clear hown6 hg6 hown2
                      go_wp2
                      go_roundw
                      case rel => exact ⟨k + 1, _, by omega, by go_num, rfl, HN⟩
                      case measure => simp [intOf]; omega
                  · obtain ⟨V, hVV⟩ : ∃ V, V = 7 * (i : Int) + 3 * (k : Int) := ⟨_, rfl⟩
                    have HV : Hid (cellV W i k = V) := by
                      show _ = _
                      unfold cellV
                      rw [if_neg (fun h => by have := HN2.out; omega), hVV]
                    have g3 : IntKind.i64.wrap (7 * (i : Int) + 3 * (k : Int)) = V := by rw [hVV]; exact IntWalk.i64_in _ (by omega)
                    have hown2 := HOI.out.alloc (.cells #[.int .i64 V] 3)
                    clear hVV
                    go_wp2_with (at_builtin; go_must (refine wpList_app1 rfl (.tmp 71) (.tmp 73) 25 rfl elemInt Try.underlying25 w4.heap.size _ _ encInt rfl hown2 V ⟨wr.heap.size, 0, none⟩ 1 rfl rfl ?c1 ?c2 ?c3 ?c4 ?c5 ?_))
                    case c1 => first | exact cell_one_new _ _ _ | exact fun _ _ h => h
                    case c2 => simp [encInt, Value.oneCell']
                    case c3 => have := HLEN.out; omega
                    case c4 => have := HLEN.out; unfold maxLen; omega
                    case c5 => have := HBI.out.size; simp; omega
                    intro v' w6 hown6 hg6
                    have HN : Hid (Below w4.heap.size w4 w6 ∧ Own w6 w4.heap.size 3 1 encInt v' (lst (k + 1) (cellV W i))) := ⟨hown2.grown (balloc HBI.out _) (Nat.le_refl _) hg6, by rw [lst_succ2, HV.out]; exact hown6⟩
                    clear hown6 hg6 hown2
                    go_wp2
                    go_roundw
                    case rel => exact ⟨k + 1, _, by omega, by go_num, rfl, HN⟩
                    case measure => simp [intOf]; omega
                · obtain rfl : n = k := by omega
                  rcases HOI.out.ftab with ⟨hz, _⟩ | ⟨g, cg, hvg, hgb, ht⟩
                  · exfalso
                    have := lst_length n (cellV W i)
                    rw [hz] at this
                    simp at this
                    omega
                  · rw [lst_length] at hvg ht
                    subst hvg
                    have ht2 : FTab (Value.int .i64) wr g n (cellV W i) := ht.congr (fun j hj => by simp [lst, List.getD_eq_getElem?_getD, hj])
                    have HT6 := Lib.hid ht2
                    have HGS : Hid (g < wr.heap.size) := ht2.lt (by omega)
                    have HBR := Lib.hid (bthen HBO.out HBI.out)
                    have hown2 := (HOWN.out.below HBI.out).alloc (.cells #[.slice (some ⟨g, 0, none⟩) n cg] 25)
                    have HLEN := Lib.hid HCL.out.1
                    clear ht ht2 hgb
                    go_wp2_with (at_builtin; go_must (refine wpList_app1 rfl (.tmp 76) (.tmp 78) 22 rfl elemInts Try.underlying22 w9.heap.size _ _ encV rfl hown2 (.slice (some ⟨g, 0, none⟩) n cg) ⟨wr.heap.size, 0, none⟩ 1 rfl rfl ?c1 ?c2 ?c3 ?c4 ?c5 ?_))
                    case c1 => first | exact cell_one_new _ _ _ | exact fun _ _ h => h
                    case c2 => simp [encV, Value.oneCell']
                    case c3 => have := HLEN.out; omega
                    case c4 => have := HLEN.out; unfold maxLen; omega
                    case c5 => have := HBR.out.size; simp; omega
                    intro v' w6 hown6 hg6
                    have HW6 : Hid (Below w9.heap.size w9 w6 ∧ ∃ vs, Own w6 w9.heap.size 25 1 encV v' vs ∧ Clones w6 n (i + 1) (cellV W) vs ∧ (vs = [] → v' = .slice none 0 0)) := by
                      have hc1 := (HCL.out.below HBI.out).below (balloc (Below.refl _ wr) (.cells #[.slice (some ⟨g, 0, none⟩) n cg] 25))
                      have ht1 := HT6.out.alloc HGS.out (.cells #[.slice (some ⟨g, 0, none⟩) n cg] 25)
                      have hne := own_apart hown2 HNIL.out hc1.slices ht1 (by omega)
                      have hgl : g < (wr.alloc (.cells #[.slice (some ⟨g, 0, none⟩) n cg] 25)).heap.size := by have := HGS.out; rw [World.size_alloc]; omega
                      have ht3 := ht1.sameBlock (hg6.block g hgl (fun e => hne e.symm))
                      exact ⟨hown2.grown (balloc HBR.out _) (Nat.le_refl _) hg6, _, hown6, (hc1.grown (by omega) hown2 HNIL.out hg6).snoc ht3 (Nat.lt_of_lt_of_le hgl hg6.size), fun e => by simp at e⟩
                    clear hown6 hg6 hown2
                    go_wp2
                    go_roundw
                    case rel => exact ⟨i + 1, _, by omega, by go_num, rfl, HW6⟩
                    case measure => simp [intOf]; omega
            · obtain rfl : n = i := by omega
              obtain ⟨g2, c2, hv2, hR⟩ := HCL.out.rows (by omega) (by omega) HOWN.out
              subst hv2
              have HR := Lib.hid hR
              clear hR
              go_wp2
              go_returns
              exact ⟨gf, _, g2, c2, rfl, HFL.out.below HBO.out, HR.out, bthen HB9.out HBO.out⟩
end Go.Proofs.Ytjggcnpnjnmamaa
