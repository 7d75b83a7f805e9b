/-
  The walks of profile.IsName and profile.Names. Own text.
-/
import Derived.Test.YtiokmfmcmfbjoaaCurveW
namespace Go.Proofs.Ytiokmfmcmfbjoaa
open Go.RowKit
set_option linter.unusedVariables false
/-- A byte of a string. -/
def bt (s : ByteArray) (i : Nat) : Int := if h : i < s.size then ((s[i]'h).toNat : Int) else 0
theorem bt_eq {s : ByteArray} {i : Nat} (h : i < s.size) : bt s i = ((s[i]'h).toNat : Int) := dif_pos h
def OkCh (c : Int) : Prop := (97 ≤ c ∧ c ≤ 122) ∨ (48 ≤ c ∧ c ≤ 57) ∨ c = 45
structure OkName (s : ByteArray) : Prop where
  one : 1 ≤ s.size
  most : s.size ≤ 16
  first : 97 ≤ bt s 0 ∧ bt s 0 ≤ 122
  all : ∀ i, i < s.size → OkCh (bt s i)
def RetName (ok : Prop) (w : World) (e : Ending) (w' : World) : Prop := ∃ b : Bool, e = .returned (.bool b) ∧ (b = true ↔ ok) ∧ w = w'
theorem RetName.no {ok : Prop} {w : World} (hn : ¬ ok) : RetName ok w (.returned (.bool false)) w := ⟨false, rfl, ⟨(by intro h; cases h), fun h => absurd h hn⟩, rfl⟩
theorem RetName.yes {ok : Prop} {w : World} (hn : ok) : RetName ok w (.returned (.bool true)) w := ⟨true, rfl, ⟨fun _ => hn, fun _ => rfl⟩, rfl⟩
set_option maxHeartbeats 2000000 in
theorem isName_any (s : ByteArray) (w : World) (hs : s.size ≤ maxLen) :
    Calls Try.prog 10 #[.string s] w (RetName (OkName s) w) := by
  have hs9 : s.size ≤ 9223372036854775807 := by unfold maxLen at hs; omega
  by_cases h1 : s.size < 1
  · have hno : Hid (¬ OkName s) := fun h => by have := h.one; omega
    go_enter Try.func10, Try.ntmps10
    go_wp2
    go_ret
    exact RetName.no hno.out
  · by_cases h2 : 16 < s.size
    · have hno : Hid (¬ OkName s) := fun h => by have := h.most; omega
      go_enter Try.func10, Try.ntmps10
      go_wp2
      go_ret
      exact RetName.no hno.out
    · have h0 : 0 < s.size := by omega
      have e0 : bt s 0 = ((s[0]'h0).toNat : Int) := bt_eq h0
      by_cases hf : 97 ≤ bt s 0 ∧ bt s 0 ≤ 122
      · have HF := Lib.hid hf
        rw [e0] at hf
        obtain ⟨f1, f2⟩ := hf
        have f3 : ¬ ((s[0]'h0).toNat : Int) < 97 := by omega
        have f4 : ¬ 122 < ((s[0]'h0).toNat : Int) := by omega
        clear e0 f1 f2
        go_enter Try.func10, Try.ntmps10
        go_wp2
        go_loop [25] (fun i => ∃ k : Nat, k ≤ s.size ∧ i = .int .i64 k ∧ Hid (∀ j, j < k → OkCh (bt s j))) (fun i => s.size - (intOf i).toNat)
        case atStart => exact ⟨0, by omega, rfl, Lib.hid (fun j h => by omega)⟩
        case round =>
          obtain ⟨k, hk, rfl, HA⟩ := hrel
          by_cases hlt : k < s.size
          · have ek : bt s k = ((s[k]'hlt).toNat : Int) := bt_eq hlt
            by_cases hc : OkCh (bt s k)
            · have HN : Hid (∀ j, j < k + 1 → OkCh (bt s j)) := fun j hj => by
                by_cases e : j = k
                · subst e; exact hc
                · exact HA.out j (by omega)
              rw [ek] at hc
              clear ek
              by_cases c1 : 97 ≤ ((s[k]'hlt).toNat : Int) ∧ ((s[k]'hlt).toNat : Int) ≤ 122
              · have c2 : ¬ ((s[k]'hlt).toNat : Int) < 97 := by omega
                have c3 : ¬ 122 < ((s[k]'hlt).toNat : Int) := by omega
                clear hc c1
                go_wp2
                go_round
                case rel => exact ⟨k + 1, by omega, by go_num, HN⟩
                case measure => simp [intOf]; omega
              · by_cases c2 : 48 ≤ ((s[k]'hlt).toNat : Int) ∧ ((s[k]'hlt).toNat : Int) ≤ 57
                · have c3 : ((s[k]'hlt).toNat : Int) < 97 := by omega
                  have c4 : ¬ ((s[k]'hlt).toNat : Int) < 48 := by omega
                  have c5 : ¬ 57 < ((s[k]'hlt).toNat : Int) := by omega
                  clear hc c1 c2
                  go_wp2
                  go_round
                  case rel => exact ⟨k + 1, by omega, by go_num, HN⟩
                  case measure => simp [intOf]; omega
                · have c3 : ((s[k]'hlt).toNat : Int) = 45 := by unfold OkCh at hc; omega
                  clear hc c1 c2
                  go_wp2
                  go_round
                  case rel => exact ⟨k + 1, by omega, by go_num, HN⟩
                  case measure => simp [intOf]; omega
            · have hno : Hid (¬ OkName s) := fun h => hc (h.all k hlt)
              rw [ek] at hc
              have c1 : ((s[k]'hlt).toNat : Int) < 97 ∨ 122 < ((s[k]'hlt).toNat : Int) := by unfold OkCh at hc; omega
              have c2 : ((s[k]'hlt).toNat : Int) < 48 ∨ 57 < ((s[k]'hlt).toNat : Int) := by unfold OkCh at hc; omega
              have c3 : (((s[k]'hlt).toNat : Int) != 45) = true := by unfold OkCh at hc; simp; omega
              clear ek hc
              rcases c1 with c1 | c1
              all_goals
                rcases c2 with c2 | c2
                all_goals
                  go_wp2 <;> (go_ret; exact RetName.no hno.out)
          · have hyes : Hid (OkName s) := ⟨by omega, by omega, HF.out, fun i hi => HA.out i (by omega)⟩
            go_wp2
            go_ret
            exact RetName.yes hyes.out
      · have hno : Hid (¬ OkName s) := fun h => hf h.first
        rw [e0] at hf
        have f1 : ((s[0]'h0).toNat : Int) < 97 ∨ 122 < ((s[0]'h0).toNat : Int) := by omega
        clear hf e0
        rcases f1 with f1 | f1
        all_goals
          go_enter Try.func10, Try.ntmps10
          go_wp2
          go_ret
          exact RetName.no hno.out
def encStr (s : ByteArray) : List Value := [.string s]
theorem Flat.str {w : World} {oa : Option Addr} {xs : List ByteArray} (h : Flat w 1 encStr oa xs) {i : Nat} (hi : i < xs.length) :
    ∃ b off, oa = some ⟨b, off, none⟩ ∧ w.cell? ⟨b, off + i, none⟩ = some (.string xs[i]) := by
  obtain ⟨v, hv, b, off, e, hc⟩ := h i hi 0 (by omega)
  simp only [encStr, List.getElem?_cons_zero, Option.some.injEq] at hv
  refine ⟨b, off, e, ?_⟩
  rw [hv]
  simpa using hc
structure OkNames (l : List ByteArray) : Prop where
  all : ∀ i (h : i < l.length), OkName l[i]
  apart : ∀ i (h : i < l.length) j (hj : j < i), l[i].toList ≠ l[j].toList
set_option maxRecDepth 100000 in
set_option maxHeartbeats 2000000 in
theorem names_any (oa : Option Addr) (l : List ByteArray) (cap : Nat) (w : World) (hc : l.length ≤ cap) (hcm : cap ≤ maxLen) (hx : Flat w 1 encStr oa l) (hz : ∀ s ∈ l, s.size ≤ maxLen) :
    Calls Try.prog 11 #[.slice oa l.length cap] w (RetChk (OkNames l) w) := by
  have hm9 : l.length ≤ 9223372036854775807 := by unfold maxLen at hcm; omega
  have hc9 : cap ≤ 9223372036854775807 := by unfold maxLen at hcm; omega
  have HZ := Lib.hid hz; clear hz
  go_enter Try.func11, Try.ntmps11
  go_wp2
  go_loop [9] (fun i => ∃ k : Nat, k ≤ l.length ∧ i = .int .i64 k ∧ Hid (∀ i (h : i < l.length), i < k → OkName l[i]) ∧ Hid (∀ i (h : i < l.length) j (hj : j < i), i < k → l[i].toList ≠ l[j].toList)) (fun i => l.length - (intOf i).toNat)
  case atStart => exact ⟨0, by omega, rfl, Lib.hid (fun i h hi => by omega), Lib.hid (fun i h j hj hi => by omega)⟩
  case round =>
    obtain ⟨k, hk, rfl, HA, HD⟩ := hrel
    by_cases hlt : k < l.length
    · obtain ⟨b, off, rfl, e1⟩ := hx.str hlt
      by_cases hn : OkName l[k]
      · have HA2 : Hid (∀ i (h : i < l.length), i < k + 1 → OkName l[i]) := fun i h hi => by
          by_cases e : i = k
          · subst e; exact hn
          · exact HA.out i h (by omega)
        have hkc : k ≤ cap := by omega
        have hk0 : (0 : Int) ≤ (k : Int) := by omega
        have hn' := Lib.hid hn
        clear hn
        have hzk := HZ.out _ (List.getElem_mem hlt)
        obtain ⟨s, hs⟩ : ∃ s, s = l[k] := ⟨_, rfl⟩
        rw [← hs] at e1 hn' hzk
        have hs' := Lib.hid hs
        clear hs
        go_wp2_with (go_at_call 10; refine (isName_any _ _ hzk).mono ?_; rintro e w' ⟨bb, rfl, hbb, rfl⟩; obtain rfl : bb = true := hbb.2 hn'.out; clear hbb)
        go_loop [21] (fun i => ∃ j : Nat, j ≤ k ∧ i = .int .i64 j ∧ Hid (∀ q (hq : q < k), q < j → l[k].toList ≠ (l[q]'(by omega)).toList)) (fun i => k - (intOf i).toNat)
        case atStart => exact ⟨0, by omega, rfl, Lib.hid (fun q hq h => by omega)⟩
        case round =>
          obtain ⟨j, hj, rfl, HJ⟩ := hrel
          by_cases hlj : j < k
          · have hjl : j < l.length := by omega
            obtain ⟨b', off', e, e2⟩ := hx.str hjl
            cases e
            obtain ⟨t, ht⟩ : ∃ t, t = l[j] := ⟨_, rfl⟩
            by_cases hst : l[k].toList = l[j].toList
            · have hno : Hid (¬ OkNames l) := fun h => h.apart k hlt j hlj hst
              rw [← ht] at e2
              have hst2 : s.toList = t.toList := by rw [hs'.out, ht]; exact hst
              have t1 : (s.toList == t.toList) = true := by rw [hst2]; exact beq_self_eq_true _
              have ht' := Lib.hid ht
              clear hst2 ht hst
              go_wp2
              go_ret
              exact RetChk.no (by omega) hno.out (Below.refl _ _)
            · have HN : Hid (∀ q (hq : q < k), q < j + 1 → l[k].toList ≠ (l[q]'(by omega)).toList) := fun q hq h => by
                by_cases e : q = j
                · subst e; exact hst
                · exact HJ.out q hq (by omega)
              rw [← ht] at e2
              have t1 : (s.toList == t.toList) = false := by
                rw [beq_eq_false_iff_ne, hs'.out, ht]
                exact hst
              have ht' := Lib.hid ht
              clear ht hst
              go_wp2
              go_round
              case rel => exact ⟨j + 1, by omega, by go_num, HN⟩
              case measure => simp [intOf]; omega
          · have HN : Hid (∀ i (h : i < l.length) j (hj : j < i), i < k + 1 → l[i].toList ≠ l[j].toList) := fun i h q hq hi => by
              by_cases e : i = k
              · subst e; exact HJ.out q hq (by omega)
              · exact HD.out i h q hq (by omega)
            go_wp2
            go_round
            case rel => exact ⟨k + 1, by omega, by go_num, HA2, HN⟩
            case measure => simp [intOf]; omega
      · have hno : Hid (¬ OkNames l) := fun h => hn (h.all k hlt)
        have hn' := Lib.hid hn
        clear hn
        go_wp2_with (go_at_call 10; refine (isName_any _ _ (HZ.out _ (List.getElem_mem hlt))).mono ?_; rintro e w' ⟨bb, rfl, hbb, rfl⟩; have hbf : bb = false := (by cases bb with | false => rfl | true => exact absurd (hbb.1 rfl) hn'.out); subst hbf; clear hbb)
        go_ret
        exact RetChk.no (by omega) hno.out (Below.refl _ _)
    · have hyes : Hid (OkNames l) := ⟨fun i h => HA.out i h (by omega), fun i h j hj => HD.out i h j hj (by omega)⟩
      go_wp2
      go_ret
      exact RetChk.yes hyes.out (Below.refl _ _)
end Go.Proofs.Ytiokmfmcmfbjoaa
