/-
  The walk of filter.ungroup. Own text.
-/
import Derived.Test.YtnnnihjagjfkdaaGreatDoorDecV
import Derived.Test.YtnnnihjagjfkdaaGreatDoorCode
namespace Go.Proofs.YtnnnihjagjfkdaaGreatDoor
open Go.RowKit
set_option linter.unusedVariables false
def RetUng (l : List UInt8) (w : World) (e : Ending) (w' : World) : Prop :=
  ((∃ b, ungV l = some b ∧ e = .returned (.tuple #[.string ⟨b.toArray⟩, .int .i64 0])) ∨ (∃ c, c ≠ 0 ∧ ungV l = none ∧ e = .returned (.tuple #[.string ⟨#[]⟩, .int .i64 c]))) ∧ Below w.heap.size w w'
theorem ungV_bad {l : List UInt8} {k : Nat} (hk : k < l.length) (h : inDig (l.getD k 0) = false) : ungV l = none := by
  rw [List.getD_eq_getElem?_getD, List.getElem?_eq_getElem hk, Option.getD_some] at h
  unfold ungV
  rw [if_neg]
  rintro ⟨h1, _⟩
  rw [List.all_eq_true.1 h1 _ (List.getElem_mem hk)] at h
  cases h
theorem dAt_in {l : List UInt8} {k : Nat} (h : k < l.length) : dAt l k = ((l.getD k 0).toNat : Int) - 33 := by rw [dAt, if_pos h]
theorem dAt_out {l : List UInt8} {k : Nat} (h : ¬ k < l.length) : dAt l k = 84 := by rw [dAt, if_neg h]
theorem accV_lt : ∀ (l : List UInt8) (k : Nat), k ≤ 4 → (∀ j, j < l.length → j < k → inDig (l.getD j 0) = true) → 0 ≤ accV l k ∧ accV l k < p85 k
  | l, 0, _, _ => by simp [accV, p85]
  | l, k + 1, hk, h => by
    have ih := accV_lt l k (by omega) (fun j hj hj2 => h j hj (by omega))
    have hd : 0 ≤ dAt l k ∧ dAt l k ≤ 84 := by
      unfold dAt
      split
      · rename_i hk2
        have h1 := inDig_yes (h k hk2 (by omega))
        omega
      · omega
    show 0 ≤ accV l k * 85 + dAt l k ∧ accV l k * 85 + dAt l k < p85 (k + 1)
    match k, hk, ih with
    | 0, _, ih => simp only [p85] at ih ⊢; omega
    | 1, _, ih => simp only [p85] at ih ⊢; omega
    | 2, _, ih => simp only [p85] at ih ⊢; omega
    | 3, _, ih => simp only [p85] at ih ⊢; omega
theorem accV_lt5 {l : List UInt8} {k : Nat} (hk : k < 5) (h : ∀ j, j < l.length → j < k → inDig (l.getD j 0) = true) : 0 ≤ accV l k ∧ accV l k < 52200625 := by
  have h2 := accV_lt l k (by omega) h
  match k, hk, h2 with
  | 0, _, h2 => simp only [p85] at h2; omega
  | 1, _, h2 => simp only [p85] at h2; omega
  | 2, _, h2 => simp only [p85] at h2; omega
  | 3, _, h2 => simp only [p85] at h2; omega
  | 4, _, h2 => simp only [p85] at h2; omega
set_option maxRecDepth 100000 in
set_option maxHeartbeats 4000000 in
theorem ungroup_any (s : ByteArray) (w : World) (h1 : 1 ≤ s.size) (h5 : s.size ≤ 5) :
    Calls Tryz.prog 150 #[.string s] w (RetUng s.data.toList w) := by
  have hlen : s.data.toList.length = s.size := by simp
  obtain ⟨l, hl⟩ : ∃ l, l = s.data.toList := ⟨_, rfl⟩
  have HL := Lib.hid hl
  have HBS : Hid (∀ k (h : k < s.size), l.getD k 0 = s[k]) := fun k h => by
    rw [hl, List.getD_eq_getElem?_getD, List.getElem?_eq_getElem (by simpa using h)]
    rfl
  rw [← hl] at hlen
  have HLEN := Lib.hid hlen
  rw [← hl]
  clear hl hlen
  go_enter Tryz.func150, Tryz.ntmps150
  go_wp2
  go_loop [4, 8] (fun v i => ∃ k : Nat, k ≤ 5 ∧ i = .int .i64 k ∧ v = .int .u64 (accV l k) ∧ Hid (∀ j, j < l.length → j < k → inDig (l.getD j 0) = true)) (fun _ i => 5 - (intOf i).toNat)
  case atStart => exact ⟨0, by omega, rfl, rfl, fun j _ h => by omega⟩
  case round =>
    obtain ⟨k, hk, rfl, rfl, HD⟩ := hrel
    by_cases hlt : k < 5
    · have hb : 0 ≤ accV l k ∧ accV l k < 52200625 := accV_lt5 hlt (fun j hj hj2 => HD.out j hj hj2)
      have HS : Hid (accV l (k + 1) = accV l k * 85 + dAt l k) := rfl
      generalize accV l k = v at *
      obtain ⟨b0, b1⟩ := hb
      by_cases hks : k < s.size
      · have hby := HBS.out k hks
        have hc : (s[k].toNat : Int) < 256 := by have := s[k].toNat_lt; omega
        have hdi := dAt_in (l := l) (k := k) (by rw [HLEN.out]; exact hks)
        rw [hby] at hdi
        have HDI := Lib.hid hdi
        clear hdi
        by_cases hin : inDig (s[k]) = true
        · obtain ⟨i0, i1⟩ := inDig_yes hin
          have t1 : decide ((s[k].toNat : Int) < 33) = false := by simp; omega
          have t2 : decide ((117 : Int) < (s[k].toNat : Int)) = false := by simp; omega
          have HD2 : Hid (∀ j, j < l.length → j < k + 1 → inDig (l.getD j 0) = true) := fun j hj hj2 => by
            by_cases e : j = k
            · subst e
              rw [HBS.out j hks]; exact hin
            · exact HD.out j hj (by omega)
          clear hby hin
          go_wp2
          go_round
          case rel => exact ⟨k + 1, by omega, by go_num, by rw [HS.out, HDI.out], HD2⟩
          case measure => simp [intOf]; omega
        · have hin : inDig (s[k]) = false := by simpa using hin
          have HN : Hid (ungV l = none) := ungV_bad (k := k) (by rw [HLEN.out]; exact hks) (by rw [hby]; exact hin)
          have ht : decide ((s[k].toNat : Int) < 33) = true ∨ decide ((s[k].toNat : Int) < 33) = false ∧ decide ((117 : Int) < (s[k].toNat : Int)) = true := by
            unfold inDig at hin
            simp at hin ⊢
            omega
          clear hin hby
          rcases ht with t1 | ⟨t1, t2⟩
          all_goals
            go_wp2
            go_ret2
            exact ⟨.inr ⟨5, by omega, HN.out, rfl⟩, Below.refl _ _⟩
      · have hdo := dAt_out (l := l) (k := k) (by rw [HLEN.out]; exact hks)
        have HDO := Lib.hid hdo
        have HD2 : Hid (∀ j, j < l.length → j < k + 1 → inDig (l.getD j 0) = true) := fun j hj hj2 => HD.out j hj (by rw [HLEN.out] at hj; omega)
        clear hdo
        go_wp2
        go_round
        case rel => exact ⟨k + 1, by omega, by go_num, by rw [HS.out, HDO.out], HD2⟩
        case measure => simp [intOf]; omega
    · obtain rfl : k = 5 := by omega
      have hall : l.all inDig = true := by
        rw [List.all_eq_true]
        intro x hx
        obtain ⟨j, hj, rfl⟩ := List.getElem_of_mem hx
        have h := HD.out j hj (by rw [HLEN.out] at hj; omega)
        rw [List.getD_eq_getElem?_getD, List.getElem?_eq_getElem hj, Option.getD_some] at h
        exact h
      obtain ⟨v0, v1⟩ := accV_bd (l := l) (fun j hj _ => HD.out j hj (by omega)) 5 (by omega)
      simp only [p85] at v1
      have HU : Hid (ungV l = if s.size ≠ 1 ∧ accV l 5 < 4294967296 ∧ groupV ((by4 (accV l 5)).take (s.size - 1)) = l then some ((by4 (accV l 5)).take (s.size - 1)) else none) := by
        show ungV l = _
        unfold ungV
        rw [HLEN.out]
        simp only [hall, true_and]
      clear hall
      generalize accV l 5 = v at *
      by_cases hs1 : s.size = 1
      · have t1 : ((s.size : Int) == 1) = true := by simp; omega
        have HN : Hid (ungV l = none) := by show ungV l = none; rw [HU.out, if_neg]; exact fun h => h.1 hs1
        go_wp2
        go_ret2
        exact ⟨.inr ⟨12, by omega, HN.out, rfl⟩, Below.refl _ _⟩
      · have t1 : ((s.size : Int) == 1) = false := by simp; omega
        by_cases hv : v < 4294967296
        · have t2 : v / 4294967296 = 0 := by omega
          obtain ⟨b, hb⟩ : ∃ b, b = (by4 v).take (s.size - 1) := ⟨_, rfl⟩
          have hbl : b.length = s.size - 1 := by rw [hb, List.length_take]; show min (s.size - 1) 4 = _; omega
          obtain ⟨P, hP⟩ : ∃ P, P = ByteArray.mk b.toArray := ⟨_, rfl⟩
          have hPl : P.data.toList = b := by rw [hP]
          have hPs : P.size = s.size - 1 := by rw [hP]; show b.toArray.size = _; simpa using hbl
          have hcv9 : (convert 121 9 (.slice (some ⟨w.heap.size, 0, none⟩) (s.size - 1) 4)).run Tryz.prog (w.alloc (.cells #[.int .u8 (v / 16777216), .int .u8 (v / 65536 % 256), .int .u8 (v / 256 % 256), .int .u8 (v % 256)] 5)) = .ok (.string P) (w.alloc (.cells #[.int .u8 (v / 16777216), .int .u8 (v / 65536 % 256), .int .u8 (v / 256 % 256), .int .u8 (v % 256)] 5)) := by
            have h := run_convert_bytes_back (P := Tryz.prog) (w.alloc (.cells #[.int .u8 (v / 16777216), .int .u8 (v / 65536 % 256), .int .u8 (v / 256 % 256), .int .u8 (v % 256)] 5)) 121 9 5 ⟨w.heap.size, 0, none⟩ 4 b Tryz.underlying121 Tryz.underlying5 Tryz.underlying9 (fun j hj => by
              rw [add_none, Nat.zero_add]
              have hj4 : j < 4 := by omega
              have e : (b[j].toNat : Int) = (if j = 0 then v / 16777216 else if j = 1 then v / 65536 % 256 else if j = 2 then v / 256 % 256 else v % 256) := by
                simp only [hb, List.getElem_take]
                match j, hj4 with
                | 0, _ => show ((b8 (v / 16777216)).toNat : Int) = _; rw [b8_toNat]; simp; omega
                | 1, _ => show ((b8 (v / 65536)).toNat : Int) = _; rw [b8_toNat]; simp
                | 2, _ => show ((b8 (v / 256)).toNat : Int) = _; rw [b8_toNat]; simp
                | 3, _ => show ((b8 v).toNat : Int) = _; rw [b8_toNat]; simp
              rw [e, cell_of_row _ w.heap.size j _ _ (0, 0) (heap_alloc_new w _)]
              match j, hj4 with
              | 0, _ => rfl
              | 1, _ => rfl
              | 2, _ => rfl
              | 3, _ => rfl)
            rw [hbl] at h
            rw [hP]
            exact h
          obtain ⟨Q, hQ⟩ : ∃ Q, Q = ByteArray.mk (groupV b).toArray := ⟨_, rfl⟩
          have hgr : ∀ W, Calls Tryz.prog 151 #[.string P] W fun e w' => e = .returned (.string Q) ∧ Below W.heap.size W w' := fun W => (group_any P W (by omega) (by omega)).mono fun e w' h => ⟨by rw [h.1, hPl, hQ], h.2⟩
          have HB := Lib.hid (balloc (Below.refl _ w) (.cells #[.int .u8 (v / 16777216), .int .u8 (v / 65536 % 256), .int .u8 (v / 256 % 256), .int .u8 (v % 256)] 5))
          have HU2 : Hid (ungV l = if groupV b = l then some b else none) := by
            show ungV l = _
            rw [HU.out, hb]
            by_cases e : groupV ((by4 v).take (s.size - 1)) = l
            · rw [if_pos ⟨hs1, hv, e⟩, if_pos e]
            · rw [if_neg (fun h => e h.2.2), if_neg e]
          have HP : Hid (P = ByteArray.mk b.toArray) := hP
          by_cases hq : groupV b = l
          · have HN : Hid (ungV l = some b) := by show ungV l = _; rw [HU2.out, if_pos hq]
            have hqs : (Q.toList == s.toList) = true := by
              rw [ByteArray.toList_eq, ByteArray.toList_eq, beq_iff_eq, hQ, ← HL.out]
              exact hq
            clear hq HU HU2 hQ hP hPl hb hbl hPs
            go_wp2_with fail
            refine (hgr _).mono ?_
            rintro e w2 ⟨rfl, hb2⟩
            have HB2 := Lib.hid (bthen HB.out hb2)
            clear hb2
            go_wp2
            go_ret2
            exact ⟨.inl ⟨b, HN.out, by rw [HP.out]; rfl⟩, HB2.out⟩
          · have HN : Hid (ungV l = none) := by show ungV l = _; rw [HU2.out, if_neg hq]
            have hqs : (Q.toList == s.toList) = false := by
              rw [ByteArray.toList_eq, ByteArray.toList_eq, beq_eq_false_iff_ne, hQ, ← HL.out]
              exact hq
            clear hq HU HU2 hQ hP hPl hb hbl hPs
            go_wp2_with fail
            refine (hgr _).mono ?_
            rintro e w2 ⟨rfl, hb2⟩
            have HB2 := Lib.hid (bthen HB.out hb2)
            clear hb2
            go_wp2
            go_ret2
            exact ⟨.inr ⟨4, by omega, HN.out, rfl⟩, HB2.out⟩
        · have t2 : (v / 4294967296 != 0) = true := by simp; omega
          have HN : Hid (ungV l = none) := by show ungV l = none; rw [HU.out, if_neg]; exact fun h => hv h.2.1
          go_wp2
          go_ret2
          exact ⟨.inr ⟨3, by omega, HN.out, rfl⟩, Below.refl _ _⟩
end Go.Proofs.YtnnnihjagjfkdaaGreatDoor
