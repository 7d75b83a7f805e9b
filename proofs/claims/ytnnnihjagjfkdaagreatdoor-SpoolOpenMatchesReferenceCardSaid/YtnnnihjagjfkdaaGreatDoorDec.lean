/-
  How a text's code is read: plain. The walk of filter.ungroup. The walk of filter.text's decode. The walks of filter.Decode at the text coding and spool.decoded. Own text.
-/
import Derived.Test.YtnnnihjagjfkdaaGreatDoorEnc
import Derived.Test.YtnnnihjagjfkdaaGreatDoorCode
import Derived.Test.YtnnnihjagjfkdaaGreatDoorRec
namespace Go.Proofs.YtnnnihjagjfkdaaGreatDoor
set_option linter.unusedVariables false
def inDig (c : UInt8) : Bool := decide (33 ≤ c.toNat) && decide (c.toNat ≤ 117)
theorem inDig_yes {c : UInt8} (h : inDig c = true) : 33 ≤ c.toNat ∧ c.toNat ≤ 117 := by
  unfold inDig at h
  simpa using h
/-- What stands at place k of five. -/
def dAt (l : List UInt8) (k : Nat) : Int := if k < l.length then ((l.getD k 0).toNat : Int) - 33 else 84
def accV (l : List UInt8) : Nat → Int
  | 0 => 0
  | k + 1 => accV l k * 85 + dAt l k
theorem dAt_bd {l : List UInt8} (h : l.all inDig = true) (k : Nat) : 0 ≤ dAt l k ∧ dAt l k ≤ 84 := by
  unfold dAt
  split
  · rename_i hk
    have h1 := inDig_yes (List.all_eq_true.1 h _ (List.getElem_mem hk))
    rw [List.getD_eq_getElem?_getD, List.getElem?_eq_getElem hk, Option.getD_some]
    omega
  · omega
theorem accV_bd {l : List UInt8} (h : ∀ j, j < l.length → j < 5 → inDig (l.getD j 0) = true) : ∀ k, k ≤ 5 → 0 ≤ accV l k ∧ accV l k < p85 k
  | 0, _ => by simp [accV, p85]
  | k + 1, hk => by
    have ih := accV_bd h k (by omega)
    have hd : 0 ≤ dAt l k ∧ dAt l k ≤ 84 := by
      unfold dAt
      split
      · rename_i hk2
        have h1 := inDig_yes (h k hk2 (by omega))
        omega
      · omega
    show 0 ≤ accV l k * 85 + dAt l k ∧ accV l k * 85 + dAt l k < p85 (k + 1)
    match k, hk, ih with
    | 0, _, ih => simp only [p85] at ih ⊢; omega
    | 1, _, ih => simp only [p85] at ih ⊢; omega
    | 2, _, ih => simp only [p85] at ih ⊢; omega
    | 3, _, ih => simp only [p85] at ih ⊢; omega
    | 4, _, ih => simp only [p85] at ih ⊢; omega
def b8 (v : Int) : UInt8 := UInt8.ofNat (v % 256).toNat
theorem b8_toNat (v : Int) : ((b8 v).toNat : Int) = v % 256 := by
  have h0 := Int.emod_nonneg v (show (256 : Int) ≠ 0 by omega)
  have h1 := Int.emod_lt_of_pos v (show (0 : Int) < 256 by omega)
  unfold b8
  rw [UInt8.toNat_ofNat_of_lt' (by show (v % 256).toNat < 256; omega)]
  omega
/-- The four bytes of a number. -/
def by4 (v : Int) : List UInt8 := [b8 (v / 16777216), b8 (v / 65536), b8 (v / 256), b8 v]
/-- What two to five characters code. -/
def ungV (l : List UInt8) : Option (List UInt8) :=
  if l.all inDig = true ∧ l.length ≠ 1 ∧ accV l 5 < 4294967296 ∧ groupV ((by4 (accV l 5)).take (l.length - 1)) = l then some ((by4 (accV l 5)).take (l.length - 1)) else none
/-- What a code means. -/
def unV : Nat → List UInt8 → Option (List UInt8)
  | _, [] => some []
  | 0, _ :: _ => none
  | n + 1, c :: r => if c = 122 then (unV n r).map fun t => [0, 0, 0, 0] ++ t else match ungV ((c :: r).take 5) with
    | none => none
    | some b => (unV n ((c :: r).drop 5)).map fun t => b ++ t
theorem unV_fuel (n : Nat) : ∀ (m : Nat) (l : List UInt8), l.length ≤ n → l.length ≤ m → unV n l = unV m l := by
  induction n with
  | zero => intro m l h1 h2; cases l with
    | nil => cases m <;> rfl
    | cons c r => simp at h1
  | succ n ih =>
    intro m l h1 h2
    cases l with
    | nil => cases m <;> rfl
    | cons c r =>
      cases m with
      | zero => simp at h2
      | succ m =>
        simp only [List.length_cons] at h1 h2
        unfold unV
        rw [ih m r (by omega) (by omega), ih m ((c :: r).drop 5) (by simp; omega) (by simp; omega)]
def unText (l : List UInt8) : Option (List UInt8) := unV l.length l
theorem unText_nil : unText [] = some [] := rfl
theorem unText_z (r : List UInt8) : unText (122 :: r) = (unText r).map fun t => [0, 0, 0, 0] ++ t := by
  unfold unText
  show (if (122 : UInt8) = 122 then _ else _) = _
  rw [if_pos rfl]
theorem unText_g {l : List UInt8} (h : l ≠ []) (hz : l.getD 0 0 ≠ 122) : unText l = match ungV (l.take 5) with
    | none => none
    | some b => (unText (l.drop 5)).map fun t => b ++ t := by
  cases l with
  | nil => exact absurd rfl h
  | cons c r =>
    have hc : ¬ c = 122 := hz
    unfold unText
    show (if c = 122 then _ else _) = _
    rw [if_neg hc, unV_fuel r.length ((c :: r).drop 5).length ((c :: r).drop 5) (by simp) (Nat.le_refl _)]
/-- What Decode gives: the code and the text have their bounds. -/
def decText (l : List UInt8) : Option (List UInt8) := match unText l with
  | none => none
  | some t => if l.length ≤ 65536 ∧ t.length ≤ 16384 then some t else none
/-- A job's text in a record. -/
def decV (l : List UInt8) : List UInt8 × Bool :=
  match l with
  | [] => ([], false)
  | c :: r => if c = 61 then match decText r with
    | none => ([], false)
    | some t => (t, decide (t.length ≤ 256)) else ([], false)
end Go.Proofs.YtnnnihjagjfkdaaGreatDoor
namespace Go.Proofs.YtnnnihjagjfkdaaGreatDoor
open Go.RowKit
set_option linter.unusedVariables false
def RetUng (l : List UInt8) (w : World) (e : Ending) (w' : World) : Prop :=
  ((∃ b, ungV l = some b ∧ e = .returned (.tuple #[.string ⟨b.toArray⟩, .int .i64 0])) ∨ (∃ c, c ≠ 0 ∧ ungV l = none ∧ e = .returned (.tuple #[.string ⟨#[]⟩, .int .i64 c]))) ∧ Below w.heap.size w w'
theorem ungV_bad {l : List UInt8} {k : Nat} (hk : k < l.length) (h : inDig (l.getD k 0) = false) : ungV l = none := by
  rw [List.getD_eq_getElem?_getD, List.getElem?_eq_getElem hk, Option.getD_some] at h
  unfold ungV
  rw [if_neg]
  rintro ⟨h1, _⟩
  rw [List.all_eq_true.1 h1 _ (List.getElem_mem hk)] at h
  cases h
theorem dAt_in {l : List UInt8} {k : Nat} (h : k < l.length) : dAt l k = ((l.getD k 0).toNat : Int) - 33 := by rw [dAt, if_pos h]
theorem dAt_out {l : List UInt8} {k : Nat} (h : ¬ k < l.length) : dAt l k = 84 := by rw [dAt, if_neg h]
theorem accV_lt : ∀ (l : List UInt8) (k : Nat), k ≤ 4 → (∀ j, j < l.length → j < k → inDig (l.getD j 0) = true) → 0 ≤ accV l k ∧ accV l k < p85 k
  | l, 0, _, _ => by simp [accV, p85]
  | l, k + 1, hk, h => by
    have ih := accV_lt l k (by omega) (fun j hj hj2 => h j hj (by omega))
    have hd : 0 ≤ dAt l k ∧ dAt l k ≤ 84 := by
      unfold dAt
      split
      · rename_i hk2
        have h1 := inDig_yes (h k hk2 (by omega))
        omega
      · omega
    show 0 ≤ accV l k * 85 + dAt l k ∧ accV l k * 85 + dAt l k < p85 (k + 1)
    match k, hk, ih with
    | 0, _, ih => simp only [p85] at ih ⊢; omega
    | 1, _, ih => simp only [p85] at ih ⊢; omega
    | 2, _, ih => simp only [p85] at ih ⊢; omega
    | 3, _, ih => simp only [p85] at ih ⊢; omega
theorem accV_lt5 {l : List UInt8} {k : Nat} (hk : k < 5) (h : ∀ j, j < l.length → j < k → inDig (l.getD j 0) = true) : 0 ≤ accV l k ∧ accV l k < 52200625 := by
  have h2 := accV_lt l k (by omega) h
  match k, hk, h2 with
  | 0, _, h2 => simp only [p85] at h2; omega
  | 1, _, h2 => simp only [p85] at h2; omega
  | 2, _, h2 => simp only [p85] at h2; omega
  | 3, _, h2 => simp only [p85] at h2; omega
  | 4, _, h2 => simp only [p85] at h2; omega
set_option maxRecDepth 100000 in
set_option maxHeartbeats 4000000 in
theorem ungroup_any (s : ByteArray) (w : World) (h1 : 1 ≤ s.size) (h5 : s.size ≤ 5) :
    Calls Tryz.prog 150 #[.string s] w (RetUng s.data.toList w) := by
  have hlen : s.data.toList.length = s.size := by simp
  obtain ⟨l, hl⟩ : ∃ l, l = s.data.toList := ⟨_, rfl⟩
  have HL := Lib.hid hl
  have HBS : Hid (∀ k (h : k < s.size), l.getD k 0 = s[k]) := fun k h => by
    rw [hl, List.getD_eq_getElem?_getD, List.getElem?_eq_getElem (by simpa using h)]
    rfl
  rw [← hl] at hlen
  have HLEN := Lib.hid hlen
  rw [← hl]
  clear hl hlen
  go_enter Tryz.func150, Tryz.ntmps150
  go_wp2
  go_loop [4, 8] (fun v i => ∃ k : Nat, k ≤ 5 ∧ i = .int .i64 k ∧ v = .int .u64 (accV l k) ∧ Hid (∀ j, j < l.length → j < k → inDig (l.getD j 0) = true)) (fun _ i => 5 - (intOf i).toNat)
  case atStart => exact ⟨0, by omega, rfl, rfl, fun j _ h => by omega⟩
  case round =>
    obtain ⟨k, hk, rfl, rfl, HD⟩ := hrel
    by_cases hlt : k < 5
    · have hb : 0 ≤ accV l k ∧ accV l k < 52200625 := accV_lt5 hlt (fun j hj hj2 => HD.out j hj hj2)
      have HS : Hid (accV l (k + 1) = accV l k * 85 + dAt l k) := rfl
      generalize accV l k = v at *
      obtain ⟨b0, b1⟩ := hb
      by_cases hks : k < s.size
      · have hby := HBS.out k hks
        have hc : (s[k].toNat : Int) < 256 := by have := s[k].toNat_lt; omega
        have hdi := dAt_in (l := l) (k := k) (by rw [HLEN.out]; exact hks)
        rw [hby] at hdi
        have HDI := Lib.hid hdi
        clear hdi
        by_cases hin : inDig (s[k]) = true
        · obtain ⟨i0, i1⟩ := inDig_yes hin
          have t1 : decide ((s[k].toNat : Int) < 33) = false := by simp; omega
          have t2 : decide ((117 : Int) < (s[k].toNat : Int)) = false := by simp; omega
          have HD2 : Hid (∀ j, j < l.length → j < k + 1 → inDig (l.getD j 0) = true) := fun j hj hj2 => by
            by_cases e : j = k
            · subst e
              rw [HBS.out j hks]; exact hin
            · exact HD.out j hj (by omega)
          clear hby hin
          go_wp2
          go_round
          case rel => exact ⟨k + 1, by omega, by go_num, by rw [HS.out, HDI.out], HD2⟩
          case measure => simp [intOf]; omega
        · have hin : inDig (s[k]) = false := by simpa using hin
          have HN : Hid (ungV l = none) := ungV_bad (k := k) (by rw [HLEN.out]; exact hks) (by rw [hby]; exact hin)
          have ht : decide ((s[k].toNat : Int) < 33) = true ∨ decide ((s[k].toNat : Int) < 33) = false ∧ decide ((117 : Int) < (s[k].toNat : Int)) = true := by
            unfold inDig at hin
            simp at hin ⊢
            omega
          clear hin hby
          rcases ht with t1 | ⟨t1, t2⟩
          all_goals
            go_wp2
            go_ret2
            exact ⟨.inr ⟨5, by omega, HN.out, rfl⟩, Below.refl _ _⟩
      · have hdo := dAt_out (l := l) (k := k) (by rw [HLEN.out]; exact hks)
        have HDO := Lib.hid hdo
        have HD2 : Hid (∀ j, j < l.length → j < k + 1 → inDig (l.getD j 0) = true) := fun j hj hj2 => HD.out j hj (by rw [HLEN.out] at hj; omega)
        clear hdo
        go_wp2
        go_round
        case rel => exact ⟨k + 1, by omega, by go_num, by rw [HS.out, HDO.out], HD2⟩
        case measure => simp [intOf]; omega
    · obtain rfl : k = 5 := by omega
      have hall : l.all inDig = true := by
        rw [List.all_eq_true]
        intro x hx
        obtain ⟨j, hj, rfl⟩ := List.getElem_of_mem hx
        have h := HD.out j hj (by rw [HLEN.out] at hj; omega)
        rw [List.getD_eq_getElem?_getD, List.getElem?_eq_getElem hj, Option.getD_some] at h
        exact h
      obtain ⟨v0, v1⟩ := accV_bd (l := l) (fun j hj _ => HD.out j hj (by omega)) 5 (by omega)
      simp only [p85] at v1
      have HU : Hid (ungV l = if s.size ≠ 1 ∧ accV l 5 < 4294967296 ∧ groupV ((by4 (accV l 5)).take (s.size - 1)) = l then some ((by4 (accV l 5)).take (s.size - 1)) else none) := by
        show ungV l = _
        unfold ungV
        rw [HLEN.out]
        simp only [hall, true_and]
      clear hall
      generalize accV l 5 = v at *
      by_cases hs1 : s.size = 1
      · have t1 : ((s.size : Int) == 1) = true := by simp; omega
        have HN : Hid (ungV l = none) := by show ungV l = none; rw [HU.out, if_neg]; exact fun h => h.1 hs1
        go_wp2
        go_ret2
        exact ⟨.inr ⟨12, by omega, HN.out, rfl⟩, Below.refl _ _⟩
      · have t1 : ((s.size : Int) == 1) = false := by simp; omega
        by_cases hv : v < 4294967296
        · have t2 : v / 4294967296 = 0 := by omega
          obtain ⟨b, hb⟩ : ∃ b, b = (by4 v).take (s.size - 1) := ⟨_, rfl⟩
          have hbl : b.length = s.size - 1 := by rw [hb, List.length_take]; show min (s.size - 1) 4 = _; omega
          obtain ⟨P, hP⟩ : ∃ P, P = ByteArray.mk b.toArray := ⟨_, rfl⟩
          have hPl : P.data.toList = b := by rw [hP]
          have hPs : P.size = s.size - 1 := by rw [hP]; show b.toArray.size = _; simpa using hbl
          have hcv9 : (convert 121 9 (.slice (some ⟨w.heap.size, 0, none⟩) (s.size - 1) 4)).run Tryz.prog (w.alloc (.cells #[.int .u8 (v / 16777216), .int .u8 (v / 65536 % 256), .int .u8 (v / 256 % 256), .int .u8 (v % 256)] 5)) = .ok (.string P) (w.alloc (.cells #[.int .u8 (v / 16777216), .int .u8 (v / 65536 % 256), .int .u8 (v / 256 % 256), .int .u8 (v % 256)] 5)) := by
            have h := run_convert_bytes_back (P := Tryz.prog) (w.alloc (.cells #[.int .u8 (v / 16777216), .int .u8 (v / 65536 % 256), .int .u8 (v / 256 % 256), .int .u8 (v % 256)] 5)) 121 9 5 ⟨w.heap.size, 0, none⟩ 4 b Tryz.underlying121 Tryz.underlying5 Tryz.underlying9 (fun j hj => by
              rw [add_none, Nat.zero_add]
              have hj4 : j < 4 := by omega
              have e : (b[j].toNat : Int) = (if j = 0 then v / 16777216 else if j = 1 then v / 65536 % 256 else if j = 2 then v / 256 % 256 else v % 256) := by
                simp only [hb, List.getElem_take]
                match j, hj4 with
                | 0, _ => show ((b8 (v / 16777216)).toNat : Int) = _; rw [b8_toNat]; simp; omega
                | 1, _ => show ((b8 (v / 65536)).toNat : Int) = _; rw [b8_toNat]; simp
                | 2, _ => show ((b8 (v / 256)).toNat : Int) = _; rw [b8_toNat]; simp
                | 3, _ => show ((b8 v).toNat : Int) = _; rw [b8_toNat]; simp
              rw [e, cell_of_row _ w.heap.size j _ _ (0, 0) (heap_alloc_new w _)]
              match j, hj4 with
              | 0, _ => rfl
              | 1, _ => rfl
              | 2, _ => rfl
              | 3, _ => rfl)
            rw [hbl] at h
            rw [hP]
            exact h
          obtain ⟨Q, hQ⟩ : ∃ Q, Q = ByteArray.mk (groupV b).toArray := ⟨_, rfl⟩
          have hgr : ∀ W, Calls Tryz.prog 151 #[.string P] W fun e w' => e = .returned (.string Q) ∧ Below W.heap.size W w' := fun W => (group_any P W (by omega) (by omega)).mono fun e w' h => ⟨by rw [h.1, hPl, hQ], h.2⟩
          have HB := Lib.hid (balloc (Below.refl _ w) (.cells #[.int .u8 (v / 16777216), .int .u8 (v / 65536 % 256), .int .u8 (v / 256 % 256), .int .u8 (v % 256)] 5))
          have HU2 : Hid (ungV l = if groupV b = l then some b else none) := by
            show ungV l = _
            rw [HU.out, hb]
            by_cases e : groupV ((by4 v).take (s.size - 1)) = l
            · rw [if_pos ⟨hs1, hv, e⟩, if_pos e]
            · rw [if_neg (fun h => e h.2.2), if_neg e]
          have HP : Hid (P = ByteArray.mk b.toArray) := hP
          by_cases hq : groupV b = l
          · have HN : Hid (ungV l = some b) := by show ungV l = _; rw [HU2.out, if_pos hq]
            have hqs : (Q.toList == s.toList) = true := by
              rw [ByteArray.toList_eq, ByteArray.toList_eq, beq_iff_eq, hQ, ← HL.out]
              exact hq
            clear hq HU HU2 hQ hP hPl hb hbl hPs
            go_wp2_with fail
            refine (hgr _).mono ?_
            rintro e w2 ⟨rfl, hb2⟩
            have HB2 := Lib.hid (bthen HB.out hb2)
            clear hb2
            go_wp2
            go_ret2
            exact ⟨.inl ⟨b, HN.out, by rw [HP.out]; rfl⟩, HB2.out⟩
          · have HN : Hid (ungV l = none) := by show ungV l = _; rw [HU2.out, if_neg hq]
            have hqs : (Q.toList == s.toList) = false := by
              rw [ByteArray.toList_eq, ByteArray.toList_eq, beq_eq_false_iff_ne, hQ, ← HL.out]
              exact hq
            clear hq HU HU2 hQ hP hPl hb hbl hPs
            go_wp2_with fail
            refine (hgr _).mono ?_
            rintro e w2 ⟨rfl, hb2⟩
            have HB2 := Lib.hid (bthen HB.out hb2)
            clear hb2
            go_wp2
            go_ret2
            exact ⟨.inr ⟨4, by omega, HN.out, rfl⟩, HB2.out⟩
        · have t2 : (v / 4294967296 != 0) = true := by simp; omega
          have HN : Hid (ungV l = none) := by show ungV l = none; rw [HU.out, if_neg]; exact fun h => hv h.2.1
          go_wp2
          go_ret2
          exact ⟨.inr ⟨3, by omega, HN.out, rfl⟩, Below.refl _ _⟩
end Go.Proofs.YtnnnihjagjfkdaaGreatDoor
namespace Go.Proofs.YtnnnihjagjfkdaaGreatDoor
open Go.RowKit
set_option linter.unusedVariables false
def RetTd (l : List UInt8) (w : World) (e : Ending) (w' : World) : Prop :=
  ((∃ t, unText l = some t ∧ t.length ≤ 65536 ∧ e = .returned (.tuple #[.string ⟨t.toArray⟩, .int .i64 0])) ∨ (∃ c, c ≠ 0 ∧ (unText l = none ∨ ∃ t, unText l = some t ∧ 65536 < t.length) ∧ e = .returned (.tuple #[.string ⟨#[]⟩, .int .i64 c]))) ∧ Below w.heap.size w w'
theorem ungV_len {l b : List UInt8} (h : ungV l = some b) : b.length ≤ 4 := by
  unfold ungV at h
  split at h
  · obtain rfl := (Option.some.inj h)
    rw [List.length_take]; show min _ 4 ≤ 4; omega
  · cases h
set_option maxRecDepth 100000 in
set_option maxHeartbeats 4000000 in
theorem tdec_any (s : ByteArray) (w : World) (hs : s.size ≤ 65536) :
    Calls Tryz.prog 148 #[.agg #[], .string s] w (RetTd s.data.toList w) := by
  go_enter Tryz.func148, Tryz.ntmps148
  go_wp2
  have HB0 := Lib.hid (Lib.fresh_isBuilder 123 5 (w.alloc (.cells #[] 146)))
  have HW0 := Lib.hid (balloc (balloc (Below.refl _ w) (.cells #[] 146)) (.cells #[.pointer none, .slice none 0 0] 123))
  have hz : (w.alloc (.cells #[] 146)).heap.size = w.heap.size + 1 := World.size_alloc _ _
  rw [hz] at HB0
  have hz1 : w.heap.size + 1 < ((w.alloc (.cells #[] 146)).alloc (.cells #[.pointer none, .slice none 0 0] 123)).heap.size := by simp
  clear hz
  generalize (w.alloc (.cells #[] 146)).alloc (.cells #[.pointer none, .slice none 0 0] 123) = w1 at *
  go_loopw [1] (fun v wr => ∃ (r : ByteArray) (out : List UInt8), v = .string r ∧ r.size ≤ 65536 ∧ out.length ≤ 65536 ∧ Hid (unText s.data.toList = (unText r.data.toList).map (fun t => out ++ t) ∧ Lib.IsBuilder 123 5 (w.heap.size + 1) (w.heap.size + 1) (Lib.byteCells out) wr ∧ Below w.heap.size w wr) ∧ w.heap.size + 1 < wr.heap.size) (fun v _ => match v with | .string r => r.size | _ => 0)
  case atStart => exact ⟨s, [], rfl, hs, by simp, ⟨by simp, HB0.out, HW0.out⟩, hz1⟩
  case round =>
    clear HB0 HW0 hz1
    obtain ⟨r, out, rfl, hr, ho, HR, hz⟩ := hrel
    by_cases h0 : r.size = 0
    · have hnil : r.data.toList = [] := List.eq_nil_of_length_eq_zero (by simpa using h0)
      have hr0 : r = ⟨#[]⟩ := by
        obtain ⟨⟨l⟩⟩ := r
        have : l = [] := hnil
        rw [this]
      subst hr0
      have HS := Lib.hid (Tryz.Builder_String_any (w.heap.size + 1) (w.heap.size + 1) out wr HR.out.2.1 (by omega))
      go_wp2_with (go_at_call 68; refine HS.out.mono ?_; rintro e w3 ⟨rfl, hb3⟩; have HB3 := Lib.hid hb3; clear hb3)
      go_ret2
      refine ⟨.inl ⟨out, ?_, ho, rfl⟩, ?_⟩
      · have := HR.out.1
        rw [show unText (⟨#[]⟩ : ByteArray).data.toList = some [] from rfl, Option.map_some, List.append_nil] at this
        exact this
      · exact HR.out.2.2.trans (HB3.out.mono (by omega))
    · have hne : r.toList.isEmpty = false := by
        rw [ByteArray.toList_eq]
        cases h : r.data.toList with
        | nil => exact absurd (show r.size = 0 from by rw [show r.size = r.data.toList.length from by rw [Array.length_toList]; rfl, h]; rfl) h0
        | cons a l => rfl
      have hne2 : ¬ r.toList = [] := fun e => by rw [e] at hne; cases hne
      have hne3 : (!r.toList.isEmpty) = true := by rw [hne]; rfl
      have hrl : r.data.toList.length = r.size := by simp
      have hr0 : 0 < r.size := by omega
      have hne4 : r.data.toList ≠ [] := fun e => h0 (by rw [← hrl, e]; rfl)
      have hg0 : r.data.toList.getD 0 0 = r[0] := by
        rw [List.getD_eq_getElem?_getD, List.getElem?_eq_getElem (by omega)]
        rfl
      by_cases hzz : r[0] = 122
      · have t1 : ((r[0].toNat : Int) == 122) = true := by rw [hzz]; rfl
        have hed : (r.extract 1 r.size).data.toList = r.data.toList.drop 1 := by
          rw [extractL, List.take_of_length_le (by rw [List.length_drop]; omega)]
        have hrc : r.data.toList = 122 :: (r.extract 1 r.size).data.toList := by
          rw [hed]
          cases h : r.data.toList with
          | nil => exact absurd h hne4
          | cons a l => rw [h] at hg0; simp at hg0; rw [hg0, hzz]; rfl
        have hstep : unText s.data.toList = (unText (r.extract 1 r.size).data.toList).map (fun t => (out ++ [0, 0, 0, 0]) ++ t) := by
          rw [HR.out.1, hrc, unText_z, Option.map_map]
          congr 1
          funext t
          simp
        have HST := Lib.hid hstep
        have hrs : (r.extract 1 r.size).size = r.size - 1 := extractL_size r 1 r.size (Nat.le_refl _)
        have HRS := Lib.hid hrs
        have HWS := Lib.hid (writeStr (w.heap.size + 1) (w.heap.size + 1) (Lib.byteCells out) ⟨#[0, 0, 0, 0]⟩ wr HR.out.2.1 (by rw [byteCells_len]; show out.length + 4 ≤ _; omega) (by omega))
        clear hrl hne4 hg0 hzz hed hrc hstep hrs
        go_wp2_with fail
        refine HWS.out.mono ?_
        rintro e w4 ⟨rfl, hba, hb4⟩
        have hz4 := hb4.size
        have hIB : Lib.IsBuilder 123 5 (w.heap.size + 1) (w.heap.size + 1) (Lib.byteCells (out ++ [0, 0, 0, 0])) w4 := .inr (by rw [byteCells_append]; exact hba)
        have HLN := Lib.hid (Tryz.Builder_Len (w.heap.size + 1) (w.heap.size + 1) (Lib.byteCells (out ++ [0, 0, 0, 0])) w4 hIB)
        have hlen : (Lib.byteCells (out ++ [0, 0, 0, 0])).length = out.length + 4 := by rw [byteCells_len]; simp
        have HN : Hid (unText s.data.toList = (unText (r.extract 1 r.size).data.toList).map (fun t => (out ++ [0, 0, 0, 0]) ++ t) ∧ Lib.IsBuilder 123 5 (w.heap.size + 1) (w.heap.size + 1) (Lib.byteCells (out ++ [0, 0, 0, 0])) w4 ∧ Below w.heap.size w w4) :=
          ⟨HST.out, hIB, HR.out.2.2.trans (hb4.mono (by omega))⟩
        rw [hlen] at HLN
        clear hba hb4 hIB hlen
        obtain ⟨m, hm⟩ : ∃ m, m = out.length + 4 := ⟨_, rfl⟩
        rw [← hm] at HLN
        have hmi : (0 : Int) ≤ (m : Int) ∧ (m : Int) ≤ 65540 := by omega
        have HM := Lib.hid hm
        clear hm
        go_wp2_with fail
        refine HLN.out.mono ?_
        rintro e w5 ⟨rfl, rfl⟩
        by_cases hbig : (m : Int) ≤ 65536
        · have t3 : decide ((65536 : Int) < (m : Int)) = false := by simp; omega
          go_wp2
          go_roundw
          case rel => exact ⟨_, _, rfl, by rw [HRS.out]; omega, by have := HM.out; simp; omega, HN, by omega⟩
          case measure => simp only [HRS.out]; omega
        · have t3 : decide ((65536 : Int) < (m : Int)) = true := by simp; omega
          go_wp2
          go_ret2
          refine ⟨.inr ⟨2, by omega, ?_, rfl⟩, HN.out.2.2⟩
          rw [HN.out.1]
          cases unText (r.extract 1 r.size).data.toList with
          | none => exact .inl rfl
          | some t => exact .inr ⟨_, rfl, by have := HM.out; simp; omega⟩
      · have t1 : ((r[0].toNat : Int) == 122) = false := by
          rw [beq_eq_false_iff_ne]
          intro e
          exact hzz (UInt8.toNat_inj.1 (by show r[0].toNat = 122; omega))
        obtain ⟨n, hn⟩ : ∃ n : Nat, n = if r.size < 5 then r.size else 5 := ⟨_, rfl⟩
        have n1 : 1 ≤ n := by split at hn <;> omega
        have n5 : n ≤ 5 := by split at hn <;> omega
        have nr : n ≤ r.size := by split at hn <;> omega
        have hmin : min (r.size : Int) 5 = (n : Int) := by split at hn <;> omega
        clear hn
        have hg : (r.extract 0 n).size = n := by rw [extractL_size r 0 n nr]; rfl
        have hd : (r.extract 0 n).data.toList = r.data.toList.take n := by rw [extractL]; rfl
        have HGR := Lib.hid (fun W => ungroup_any (r.extract 0 n) W (by omega) (by omega))
        have het : r.data.toList.take n = r.data.toList.take 5 := by
          by_cases h : n = 5
          · rw [h]
          · rw [List.take_of_length_le (by omega), List.take_of_length_le (by omega)]
        have hed : (r.extract n r.size).data.toList = r.data.toList.drop 5 := by
          rw [extractL, List.take_of_length_le (by rw [List.length_drop]; omega)]
          by_cases h : n = 5
          · rw [h]
          · rw [List.drop_of_length_le (by omega), List.drop_of_length_le (by omega)]
        have hug : unText r.data.toList = match ungV (r.extract 0 n).data.toList with
            | none => none
            | some b => (unText (r.extract n r.size).data.toList).map fun t => b ++ t := by
          rw [unText_g hne4 (by rw [hg0]; exact hzz), hd, het, hed]
          all_goals (cases ungV (List.take 5 r.data.toList) <;> rfl)
        have HUG := Lib.hid hug
        have hrs : (r.extract n r.size).size = r.size - n := extractL_size r n r.size (Nat.le_refl _)
        have HRS := Lib.hid hrs
        clear hg hd hrl hne4 hg0 hzz het hed hug hrs
        go_wp2_with fail
        refine (HGR.out _).mono ?_
        rintro e w3 ⟨h | h, hb3⟩
        · obtain ⟨b, hub, rfl⟩ := h
          have hbl := ungV_len hub
          have hstep : unText s.data.toList = (unText (r.extract n r.size).data.toList).map (fun t => (out ++ b) ++ t) := by
            rw [HR.out.1, HUG.out, hub]
            show ((unText (r.extract n r.size).data.toList).map fun t => b ++ t).map (fun t => out ++ t) = _
            rw [Option.map_map]
            congr 1
            funext t
            simp
          have HST := Lib.hid hstep
          have hib := isBuilder_below HR.out.2.1 hb3
          have hz3 := hb3.size
          have HB3 := Lib.hid (bthen HR.out.2.2 hb3)
          obtain ⟨B, hB⟩ : ∃ B, B = ByteArray.mk b.toArray := ⟨_, rfl⟩
          have hBl : B.data.toList = b := by rw [hB]
          have hBs : B.size = b.length := by rw [hB]; show b.toArray.size = _; simp
          have HWS := Lib.hid (writeStr (w.heap.size + 1) (w.heap.size + 1) (Lib.byteCells out) B w3 hib (by rw [byteCells_len]; omega) (by omega))
          rw [← hB]
          rw [strCells_eq, hBl] at HWS
          clear hib hb3 hB hBl hub hstep hBs
          go_wp2_with fail
          refine HWS.out.mono ?_
          rintro e w4 ⟨rfl, hba, hb4⟩
          have hz4 := hb4.size
          have hIB : Lib.IsBuilder 123 5 (w.heap.size + 1) (w.heap.size + 1) (Lib.byteCells (out ++ b)) w4 := .inr (by rw [byteCells_append]; exact hba)
          have HLN := Lib.hid (Tryz.Builder_Len (w.heap.size + 1) (w.heap.size + 1) (Lib.byteCells (out ++ b)) w4 hIB)
          have hlen : (Lib.byteCells (out ++ b)).length = out.length + b.length := by rw [byteCells_len]; simp
          have HN : Hid (unText s.data.toList = (unText (r.extract n r.size).data.toList).map (fun t => (out ++ b) ++ t) ∧ Lib.IsBuilder 123 5 (w.heap.size + 1) (w.heap.size + 1) (Lib.byteCells (out ++ b)) w4 ∧ Below w.heap.size w w4) :=
            ⟨HST.out, hIB, HB3.out.trans (hb4.mono (by omega))⟩
          rw [hlen] at HLN
          clear hba hb4 hIB hlen
          obtain ⟨m, hm⟩ : ∃ m, m = out.length + b.length := ⟨_, rfl⟩
          rw [← hm] at HLN
          have hmi : (0 : Int) ≤ (m : Int) ∧ (m : Int) ≤ 65540 := by omega
          have HM := Lib.hid hm
          clear hm
          go_wp2_with fail
          refine HLN.out.mono ?_
          rintro e w5 ⟨rfl, rfl⟩
          by_cases hbig : (m : Int) ≤ 65536
          · have t3 : decide ((65536 : Int) < (m : Int)) = false := by simp; omega
            go_wp2
            go_roundw
            case rel => exact ⟨_, _, rfl, by rw [HRS.out]; omega, by have := HM.out; simp; omega, HN, by omega⟩
            case measure => simp only [HRS.out]; omega
          · have t3 : decide ((65536 : Int) < (m : Int)) = true := by simp; omega
            go_wp2
            go_ret2
            refine ⟨.inr ⟨2, by omega, ?_, rfl⟩, HN.out.2.2⟩
            rw [HN.out.1]
            cases unText (r.extract n r.size).data.toList with
            | none => exact .inl rfl
            | some t => exact .inr ⟨_, rfl, by have := HM.out; simp; omega⟩
        · obtain ⟨c, hc0, hun, rfl⟩ := h
          have HN : Hid (unText s.data.toList = none) := by
            show unText s.data.toList = none
            rw [HR.out.1, HUG.out, hun]
            rfl
          have HB3 := Lib.hid (bthen HR.out.2.2 hb3)
          have t2 : (c != 0) = true := by simpa using hc0
          clear hb3 hun
          go_wp2
          go_ret2
          exact ⟨.inr ⟨c, hc0, .inl HN.out, rfl⟩, HB3.out⟩
end Go.Proofs.YtnnnihjagjfkdaaGreatDoor
namespace Go.Proofs.YtnnnihjagjfkdaaGreatDoor
open Go.RowKit
set_option linter.unusedVariables false
def RetDec (l : List UInt8) (w : World) (e : Ending) (w' : World) : Prop :=
  ((∃ t, decText l = some t ∧ e = .returned (.tuple #[.string ⟨t.toArray⟩, .int .i64 0])) ∨ (∃ c, c ≠ 0 ∧ decText l = none ∧ e = .returned (.tuple #[.string ⟨#[]⟩, .int .i64 c]))) ∧ Below w.heap.size w w'
theorem decText_long {l : List UInt8} (h : 65536 < l.length) : decText l = none := by
  unfold decText
  cases unText l with
  | none => rfl
  | some t => exact if_neg (fun h2 => by omega)
theorem decText_none {l : List UInt8} (h : unText l = none ∨ ∃ t, unText l = some t ∧ 65536 < t.length) : decText l = none := by
  unfold decText
  rcases h with h | ⟨t, h, h2⟩
  · rw [h]
  · rw [h]; exact if_neg (fun h3 => by omega)
theorem decText_big {l t : List UInt8} (h : unText l = some t) (h2 : 16384 < t.length) : decText l = none := by
  unfold decText
  rw [h]; exact if_neg (fun h3 => by omega)
theorem decText_some {l t : List UInt8} (hl : l.length ≤ 65536) (h : unText l = some t) (h2 : t.length ≤ 16384) : decText l = some t := by
  unfold decText
  rw [h]; exact if_pos ⟨hl, h2⟩
set_option maxRecDepth 100000 in
set_option maxHeartbeats 4000000 in
theorem decode_one (g : Nat) (s : ByteArray) (w : World) (hc : ChainAt w g) :
    Calls Tryz.prog 72 #[.slice (some ⟨g, 0, none⟩) 1 1, .string s] w (RetDec s.data.toList w) := by
  have HC := Lib.hid hc
  have HCK := Lib.hid (check_one g w hc)
  have hsl : s.data.toList.length = s.size := by simp
  clear hc
  by_cases hbig : 65536 < s.size
  · have HN := Lib.hid (decText_long (l := s.data.toList) (by omega))
    have t1 : decide ((65536 : Int) < (s.size : Int)) = true := by simp; omega
    clear hsl
    go_enter Tryz.func72, Tryz.ntmps72
    go_wp2_with fail
    refine HCK.out.mono ?_
    rintro e w2 ⟨rfl, hb2⟩
    have HB2 := Lib.hid hb2
    clear hb2
    go_wp2
    go_ret2
    exact ⟨.inr ⟨2, by omega, HN.out, rfl⟩, HB2.out⟩
  · have t1 : decide ((65536 : Int) < (s.size : Int)) = false := by simp; omega
    have HL : Hid (s.data.toList.length ≤ 65536) := by show _ ≤ _; omega
    have HTD := Lib.hid (fun W => tdec_any s W (by omega))
    clear hsl
    go_enter Tryz.func72, Tryz.ntmps72
    go_wp2_with fail
    refine HCK.out.mono ?_
    rintro e w2 ⟨rfl, hb2⟩
    have HB2 := Lib.hid hb2
    clear hb2
    go_wp2_with fail
    go_loopw [1, 7] (fun v i wr => ∃ (k : Nat) (t : List UInt8), k ≤ 1 ∧ t.length ≤ 65536 ∧ i = .int .i64 (0 - (k : Int)) ∧ v = .string (if k = 0 then s else ⟨t.toArray⟩) ∧ Hid (k = 1 → unText s.data.toList = some t) ∧ Hid (Below w.heap.size w wr)) (fun _ i _ => (intOf i + 1).toNat)
    case atStart => exact ⟨0, [], by omega, by simp, rfl, rfl, (fun h => by omega), HB2.out⟩
    case round =>
      clear HB2
      obtain ⟨k, t, hk, ht, rfl, rfl, HT, HB⟩ := hrel
      by_cases hlt : k < 1
      · obtain rfl : k = 0 := by omega
        have c0 := keepCell HB.out HC.out.1
        have c1 := keepCell HB.out HC.out.2
        rw [if_pos rfl]
        go_wp2_with fail
        refine (coding_one _).mono ?_
        rintro e w3 ⟨rfl, hb3⟩
        have HB3 := Lib.hid (bthen HB.out hb3)
        clear hb3 c0 c1
        go_wp2_with fail
        refine (HTD.out _).mono ?_
        rintro e w4 ⟨h | h, hb4⟩
        · obtain ⟨t', hu, ht', rfl⟩ := h
          have HU := Lib.hid hu
          have HB4 := Lib.hid (bthen HB3.out hb4)
          clear hb4 hu
          go_wp2
          go_roundw
          case rel => exact ⟨1, t', by omega, ht', by go_num, rfl, (fun _ => HU.out), HB4⟩
          case measure => simp [intOf]
        · obtain ⟨c, hc0, hu, rfl⟩ := h
          have HU := Lib.hid (decText_none hu)
          have HB4 := Lib.hid (bthen HB3.out hb4)
          have t2 : (c != 0) = true := by simpa using hc0
          clear hb4 hu
          go_wp2
          go_ret2
          exact ⟨.inr ⟨c, hc0, HU.out, rfl⟩, HB4.out⟩
      · obtain rfl : k = 1 := by omega
        rw [if_neg (by omega)]
        have hut := HT.out rfl
        obtain ⟨T, hT⟩ : ∃ T, T = ByteArray.mk t.toArray := ⟨_, rfl⟩
        have hTs : T.size = t.length := by rw [hT]; show t.toArray.size = _; simp
        rw [← hT]
        by_cases hl2 : 16384 < t.length
        · have HN := Lib.hid (decText_big hut hl2)
          have t3 : decide ((16384 : Int) < (T.size : Int)) = true := by simp; omega
          clear hut hT
          go_wp2
          go_ret2
          exact ⟨.inr ⟨2, by omega, HN.out, rfl⟩, HB.out⟩
        · have HN := Lib.hid (decText_some HL.out hut (by omega))
          have t3 : decide ((16384 : Int) < (T.size : Int)) = false := by simp; omega
          have HTT := Lib.hid hT
          clear hut hT
          go_wp2_with fail
          refine (sclone_any _ _ (by omega)).mono ?_
          rintro e w4 ⟨rfl, hb4⟩
          have HB4 := Lib.hid (bthen HB.out hb4)
          clear hb4
          go_wp2
          go_ret2
          exact ⟨.inl ⟨t, HN.out, by rw [HTT.out]; rfl⟩, HB4.out⟩
theorem decV_no {l : List UInt8} (h : Lib.hasPrefix l [61] = false) : decV l = ([], false) := by
  cases l with
  | nil => rfl
  | cons c r =>
    unfold decV
    exact if_neg (fun e => by subst e; simp [Lib.hasPrefix] at h)
theorem decV_yes {l : List UInt8} (h : Lib.hasPrefix l [61] = true) : 1 ≤ l.length ∧ decV l = match decText (l.drop 1) with
    | none => ([], false)
    | some t => (t, decide (t.length ≤ 256)) := by
  cases l with
  | nil => simp [Lib.hasPrefix] at h
  | cons c r =>
    have e : c = 61 := by have h2 : 61 = c := by simpa [Lib.hasPrefix] using h
                          exact h2.symm
    subst e
    exact ⟨by simp, rfl⟩
def RetDcd (l : List UInt8) (w : World) (e : Ending) (w' : World) : Prop :=
  e = .returned (.tuple #[.string ⟨(decV l).1.toArray⟩, .bool (decV l).2]) ∧ Below w.heap.size w w'
set_option maxRecDepth 100000 in
set_option maxHeartbeats 4000000 in
theorem decoded_any (s : ByteArray) (w : World) :
    Calls Tryz.prog 52 #[.string s] w (RetDcd s.data.toList w) := by
  have hsl : s.data.toList.length = s.size := by simp
  have HP := Lib.hid (Tryz.strings_HasPrefix s ⟨#[61]⟩ w)
  cases hpx : Lib.hasPrefix s.data.toList (⟨#[61]⟩ : ByteArray).data.toList with
  | false =>
    rw [hpx] at HP
    have HN := Lib.hid (decV_no hpx)
    clear hsl hpx
    go_enter Tryz.func52, Tryz.ntmps52
    go_wp2_with fail
    refine HP.out.mono ?_
    rintro e w2 ⟨rfl, rfl⟩
    go_wp2
    go_ret2
    exact ⟨by rw [HN.out]; rfl, Below.refl _ _⟩
  | true =>
    rw [hpx] at HP
    obtain ⟨hs1, hdv⟩ := decV_yes hpx
    rw [hsl] at hs1
    have hd : (s.extract 1 s.size).data.toList = s.data.toList.drop 1 := by
      rw [extractL, List.take_of_length_le (by rw [List.length_drop]; omega)]
    rw [← hd] at hdv
    have HDV := Lib.hid hdv
    have hb := balloc (Below.refl _ w) (.cells #[.int .i64 4, .int .i64 0] 99)
    have hc : ChainAt (w.alloc (.cells #[.int .i64 4, .int .i64 0] 99)) w.heap.size := by
      have h := heap_alloc_new w (.cells #[.int .i64 4, .int .i64 0] 99)
      exact ⟨by rw [cell_of_row _ w.heap.size 0 _ _ (0, 0) h]; rfl, by rw [cell_of_row _ w.heap.size 1 _ _ (0, 0) h]; rfl⟩
    have HE := Lib.hid (decode_one w.heap.size (s.extract 1 s.size) _ hc)
    have HB := Lib.hid hb
    clear hsl hpx hb hc hd hdv
    go_enter Tryz.func52, Tryz.ntmps52
    go_wp2_with fail
    refine HP.out.mono ?_
    rintro e w2 ⟨rfl, rfl⟩
    go_wp2_with fail
    refine HE.out.mono ?_
    rintro e w2 ⟨h | h, hb2⟩
    · obtain ⟨t, hu, rfl⟩ := h
      have HB2 := Lib.hid (bthen HB.out hb2)
      obtain ⟨T, hT⟩ : ∃ T, T = ByteArray.mk t.toArray := ⟨_, rfl⟩
      have hTs : T.size = t.length := by rw [hT]; show t.toArray.size = _; simp
      rw [← hT]
      have HU : Hid (decV s.data.toList = (t, decide (t.length ≤ 256))) := by show decV s.data.toList = _; rw [HDV.out, hu]
      have HTT := Lib.hid hT
      by_cases h256 : t.length ≤ 256
      · have t1 : decide ((T.size : Int) ≤ 256) = true := by simp; omega
        have HV : Hid (decV s.data.toList = (t, true)) := by show decV s.data.toList = _; rw [HU.out, decide_eq_true h256]
        clear hb2 hu hT hTs h256
        go_wp2
        go_ret2
        exact ⟨by rw [HV.out, HTT.out]; rfl, HB2.out⟩
      · have t1 : decide ((T.size : Int) ≤ 256) = false := by simp; omega
        have HV : Hid (decV s.data.toList = (t, false)) := by show decV s.data.toList = _; rw [HU.out, decide_eq_false h256]
        clear hb2 hu hT hTs h256
        go_wp2
        go_ret2
        exact ⟨by rw [HV.out, HTT.out]; rfl, HB2.out⟩
    · obtain ⟨c, hc0, hu, rfl⟩ := h
      have HB2 := Lib.hid (bthen HB.out hb2)
      have t1 : (c == 0) = false := by simpa using hc0
      have HV : Hid (decV s.data.toList = ([], false)) := by show decV s.data.toList = _; rw [HDV.out, hu]
      clear hb2 hu
      go_wp2
      go_ret2
      exact ⟨by rw [HV.out]; rfl, HB2.out⟩
end Go.Proofs.YtnnnihjagjfkdaaGreatDoor
