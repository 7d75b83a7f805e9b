/-
  The walks of filter.Decode at the text coding and spool.decoded. Own text.
-/
import Derived.Test.YtnnnihjagjfkdaaGreatDoorTdec
import Derived.Test.YtnnnihjagjfkdaaGreatDoorCode
namespace Go.Proofs.YtnnnihjagjfkdaaGreatDoor
open Go.RowKit
set_option linter.unusedVariables false
def RetDec (l : List UInt8) (w : World) (e : Ending) (w' : World) : Prop :=
  ((∃ t, decText l = some t ∧ e = .returned (.tuple #[.string ⟨t.toArray⟩, .int .i64 0])) ∨ (∃ c, c ≠ 0 ∧ decText l = none ∧ e = .returned (.tuple #[.string ⟨#[]⟩, .int .i64 c]))) ∧ Below w.heap.size w w'
theorem decText_long {l : List UInt8} (h : 65536 < l.length) : decText l = none := by
  unfold decText
  cases unText l with
  | none => rfl
  | some t => exact if_neg (fun h2 => by omega)
theorem decText_none {l : List UInt8} (h : unText l = none ∨ ∃ t, unText l = some t ∧ 65536 < t.length) : decText l = none := by
  unfold decText
  rcases h with h | ⟨t, h, h2⟩
  · rw [h]
  · rw [h]; exact if_neg (fun h3 => by omega)
theorem decText_big {l t : List UInt8} (h : unText l = some t) (h2 : 16384 < t.length) : decText l = none := by
  unfold decText
  rw [h]; exact if_neg (fun h3 => by omega)
theorem decText_some {l t : List UInt8} (hl : l.length ≤ 65536) (h : unText l = some t) (h2 : t.length ≤ 16384) : decText l = some t := by
  unfold decText
  rw [h]; exact if_pos ⟨hl, h2⟩
set_option maxRecDepth 100000 in
set_option maxHeartbeats 4000000 in
theorem decode_one (g : Nat) (s : ByteArray) (w : World) (hc : ChainAt w g) :
    Calls Tryz.prog 72 #[.slice (some ⟨g, 0, none⟩) 1 1, .string s] w (RetDec s.data.toList w) := by
  have HC := Lib.hid hc
  have HCK := Lib.hid (check_one g w hc)
  have hsl : s.data.toList.length = s.size := by simp
  clear hc
  by_cases hbig : 65536 < s.size
  · have HN := Lib.hid (decText_long (l := s.data.toList) (by omega))
    have t1 : decide ((65536 : Int) < (s.size : Int)) = true := by simp; omega
    clear hsl
    go_enter Tryz.func72, Tryz.ntmps72
    go_wp2_with fail
    refine HCK.out.mono ?_
    rintro e w2 ⟨rfl, hb2⟩
    have HB2 := Lib.hid hb2
    clear hb2
    go_wp2
    go_ret2
    exact ⟨.inr ⟨2, by omega, HN.out, rfl⟩, HB2.out⟩
  · have t1 : decide ((65536 : Int) < (s.size : Int)) = false := by simp; omega
    have HL : Hid (s.data.toList.length ≤ 65536) := by show _ ≤ _; omega
    have HTD := Lib.hid (fun W => tdec_any s W (by omega))
    clear hsl
    go_enter Tryz.func72, Tryz.ntmps72
    go_wp2_with fail
    refine HCK.out.mono ?_
    rintro e w2 ⟨rfl, hb2⟩
    have HB2 := Lib.hid hb2
    clear hb2
    go_wp2_with fail
    go_loopw [1, 7] (fun v i wr => ∃ (k : Nat) (t : List UInt8), k ≤ 1 ∧ t.length ≤ 65536 ∧ i = .int .i64 (0 - (k : Int)) ∧ v = .string (if k = 0 then s else ⟨t.toArray⟩) ∧ Hid (k = 1 → unText s.data.toList = some t) ∧ Hid (Below w.heap.size w wr)) (fun _ i _ => (intOf i + 1).toNat)
    case atStart => exact ⟨0, [], by omega, by simp, rfl, rfl, (fun h => by omega), HB2.out⟩
    case round =>
      clear HB2
      obtain ⟨k, t, hk, ht, rfl, rfl, HT, HB⟩ := hrel
      by_cases hlt : k < 1
      · obtain rfl : k = 0 := by omega
        have c0 := keepCell HB.out HC.out.1
        have c1 := keepCell HB.out HC.out.2
        rw [if_pos rfl]
        go_wp2_with fail
        refine (coding_one _).mono ?_
        rintro e w3 ⟨rfl, hb3⟩
        have HB3 := Lib.hid (bthen HB.out hb3)
        clear hb3 c0 c1
        go_wp2_with fail
        refine (HTD.out _).mono ?_
        rintro e w4 ⟨h | h, hb4⟩
        · obtain ⟨t', hu, ht', rfl⟩ := h
          have HU := Lib.hid hu
          have HB4 := Lib.hid (bthen HB3.out hb4)
          clear hb4 hu
          go_wp2
          go_roundw
          case rel => exact ⟨1, t', by omega, ht', by go_num, rfl, (fun _ => HU.out), HB4⟩
          case measure => simp [intOf]
        · obtain ⟨c, hc0, hu, rfl⟩ := h
          have HU := Lib.hid (decText_none hu)
          have HB4 := Lib.hid (bthen HB3.out hb4)
          have t2 : (c != 0) = true := by simpa using hc0
          clear hb4 hu
          go_wp2
          go_ret2
          exact ⟨.inr ⟨c, hc0, HU.out, rfl⟩, HB4.out⟩
      · obtain rfl : k = 1 := by omega
        rw [if_neg (by omega)]
        have hut := HT.out rfl
        obtain ⟨T, hT⟩ : ∃ T, T = ByteArray.mk t.toArray := ⟨_, rfl⟩
        have hTs : T.size = t.length := by rw [hT]; show t.toArray.size = _; simp
        rw [← hT]
        by_cases hl2 : 16384 < t.length
        · have HN := Lib.hid (decText_big hut hl2)
          have t3 : decide ((16384 : Int) < (T.size : Int)) = true := by simp; omega
          clear hut hT
          go_wp2
          go_ret2
          exact ⟨.inr ⟨2, by omega, HN.out, rfl⟩, HB.out⟩
        · have HN := Lib.hid (decText_some HL.out hut (by omega))
          have t3 : decide ((16384 : Int) < (T.size : Int)) = false := by simp; omega
          have HTT := Lib.hid hT
          clear hut hT
          go_wp2_with fail
          refine (sclone_any _ _ (by omega)).mono ?_
          rintro e w4 ⟨rfl, hb4⟩
          have HB4 := Lib.hid (bthen HB.out hb4)
          clear hb4
          go_wp2
          go_ret2
          exact ⟨.inl ⟨t, HN.out, by rw [HTT.out]; rfl⟩, HB4.out⟩
theorem decV_no {l : List UInt8} (h : Lib.hasPrefix l [61] = false) : decV l = ([], false) := by
  cases l with
  | nil => rfl
  | cons c r =>
    unfold decV
    exact if_neg (fun e => by subst e; simp [Lib.hasPrefix] at h)
theorem decV_yes {l : List UInt8} (h : Lib.hasPrefix l [61] = true) : 1 ≤ l.length ∧ decV l = match decText (l.drop 1) with
    | none => ([], false)
    | some t => (t, decide (t.length ≤ 256)) := by
  cases l with
  | nil => simp [Lib.hasPrefix] at h
  | cons c r =>
    have e : c = 61 := by have h2 : 61 = c := by simpa [Lib.hasPrefix] using h
                          exact h2.symm
    subst e
    exact ⟨by simp, rfl⟩
def RetDcd (l : List UInt8) (w : World) (e : Ending) (w' : World) : Prop :=
  e = .returned (.tuple #[.string ⟨(decV l).1.toArray⟩, .bool (decV l).2]) ∧ Below w.heap.size w w'
set_option maxRecDepth 100000 in
set_option maxHeartbeats 4000000 in
theorem decoded_any (s : ByteArray) (w : World) :
    Calls Tryz.prog 52 #[.string s] w (RetDcd s.data.toList w) := by
  have hsl : s.data.toList.length = s.size := by simp
  have HP := Lib.hid (Tryz.strings_HasPrefix s ⟨#[61]⟩ w)
  cases hpx : Lib.hasPrefix s.data.toList (⟨#[61]⟩ : ByteArray).data.toList with
  | false =>
    rw [hpx] at HP
    have HN := Lib.hid (decV_no hpx)
    clear hsl hpx
    go_enter Tryz.func52, Tryz.ntmps52
    go_wp2_with fail
    refine HP.out.mono ?_
    rintro e w2 ⟨rfl, rfl⟩
    go_wp2
    go_ret2
    exact ⟨by rw [HN.out]; rfl, Below.refl _ _⟩
  | true =>
    rw [hpx] at HP
    obtain ⟨hs1, hdv⟩ := decV_yes hpx
    rw [hsl] at hs1
    have hd : (s.extract 1 s.size).data.toList = s.data.toList.drop 1 := by
      rw [extractL, List.take_of_length_le (by rw [List.length_drop]; omega)]
    rw [← hd] at hdv
    have HDV := Lib.hid hdv
    have hb := balloc (Below.refl _ w) (.cells #[.int .i64 4, .int .i64 0] 99)
    have hc : ChainAt (w.alloc (.cells #[.int .i64 4, .int .i64 0] 99)) w.heap.size := by
      have h := heap_alloc_new w (.cells #[.int .i64 4, .int .i64 0] 99)
      exact ⟨by rw [cell_of_row _ w.heap.size 0 _ _ (0, 0) h]; rfl, by rw [cell_of_row _ w.heap.size 1 _ _ (0, 0) h]; rfl⟩
    have HE := Lib.hid (decode_one w.heap.size (s.extract 1 s.size) _ hc)
    have HB := Lib.hid hb
    clear hsl hpx hb hc hd hdv
    go_enter Tryz.func52, Tryz.ntmps52
    go_wp2_with fail
    refine HP.out.mono ?_
    rintro e w2 ⟨rfl, rfl⟩
    go_wp2_with fail
    refine HE.out.mono ?_
    rintro e w2 ⟨h | h, hb2⟩
    · obtain ⟨t, hu, rfl⟩ := h
      have HB2 := Lib.hid (bthen HB.out hb2)
      obtain ⟨T, hT⟩ : ∃ T, T = ByteArray.mk t.toArray := ⟨_, rfl⟩
      have hTs : T.size = t.length := by rw [hT]; show t.toArray.size = _; simp
      rw [← hT]
      have HU : Hid (decV s.data.toList = (t, decide (t.length ≤ 256))) := by show decV s.data.toList = _; rw [HDV.out, hu]
      have HTT := Lib.hid hT
      by_cases h256 : t.length ≤ 256
      · have t1 : decide ((T.size : Int) ≤ 256) = true := by simp; omega
        have HV : Hid (decV s.data.toList = (t, true)) := by show decV s.data.toList = _; rw [HU.out, decide_eq_true h256]
        clear hb2 hu hT hTs h256
        go_wp2
        go_ret2
        exact ⟨by rw [HV.out, HTT.out]; rfl, HB2.out⟩
      · have t1 : decide ((T.size : Int) ≤ 256) = false := by simp; omega
        have HV : Hid (decV s.data.toList = (t, false)) := by show decV s.data.toList = _; rw [HU.out, decide_eq_false h256]
        clear hb2 hu hT hTs h256
        go_wp2
        go_ret2
        exact ⟨by rw [HV.out, HTT.out]; rfl, HB2.out⟩
    · obtain ⟨c, hc0, hu, rfl⟩ := h
      have HB2 := Lib.hid (bthen HB.out hb2)
      have t1 : (c == 0) = false := by simpa using hc0
      have HV : Hid (decV s.data.toList = ([], false)) := by show decV s.data.toList = _; rw [HDV.out, hu]
      clear hb2 hu
      go_wp2
      go_ret2
      exact ⟨by rw [HV.out]; rfl, HB2.out⟩
end Go.Proofs.YtnnnihjagjfkdaaGreatDoor
