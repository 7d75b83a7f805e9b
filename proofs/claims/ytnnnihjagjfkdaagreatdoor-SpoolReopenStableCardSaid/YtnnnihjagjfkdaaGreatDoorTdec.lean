/-
  The walk of filter.text's decode. Own text.
-/
import Derived.Test.YtnnnihjagjfkdaaGreatDoorUng
import Derived.Test.YtnnnihjagjfkdaaGreatDoorRec
namespace Go.Proofs.YtnnnihjagjfkdaaGreatDoor
open Go.RowKit
set_option linter.unusedVariables false
def RetTd (l : List UInt8) (w : World) (e : Ending) (w' : World) : Prop :=
  ((∃ t, unText l = some t ∧ t.length ≤ 65536 ∧ e = .returned (.tuple #[.string ⟨t.toArray⟩, .int .i64 0])) ∨ (∃ c, c ≠ 0 ∧ (unText l = none ∨ ∃ t, unText l = some t ∧ 65536 < t.length) ∧ e = .returned (.tuple #[.string ⟨#[]⟩, .int .i64 c]))) ∧ Below w.heap.size w w'
theorem ungV_len {l b : List UInt8} (h : ungV l = some b) : b.length ≤ 4 := by
  unfold ungV at h
  split at h
  · obtain rfl := (Option.some.inj h)
    rw [List.length_take]; show min _ 4 ≤ 4; omega
  · cases h
set_option maxRecDepth 100000 in
set_option maxHeartbeats 4000000 in
theorem tdec_any (s : ByteArray) (w : World) (hs : s.size ≤ 65536) :
    Calls Tryz.prog 148 #[.agg #[], .string s] w (RetTd s.data.toList w) := by
  go_enter Tryz.func148, Tryz.ntmps148
  go_wp2
  have HB0 := Lib.hid (Lib.fresh_isBuilder 123 5 (w.alloc (.cells #[] 146)))
  have HW0 := Lib.hid (balloc (balloc (Below.refl _ w) (.cells #[] 146)) (.cells #[.pointer none, .slice none 0 0] 123))
  have hz : (w.alloc (.cells #[] 146)).heap.size = w.heap.size + 1 := World.size_alloc _ _
  rw [hz] at HB0
  have hz1 : w.heap.size + 1 < ((w.alloc (.cells #[] 146)).alloc (.cells #[.pointer none, .slice none 0 0] 123)).heap.size := by simp
  clear hz
  generalize (w.alloc (.cells #[] 146)).alloc (.cells #[.pointer none, .slice none 0 0] 123) = w1 at *
  go_loopw [1] (fun v wr => ∃ (r : ByteArray) (out : List UInt8), v = .string r ∧ r.size ≤ 65536 ∧ out.length ≤ 65536 ∧ Hid (unText s.data.toList = (unText r.data.toList).map (fun t => out ++ t) ∧ Lib.IsBuilder 123 5 (w.heap.size + 1) (w.heap.size + 1) (Lib.byteCells out) wr ∧ Below w.heap.size w wr) ∧ w.heap.size + 1 < wr.heap.size) (fun v _ => match v with | .string r => r.size | _ => 0)
  case atStart => exact ⟨s, [], rfl, hs, by simp, ⟨by simp, HB0.out, HW0.out⟩, hz1⟩
  case round =>
    clear HB0 HW0 hz1
    obtain ⟨r, out, rfl, hr, ho, HR, hz⟩ := hrel
    by_cases h0 : r.size = 0
    · have hnil : r.data.toList = [] := List.eq_nil_of_length_eq_zero (by simpa using h0)
      have hr0 : r = ⟨#[]⟩ := by
        obtain ⟨⟨l⟩⟩ := r
        have : l = [] := hnil
        rw [this]
      subst hr0
      have HS := Lib.hid (Tryz.Builder_String_any (w.heap.size + 1) (w.heap.size + 1) out wr HR.out.2.1 (by omega))
      go_wp2_with (go_at_call 68; refine HS.out.mono ?_; rintro e w3 ⟨rfl, hb3⟩; have HB3 := Lib.hid hb3; clear hb3)
      go_ret2
      refine ⟨.inl ⟨out, ?_, ho, rfl⟩, ?_⟩
      · have := HR.out.1
        rw [show unText (⟨#[]⟩ : ByteArray).data.toList = some [] from rfl, Option.map_some, List.append_nil] at this
        exact this
      · exact HR.out.2.2.trans (HB3.out.mono (by omega))
    · have hne : r.toList.isEmpty = false := by
        rw [ByteArray.toList_eq]
        cases h : r.data.toList with
        | nil => exact absurd (show r.size = 0 from by rw [show r.size = r.data.toList.length from by rw [Array.length_toList]; rfl, h]; rfl) h0
        | cons a l => rfl
      have hne2 : ¬ r.toList = [] := fun e => by rw [e] at hne; cases hne
      have hne3 : (!r.toList.isEmpty) = true := by rw [hne]; rfl
      have hrl : r.data.toList.length = r.size := by simp
      have hr0 : 0 < r.size := by omega
      have hne4 : r.data.toList ≠ [] := fun e => h0 (by rw [← hrl, e]; rfl)
      have hg0 : r.data.toList.getD 0 0 = r[0] := by
        rw [List.getD_eq_getElem?_getD, List.getElem?_eq_getElem (by omega)]
        rfl
      by_cases hzz : r[0] = 122
      · have t1 : ((r[0].toNat : Int) == 122) = true := by rw [hzz]; rfl
        have hed : (r.extract 1 r.size).data.toList = r.data.toList.drop 1 := by
          rw [extractL, List.take_of_length_le (by rw [List.length_drop]; omega)]
        have hrc : r.data.toList = 122 :: (r.extract 1 r.size).data.toList := by
          rw [hed]
          cases h : r.data.toList with
          | nil => exact absurd h hne4
          | cons a l => rw [h] at hg0; simp at hg0; rw [hg0, hzz]; rfl
        have hstep : unText s.data.toList = (unText (r.extract 1 r.size).data.toList).map (fun t => (out ++ [0, 0, 0, 0]) ++ t) := by
          rw [HR.out.1, hrc, unText_z, Option.map_map]
          congr 1
          funext t
          simp
        have HST := Lib.hid hstep
        have hrs : (r.extract 1 r.size).size = r.size - 1 := extractL_size r 1 r.size (Nat.le_refl _)
        have HRS := Lib.hid hrs
        have HWS := Lib.hid (writeStr (w.heap.size + 1) (w.heap.size + 1) (Lib.byteCells out) ⟨#[0, 0, 0, 0]⟩ wr HR.out.2.1 (by rw [byteCells_len]; show out.length + 4 ≤ _; omega) (by omega))
        clear hrl hne4 hg0 hzz hed hrc hstep hrs
        go_wp2_with fail
        refine HWS.out.mono ?_
        rintro e w4 ⟨rfl, hba, hb4⟩
        have hz4 := hb4.size
        have hIB : Lib.IsBuilder 123 5 (w.heap.size + 1) (w.heap.size + 1) (Lib.byteCells (out ++ [0, 0, 0, 0])) w4 := .inr (by rw [byteCells_append]; exact hba)
        have HLN := Lib.hid (Tryz.Builder_Len (w.heap.size + 1) (w.heap.size + 1) (Lib.byteCells (out ++ [0, 0, 0, 0])) w4 hIB)
        have hlen : (Lib.byteCells (out ++ [0, 0, 0, 0])).length = out.length + 4 := by rw [byteCells_len]; simp
        have HN : Hid (unText s.data.toList = (unText (r.extract 1 r.size).data.toList).map (fun t => (out ++ [0, 0, 0, 0]) ++ t) ∧ Lib.IsBuilder 123 5 (w.heap.size + 1) (w.heap.size + 1) (Lib.byteCells (out ++ [0, 0, 0, 0])) w4 ∧ Below w.heap.size w w4) :=
          ⟨HST.out, hIB, HR.out.2.2.trans (hb4.mono (by omega))⟩
        rw [hlen] at HLN
        clear hba hb4 hIB hlen
        obtain ⟨m, hm⟩ : ∃ m, m = out.length + 4 := ⟨_, rfl⟩
        rw [← hm] at HLN
        have hmi : (0 : Int) ≤ (m : Int) ∧ (m : Int) ≤ 65540 := by omega
        have HM := Lib.hid hm
        clear hm
        go_wp2_with fail
        refine HLN.out.mono ?_
        rintro e w5 ⟨rfl, rfl⟩
        by_cases hbig : (m : Int) ≤ 65536
        · have t3 : decide ((65536 : Int) < (m : Int)) = false := by simp; omega
          go_wp2
          go_roundw
          case rel => exact ⟨_, _, rfl, by rw [HRS.out]; omega, by have := HM.out; simp; omega, HN, by omega⟩
          case measure => simp only [HRS.out]; omega
        · have t3 : decide ((65536 : Int) < (m : Int)) = true := by simp; omega
          go_wp2
          go_ret2
          refine ⟨.inr ⟨2, by omega, ?_, rfl⟩, HN.out.2.2⟩
          rw [HN.out.1]
          cases unText (r.extract 1 r.size).data.toList with
          | none => exact .inl rfl
          | some t => exact .inr ⟨_, rfl, by have := HM.out; simp; omega⟩
      · have t1 : ((r[0].toNat : Int) == 122) = false := by
          rw [beq_eq_false_iff_ne]
          intro e
          exact hzz (UInt8.toNat_inj.1 (by show r[0].toNat = 122; omega))
        obtain ⟨n, hn⟩ : ∃ n : Nat, n = if r.size < 5 then r.size else 5 := ⟨_, rfl⟩
        have n1 : 1 ≤ n := by split at hn <;> omega
        have n5 : n ≤ 5 := by split at hn <;> omega
        have nr : n ≤ r.size := by split at hn <;> omega
        have hmin : min (r.size : Int) 5 = (n : Int) := by split at hn <;> omega
        clear hn
        have hg : (r.extract 0 n).size = n := by rw [extractL_size r 0 n nr]; rfl
        have hd : (r.extract 0 n).data.toList = r.data.toList.take n := by rw [extractL]; rfl
        have HGR := Lib.hid (fun W => ungroup_any (r.extract 0 n) W (by omega) (by omega))
        have het : r.data.toList.take n = r.data.toList.take 5 := by
          by_cases h : n = 5
          · rw [h]
          · rw [List.take_of_length_le (by omega), List.take_of_length_le (by omega)]
        have hed : (r.extract n r.size).data.toList = r.data.toList.drop 5 := by
          rw [extractL, List.take_of_length_le (by rw [List.length_drop]; omega)]
          by_cases h : n = 5
          · rw [h]
          · rw [List.drop_of_length_le (by omega), List.drop_of_length_le (by omega)]
        have hug : unText r.data.toList = match ungV (r.extract 0 n).data.toList with
            | none => none
            | some b => (unText (r.extract n r.size).data.toList).map fun t => b ++ t := by
          rw [unText_g hne4 (by rw [hg0]; exact hzz), hd, het, hed]
          cases ungV (List.take 5 r.data.toList) <;> rfl
        have HUG := Lib.hid hug
        have hrs : (r.extract n r.size).size = r.size - n := extractL_size r n r.size (Nat.le_refl _)
        have HRS := Lib.hid hrs
        clear hg hd hrl hne4 hg0 hzz het hed hug hrs
        go_wp2_with fail
        refine (HGR.out _).mono ?_
        rintro e w3 ⟨h | h, hb3⟩
        · obtain ⟨b, hub, rfl⟩ := h
          have hbl := ungV_len hub
          have hstep : unText s.data.toList = (unText (r.extract n r.size).data.toList).map (fun t => (out ++ b) ++ t) := by
            rw [HR.out.1, HUG.out, hub]
            show ((unText (r.extract n r.size).data.toList).map fun t => b ++ t).map (fun t => out ++ t) = _
            rw [Option.map_map]
            congr 1
            funext t
            simp
          have HST := Lib.hid hstep
          have hib := isBuilder_below HR.out.2.1 hb3
          have hz3 := hb3.size
          have HB3 := Lib.hid (bthen HR.out.2.2 hb3)
          obtain ⟨B, hB⟩ : ∃ B, B = ByteArray.mk b.toArray := ⟨_, rfl⟩
          have hBl : B.data.toList = b := by rw [hB]
          have hBs : B.size = b.length := by rw [hB]; show b.toArray.size = _; simp
          have HWS := Lib.hid (writeStr (w.heap.size + 1) (w.heap.size + 1) (Lib.byteCells out) B w3 hib (by rw [byteCells_len]; omega) (by omega))
          rw [← hB]
          rw [strCells_eq, hBl] at HWS
          clear hib hb3 hB hBl hub hstep hBs
          go_wp2_with fail
          refine HWS.out.mono ?_
          rintro e w4 ⟨rfl, hba, hb4⟩
          have hz4 := hb4.size
          have hIB : Lib.IsBuilder 123 5 (w.heap.size + 1) (w.heap.size + 1) (Lib.byteCells (out ++ b)) w4 := .inr (by rw [byteCells_append]; exact hba)
          have HLN := Lib.hid (Tryz.Builder_Len (w.heap.size + 1) (w.heap.size + 1) (Lib.byteCells (out ++ b)) w4 hIB)
          have hlen : (Lib.byteCells (out ++ b)).length = out.length + b.length := by rw [byteCells_len]; simp
          have HN : Hid (unText s.data.toList = (unText (r.extract n r.size).data.toList).map (fun t => (out ++ b) ++ t) ∧ Lib.IsBuilder 123 5 (w.heap.size + 1) (w.heap.size + 1) (Lib.byteCells (out ++ b)) w4 ∧ Below w.heap.size w w4) :=
            ⟨HST.out, hIB, HB3.out.trans (hb4.mono (by omega))⟩
          rw [hlen] at HLN
          clear hba hb4 hIB hlen
          obtain ⟨m, hm⟩ : ∃ m, m = out.length + b.length := ⟨_, rfl⟩
          rw [← hm] at HLN
          have hmi : (0 : Int) ≤ (m : Int) ∧ (m : Int) ≤ 65540 := by omega
          have HM := Lib.hid hm
          clear hm
          go_wp2_with fail
          refine HLN.out.mono ?_
          rintro e w5 ⟨rfl, rfl⟩
          by_cases hbig : (m : Int) ≤ 65536
          · have t3 : decide ((65536 : Int) < (m : Int)) = false := by simp; omega
            go_wp2
            go_roundw
            case rel => exact ⟨_, _, rfl, by rw [HRS.out]; omega, by have := HM.out; simp; omega, HN, by omega⟩
            case measure => simp only [HRS.out]; omega
          · have t3 : decide ((65536 : Int) < (m : Int)) = true := by simp; omega
            go_wp2
            go_ret2
            refine ⟨.inr ⟨2, by omega, ?_, rfl⟩, HN.out.2.2⟩
            rw [HN.out.1]
            cases unText (r.extract n r.size).data.toList with
            | none => exact .inl rfl
            | some t => exact .inr ⟨_, rfl, by have := HM.out; simp; omega⟩
        · obtain ⟨c, hc0, hun, rfl⟩ := h
          have HN : Hid (unText s.data.toList = none) := by
            show unText s.data.toList = none
            rw [HR.out.1, HUG.out, hun]
            rfl
          have HB3 := Lib.hid (bthen HR.out.2.2 hb3)
          have t2 : (c != 0) = true := by simpa using hc0
          clear hb3 hun
          go_wp2
          go_ret2
          exact ⟨.inr ⟨c, hc0, .inl HN.out, rfl⟩, HB3.out⟩
end Go.Proofs.YtnnnihjagjfkdaaGreatDoor
