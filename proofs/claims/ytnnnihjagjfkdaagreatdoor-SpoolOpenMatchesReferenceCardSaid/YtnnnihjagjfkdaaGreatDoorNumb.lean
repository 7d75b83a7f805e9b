/-
  The walks of spool.number. Own text.
-/
import Derived.Test.YtnnnihjagjfkdaaGreatDoorParV
import Derived.Test.YtnnnihjagjfkdaaGreatDoorKeep
import Derived.Lib.AtoiErrMem
namespace Go.Proofs.YtnnnihjagjfkdaaGreatDoor
open Go.RowKit
set_option linter.unusedVariables false
/-- What is read of the library's variables. -/
structure Tabz (w : World) : Prop where
  tabs : Tabs w
  ml : ∃ m, w.cell? ⟨1, 0, none⟩ = some (.int .i64 m)
  es : ∃ ev, w.cell? ⟨3, 0, none⟩ = some ev ∧ (ev = .nilIface ∨ ∃ te pe, ev = .iface te pe)
  er : ∃ ev, w.cell? ⟨4, 0, none⟩ = some ev ∧ (ev = .nilIface ∨ ∃ te pe, ev = .iface te pe)
theorem Tabz.below {w w' : World} (h : Tabz w) (hb : Below w.heap.size w w') : Tabz w' := by
  obtain ⟨m, hm⟩ := h.ml
  obtain ⟨e1, h1, h1'⟩ := h.es
  obtain ⟨e2, h2, h2'⟩ := h.er
  exact ⟨h.tabs.below hb, ⟨m, keepCell hb hm⟩, ⟨e1, keepCell hb h1, h1'⟩, ⟨e2, keepCell hb h2, h2'⟩⟩
def RetNumb (l : List UInt8) (w : World) (e : Ending) (w' : World) : Prop := e = .returned (.tuple #[.int .i64 (numV l).1, .bool (numV l).2]) ∧ Below w.heap.size w w'
set_option maxRecDepth 100000 in
set_option maxHeartbeats 4000000 in
theorem number_any (s : ByteArray) (w : World) (hs : s.size ≤ 1000000) (ht : Tabz w) : Calls Tryz.prog 35 #[.string s] w (RetNumb s.data.toList w) := by
  have HT := Lib.hid ht
  cases e : Lib.atoiAll s.data.toList with
  | ok v =>
    have HA := Lib.hid (Tryz.strconv_Atoi_ok s (by omega) v e w)
    have hbd := Lib.atoiAll_bounds e
    by_cases hv : 0 ≤ v
    · have HI : Hid (∀ W, Below w.heap.size w W → Calls Tryz.prog 29 #[.int .i64 v] W (RetStr (Lib.itoa v) W)) := fun W hb => itoa_gen v W hbd.1 hbd.2 (HT.out.tabs.below hb)
      have hv2 : ¬ v < 0 := by omega
      by_cases heq : Lib.itoa v = s.data.toList
      · have HV : Hid (numV s.data.toList = (v, true)) := by show _ = _; unfold numV; rw [e]; simp [hv, heq]
        have HQ : Hid (strB (Lib.itoa v) = s) := by show _ = _; rw [heq]; exact strB_eq s
        clear e heq ht
        go_enter Tryz.func35, Tryz.ntmps35
        go_wp2_with fail
        refine HA.out.mono ?_
        rintro e w2 ⟨rfl, hw2⟩
        have HB2 : Hid (Below w.heap.size w w2) := by
          rcases hw2 with rfl | ⟨t, rfl⟩
          · exact Below.refl _ _
          · exact Lib.bytesWorld_below w _ t
        clear hw2 HA
        go_wp2_with fail
        refine (HI.out _ HB2.out).mono ?_
        rintro e w3 ⟨rfl, hb3⟩
        rw [HQ.out]
        have HB3 := Lib.hid (bthen HB2.out hb3)
        clear hb3
        go_wp2
        go_ret2
        exact ⟨by rw [HV.out]; rfl, HB3.out⟩
      · have HV : Hid (numV s.data.toList = (v, false)) := by show _ = _; unfold numV; rw [e]; simp [heq]
        have hq : ¬ strB (Lib.itoa v) = s := fun e => heq (by rw [← e]; exact (strB_data _).symm)
        obtain ⟨S, hS⟩ : ∃ S, S = strB (Lib.itoa v) := ⟨_, rfl⟩
        rw [← hS] at hq
        have hq2 : (S.toList == s.toList) = false := by
          rw [ByteArray.toList_eq, ByteArray.toList_eq, beq_eq_false_iff_ne]
          intro e2
          exact hq (by rw [← strB_eq S, ← strB_eq s, e2])
        clear hq
        have HS := Lib.hid hS
        clear e heq ht hS
        go_enter Tryz.func35, Tryz.ntmps35
        go_wp2_with fail
        refine HA.out.mono ?_
        rintro e w2 ⟨rfl, hw2⟩
        have HB2 : Hid (Below w.heap.size w w2) := by
          rcases hw2 with rfl | ⟨t, rfl⟩
          · exact Below.refl _ _
          · exact Lib.bytesWorld_below w _ t
        clear hw2 HA
        go_wp2_with fail
        refine (HI.out _ HB2.out).mono ?_
        rintro e w3 ⟨rfl, hb3⟩
        rw [← HS.out]
        have HB3 := Lib.hid (bthen HB2.out hb3)
        clear hb3
        go_wp2
        go_ret2
        exact ⟨by rw [HV.out]; rfl, HB3.out⟩
    · have HV : Hid (numV s.data.toList = (v, false)) := by show _ = _; unfold numV; rw [e]; simp [hv]
      have hv2 : v < 0 := by omega
      clear e ht
      go_enter Tryz.func35, Tryz.ntmps35
      go_wp2_with fail
      refine HA.out.mono ?_
      rintro e w2 ⟨rfl, hw2⟩
      have HB2 : Hid (Below w.heap.size w w2) := by
        rcases hw2 with rfl | ⟨t, rfl⟩
        · exact Below.refl _ _
        · exact Lib.bytesWorld_below w _ t
      clear hw2 HA
      go_wp2
      go_ret2
      exact ⟨by rw [HV.out]; rfl, HB2.out⟩
  | range =>
    obtain ⟨ev, h1, h2⟩ := ht.er
    have HA := Lib.hid (Tryz.strconv_Atoi_range s (by omega) e ev w h1 h2)
    have HV : Hid (numV s.data.toList = (Lib.atoiSat s.data.toList, false)) := by show _ = _; unfold numV; rw [e]
    clear e ht h1 h2
    go_enter Tryz.func35, Tryz.ntmps35
    go_wp2_with fail
    refine HA.out.mono ?_
    rintro e w2 ⟨N, rfl, -, -, hb2⟩
    have HB2 := Lib.hid hb2
    clear hb2 HA
    go_wp2
    go_ret2
    exact ⟨by rw [HV.out]; rfl, HB2.out⟩
  | _ =>
    obtain ⟨ev, h1, h2⟩ := ht.es
    have HA := Lib.hid (Any.strconv_Atoi_syntax Tryz.laysC172 s (by omega) e ev w h1 h2)
    have HV : Hid (numV s.data.toList = (0, false)) := by show _ = _; unfold numV; rw [e]
    clear e ht h1 h2
    go_enter Tryz.func35, Tryz.ntmps35
    go_wp2_with fail
    refine HA.out.mono ?_
    rintro e w2 ⟨N, rfl, -, -, hb2⟩
    have HB2 := Lib.hid hb2
    clear hb2 HA
    go_wp2
    go_ret2
    exact ⟨by rw [HV.out]; rfl, HB2.out⟩
end Go.Proofs.YtnnnihjagjfkdaaGreatDoor
