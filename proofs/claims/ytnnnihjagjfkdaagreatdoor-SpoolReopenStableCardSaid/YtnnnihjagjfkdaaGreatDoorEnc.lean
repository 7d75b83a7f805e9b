/-
  The walk of filter.text's encode. Own text.
-/
import Derived.Test.YtnnnihjagjfkdaaGreatDoorBuild
namespace Go.Proofs.YtnnnihjagjfkdaaGreatDoor
open Go.RowKit
set_option linter.unusedVariables false
section
variable {P : Program} {w : World} {ops : Array Oper} {rest : List Oper} {o : Oper} {a : Act} {Q : Exit → Act → World → Prop}
/-- min of two ints, as a number of the prover's. -/
theorem wpList_min2 (hgd : o.guard = none) (x y : Operand) (ts : Array TypeId) (ho : o.op = .call { callee := .builtin .min, args := #[x, y], argTypes := ts })
    (p q r : Int) (hx : a.eval x = .int .i64 p) (hy : a.eval y = .int .i64 q) (hr : (if q < p then q else p) = r) (h : wpList P ops Q rest (a.put o.dst (.int .i64 r)) w) : wpList P ops Q (o :: rest) a w := by
  refine wpList_plain hgd fun K hK => ?_
  unfold Oper.wp execOp
  simp only [ho, resolve, invoke, builtin, Sem.run_bind, Sem.run_pure, Result.andThen_ok, List.map_toArray, List.map_cons, List.map_nil, hx, hy, Builtin.min_, List.foldlM, Builtin.min2, hr]
  exact hK _ _ h
end
theorem byteCells_len (l : List UInt8) : (Lib.byteCells l).length = l.length := by simp [Lib.byteCells]
theorem extractL (s : ByteArray) (a b : Nat) : (s.extract a b).data.toList = (s.data.toList.drop a).take (b - a) := by
  simp [ByteArray.extract, ByteArray.copySlice]
theorem extractL_size (s : ByteArray) (a b : Nat) (h : b ≤ s.size) : (s.extract a b).size = b - a := by
  have h1 : (s.extract a b).size = (s.extract a b).data.toList.length := by rw [Array.length_toList]; rfl
  have h2 : s.data.toList.length = s.size := by simp
  rw [h1, extractL, List.length_take, List.length_drop, h2]
  omega
set_option maxRecDepth 100000 in
set_option maxHeartbeats 2000000 in
theorem enc_any (s : ByteArray) (w : World) (hs : s.size ≤ 16384) :
    Calls Tryz.prog 149 #[.agg #[], .string s] w fun e w' => e = .returned (.string ⟨(encText s.data.toList).toArray⟩) ∧ Below w.heap.size w w' := by
  have hle : (encText s.data.toList).length ≤ 20500 := by
    have h := encText_len s.data.toList
    have : s.data.toList.length = s.size := by simp
    omega
  have HLE := Lib.hid hle
  clear hle
  go_enter Tryz.func149, Tryz.ntmps149
  go_wp2
  have HB0 := Lib.hid (Lib.fresh_isBuilder 123 5 (w.alloc (.cells #[] 146)))
  have HW0 := Lib.hid (balloc (balloc (Below.refl _ w) (.cells #[] 146)) (.cells #[.pointer none, .slice none 0 0] 123))
  have hz : (w.alloc (.cells #[] 146)).heap.size = w.heap.size + 1 := World.size_alloc _ _
  rw [hz] at HB0
  have hz1 : w.heap.size + 1 < ((w.alloc (.cells #[] 146)).alloc (.cells #[.pointer none, .slice none 0 0] 123)).heap.size := by simp
  clear hz
  generalize (w.alloc (.cells #[] 146)).alloc (.cells #[.pointer none, .slice none 0 0] 123) = w1 at *
  go_loopw [1] (fun v wr => ∃ (r : ByteArray) (out : List UInt8), v = .string r ∧ r.size ≤ 16384 ∧ Hid (encText s.data.toList = out ++ encText r.data.toList ∧ Lib.IsBuilder 123 5 (w.heap.size + 1) (w.heap.size + 1) (Lib.byteCells out) wr ∧ Below w.heap.size w wr) ∧ w.heap.size + 1 < wr.heap.size) (fun v _ => match v with | .string r => r.size | _ => 0)
  case atStart => exact ⟨s, [], rfl, hs, ⟨rfl, HB0.out, HW0.out⟩, hz1⟩
  case round =>
    clear HB0 HW0 hz1
    obtain ⟨r, out, rfl, hr, HR, hz⟩ := hrel
    by_cases h0 : r.size = 0
    · have hnil : r.data.toList = [] := List.eq_nil_of_length_eq_zero (by simpa using h0)
      have hr0 : r = ⟨#[]⟩ := by
        obtain ⟨⟨l⟩⟩ := r
        have : l = [] := hnil
        rw [this]
      subst hr0
      have HS := Lib.hid (Tryz.Builder_String_any (w.heap.size + 1) (w.heap.size + 1) out wr HR.out.2.1 (by omega))
      go_wp2_with (go_at_call 68; refine HS.out.mono ?_; rintro e w3 ⟨rfl, hb3⟩; have HB3 := Lib.hid hb3; clear hb3)
      go_ret
      refine ⟨?_, ?_⟩
      · have := HR.out.1
        rw [show encText (⟨#[]⟩ : ByteArray).data.toList = [] from rfl, List.append_nil] at this
        rw [this]
        rfl
      · exact HR.out.2.2.trans (HB3.out.mono (by omega))
    · have hne : r.toList.isEmpty = false := by
        rw [ByteArray.toList_eq]
        cases h : r.data.toList with
        | nil => exact absurd (show r.size = 0 from by rw [show r.size = r.data.toList.length from by rw [Array.length_toList]; rfl, h]; rfl) h0
        | cons a l => rfl
      have hne2 : ¬ r.toList = [] := fun e => by rw [e] at hne; cases hne
      have hne3 : (!r.toList.isEmpty) = true := by rw [hne]; rfl
      obtain ⟨n, hn⟩ : ∃ n : Nat, n = if r.size < 4 then r.size else 4 := ⟨_, rfl⟩
      have n1 : 1 ≤ n := by split at hn <;> omega
      have n4 : n ≤ 4 := by split at hn <;> omega
      have nr : n ≤ r.size := by split at hn <;> omega
      have hmin : min (r.size : Int) 4 = (n : Int) := by split at hn <;> omega
      clear hn
      have hg : (r.extract 0 n).size = n := by rw [extractL_size r 0 n nr]; rfl
      have hd : (r.extract 0 n).data.toList = r.data.toList.take n := by rw [extractL]; rfl
      have HGR := Lib.hid (fun W => group_any (r.extract 0 n) W (by omega) (by omega))
      have hrl : r.data.toList.length = r.size := by simp
      have het : r.data.toList.take n = r.data.toList.take 4 := by
        by_cases h : n = 4
        · rw [h]
        · rw [List.take_of_length_le (by omega), List.take_of_length_le (by omega)]
      have hed : (r.extract n r.size).data.toList = r.data.toList.drop 4 := by
        rw [extractL, List.take_of_length_le (by rw [List.length_drop]; omega)]
        by_cases h : n = 4
        · rw [h]
        · rw [List.drop_of_length_le (by omega), List.drop_of_length_le (by omega)]
      have hcode : groupV (r.extract 0 n).data.toList = groupV (r.data.toList.take 4) := by rw [hd, het]
      have hne4 : r.data.toList ≠ [] := fun e => h0 (by rw [← hrl, e]; rfl)
      obtain ⟨g, hgv⟩ : ∃ g : ByteArray, g = ⟨(groupV (r.extract 0 n).data.toList).toArray⟩ := ⟨_, rfl⟩
      have hgd : g.data.toList = groupV (r.data.toList.take 4) := by rw [hgv, hcode]
      have hstep : encText s.data.toList = (out ++ g.data.toList) ++ encText (r.extract n r.size).data.toList := by
        rw [HR.out.1, encText_step hne4, hgd, hed, List.append_assoc]
      have hosz : out.length + g.size ≤ 20500 := by
        have h1 := congrArg List.length hstep
        rw [List.length_append, List.length_append] at h1
        have h2 := HLE.out
        have h3 : g.data.toList.length = g.size := by simp
        omega
      have HST := Lib.hid hstep
      have HGV := Lib.hid hgv
      have hrs : (r.extract n r.size).size = r.size - n := extractL_size r n r.size (Nat.le_refl _)
      have HRS := Lib.hid hrs
      clear hg hd hrl het hed hcode hgd hstep hrs hgv hne4
      go_wp2_with fail
      refine (HGR.out _).mono ?_
      rintro e w3 ⟨rfl, hb3⟩
      rw [← HGV.out]
      have hib := isBuilder_below HR.out.2.1 hb3
      have hz3 := hb3.size
      have HB3 := Lib.hid (bthen HR.out.2.2 hb3)
      have HWS := Lib.hid (writeStr (w.heap.size + 1) (w.heap.size + 1) (Lib.byteCells out) g w3 hib (by rw [byteCells_len]; omega) (by omega))
      clear hib hb3
      go_wp2_with fail
      refine HWS.out.mono ?_
      rintro e w4 ⟨rfl, hba, hb4⟩
      have hz4 := hb4.size
      have HN : Hid (encText s.data.toList = (out ++ g.data.toList) ++ encText (r.extract n r.size).data.toList ∧ Lib.IsBuilder 123 5 (w.heap.size + 1) (w.heap.size + 1) (Lib.byteCells (out ++ g.data.toList)) w4 ∧ Below w.heap.size w w4) :=
        ⟨HST.out, .inr (by rw [byteCells_append]; exact hba), HB3.out.trans (hb4.mono (by omega))⟩
      clear hba hb4
      go_wp2
      go_roundw
      case rel => exact ⟨_, _, rfl, by rw [HRS.out]; omega, HN, by omega⟩
      case measure => simp only [HRS.out]; omega
end Go.Proofs.YtnnnihjagjfkdaaGreatDoor
