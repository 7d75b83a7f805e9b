/-
  What arrives of writes: plain. The walk of spool.Crash. Own text.
-/
import Derived.Test.YtnnnihjagjfkdaaGreatDoorQues
import Derived.Test.YtnnnihjagjfkdaaGreatDoorBase
namespace Go.Proofs.YtnnnihjagjfkdaaGreatDoor
open Go.RowKit
set_option linter.unusedVariables false
structure Arv where
  left : Nat
  a : List UInt8
  b : List UInt8
def arvStep (s : Arv) (x : Wr) : Arv :=
  { left := s.left - min s.left x.data.size
    a := if x.area = 0 then s.a ++ x.data.data.toList.take (min s.left x.data.size) else s.a
    b := if x.area = 0 then s.b else s.b ++ x.data.data.toList.take (min s.left x.data.size) }
def arvV (s : Arv) (l : List Wr) : Arv := l.foldl arvStep s
def sizeW (l : List Wr) : Nat := (l.map fun x => x.data.size).sum
theorem sizeW_take {l : List Wr} {k : Nat} (h : k < l.length) : sizeW (l.take (k + 1)) = sizeW (l.take k) + l[k].data.size := by
  unfold sizeW
  rw [List.take_succ_eq_append_getElem h, List.map_append, List.sum_append]
  simp
theorem sizeW_le (l : List Wr) (k : Nat) : sizeW (l.take k) ≤ sizeW l := by
  unfold sizeW
  conv => rhs; rw [← List.take_append_drop k l]
  rw [List.map_append, List.sum_append]
  omega
theorem arvV_succ (s : Arv) {l : List Wr} {k : Nat} (h : k < l.length) : arvV s (l.take (k + 1)) = arvStep (arvV s (l.take k)) l[k] := by
  unfold arvV
  rw [List.take_succ_eq_append_getElem h, List.foldl_append]
  rfl
theorem arvV_len (s : Arv) (l : List Wr) : ∀ k, k ≤ l.length → (arvV s (l.take k)).a.length + (arvV s (l.take k)).b.length ≤ s.a.length + s.b.length + sizeW (l.take k) := by
  intro k
  induction k with
  | zero => intro _; simp [arvV, sizeW]
  | succ k ih =>
    intro hk
    have h := ih (by omega)
    rw [arvV_succ s (by omega), sizeW_take (by omega)]
    unfold arvStep
    have ht : (l[k].data.data.toList.take (min (arvV s (l.take k)).left l[k].data.size)).length ≤ l[k].data.size := by
      rw [List.length_take]
      have : l[k].data.data.toList.length = l[k].data.size := by simp
      omega
    by_cases ha : l[k].area = 0
    · simp only [if_pos ha, List.length_append]; omega
    · simp only [if_neg ha, List.length_append]; omega
/-- All areas are there. -/
def okArea (x : Wr) : Bool := decide (x.area = 0 ∨ x.area = 1)
theorem first_bad {l : List Wr} (h : l.all okArea = false) : ∃ k, ∃ hk : k < l.length, okArea l[k] = false ∧ ∀ j (hj : j < k), okArea (l[j]'(by omega)) = true := by
  induction l with
  | nil => cases h
  | cons x r ih =>
    by_cases hx : okArea x = true
    · rw [List.all_cons, hx, Bool.true_and] at h
      obtain ⟨k, hk, h1, h2⟩ := ih h
      refine ⟨k + 1, by simpa using hk, by simpa using h1, fun j hj => ?_⟩
      match j, hj with
      | 0, _ => exact hx
      | j + 1, hj => exact h2 j (by omega)
    · exact ⟨0, by simp, by simpa using hx, fun j hj => by omega⟩
theorem okArea_yes {x : Wr} (h : okArea x = true) : x.area = 0 ∨ x.area = 1 := of_decide_eq_true h
theorem okArea_no {x : Wr} (h : okArea x = false) : (x.area != 0) = true ∧ (x.area != 1) = true := by
  have := of_decide_eq_false h
  constructor <;> simp <;> omega
theorem all_at {l : List Wr} (h : l.all okArea = true) {k : Nat} (hk : k < l.length) : okArea l[k] = true := List.all_eq_true.1 h _ (List.getElem_mem hk)
end Go.Proofs.YtnnnihjagjfkdaaGreatDoor
namespace Go.Proofs.YtnnnihjagjfkdaaGreatDoor
open Go.RowKit
set_option linter.unusedVariables false
section
variable {P : Program} {w : World} {ops : Array Oper} {rest : List Oper} {o : Oper} {a : Act} {Q : Exit → Act → World → Prop}
/-- max of two ints, as a number of the prover's. -/
theorem wpList_max2 (hgd : o.guard = none) (x y : Operand) (ts : Array TypeId) (ho : o.op = .call { callee := .builtin .max, args := #[x, y], argTypes := ts })
    (p q r : Int) (hx : a.eval x = .int .i64 p) (hy : a.eval y = .int .i64 q) (hr : (if p < q then q else p) = r) (h : wpList P ops Q rest (a.put o.dst (.int .i64 r)) w) : wpList P ops Q (o :: rest) a w := by
  refine wpList_plain hgd fun K hK => ?_
  unfold Oper.wp execOp
  simp only [ho, resolve, invoke, builtin, Sem.run_bind, Sem.run_pure, Result.andThen_ok, List.map_toArray, List.map_cons, List.map_nil, hx, hy, Builtin.max_, List.foldlM, Builtin.max2, hr]
  exact hK _ _ h
end
/-- Two strings in a block of their own. -/
def DiskAt (w : World) (b : Nat) (x y : ByteArray) : Prop := FTab Value.string w b 2 (fun i => if i = 0 then x else y)
theorem DiskAt.new (w : World) (x y : ByteArray) (t : TypeId) : DiskAt (w.alloc (.cells #[.string x, .string y] t)) w.heap.size x y := by
  refine ⟨fun i hi => ?_, fun o => ?_⟩
  · rw [cell_of_row _ w.heap.size i _ _ (0, 0) (heap_alloc_new w _)]
    match i, hi with
    | 0, _ => rfl
    | 1, _ => rfl
  · unfold World.frozen?
    rw [heap_alloc_new]
    simp
def RetDisk (x y : ByteArray) (c : Int) (w : World) (e : Ending) (w' : World) : Prop := e = .returned (.tuple #[.agg #[.string x, .string y], .int .i64 c]) ∧ Below w.heap.size w w'
set_option maxRecDepth 100000 in
set_option maxHeartbeats 4000000 in
theorem crash_no (x y : ByteArray) (oa : Option Addr) (l : List Wr) (c : Nat) (bytes : Int) (w : World) (hl : Flat w 2 encWr oa l) (hm : l.length ≤ 1048576) (hbad : l.all okArea = false) :
    Calls Tryz.prog 20 #[.agg #[.string x, .string y], .slice oa l.length c, .int .i64 bytes] w (RetDisk ⟨#[]⟩ ⟨#[]⟩ 3 w) := by
  obtain ⟨kb, hkb, hb1, hb2⟩ := first_bad hbad
  have HL := Lib.hid hl
  have HB1 := Lib.hid hb1
  have HB2 := Lib.hid hb2
  obtain ⟨n, hn⟩ : ∃ n, n = l.length := ⟨_, rfl⟩
  have HN := Lib.hid hn
  rw [← hn]
  rw [← hn] at hkb hm
  have hb0 := balloc (balloc (Below.refl _ w) (.cells #[.string x, .string y] 23)) (.cells #[.string ⟨#[]⟩, .string ⟨#[]⟩] 23)
  have hd := DiskAt.new (w.alloc (.cells #[.string x, .string y] 23)) ⟨#[]⟩ ⟨#[]⟩ 23
  rw [World.size_alloc] at hd
  have hz : w.heap.size + 1 < ((w.alloc (.cells #[.string x, .string y] 23)).alloc (.cells #[.string ⟨#[]⟩, .string ⟨#[]⟩] 23)).heap.size := by simp
  clear hl hbad hb1 hb2 hn
  go_enter Tryz.func20, Tryz.ntmps20
  go_wp2
  have HB0 := Lib.hid hb0
  have HD := Lib.hid hd
  generalize (w.alloc (.cells #[.string x, .string y] 23)).alloc (.cells #[.string ⟨#[]⟩, .string ⟨#[]⟩] 23) = w1 at *
  clear hb0 hd
  go_loopw [15] (fun i wr => ∃ k : Nat, k ≤ kb ∧ i = .int .i64 k ∧ Hid (Below w.heap.size w wr ∧ DiskAt wr (w.heap.size + 1) ⟨#[]⟩ ⟨#[]⟩) ∧ w.heap.size + 1 < wr.heap.size) (fun i _ => kb + 1 - (intOf i).toNat)
  case atStart => exact ⟨0, by omega, rfl, ⟨HB0.out, HD.out⟩, hz⟩
  case round =>
    clear HB0 HD hz
    obtain ⟨k, hk, rfl, HR, hz⟩ := hrel
    have hkn : k < n := by omega
    have hkl : k < l.length := by have := HN.out; omega
    have kd : (k : Int) < (n : Int) := by omega
    have k0 : (0 : Int) ≤ (k : Int) := by omega
    obtain ⟨bw, offw, rfl, i0, i1⟩ := (HL.out.below HR.out.1).wr hkl
    obtain ⟨z, hzz⟩ : ∃ z, z = l[k] := ⟨_, rfl⟩
    rw [← hzz] at i0 i1
    by_cases hlt : k < kb
    · have ho : okArea z = true := by rw [hzz]; exact HB2.out k hlt
      clear hzz
      have HNX := Lib.hid (And.intro (balloc HR.out.1 (.cells #[.int .i64 z.area, .string z.data] 54)) (HR.out.2.alloc (by omega) (.cells #[.int .i64 z.area, .string z.data] 54)))
      rcases okArea_yes ho with ha | ha
      · have e1 : (z.area != 0) = false := by simp [ha]
        clear ha ho
        go_wp2
        go_roundw
        case rel => exact ⟨k + 1, by omega, by go_num, HNX, by simp; omega⟩
        case measure => simp [intOf]; omega
      · have e1 : (z.area != 0) = true := by simp [ha]
        have e2 : (z.area != 1) = false := by simp [ha]
        clear ha ho
        go_wp2
        go_roundw
        case rel => exact ⟨k + 1, by omega, by go_num, HNX, by simp; omega⟩
        case measure => simp [intOf]; omega
    · obtain rfl : kb = k := by omega
      obtain ⟨e1, e2⟩ := okArea_no (show okArea z = false by rw [hzz]; exact HB1.out)
      clear hzz
      have d0 : wr.cell? ⟨w.heap.size + 1, 0, none⟩ = some (.string ⟨#[]⟩) := HR.out.2.at' 0 (by omega)
      have d1 : wr.cell? ⟨w.heap.size + 1, 1, none⟩ = some (.string ⟨#[]⟩) := HR.out.2.at' 1 (by omega)
      have df := HR.out.2.fz
      have hne : w.heap.size + 1 ≠ wr.heap.size := by omega
      have HNX := Lib.hid (balloc HR.out.1 (.cells #[.int .i64 z.area, .string z.data] 54))
      repeat (first | go_values | go_skip | go_guarded | go_step | go_upon)
      have hlt2 : w.heap.size + 1 < wr.heap.size := hz
      have hres : Tryz.f20.results = #[.cell 6 23, .tmp 7] := rfl
      refine bodyPost_ret (v := .tuple #[.agg #[.string ⟨#[]⟩, .string ⟨#[]⟩], .int .i64 3]) (by simp only [results, hres]; go_simp) rfl ?_
      exact ⟨rfl, balloc ((HR.out.1.setCell (p := ⟨w.heap.size + 1, 0, none⟩) (by simp) _).setCell (p := ⟨w.heap.size + 1, 1, none⟩) (by simp) _) _⟩
/-- The two areas behind k writes. -/
def DiskL (w : World) (b : Nat) (s : Arv) : Prop := DiskAt w b (strB s.a) (strB s.b)
set_option maxRecDepth 100000 in
set_option maxHeartbeats 4000000 in
theorem crash_yes (x y : ByteArray) (oa : Option Addr) (l : List Wr) (c : Nat) (bytes : Int) (w : World) (hl : Flat w 2 encWr oa l) (hm : l.length ≤ 1048576) (hgood : l.all okArea = true) (hsz : x.size + y.size + sizeW l ≤ 2000000) (hby : i64ok bytes) :
    Calls Tryz.prog 20 #[.agg #[.string x, .string y], .slice oa l.length c, .int .i64 bytes] w (RetDisk (strB (arvV ⟨bytes.toNat, x.data.toList, y.data.toList⟩ l).a) (strB (arvV ⟨bytes.toNat, x.data.toList, y.data.toList⟩ l).b) 0 w) := by
  have HL := Lib.hid hl
  have HG := Lib.hid hgood
  have hx0 : x.data.toList.length = x.size := by simp
  have hy0 : y.data.toList.length = y.size := by simp
  obtain ⟨s0, hs0⟩ : ∃ s0 : Arv, s0 = ⟨bytes.toNat, x.data.toList, y.data.toList⟩ := ⟨_, rfl⟩
  have HLEN : Hid (∀ k, k ≤ l.length → (arvV s0 (l.take k)).a.length + (arvV s0 (l.take k)).b.length ≤ 2000000) := fun k hk => by
    have h1 := arvV_len s0 l k hk
    have h2 := sizeW_le l k
    rw [hs0] at h1
    rw [hs0]
    simp only at h1
    omega
  have hd0 : DiskAt (w.alloc (.cells #[.string x, .string y] 23)) w.heap.size (strB s0.a) (strB s0.b) := by
    rw [hs0]
    simp only [strB_eq]
    exact DiskAt.new w x y 23
  have hleft : s0.left = bytes.toNat := by rw [hs0]
  rw [← hs0]
  obtain ⟨n, hn⟩ : ∃ n, n = l.length := ⟨_, rfl⟩
  have HN := Lib.hid hn
  rw [← hn]
  rw [← hn] at hm HLEN
  have hb0 := balloc (balloc (Below.refl _ w) (.cells #[.string x, .string y] 23)) (.cells #[.string ⟨#[]⟩, .string ⟨#[]⟩] 23)
  have hd1 := DiskAt.new (w.alloc (.cells #[.string x, .string y] 23)) ⟨#[]⟩ ⟨#[]⟩ 23
  rw [World.size_alloc] at hd1
  have hd2 := hd0.alloc (by simp) (.cells #[.string ⟨#[]⟩, .string ⟨#[]⟩] 23)
  have hz : w.heap.size + 1 < ((w.alloc (.cells #[.string x, .string y] 23)).alloc (.cells #[.string ⟨#[]⟩, .string ⟨#[]⟩] 23)).heap.size := by simp
  have HLEFT := Lib.hid hleft
  obtain ⟨by1, by2⟩ := hby
  clear hl hgood hn hs0 hd0 hleft hsz hx0 hy0
  go_enter Tryz.func20, Tryz.ntmps20
  go_wp2
  have HB0 := Lib.hid hb0
  have HD1 := Lib.hid hd1
  have HD2 := Lib.hid hd2
  generalize (w.alloc (.cells #[.string x, .string y] 23)).alloc (.cells #[.string ⟨#[]⟩, .string ⟨#[]⟩] 23) = w1 at *
  clear hb0 hd1 hd2
  go_loopw [15] (fun i wr => ∃ k : Nat, k ≤ n ∧ i = .int .i64 k ∧ Hid (Below w.heap.size w wr ∧ DiskAt wr (w.heap.size + 1) ⟨#[]⟩ ⟨#[]⟩ ∧ DiskL wr w.heap.size s0) ∧ w.heap.size + 1 < wr.heap.size) (fun i _ => n - (intOf i).toNat)
  case atStart => exact ⟨0, by omega, rfl, ⟨HB0.out, HD1.out, HD2.out⟩, hz⟩
  case round =>
    clear HB0 HD1 HD2 hz
    obtain ⟨k, hk, rfl, HR, hz⟩ := hrel
    by_cases hkn : k < n
    · have hkl : k < l.length := by have := HN.out; omega
      have kd : (k : Int) < (n : Int) := by omega
      have k0 : (0 : Int) ≤ (k : Int) := by omega
      obtain ⟨bw, offw, rfl, i0, i1⟩ := (HL.out.below HR.out.1).wr hkl
      obtain ⟨z, hzz⟩ : ∃ z, z = l[k] := ⟨_, rfl⟩
      rw [← hzz] at i0 i1
      have ho : okArea z = true := by rw [hzz]; exact all_at HG.out hkl
      clear hzz
      have HNX := Lib.hid (And.intro (balloc HR.out.1 (.cells #[.int .i64 z.area, .string z.data] 54)) (And.intro (HR.out.2.1.alloc (by omega) (.cells #[.int .i64 z.area, .string z.data] 54)) (FTab.alloc HR.out.2.2 (by omega) (.cells #[.int .i64 z.area, .string z.data] 54))))
      rcases okArea_yes ho with ha | ha
      · have e1 : (z.area != 0) = false := by simp [ha]
        clear ha ho
        go_wp2
        go_roundw
        case rel => exact ⟨k + 1, by omega, by go_num, HNX, by simp; omega⟩
        case measure => simp [intOf]; omega
      · have e1 : (z.area != 0) = true := by simp [ha]
        have e2 : (z.area != 1) = false := by simp [ha]
        clear ha ho
        go_wp2
        go_roundw
        case rel => exact ⟨k + 1, by omega, by go_num, HNX, by simp; omega⟩
        case measure => simp [intOf]; omega
    · obtain rfl : n = k := by omega
      clear hkn
      go_wp2
      go_loopw [2, 31] (fun v i wr => ∃ (k : Nat) (u : Int), k ≤ n ∧ v = .int .i64 u ∧ i = .int .i64 k ∧ Hid (u.toNat = (arvV s0 (l.take k)).left) ∧ (-9223372036854775808 ≤ u ∧ u ≤ 9223372036854775807) ∧ Hid (Below w.heap.size w wr ∧ DiskAt wr (w.heap.size + 1) ⟨#[]⟩ ⟨#[]⟩ ∧ DiskL wr w.heap.size (arvV s0 (l.take k))) ∧ w.heap.size + 1 < wr.heap.size) (fun _ i _ => n - (intOf i).toNat)
      case atStart => exact ⟨0, bytes, by omega, rfl, rfl, HLEFT.out.symm, ⟨by1, by2⟩, HR.out, hz⟩
      case round =>
        clear HR hz by1 by2 HLEFT
        obtain ⟨k, u, hk, rfl, rfl, HU, ⟨u1, u2⟩, HR, hz⟩ := hrel
        by_cases hkn : k < n
        · have hkl : k < l.length := by have := HN.out; omega
          have kd : (k : Int) < (n : Int) := by omega
          have k0 : (0 : Int) ≤ (k : Int) := by omega
          obtain ⟨bw, offw, rfl, i0, i1⟩ := (HL.out.below HR.out.1).wr hkl
          obtain ⟨z, hzz⟩ : ∃ z, z = l[k] := ⟨_, rfl⟩
          rw [← hzz] at i0 i1
          have ho : okArea z = true := by rw [hzz]; exact all_at HG.out hkl
          obtain ⟨s1, hs1⟩ : ∃ s1, s1 = arvV s0 (l.take k) := ⟨_, rfl⟩
          have HS2 : Hid (arvV s0 (l.take (k + 1)) = arvStep s1 z) := by rw [hs1, hzz]; exact arvV_succ s0 hkl
          have HL1 : Hid (s1.a.length + s1.b.length ≤ 2000000) := by show _ ≤ _; rw [hs1]; exact HLEN.out k (by omega)
          have HL2 : Hid ((arvStep s1 z).a.length + (arvStep s1 z).b.length ≤ 2000000) := by show _ ≤ _; rw [← HS2.out]; exact HLEN.out (k + 1) (by omega)
          rw [← hs1] at HU HR
          obtain ⟨m, hm⟩ : ∃ m, m = min u.toNat z.data.size := ⟨_, rfl⟩
          have HM : Hid (m = min s1.left z.data.size) := by show m = _; rw [hm, HU.out]
          have m1 : m ≤ z.data.size := by rw [hm]; omega
          have m2 : m ≤ u.toNat := by rw [hm]; omega
          have e2 : min (max u 0) (z.data.size : Int) = (m : Int) := by omega
          have HUN : Hid ((u - (m : Int)).toNat = (arvStep s1 z).left) := by
            show _ = s1.left - min s1.left z.data.size
            rw [← HM.out, ← HU.out]
            omega
          have m3 : -9223372036854775808 ≤ u - (m : Int) ∧ u - (m : Int) ≤ 9223372036854775807 := by omega
          have hbw := cell?_lt i0
          simp only at hbw
          have HNX := Lib.hid (And.intro (balloc HR.out.1 (.cells #[.int .i64 z.area, .string z.data] 54)) (And.intro (HR.out.2.1.alloc (by omega) (.cells #[.int .i64 z.area, .string z.data] 54)) (FTab.alloc HR.out.2.2 (by omega) (.cells #[.int .i64 z.area, .string z.data] 54))))
          clear hzz hs1 hm
          rcases okArea_yes ho with ha | ha
          · have e3 : (z.area == 0) = true := by simp [ha]
            have HA := Lib.hid ha
            clear ha ho
            go_upto_region 13 with fail
            have d0 : (wr.alloc (.cells #[.int .i64 z.area, .string z.data] 54)).cell? ⟨wr.heap.size, 1, none⟩ = some (.string z.data) := by rw [cell_of_row _ wr.heap.size 1 _ _ (0, 0) (heap_alloc_new wr _)]; rfl
            have c0 : (wr.alloc (.cells #[.int .i64 z.area, .string z.data] 54)).cell? ⟨w.heap.size, 0, none⟩ = some (.string (strB s1.a)) := HNX.out.2.2.at' 0 (by omega)
            have cf := HNX.out.2.2.fz 0
            have zsz : w.heap.size + 1 < (wr.alloc (.cells #[.int .i64 z.area, .string z.data] 54)).heap.size := by rw [World.size_alloc]; omega
            have hne : wr.heap.size ≠ w.heap.size := by omega
            generalize wr.alloc (.cells #[.int .i64 z.area, .string z.data] 54) = w3 at *
            have hA1 : (strB s1.a).size ≤ 2000000 := by rw [strB_size]; have := HL1.out; omega
            have hE1 : (z.data.extract 0 m).size = m := by rw [extractL_size z.data 0 m m1]; rfl
            have HE : Hid (strB s1.a ++ z.data.extract 0 m = strB (arvStep s1 z).a ∧ (arvStep s1 z).b = s1.b) := by
              constructor
              · have e : (arvStep s1 z).a = s1.a ++ z.data.data.toList.take (min s1.left z.data.size) := by unfold arvStep; exact if_pos HA.out
                rw [e, ← HM.out, ← strB_app]
                congr 1
                rw [← strB_eq (z.data.extract 0 m), extractL]
                rfl
              · unfold arvStep; exact if_pos HA.out
            have m5 : m ≤ 2000000 := by
              have h1 := HL2.out
              have h2 := congrArg List.length (show (arvStep s1 z).a = s1.a ++ z.data.data.toList.take (min s1.left z.data.size) from by unfold arvStep; exact if_pos HA.out)
              rw [← HM.out, List.length_append, List.length_take] at h2
              have h3 : z.data.data.toList.length = z.data.size := by simp
              omega
            obtain ⟨X, hX⟩ : ∃ X, X = strB s1.a := ⟨_, rfl⟩
            have HXX := Lib.hid hX
            rw [← hX] at c0 hA1
            have HFIN : Hid (Below w.heap.size w ((w3.setCell ⟨w.heap.size, 0, none⟩ (.string (X ++ z.data.extract 0 m))).drew) ∧ DiskAt ((w3.setCell ⟨w.heap.size, 0, none⟩ (.string (X ++ z.data.extract 0 m))).drew) (w.heap.size + 1) ⟨#[]⟩ ⟨#[]⟩ ∧ DiskL ((w3.setCell ⟨w.heap.size, 0, none⟩ (.string (X ++ z.data.extract 0 m))).drew) w.heap.size (arvV s0 (l.take (k + 1)))) := by
              refine ⟨(HNX.out.1.setCell (p := ⟨w.heap.size, 0, none⟩) (Nat.le_refl _) _).drew, (FTab.other HNX.out.2.1 (by omega) _).drew, ?_⟩
              rw [HS2.out, HXX.out]
              refine ((FTab.set HNX.out.2.2 (i := 0) (by omega) (strB s1.a ++ z.data.extract 0 m)).congr fun i hi => ?_).drew
              rw [HE.out.1]
              match i, hi with
              | 0, _ => rfl
              | 1, _ => show strB s1.b = strB (arvStep s1 z).b; rw [HE.out.2]
            clear hX HNX HE HM HR
            go_region
            all_goals
              go_wp2
              go_roundw
              case rel => exact ⟨k + 1, _, by omega, rfl, by go_num, by show _ = _; rw [HS2.out]; exact HUN.out, m3, HFIN, by simpa using zsz⟩
              case measure => simp [intOf]; omega
          · have e3 : (z.area == 0) = false := by simp [ha]
            have HA := Lib.hid ha
            clear ha ho
            go_upto_region 14 with fail
            have d0 : (wr.alloc (.cells #[.int .i64 z.area, .string z.data] 54)).cell? ⟨wr.heap.size, 1, none⟩ = some (.string z.data) := by rw [cell_of_row _ wr.heap.size 1 _ _ (0, 0) (heap_alloc_new wr _)]; rfl
            have c0 : (wr.alloc (.cells #[.int .i64 z.area, .string z.data] 54)).cell? ⟨w.heap.size, 1, none⟩ = some (.string (strB s1.b)) := HNX.out.2.2.at' 1 (by omega)
            have cf := HNX.out.2.2.fz 1
            have zsz : w.heap.size + 1 < (wr.alloc (.cells #[.int .i64 z.area, .string z.data] 54)).heap.size := by rw [World.size_alloc]; omega
            have hne : wr.heap.size ≠ w.heap.size := by omega
            generalize wr.alloc (.cells #[.int .i64 z.area, .string z.data] 54) = w3 at *
            have hA1 : (strB s1.b).size ≤ 2000000 := by rw [strB_size]; have := HL1.out; omega
            have hE1 : (z.data.extract 0 m).size = m := by rw [extractL_size z.data 0 m m1]; rfl
            have HE : Hid (strB s1.b ++ z.data.extract 0 m = strB (arvStep s1 z).b ∧ (arvStep s1 z).a = s1.a) := by
              constructor
              · have e : (arvStep s1 z).b = s1.b ++ z.data.data.toList.take (min s1.left z.data.size) := by unfold arvStep; exact if_neg (by rw [HA.out]; omega)
                rw [e, ← HM.out, ← strB_app]
                congr 1
                rw [← strB_eq (z.data.extract 0 m), extractL]
                rfl
              · unfold arvStep; exact if_neg (by rw [HA.out]; omega)
            have m5 : m ≤ 2000000 := by
              have h1 := HL2.out
              have h2 := congrArg List.length (show (arvStep s1 z).b = s1.b ++ z.data.data.toList.take (min s1.left z.data.size) from by unfold arvStep; exact if_neg (by rw [HA.out]; omega))
              rw [← HM.out, List.length_append, List.length_take] at h2
              have h3 : z.data.data.toList.length = z.data.size := by simp
              omega
            obtain ⟨X, hX⟩ : ∃ X, X = strB s1.b := ⟨_, rfl⟩
            have HXX := Lib.hid hX
            rw [← hX] at c0 hA1
            have HFIN : Hid (Below w.heap.size w ((w3.setCell ⟨w.heap.size, 1, none⟩ (.string (X ++ z.data.extract 0 m))).drew) ∧ DiskAt ((w3.setCell ⟨w.heap.size, 1, none⟩ (.string (X ++ z.data.extract 0 m))).drew) (w.heap.size + 1) ⟨#[]⟩ ⟨#[]⟩ ∧ DiskL ((w3.setCell ⟨w.heap.size, 1, none⟩ (.string (X ++ z.data.extract 0 m))).drew) w.heap.size (arvV s0 (l.take (k + 1)))) := by
              refine ⟨(HNX.out.1.setCell (p := ⟨w.heap.size, 1, none⟩) (Nat.le_refl _) _).drew, (FTab.other HNX.out.2.1 (by omega) _).drew, ?_⟩
              rw [HS2.out, HXX.out]
              refine ((FTab.set HNX.out.2.2 (i := 1) (by omega) (strB s1.b ++ z.data.extract 0 m)).congr fun i hi => ?_).drew
              rw [HE.out.1]
              match i, hi with
              | 0, _ => show strB s1.a = strB (arvStep s1 z).a; rw [HE.out.2]
              | 1, _ => rfl
            clear hX HNX HE HM HR
            go_region
            all_goals
              go_wp2
              go_roundw
              case rel => exact ⟨k + 1, _, by omega, rfl, by go_num, by show _ = _; rw [HS2.out]; exact HUN.out, m3, HFIN, by simpa using zsz⟩
              case measure => simp [intOf]; omega
        · obtain rfl : n = k := by omega
          clear hkn
          have c0 : wr.cell? ⟨w.heap.size, 0, none⟩ = some (.string (strB (arvV s0 (l.take n)).a)) := HR.out.2.2.at' 0 (by omega)
          have c1 : wr.cell? ⟨w.heap.size, 1, none⟩ = some (.string (strB (arvV s0 (l.take n)).b)) := HR.out.2.2.at' 1 (by omega)
          have d0 : wr.cell? ⟨w.heap.size + 1, 0, none⟩ = some (.string ⟨#[]⟩) := HR.out.2.1.at' 0 (by omega)
          have d1 : wr.cell? ⟨w.heap.size + 1, 1, none⟩ = some (.string ⟨#[]⟩) := HR.out.2.1.at' 1 (by omega)
          have df := HR.out.2.1.fz
          have htk : l.take n = l := List.take_of_length_le (by have := HN.out; omega)
          rw [htk] at c0 c1
          have HBF := Lib.hid HR.out.1
          generalize arvV s0 l = s9 at *
          clear htk HR HU
          repeat (first | go_values | go_skip | go_guarded | go_step | go_upon)
          have hres : Tryz.f20.results = #[.cell 6 23, .tmp 7] := rfl
          refine bodyPost_ret (v := .tuple #[.agg #[.string (strB s9.a), .string (strB s9.b)], .int .i64 0]) (by simp only [results, hres]; go_simp) rfl ?_
          exact ⟨rfl, (HBF.out.setCell (p := ⟨w.heap.size + 1, 0, none⟩) (by simp) _).setCell (p := ⟨w.heap.size + 1, 1, none⟩) (by simp) _⟩
end Go.Proofs.YtnnnihjagjfkdaaGreatDoor
