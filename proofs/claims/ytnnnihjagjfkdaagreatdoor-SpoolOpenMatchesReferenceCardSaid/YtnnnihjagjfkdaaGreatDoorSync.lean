/-
  What Sync and Compact leave: plain. The walk of the queue's Sync. Own text.
-/
import Derived.Test.YtnnnihjagjfkdaaGreatDoorCrash
import Derived.Test.YtnnnihjagjfkdaaGreatDoorTake
namespace Go.Proofs.YtnnnihjagjfkdaaGreatDoor
open Go.RowKit
set_option linter.unusedVariables false
/-- A write arrives whole. -/
def synStep (s : List UInt8 × List UInt8) (x : Wr) : List UInt8 × List UInt8 :=
  if x.area = 0 then (s.1 ++ x.data.data.toList, s.2) else (s.1, s.2 ++ x.data.data.toList)
def synV (s : List UInt8 × List UInt8) (l : List Wr) : List UInt8 × List UInt8 := l.foldl synStep s
theorem synV_succ (s : List UInt8 × List UInt8) {l : List Wr} {k : Nat} (h : k < l.length) : synV s (l.take (k + 1)) = synStep (synV s (l.take k)) l[k] := by
  unfold synV
  rw [List.take_succ_eq_append_getElem h, List.foldl_append]
  rfl
theorem synV_len (s : List UInt8 × List UInt8) (l : List Wr) : (synV s l).1.length + (synV s l).2.length = s.1.length + s.2.length + sizeW l := by
  induction l generalizing s with
  | nil => simp [synV, sizeW]
  | cons x l ih =>
    have h := ih (synStep s x)
    have e1 : synV s (x :: l) = synV (synStep s x) l := rfl
    have e2 : sizeW (x :: l) = x.data.size + sizeW l := by simp [sizeW]
    have e3 : x.data.data.toList.length = x.data.size := by simp
    rw [e1, e2, h]
    unfold synStep
    split
    · simp only [List.length_append]; omega
    · simp only [List.length_append]; omega
def syncP (q : Que) : List UInt8 × List UInt8 := synV (q.a0.data.toList, q.a1.data.toList) q.writes
def syncQ (q : Que) : Que := { q with a0 := strB (syncP q).1, a1 := strB (syncP q).2, writes := [] }
def beginW (ep nx n : Int) : List ByteArray := [⟨#[98, 101, 103, 105, 110]⟩, strB (Lib.itoa ep), strB (Lib.itoa nx), strB (Lib.itoa n)]
def beginLn (ep nx n : Int) : List (List UInt8) := (beginW ep nx n).map (·.data.toList)
def keepW (n : Int) (s : ByteArray) : List ByteArray := [⟨#[107, 101, 101, 112]⟩, strB (Lib.itoa n), strB (codedV s.data.toList)]
def keepLn (n : Int) (s : ByteArray) : List (List UInt8) := (keepW n s).map (·.data.toList)
/-- The records of the jobs, the first one with the number k + 1. -/
def keepLs (ep : Int) : Nat → List Jb → List (List UInt8)
  | _, [] => []
  | k, j :: r => lineV ep ((k : Int) + 1) (keepLn j.id j.text) :: keepLs ep (k + 1) r
theorem keepLs_len (ep : Int) (k : Nat) (xs : List Jb) : (keepLs ep k xs).length = xs.length := by
  induction xs generalizing k with
  | nil => rfl
  | cons x xs ih => simp [keepLs, ih]
theorem keepLs_snoc (ep : Int) (k : Nat) (xs : List Jb) (y : Jb) : keepLs ep k (xs ++ [y]) = keepLs ep k xs ++ [lineV ep ((k + xs.length : Nat) + 1 : Int) (keepLn y.id y.text)] := by
  induction xs generalizing k with
  | nil => simp [keepLs]
  | cons x xs ih =>
    have e : k + 1 + xs.length = k + (xs.length + 1) := by omega
    simp only [List.cons_append, keepLs, ih, List.length_cons, e]
def compLs (q : Que) (k : Nat) : List (List UInt8) := lineV (q.epoch + 1) 0 (beginLn (q.epoch + 1) q.next q.jobs.length) :: keepLs (q.epoch + 1) 0 (q.jobs.take k)
theorem compLs_succ (q : Que) {k : Nat} (h : k < q.jobs.length) : compLs q (k + 1) = compLs q k ++ [lineV (q.epoch + 1) ((k : Int) + 1) (keepLn q.jobs[k].id q.jobs[k].text)] := by
  unfold compLs
  rw [List.take_succ_eq_append_getElem h, keepLs_snoc, List.length_take, Nat.min_eq_left (by omega), Nat.zero_add]
  rfl
theorem compLs_len (q : Que) (k : Nat) (h : k ≤ q.jobs.length) : (compLs q k).length = k + 1 := by
  unfold compLs
  rw [List.length_cons, keepLs_len, List.length_take, Nat.min_eq_left h]
def sumL (l : List (List UInt8)) : Nat := (l.map List.length).sum
theorem sumL_snoc (l : List (List UInt8)) (x : List UInt8) : sumL (l ++ [x]) = sumL l + x.length := by simp [sumL]
theorem beginLn_len (ep nx n : Int) (a0 : 0 ≤ ep) (a1 : ep ≤ 9223372036854775807) (b0 : 0 ≤ nx) (b1 : nx ≤ 9223372036854775807) (c0 : 0 ≤ n) (c1 : n ≤ 9223372036854775807) : (bodyV (beginLn ep nx n)).length ≤ 80 := by
  have h1 := Lib.itoa_length_le ep (by omega) a1
  have h2 := Lib.itoa_length_le nx (by omega) b1
  have h3 := Lib.itoa_length_le n (by omega) c1
  have h := Lib.join_length [98, 101, 103, 105, 110] [Lib.itoa ep, Lib.itoa nx, Lib.itoa n] [32]
  have e : bodyV (beginLn ep nx n) = Lib.join [[98, 101, 103, 105, 110], Lib.itoa ep, Lib.itoa nx, Lib.itoa n] [32] := rfl
  rw [e, h]
  simp only [List.length_cons, List.length_nil, Lib.lens, List.map_cons, List.map_nil, List.sum_cons, List.sum_nil]
  omega
theorem keepLn_len (n : Int) (s : ByteArray) (h0 : 0 ≤ n) (h1 : n ≤ 9223372036854775807) (hs : s.size ≤ 256) : (bodyV (keepLn n s)).length ≤ 400 := by
  have h2 := Lib.itoa_length_le n (by omega) h1
  have h3 := codedV_len s.data.toList
  have h4 : s.data.toList.length = s.size := by simp
  have h := Lib.join_length [107, 101, 101, 112] [Lib.itoa n, codedV s.data.toList] [32]
  have e : bodyV (keepLn n s) = Lib.join [[107, 101, 101, 112], Lib.itoa n, codedV s.data.toList] [32] := rfl
  rw [e, h]
  simp only [List.length_cons, List.length_nil, Lib.lens, List.map_cons, List.map_nil, List.sum_cons, List.sum_nil]
  omega
/-- What is asked of the jobs. -/
def JobsOk (xs : List Jb) : Prop := ∀ j ∈ xs, 0 ≤ j.id ∧ j.id ≤ 2147483648 ∧ j.text.size ≤ 256
theorem keepLs_le (ep : Int) (k : Nat) (xs : List Jb) (h : JobsOk xs) : sumL (keepLs ep k xs) ≤ 410 * xs.length := by
  induction xs generalizing k with
  | nil => simp [keepLs, sumL]
  | cons x xs ih =>
    have hx := h x (by simp)
    have h1 := keepLn_len x.id x.text hx.1 (by omega) hx.2.2
    have h2 := lineV_len ep ((k : Int) + 1) (keepLn x.id x.text)
    have h3 := ih (k + 1) (fun j hj => h j (by simp [hj]))
    have e : sumL (keepLs ep k (x :: xs)) = (lineV ep ((k : Int) + 1) (keepLn x.id x.text)).length + sumL (keepLs ep (k + 1) xs) := by simp [sumL, keepLs]
    rw [e, List.length_cons]
    omega
theorem compLs_le (q : Que) (k : Nat) (h : JobsOk q.jobs) (hk : k ≤ q.jobs.length) (hj : q.jobs.length ≤ 64) (a0 : 0 ≤ q.epoch) (a1 : q.epoch ≤ 2147483648) (b0 : 0 ≤ q.next) (b1 : q.next ≤ 2147483648) : sumL (compLs q k) ≤ 90 + 410 * k := by
  have h1 := beginLn_len (q.epoch + 1) q.next q.jobs.length (by omega) (by omega) b0 (by omega) (by omega) (by omega)
  have h2 := lineV_len (q.epoch + 1) 0 (beginLn (q.epoch + 1) q.next q.jobs.length)
  have h3 := keepLs_le (q.epoch + 1) 0 (q.jobs.take k) (fun j hj => h j (List.mem_of_mem_take hj))
  rw [List.length_take, Nat.min_eq_left hk] at h3
  have e : sumL (compLs q k) = (lineV (q.epoch + 1) 0 (beginLn (q.epoch + 1) q.next q.jobs.length)).length + sumL (keepLs (q.epoch + 1) 0 (q.jobs.take k)) := by simp [sumL, compLs]
  rw [e]
  omega
def compWs (ar : Int) (ls : List (List UInt8)) : List Wr := ls.map fun s => ⟨ar, strB s⟩
/-- The queue behind Compact. -/
def compQ (q : Que) : Que :=
  { q with area := 1 - q.area, epoch := q.epoch + 1, a0 := if q.area = 0 then strB (syncP q).1 else ⟨#[]⟩, a1 := if q.area = 0 then ⟨#[]⟩ else strB (syncP q).2,
           writes := compWs (1 - q.area) (compLs q q.jobs.length), size := sumL (compLs q q.jobs.length), seq := q.jobs.length + 1 }
end Go.Proofs.YtnnnihjagjfkdaaGreatDoor
namespace Go.Proofs.YtnnnihjagjfkdaaGreatDoor
open Go.RowKit
set_option linter.unusedVariables false
/-- The writes are forgotten. -/
theorem QAt.clearW {w : World} {B b : Nat} {q : Que} {vj vw : Value} (h : QAt w B b q vj vw) : QAt (w.setCell ⟨b, 8, none⟩ (.slice none 0 0)) B b { q with writes := [] } vj (.slice none 0 0) :=
  ⟨(h.tab.set (i := 8) (by omega) _).congr fun i hi => by
    match i, hi with
    | 0, _ => rfl
    | 1, _ => rfl
    | 2, _ => rfl
    | 3, _ => rfl
    | 4, _ => rfl
    | 5, _ => rfl
    | 6, _ => rfl
    | 7, _ => rfl
    | 8, _ => rfl
    | 9, _ => rfl
    | 10, _ => rfl, own_other h.jobs (fun e => h.nj e) _, Own.nil _ _ _ _ _, h.bb, h.nj, by simp [Value.ownBlock], fun g _ => by simp [Value.ownBlock]⟩
theorem Turn.clearW {b : Nat} {vj vw v1 u1 : Value} {w w1 : World} (h : Turn b vj vw v1 u1 w w1) : Turn b vj vw v1 (.slice none 0 0) w (w1.setCell ⟨b, 8, none⟩ (.slice none 0 0)) := by
  have k := h.set 8 (.slice none 0 0)
  exact ⟨k.os, k.tape, k.output, k.size, k.block, k.kj, fun g e => by simp [Value.ownBlock] at e⟩
/-- The areas behind k writes. -/
def midS (q : Que) (k : Nat) : Que := { q with a0 := strB (synV (q.a0.data.toList, q.a1.data.toList) (q.writes.take k)).1, a1 := strB (synV (q.a0.data.toList, q.a1.data.toList) (q.writes.take k)).2 }
theorem midS_zero (q : Que) : midS q 0 = q := by
  unfold midS synV
  rw [List.take_zero, List.foldl_nil]
  simp only [strB_eq]
theorem midS_len (q : Que) (k : Nat) : (midS q k).a0.size + (midS q k).a1.size ≤ q.a0.size + q.a1.size + sizeW q.writes := by
  have h1 := synV_len (q.a0.data.toList, q.a1.data.toList) (q.writes.take k)
  have h2 := sizeW_le q.writes k
  have e0 : q.a0.data.toList.length = q.a0.size := by simp
  have e1 : q.a1.data.toList.length = q.a1.size := by simp
  unfold midS
  simp only [strB_size]
  simp only at h1
  omega
theorem midS_next0 (q : Que) (k : Nat) (h : k < q.writes.length) (ha : q.writes[k].area = 0) : midS q (k + 1) = { midS q k with a0 := (midS q k).a0 ++ q.writes[k].data } := by
  unfold midS
  rw [synV_succ _ h]
  unfold synStep
  rw [if_pos ha]
  simp only [← strB_app, strB_eq]
theorem midS_next1 (q : Que) (k : Nat) (h : k < q.writes.length) (ha : q.writes[k].area = 1) : midS q (k + 1) = { midS q k with a1 := (midS q k).a1 ++ q.writes[k].data } := by
  unfold midS
  rw [synV_succ _ h]
  unfold synStep
  rw [if_neg (by omega)]
  simp only [← strB_app, strB_eq]
theorem midS_end (q : Que) : { midS q q.writes.length with writes := [] } = syncQ q := by
  unfold midS syncQ syncP
  rw [List.take_length]
theorem sizeW_at (l : List Wr) (k : Nat) (h : k < l.length) : l[k].data.size ≤ sizeW l := by
  have h1 := sizeW_take h
  have h2 := sizeW_le l (k + 1)
  omega
def RetSync (B b : Nat) (q' : Que) (n : Int) (vj vw : Value) (w : World) (e : Ending) (w' : World) : Prop := e = .returned (.int .i64 n) ∧ QAt w' B b q' vj (.slice none 0 0) ∧ Turn b vj vw vj (.slice none 0 0) w w'
set_option maxRecDepth 100000 in
set_option maxHeartbeats 4000000 in
theorem sync_any (B b : Nat) (q : Que) (vj vw : Value) (w : World) (hq : QAt w B b q vj vw) (hwl : q.writes.length ≤ 1000000000) (hwa : q.writes.all okArea = true) (hbs : q.a0.size + q.a1.size + sizeW q.writes ≤ 1000000000) :
    Calls Tryz.prog 21 #[.pointer (some ⟨b, 0, none⟩)] w (RetSync B b (syncQ q) (q.writes.length : Nat) vj vw w) := by
  obtain ⟨ow, cw, rfl, hwm, hwf⟩ := hq.wr.flat (fun _ => rfl)
  have HQ := Lib.hid hq
  have c8 : w.cell? ⟨b, 8, none⟩ = some (.slice ow q.writes.length cw) := hq.tab.at' 8 (by omega)
  obtain ⟨n, hn⟩ : ∃ n, n = q.writes.length := ⟨_, rfl⟩
  have HN := Lib.hid hn
  have HWA := Lib.hid hwa
  have HBS := Lib.hid hbs
  have HEN : Hid ({ midS q n with writes := [] } = syncQ q) := by show _ = _; rw [hn]; exact midS_end q
  rw [← hn] at c8 hwl
  rw [← hn]
  generalize syncQ q = q' at *
  clear hq hwf hwm hn hwa hbs
  go_enter Tryz.func21, Tryz.ntmps21
  go_wp2
  go_loopw [16] (fun i wr => ∃ k : Nat, k ≤ n ∧ i = .int .i64 k ∧ Hid (QAt wr B b (midS q k) (vj) (.slice ow q.writes.length cw) ∧ Turn b vj (.slice ow q.writes.length cw) vj (.slice ow q.writes.length cw) w wr)) (fun i _ => n - (intOf i).toNat)
  case atStart => exact ⟨0, by omega, rfl, by rw [midS_zero]; exact HQ.out, Turn.refl _ _ _ _⟩
  case round =>
    clear HQ c8
    obtain ⟨k, hk, rfl, HR⟩ := hrel
    by_cases hlt : k < n
    · have hkl : k < q.writes.length := by have := HN.out; omega
      have kd : (k : Int) < (n : Int) := by omega
      have k0 : (0 : Int) ≤ (k : Int) := by omega
      obtain ⟨oa, cc, e2, -, hf⟩ := HR.out.1.wr.flat (fun _ => rfl)
      simp only [Value.slice.injEq] at e2
      obtain ⟨rfl, -, -⟩ := e2
      obtain ⟨bw, offw, rfl, i0, i1⟩ := hf.wr (i := k) hkl
      obtain ⟨z, hz⟩ : ∃ z, z = q.writes[k] := ⟨_, rfl⟩
      have hz' : (midS q k).writes[k]'hkl = z := hz.symm
      rw [hz'] at i0 i1
      have ho : okArea z = true := by rw [hz]; exact all_at HWA.out hkl
      have hzs := sizeW_at q.writes k hkl
      rw [← hz] at hzs
      have hml := midS_len q k
      have hbs := HBS.out
      have hbl := HR.out.1.lt
      have HQN := Lib.hid (HR.out.1.below (balloc (Below.refl _ wr) (.cells #[.int .i64 z.area, .string z.data] 54)))
      have HTN := Lib.hid (HR.out.2.alloc (.cells #[.int .i64 z.area, .string z.data] 54))
      have HZ := Lib.hid hz
      clear hz hz' hf
      have hA1 : (midS q k).a0.size ≤ 1000000000 := by omega
      have hA2 : (midS q k).a1.size ≤ 1000000000 := by omega
      have hzs2 : z.data.size ≤ 1000000000 := by omega
      clear hzs hml hbs
      rcases okArea_yes ho with ha | ha
      · have HM : Hid (midS q (k + 1) = { midS q k with a0 := (midS q k).a0 ++ z.data }) := by
          show _ = _
          rw [midS_next0 q k hkl (by rw [← HZ.out]; exact ha), ← HZ.out]
        have HHA := Lib.hid ha
        obtain ⟨X, hX⟩ : ∃ X, X = (midS q k).a0 := ⟨_, rfl⟩
        rw [← hX] at hA1
        have HX := Lib.hid hX
        clear ha ho hX
        go_upto_region 5 with fail
        have d0 : (wr.alloc (.cells #[.int .i64 z.area, .string z.data] 54)).cell? ⟨wr.heap.size, 0, none⟩ = some (.int .i64 0) := by rw [cell_of_row _ wr.heap.size 0 _ _ (0, 0) (heap_alloc_new wr _), HHA.out]; rfl
        have d1 : (wr.alloc (.cells #[.int .i64 z.area, .string z.data] 54)).cell? ⟨wr.heap.size, 1, none⟩ = some (.string z.data) := by rw [cell_of_row _ wr.heap.size 1 _ _ (0, 0) (heap_alloc_new wr _)]; rfl
        have c0 : (wr.alloc (.cells #[.int .i64 z.area, .string z.data] 54)).cell? ⟨b, 6, none⟩ = some (.string X) := by rw [HX.out]; exact HQN.out.tab.at' 6 (by omega)
        have cf := HQN.out.tab.fz
        have hne : wr.heap.size ≠ b := by omega
        generalize wr.alloc (.cells #[.int .i64 z.area, .string z.data] 54) = w3 at *
        have HFIN : Hid (QAt ((w3.setCell ⟨b, 6, none⟩ (.string (X ++ z.data))).drew) B b (midS q (k + 1)) vj (.slice (some ⟨bw, offw, none⟩) q.writes.length cw) ∧ Turn b vj (.slice (some ⟨bw, offw, none⟩) q.writes.length cw) vj (.slice (some ⟨bw, offw, none⟩) q.writes.length cw) w ((w3.setCell ⟨b, 6, none⟩ (.string (X ++ z.data))).drew)) := by
          refine ⟨?_, (HTN.out.set 6 _).drewN 1⟩
          rw [HM.out, HX.out]
          exact QAt.drewN (QAt.put (q' := { midS q k with a0 := (midS q k).a0 ++ z.data }) HQN.out (i := 6) (by omega) (.string ((midS q k).a0 ++ z.data)) rfl rfl fun j hj => by
            match j, hj with
            | 0, _ => rfl
            | 1, _ => rfl
            | 2, _ => rfl
            | 3, _ => rfl
            | 4, _ => rfl
            | 5, _ => rfl
            | 6, _ => rfl
            | 7, _ => rfl
            | 8, _ => rfl
            | 9, _ => rfl
            | 10, _ => rfl) 1
        clear HQN HTN HR HM
        go_region
        all_goals
          go_wp2
          go_roundw
          case rel => exact ⟨k + 1, by omega, by go_num, HFIN⟩
          case measure => simp [intOf]; omega
      · have HM : Hid (midS q (k + 1) = { midS q k with a1 := (midS q k).a1 ++ z.data }) := by
          show _ = _
          rw [midS_next1 q k hkl (by rw [← HZ.out]; exact ha), ← HZ.out]
        have HHA := Lib.hid ha
        obtain ⟨X, hX⟩ : ∃ X, X = (midS q k).a1 := ⟨_, rfl⟩
        rw [← hX] at hA2
        have HX := Lib.hid hX
        clear ha ho hX
        go_upto_region 5 with fail
        have d0 : (wr.alloc (.cells #[.int .i64 z.area, .string z.data] 54)).cell? ⟨wr.heap.size, 0, none⟩ = some (.int .i64 1) := by rw [cell_of_row _ wr.heap.size 0 _ _ (0, 0) (heap_alloc_new wr _), HHA.out]; rfl
        have d1 : (wr.alloc (.cells #[.int .i64 z.area, .string z.data] 54)).cell? ⟨wr.heap.size, 1, none⟩ = some (.string z.data) := by rw [cell_of_row _ wr.heap.size 1 _ _ (0, 0) (heap_alloc_new wr _)]; rfl
        have c0 : (wr.alloc (.cells #[.int .i64 z.area, .string z.data] 54)).cell? ⟨b, 7, none⟩ = some (.string X) := by rw [HX.out]; exact HQN.out.tab.at' 7 (by omega)
        have cf := HQN.out.tab.fz
        have hne : wr.heap.size ≠ b := by omega
        generalize wr.alloc (.cells #[.int .i64 z.area, .string z.data] 54) = w3 at *
        have HFIN : Hid (QAt ((w3.setCell ⟨b, 7, none⟩ (.string (X ++ z.data))).drew) B b (midS q (k + 1)) vj (.slice (some ⟨bw, offw, none⟩) q.writes.length cw) ∧ Turn b vj (.slice (some ⟨bw, offw, none⟩) q.writes.length cw) vj (.slice (some ⟨bw, offw, none⟩) q.writes.length cw) w ((w3.setCell ⟨b, 7, none⟩ (.string (X ++ z.data))).drew)) := by
          refine ⟨?_, (HTN.out.set 7 _).drewN 1⟩
          rw [HM.out, HX.out]
          exact QAt.drewN (QAt.put (q' := { midS q k with a1 := (midS q k).a1 ++ z.data }) HQN.out (i := 7) (by omega) (.string ((midS q k).a1 ++ z.data)) rfl rfl fun j hj => by
            match j, hj with
            | 0, _ => rfl
            | 1, _ => rfl
            | 2, _ => rfl
            | 3, _ => rfl
            | 4, _ => rfl
            | 5, _ => rfl
            | 6, _ => rfl
            | 7, _ => rfl
            | 8, _ => rfl
            | 9, _ => rfl
            | 10, _ => rfl) 1
        clear HQN HTN HR HM
        go_region
        all_goals
          go_wp2
          go_roundw
          case rel => exact ⟨k + 1, by omega, by go_num, HFIN⟩
          case measure => simp [intOf]; omega
    · obtain rfl : n = k := by omega
      have cf := HR.out.1.tab.fz
      have c8 : wr.cell? ⟨b, 8, none⟩ = some (.slice ow q.writes.length cw) := HR.out.1.tab.at' 8 (by omega)
      have HF : Hid (RetSync B b q' (n : Nat) vj (.slice ow n cw) w (.returned (.int .i64 (n : Nat))) (wr.setCell ⟨b, 8, none⟩ (.slice none 0 0))) := by
        have h := HR.out
        rw [← HN.out] at h
        refine ⟨rfl, ?_, h.2.clearW⟩
        rw [← HEN.out]
        exact h.1.clearW
      clear HR
      go_wp2
      go_ret
      exact HF.out
end Go.Proofs.YtnnnihjagjfkdaaGreatDoor
