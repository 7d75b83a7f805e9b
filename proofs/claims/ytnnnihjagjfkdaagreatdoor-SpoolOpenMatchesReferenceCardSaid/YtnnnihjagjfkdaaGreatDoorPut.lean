/-
  The walk of the queue's Put. Own text.
-/
import Derived.Test.YtnnnihjagjfkdaaGreatDoorWriteW
namespace Go.Proofs.YtnnnihjagjfkdaaGreatDoor
open Go.RowKit
set_option linter.unusedVariables false
/-- The words of a record for a new job. -/
def putWs (n : Int) (s : ByteArray) : List ByteArray := [⟨#[112, 117, 116]⟩, strB (Lib.itoa n), strB (codedV s.data.toList)]
def putL (n : Int) (s : ByteArray) : List (List UInt8) := (putWs n s).map (·.data.toList)
def putQ (q : Que) (s : ByteArray) : Que := { recQ q (putL q.next s) with jobs := q.jobs ++ [⟨q.next, s, 0, 0⟩], next := q.next + 1 }
theorem putL_len (n : Int) (s : ByteArray) (h0 : 0 ≤ n) (h1 : n ≤ 9223372036854775807) (hs : s.size ≤ 256) : (bodyV (putL n s)).length ≤ 400 := by
  have h2 := Lib.itoa_length_le n (by omega) h1
  have h3 := codedV_len s.data.toList
  have h4 : s.data.toList.length = s.size := by simp
  have h := Lib.join_length [112, 117, 116] [Lib.itoa n, codedV s.data.toList] [32]
  have e : bodyV (putL n s) = Lib.join [[112, 117, 116], Lib.itoa n, codedV s.data.toList] [32] := rfl
  rw [e, h]
  simp only [List.length_cons, List.length_nil, Lib.lens, List.map_cons, List.map_nil, List.sum_cons, List.sum_nil]
  omega
def RetPut (B b : Nat) (q' : Que) (n : Int) (vj vw : Value) (w : World) (e : Ending) (w' : World) : Prop := ∃ vj' vw', e = .returned (.tuple #[.int .i64 n, .int .i64 0]) ∧ QAt w' B b q' vj' vw' ∧ Turn b vj vw vj' vw' w w'
set_option maxRecDepth 100000 in
set_option maxHeartbeats 4000000 in
theorem put_any (B b : Nat) (q : Que) (vj vw : Value) (s : ByteArray) (w : World) (hq : QAt w B b q vj vw) (hok : QOk q) (hB : B ≤ w.heap.size) (ht : Tabs w) (hs : s.size ≤ 256) (hj : q.jobs.length < 64) (hn : q.next ≤ 1073741824)
    (hfit : q.size + (lineV q.epoch q.seq (putL q.next s)).length ≤ 65536) :
    Calls Tryz.prog 15 #[.pointer (some ⟨b, 0, none⟩), .string s] w (RetPut B b (putQ q s) q.next vj vw w) := by
  obtain ⟨oj, cj, rfl, hjm, hjf⟩ := hq.jobs.flat (fun _ => rfl)
  have hnx := hok.nx
  have HWR : Hid (∀ W, Below w.heap.size w W → Calls Tryz.prog 28 #[.pointer (some ⟨b, 0, none⟩), .slice (some ⟨W.heap.size, 0, none⟩) 3 3] (W.alloc (.cells #[.string ⟨#[112, 117, 116]⟩, .string (strB (Lib.itoa q.next)), .string (strB (codedV s.data.toList))] 9)) (RetWrite B b (recQ q (putL q.next s)) (.slice oj q.jobs.length cj) vw (W.alloc (.cells #[.string ⟨#[112, 117, 116]⟩, .string (strB (Lib.itoa q.next)), .string (strB (codedV s.data.toList))] 9)))) := fun W hb => by
    have b2 := bthen hb (balloc (Below.refl _ W) (.cells #[.string ⟨#[112, 117, 116]⟩, .string (strB (Lib.itoa q.next)), .string (strB (codedV s.data.toList))] 9))
    exact write_any B b q _ vw W.heap.size 0 (putWs q.next s) 3 _ (hq.below b2) hok (Nat.le_trans hB b2.size) (fun j x hx => by
      rw [Nat.zero_add, cell_of_row _ W.heap.size j _ _ (0, 0) (heap_alloc_new W _)]
      match j, hx with
      | 0, hx => exact congrArg (fun y : Option ByteArray => y.map Value.string) hx
      | 1, hx => exact congrArg (fun y : Option ByteArray => y.map Value.string) hx
      | 2, hx => exact congrArg (fun y : Option ByteArray => y.map Value.string) hx
      | j + 3, hx => exact congrArg (fun y : Option ByteArray => y.map Value.string) hx) (by simp) (show 3 ≤ 100 by omega) (Nat.le_refl 3) (by have := putL_len q.next s hnx.1 (by omega) hs; show (bodyV (putL q.next s)).length ≤ _; omega) (ht.below b2) hfit
  have HIT : Hid (∀ W, Below w.heap.size w W → Calls Tryz.prog 29 #[.int .i64 q.next] W (RetStr (Lib.itoa q.next) W)) := fun W hb => itoa_any q.next W hnx.1 (by omega) (ht.below hb)
  have HCO : Hid (∀ W, Calls Tryz.prog 30 #[.string s] W (RetStr (codedV s.data.toList) W)) := fun W => coded_any s W (by omega)
  have HQ := Lib.hid hq
  have HPQ : Hid (putQ q s = { recQ q (putL q.next s) with jobs := q.jobs ++ [⟨q.next, s, 0, 0⟩], next := q.next + 1 }) := rfl
  have HJ0 : Hid ((recQ q (putL q.next s)).jobs = q.jobs ∧ (recQ q (putL q.next s)).next = q.next) := ⟨rfl, rfl⟩
  obtain ⟨q1, hq1⟩ : ∃ q1, q1 = recQ q (putL q.next s) := ⟨_, rfl⟩
  rw [← hq1] at HWR HPQ HJ0
  obtain ⟨N, hN⟩ : ∃ N, N = strB (Lib.itoa q.next) := ⟨_, rfl⟩
  obtain ⟨C, hC⟩ : ∃ C, C = strB (codedV s.data.toList) := ⟨_, rfl⟩
  rw [← hN, ← hC] at HWR
  have HN := Lib.hid hN
  have HC := Lib.hid hC
  have e64 : ((q.jobs.length : Int) == 64) = false := by simp; omega
  have c5 : w.cell? ⟨b, 5, none⟩ = some (.slice oj q.jobs.length cj) := hq.tab.at' 5 (by omega)
  have c2 : w.cell? ⟨b, 2, none⟩ = some (.int .i64 q.next) := hq.tab.at' 2 (by omega)
  generalize putQ q s = q' at *
  clear hq hok ht hfit hjf hq1 hN hC hjm
  go_enter Tryz.func15, Tryz.ntmps15
  go_wp2_with fail
  refine (HIT.out _ (Below.refl _ _)).mono ?_
  rintro e w2 ⟨rfl, hb2⟩
  rw [← HN.out]
  have HB2 := Lib.hid hb2
  clear hb2 HIT c5 c2
  go_wp2_with fail
  refine (HCO.out _).mono ?_
  rintro e w3 ⟨rfl, hb3⟩
  rw [← HC.out]
  have HB3 := Lib.hid (bthen HB2.out hb3)
  clear hb3 HCO
  go_wp2_with fail
  refine (HWR.out _ HB3.out).mono ?_
  rintro e w5 ⟨vw5, rfl, hq5, ht5⟩
  have HQ5 := Lib.hid hq5
  have HT5 := Lib.hid ((Turn.ofBelow (bthen HB3.out (balloc (Below.refl _ w3) _))).trans ht5)
  have hB5 : B ≤ w5.heap.size := Nat.le_trans hB HT5.out.size
  have d5 : w5.cell? ⟨b, 5, none⟩ = some (.slice oj q.jobs.length cj) := hq5.tab.at' 5 (by omega)
  have d2 : w5.cell? ⟨b, 2, none⟩ = some (.int .i64 q.next) := by rw [← HJ0.out.2]; exact hq5.tab.at' 2 (by omega)
  clear hq5 ht5 HWR
  go_upto_region 8 with fail
  have HJ1 : Hid (Own w5 B 73 4 encJb (.slice oj q.jobs.length cj) q.jobs) := by have h := HQ5.out.jobs; rw [HJ0.out.1] at h; exact h
  have hlt5 := HQ5.out.lt
  have HQA := Lib.hid (HQ5.out.below (balloc (Below.refl _ w5) (.cells #[.int .i64 q.next, .string s, .int .i64 0, .int .i64 0] 73)))
  have HTA := Lib.hid (HT5.out.below (balloc (Below.refl _ w5) (.cells #[.int .i64 q.next, .string s, .int .i64 0, .int .i64 0] 73)))
  have hjlen : Hid (q1.jobs.length = q.jobs.length) := by show q1.jobs.length = _; rw [HJ0.out.1]
  clear HQ HQ5 HT5 HB2 HB3 e64
  go_region_law (first | (refine step_app1L (by rfl) (.tmp 40) (.tmp 48) 59 (by rfl) elemJb Tryz.underlying59 B (.slice oj q.jobs.length cj) q.jobs encJb (by rfl) (HJ1.out.alloc (.cells #[.int .i64 q.next, .string s, .int .i64 0, .int .i64 0] 73)) ⟨q.next, s, 0, 0⟩ ⟨w5.heap.size, 0, none⟩ 1 (by rfl) (by rfl) (World.news_of_block (cs := #[.int .i64 q.next, .string s, .int .i64 0, .int .i64 0]) (t := 73) (fr := (0, 0)) (heap_alloc_new w5 _)) (by simp [encJb, Value.oneCell']) (by omega) (by unfold maxLen; omega) (by simp; omega) ?_; intro g6 cap6 w6 hown6 hg6 hat6; have hgg : (w5.alloc (.cells #[.int .i64 q.next, .string s, .int .i64 0, .int .i64 0] 73)).grownBy w6 (Value.slice oj q.jobs.length cj).ownBlock := ⟨hg6.os, hg6.tape, hg6.output, hg6.size, hg6.block⟩; have hft := HQA.out.tab.ofBlock (grown_block hgg HQA.out.lt HQA.out.nj); have n5 : w6.cell? ⟨b, 5, none⟩ = some (.slice oj q.jobs.length cj) := hft.at' 5 (by omega); have n2 : w6.cell? ⟨b, 2, none⟩ = some (.int .i64 q.next) := (hft.at' 2 (by omega)).trans (congrArg (fun x => some (Value.int .i64 x)) HJ0.out.2); have nf := hft.fz 5; have HG6 := Lib.hid hgg; have HOWN6 := Lib.hid hown6; have HAT6 := Lib.hid hat6; clear hgg hft hg6 hown6 hat6) | fail)
  all_goals
    have HQ7 : Hid (QAt (w6.setCell ⟨b, 5, none⟩ (.slice (some ⟨g6, 0, none⟩) (q.jobs.length + 1) cap6)) B b { q1 with jobs := q.jobs ++ [⟨q.next, s, 0, 0⟩] } (.slice (some ⟨g6, 0, none⟩) (q.jobs.length + 1) cap6) vw5) := by
      have h := HQA.out.growJ (y := ⟨q.next, s, 0, 0⟩) (cap := cap6) (g := g6) HG6.out (by rw [HJ0.out.1]; exact HOWN6.out) HAT6.out
      rw [HJ0.out.1] at h
      exact h
    have HT7 := Lib.hid ((HTA.out.growJ (n := q.jobs.length + 1) (cap := cap6) HG6.out HAT6.out).set 5 (.slice (some ⟨g6, 0, none⟩) (q.jobs.length + 1) cap6))
    clear HG6 HOWN6 HAT6 n5 n2 nf d5 d2 HQA HTA HJ1 hlt5
    generalize w6.setCell ⟨b, 5, none⟩ (.slice (some ⟨g6, 0, none⟩) (q.jobs.length + 1) cap6) = w7 at *
    have e2 : w7.cell? ⟨b, 2, none⟩ = some (.int .i64 q.next) := (HQ7.out.tab.at' 2 (by omega)).trans (congrArg (fun x => some (Value.int .i64 x)) HJ0.out.2)
    have ef := HQ7.out.tab.fz 2
    have HF : Hid (RetPut B b q' q.next (.slice oj q.jobs.length cj) vw w (.returned (.tuple #[.int .i64 q.next, .int .i64 0])) (w7.setCell ⟨b, 2, none⟩ (.int .i64 (q.next + 1)))) := by
      refine ⟨_, _, rfl, ?_, HT7.out.set 2 (.int .i64 (q.next + 1))⟩
      rw [HPQ.out]
      exact QAt.put (q' := { q1 with jobs := q.jobs ++ [⟨q.next, s, 0, 0⟩], next := q.next + 1 }) HQ7.out (i := 2) (by omega) _ rfl rfl fun j hj => by
        match j, hj with
        | 0, _ => rfl
        | 1, _ => rfl
        | 2, _ => rfl
        | 3, _ => rfl
        | 4, _ => rfl
        | 5, _ => rfl
        | 6, _ => rfl
        | 7, _ => rfl
        | 8, _ => rfl
        | 9, _ => rfl
        | 10, _ => rfl
    have esub : q.next + 1 - 1 = q.next := by omega
    clear HQ7 HT7
    go_wp2
    go_ret2
    exact HF.out
end Go.Proofs.YtnnnihjagjfkdaaGreatDoor
