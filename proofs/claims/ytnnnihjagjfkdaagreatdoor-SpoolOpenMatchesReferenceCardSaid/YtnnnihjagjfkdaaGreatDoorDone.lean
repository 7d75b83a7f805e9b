/-
  The walk of the queue's Done. Own text.
-/
import Derived.Test.YtnnnihjagjfkdaaGreatDoorDel
import Derived.Test.YtnnnihjagjfkdaaGreatDoorPut
namespace Go.Proofs.YtnnnihjagjfkdaaGreatDoor
open Go.RowKit
set_option linter.unusedVariables false
/-- The words of a record for a job done. -/
def doneWs (n : Int) : List ByteArray := [⟨#[100, 111, 110, 101]⟩, strB (Lib.itoa n)]
def doneL (n : Int) : List (List UInt8) := (doneWs n).map (·.data.toList)
def doneQ (q : Que) (id : Int) (m : Nat) : Que := { recQ q (doneL id) with jobs := q.jobs.eraseIdx m }
theorem doneL_len (n : Int) (h0 : 0 ≤ n) (h1 : n ≤ 9223372036854775807) : (bodyV (doneL n)).length ≤ 400 := by
  have h2 := Lib.itoa_length_le n (by omega) h1
  have h := Lib.join_length [100, 111, 110, 101] [Lib.itoa n] [32]
  have e : bodyV (doneL n) = Lib.join [[100, 111, 110, 101], Lib.itoa n] [32] := rfl
  rw [e, h]
  simp only [List.length_cons, List.length_nil, Lib.lens, List.map_cons, List.map_nil, List.sum_cons, List.sum_nil]
  omega
def RetDone (B b : Nat) (q' : Que) (c : Int) (vj vw : Value) (w : World) (e : Ending) (w' : World) : Prop := ∃ vj' vw', e = .returned (.int .i64 c) ∧ QAt w' B b q' vj' vw' ∧ Turn b vj vw vj' vw' w w'
set_option maxRecDepth 100000 in
set_option maxHeartbeats 4000000 in
/-- A job that is not leased so is not done. -/
theorem done_no (B b : Nat) (q : Que) (vj vw : Value) (id n c0 : Int) (w : World) (hq : QAt w B b q vj vw) (hm : q.jobs.length ≤ 64) (hno : ∀ i c, LeasedAt q.jobs id n i c → c = c0) (hc0 : c0 ≠ 0) :
    Calls Tryz.prog 34 #[.pointer (some ⟨b, 0, none⟩), .int .i64 id, .int .i64 n] w (RetDone B b q c0 vj vw w) := by
  have HLE := Lib.hid (leased_any B b q vj vw id n w hq hm)
  have HQ := Lib.hid hq
  have HNO := Lib.hid hno
  clear hq hno
  go_enter Tryz.func34, Tryz.ntmps34
  go_wp2_with fail
  refine HLE.out.mono ?_
  rintro e w2 ⟨i, c, rfl, hla, hb2⟩
  obtain rfl := HNO.out i c hla
  have HF : Hid (RetDone B b q c vj vw w (.returned (.int .i64 c)) w2) := ⟨vj, vw, rfl, HQ.out.below hb2, Turn.ofBelow hb2⟩
  have hbe : (c == 0) = false := by simpa using hc0
  have hbn : (c != 0) = true := by simpa using hc0
  clear hla hb2 HLE HQ
  go_wp2
  go_ret
  exact HF.out
theorem QAt.shrinkJ {w w' : World} {B b g n c m : Nat} {q : Que} {vw : Value} (h : QAt w B b q (.slice (some ⟨g, 0, none⟩) n c) vw) (hg : w.grownBy w' (some g)) {ys : List Jb} (hown : Own w' B 73 4 encJb (.slice (some ⟨g, 0, none⟩) m c) ys) : QAt (w'.setCell ⟨b, 5, none⟩ (.slice (some ⟨g, 0, none⟩) m c)) B b { q with jobs := ys } (.slice (some ⟨g, 0, none⟩) m c) vw := by
  have hgv : w.grownBy w' (Value.slice (some ⟨g, 0, none⟩) n c).ownBlock := hg
  refine ⟨((h.tab.ofBlock (grown_block hgv h.lt h.nj)).set (i := 5) (by omega) _).congr fun i hi => ?_, own_other hown h.nj _, own_other (h.wr.ofBlocks fun j hj => grown_block hgv (h.wr.blk hj).2 fun e => h.jw j e hj) h.nw _, h.bb, h.nj, h.nw, h.jw⟩
  match i, hi with
  | 0, _ => rfl
  | 1, _ => rfl
  | 2, _ => rfl
  | 3, _ => rfl
  | 4, _ => rfl
  | 5, _ => rfl
  | 6, _ => rfl
  | 7, _ => rfl
  | 8, _ => rfl
  | 9, _ => rfl
  | 10, _ => rfl
theorem Turn.shrinkJ {b g n c m : Nat} {vj vw u1 : Value} {w w1 w' : World} (h : Turn b vj vw (.slice (some ⟨g, 0, none⟩) n c) u1 w w1) (hg : w1.grownBy w' (some g)) : Turn b vj vw (.slice (some ⟨g, 0, none⟩) m c) u1 w w' := by
  have hs := h.size
  refine ⟨hg.os.trans h.os, hg.tape.trans h.tape, hg.output.trans h.output, Nat.le_trans hs hg.size, fun j hj hn => ?_, h.kj, h.kw⟩
  rw [hg.block j (by omega) (fun e => ?_), h.block j hj hn]
  have e' : g = j := (Option.some.inj e).symm
  rcases h.kj g rfl with e2 | e2
  · exact hn (.inr (.inl (by rw [← e']; exact e2)))
  · omega
set_option maxRecDepth 100000 in
set_option maxHeartbeats 4000000 in
theorem done_yes (B b : Nat) (q : Que) (vj vw : Value) (id n : Int) (m : Nat) (w : World) (hq : QAt w B b q vj vw) (hok : QOk q) (hB : B ≤ w.heap.size) (ht : Tabs w) (hm : q.jobs.length ≤ 64) (hm2 : m < q.jobs.length) (hyes : ∀ i c, LeasedAt q.jobs id n i c → i = m ∧ c = 0) (hid0 : 0 ≤ id) (hid1 : id ≤ 1099511627776)
    (hfit : q.size + (lineV q.epoch q.seq (doneL id)).length ≤ 65536) :
    Calls Tryz.prog 34 #[.pointer (some ⟨b, 0, none⟩), .int .i64 id, .int .i64 n] w (RetDone B b (doneQ q id m) 0 vj vw w) := by
  have HLE := Lib.hid (leased_any B b q vj vw id n w hq hm)
  rcases hq.jobs.2 with ⟨e, hn⟩ | ⟨g, cap, cur, e, hgr⟩
  · omega
  subst e
  have HWR : Hid (∀ W, Below w.heap.size w W → Calls Tryz.prog 28 #[.pointer (some ⟨b, 0, none⟩), .slice (some ⟨W.heap.size, 0, none⟩) 2 2] (W.alloc (.cells #[.string ⟨#[100, 111, 110, 101]⟩, .string (strB (Lib.itoa id))] 9)) (RetWrite B b (recQ q (doneL id)) (.slice (some ⟨g, 0, none⟩) q.jobs.length cap) vw (W.alloc (.cells #[.string ⟨#[100, 111, 110, 101]⟩, .string (strB (Lib.itoa id))] 9)))) := fun W hb => by
    have b2 := bthen hb (balloc (Below.refl _ W) (.cells #[.string ⟨#[100, 111, 110, 101]⟩, .string (strB (Lib.itoa id))] 9))
    exact write_any B b q _ vw W.heap.size 0 (doneWs id) 2 _ (hq.below b2) hok (Nat.le_trans hB b2.size) (fun j x hx => by
      rw [Nat.zero_add, cell_of_row _ W.heap.size j _ _ (0, 0) (heap_alloc_new W _)]
      match j, hx with
      | 0, hx => exact congrArg (fun y : Option ByteArray => y.map Value.string) hx
      | 1, hx => exact congrArg (fun y : Option ByteArray => y.map Value.string) hx
      | j + 2, hx => exact congrArg (fun y : Option ByteArray => y.map Value.string) hx) (by simp) (show 2 ≤ 100 by omega) (Nat.le_refl 2) (by have := doneL_len id hid0 (by omega); show (bodyV (doneL id)).length ≤ _; omega) (ht.below b2) hfit
  have HIT : Hid (∀ W, Below w.heap.size w W → Calls Tryz.prog 29 #[.int .i64 id] W (RetStr (Lib.itoa id) W)) := fun W hb => itoa_any id W hid0 (by omega) (ht.below hb)
  have HDQ : Hid (doneQ q id m = { recQ q (doneL id) with jobs := q.jobs.eraseIdx m }) := rfl
  have HJ0 : Hid ((recQ q (doneL id)).jobs = q.jobs) := rfl
  obtain ⟨q1, hq1⟩ : ∃ q1, q1 = recQ q (doneL id) := ⟨_, rfl⟩
  rw [← hq1] at HWR HDQ HJ0
  obtain ⟨N, hN⟩ : ∃ N, N = strB (Lib.itoa id) := ⟨_, rfl⟩
  rw [← hN] at HWR
  have HN := Lib.hid hN
  have HYES := Lib.hid hyes
  have HM := Lib.hid hm
  have HM2 := Lib.hid hm2
  obtain ⟨k, hk⟩ : ∃ k, k = q.jobs.length := ⟨_, rfl⟩
  have HK := Lib.hid hk
  rw [← hk] at HWR
  have hzl : q.jobs.length = k := hk.symm
  generalize doneQ q id m = q' at *
  rw [hzl]
  clear hq hok ht hfit hgr hq1 hN hyes hm hm2 hk hzl
  go_enter Tryz.func34, Tryz.ntmps34
  go_wp2_with fail
  refine HLE.out.mono ?_
  rintro e w2 ⟨i, c, rfl, hla, hb2⟩
  obtain ⟨rfl, rfl⟩ := HYES.out i c hla
  have HB2 := Lib.hid hb2
  clear hla hb2 HLE HYES
  go_wp2_with fail
  refine (HIT.out _ HB2.out).mono ?_
  rintro e w3 ⟨rfl, hb3⟩
  rw [← HN.out]
  have HB3 := Lib.hid (bthen HB2.out hb3)
  clear hb3 HIT
  go_wp2_with fail
  refine (HWR.out _ HB3.out).mono ?_
  rintro e w5 ⟨vw5, rfl, hq5, ht5⟩
  have HQ5 := Lib.hid hq5
  have HT5 := Lib.hid ((Turn.ofBelow (bthen HB3.out (balloc (Below.refl _ w3) _))).trans ht5)
  have d5 : w5.cell? ⟨b, 5, none⟩ = some (.slice (some ⟨g, 0, none⟩) k cap) := hq5.tab.at' 5 (by omega)
  have hown5 : Own w5 B 73 4 encJb (.slice (some ⟨g, 0, none⟩) k cap) q.jobs := by have h := hq5.jobs; rw [HJ0.out] at h; exact h
  have HDE : Hid (Calls Tryz.prog 40 #[.slice (some ⟨g, 0, none⟩) k cap, .int .i64 (m : Nat), .int .i64 ((m + 1 : Nat) : Int)] w5 (RetDel B g (k - 1) cap (q.jobs.eraseIdx m) w5)) := delete_any B g k cap q.jobs m (m + 1) w5 hown5 HK.out (by have := HM2.out; have := HK.out; omega) rfl (by have := HM.out; have := HK.out; omega)
  clear hq5 ht5 HWR hown5
  have hcast : ((m + 1 : Nat) : Int) = (m : Int) + 1 := by omega
  rw [hcast] at HDE
  clear hcast
  have x1 : IntKind.i64.wrap ((m : Int) + 1) = (m : Int) + 1 := IntWalk.i64_in _ (by have := HM.out; have := HM2.out; omega)
  go_wp2_with fail
  refine HDE.out.mono ?_
  rintro e w6 ⟨rfl, hle, hown6, hg6⟩
  clear hle
  have HF : Hid (RetDone B b q' 0 (.slice (some ⟨g, 0, none⟩) k cap) vw w (.returned (.int .i64 0)) (w6.setCell ⟨b, 5, none⟩ (.slice (some ⟨g, 0, none⟩) (k - 1) cap))) := by
    have hqf : QAt (w6.setCell ⟨b, 5, none⟩ (.slice (some ⟨g, 0, none⟩) (k - 1) cap)) B b q' (.slice (some ⟨g, 0, none⟩) (k - 1) cap) vw5 := by
      rw [HDQ.out]
      exact QAt.shrinkJ (m := k - 1) HQ5.out hg6 hown6
    have htf : Turn b (.slice (some ⟨g, 0, none⟩) k cap) vw (.slice (some ⟨g, 0, none⟩) (k - 1) cap) vw5 w (w6.setCell ⟨b, 5, none⟩ (.slice (some ⟨g, 0, none⟩) (k - 1) cap)) := Turn.set (Turn.shrinkJ (m := k - 1) HT5.out hg6) 5 _
    exact ⟨_, _, rfl, hqf, htf⟩
  have hft : FTab (fun v : Value => v) w6 b 11 (queF q1 (.slice (some ⟨g, 0, none⟩) k cap) vw5) := HQ5.out.tab.ofBlock (hg6.block b HQ5.out.lt (fun e => HQ5.out.nj e.symm))
  have e5 : w6.cell? ⟨b, 5, none⟩ = some (.slice (some ⟨g, 0, none⟩) k cap) := hft.at' 5 (by omega)
  have ef := hft.fz
  clear hft hown6 hg6 HQ5 HT5 HDE d5
  go_wp2
  go_ret
  exact HF.out
end Go.Proofs.YtnnnihjagjfkdaaGreatDoor
