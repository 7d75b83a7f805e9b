/-
  The walk of the queue's write. Own text.
-/
import Derived.Test.YtnnnihjagjfkdaaGreatDoorWrite
namespace Go.Proofs.YtnnnihjagjfkdaaGreatDoor
open Go.RowKit
set_option linter.unusedVariables false
/-- The queue behind a record. -/
def recQ (q : Que) (ws : List (List UInt8)) : Que :=
  { q with writes := q.writes ++ [⟨q.area, strB (lineV q.epoch q.seq ws)⟩], size := q.size + (lineV q.epoch q.seq ws).length, seq := q.seq + 1 }
def RetWrite (B b : Nat) (q' : Que) (vj vw : Value) (w : World) (e : Ending) (w' : World) : Prop := ∃ vw', e = .returned (.int .i64 0) ∧ QAt w' B b q' vj vw' ∧ Turn b vj vw vj vw' w w'
/-- What is asked of a queue's numbers. -/
structure QOk (q : Que) : Prop where
  area : q.area = 0 ∨ q.area = 1
  ep : 0 ≤ q.epoch ∧ q.epoch ≤ 2147483648
  nx : 0 ≤ q.next ∧ q.next ≤ 2147483648
  ls : 0 ≤ q.leases ∧ q.leases ≤ 4611686018427387904
  nw : 0 ≤ q.now ∧ q.now ≤ 1099511627776
  sz : 0 ≤ q.size ∧ q.size ≤ 65536
  sq : 0 ≤ q.seq ∧ q.seq ≤ 2147483648
  wl : q.writes.length ≤ 1000000000
  jl : q.jobs.length ≤ 64
set_option maxRecDepth 100000 in
set_option maxHeartbeats 4000000 in
theorem write_any (B b : Nat) (q : Que) (vj vw : Value) (g off : Nat) (ws : List ByteArray) (c : Nat) (w : World) (hq : QAt w B b q vj vw) (hok : QOk q) (hB : B ≤ w.heap.size) (hcells : ∀ j x, ws[j]? = some x → w.cell? ⟨g, off + j, none⟩ = some (.string x)) (hg : g < w.heap.size) (hN : ws.length ≤ 100) (hc : ws.length ≤ c)
    (hlen : (bodyV (ws.map (·.data.toList))).length ≤ 60000) (ht : Tabs w) (hfit : q.size + (lineV q.epoch q.seq (ws.map (·.data.toList))).length ≤ 65536) :
    Calls Tryz.prog 28 #[.pointer (some ⟨b, 0, none⟩), .slice (some ⟨g, off, none⟩) ws.length c] w (RetWrite B b (recQ q (ws.map (·.data.toList))) vj vw w) := by
  obtain ⟨L, hL⟩ : ∃ L, L = lineV q.epoch q.seq (ws.map (·.data.toList)) := ⟨_, rfl⟩
  have HLN : Hid (∀ W, Below w.heap.size w W → Calls Tryz.prog 31 #[.int .i64 q.epoch, .int .i64 q.seq, .slice (some ⟨g, off, none⟩) ws.length c] W (RetStr L W)) := fun W hb => by
    rw [hL]
    exact line_any q.epoch q.seq g off ws c W (fun j x hx => keepCell hb (hcells j x hx)) (Nat.lt_of_lt_of_le hg hb.size) hN hc (by omega) hok.ep.1 (by have := hok.ep.2; omega) hok.sq.1 (by have := hok.sq.2; omega) (ht.below hb)
  have HRQ : Hid (recQ q (ws.map (·.data.toList)) = { q with writes := q.writes ++ [⟨q.area, strB L⟩], size := q.size + L.length, seq := q.seq + 1 }) := by
    show recQ q _ = _
    unfold recQ
    rw [hL]
  have HQ := Lib.hid hq
  have HOK := Lib.hid hok
  have hLl : (strB L).size = L.length := strB_size L
  rw [← hL] at hfit
  obtain ⟨S, hS⟩ : ∃ S, S = strB L := ⟨_, rfl⟩
  rw [← hS] at hLl
  have hfitS : q.size + (S.size : Int) ≤ 65536 := by omega
  have HLL := Lib.hid hLl
  have HS := Lib.hid hS
  obtain ⟨n, hn⟩ : ∃ n, n = ws.length := ⟨_, rfl⟩
  rw [← hn] at HLN
  rw [← hn]
  generalize recQ q (ws.map (·.data.toList)) = q' at *
  clear hcells hlen hL hLl hfit hS hN hc ht hn
  have hsz := hok.sz
  have hsq := hok.sq
  have hep := hok.ep
  have hwl := hok.wl
  have c1 : w.cell? ⟨b, 1, none⟩ = some (.int .i64 q.epoch) := hq.tab.at' 1 (by omega)
  have c10 : w.cell? ⟨b, 10, none⟩ = some (.int .i64 q.seq) := hq.tab.at' 10 (by omega)
  clear hq hok
  go_enter Tryz.func28, Tryz.ntmps28
  go_wp2
  go_region_held3 (fun w' => w'.cell? ⟨b, 1, none⟩ = some (.int .i64 q.epoch) ∧ w'.cell? ⟨b, 10, none⟩ = some (.int .i64 q.seq)) (first | go_keep | exact ⟨keepCell hb3 c1, keepCell hb3 c10⟩)
    (first | fail | (go_simp; go_at_call 31; (with_reducible refine (HLN.out _ (by first | exact Below.refl _ _ | exact (Below.refl _ _).drew)).mono ?_); rintro e w3 ⟨rfl, hb3⟩; rw [← HS.out]))
  have HQ3 := Lib.hid (HQ.out.drewN 1 |>.below hb3)
  have HT3 : Hid (Turn b vj vw vj vw w w3) := ((Turn.refl b vj vw w).drewN 1).below hb3
  have hB3 : B ≤ w3.heap.size := Nat.le_trans hB hb3.size
  clear hb3 c1 c10 HLN HQ
  have d9 : w3.cell? ⟨b, 9, none⟩ = some (.int .i64 q.size) := HQ3.out.tab.at' 9 (by omega)
  have d8 : w3.cell? ⟨b, 8, none⟩ = some vw := HQ3.out.tab.at' 8 (by omega)
  have d0 : w3.cell? ⟨b, 0, none⟩ = some (.int .i64 q.area) := HQ3.out.tab.at' 0 (by omega)
  have hlt3 := HQ3.out.lt
  go_upto_region 4 with fail
  have QA := HQ3.out.below (balloc (Below.refl _ w3) (.cells #[.int .i64 q.area, .string S] 54))
  have HQA := Lib.hid QA
  have HTA := Lib.hid (HT3.out.below (balloc (Below.refl _ w3) (.cells #[.int .i64 q.area, .string S] 54)))
  have hown := HQ3.out.wr
  have HOW := Lib.hid hown
  clear QA hown d9
  go_region_law (first | (refine step_app1L (by rfl) (.tmp 28) (.tmp 35) 35 (by rfl) elemWr Tryz.underlying35 B vw q.writes encWr (by rfl) (HOW.out.alloc (.cells #[.int .i64 q.area, .string S] 54)) ⟨q.area, S⟩ ⟨w3.heap.size, 0, none⟩ 1 (by rfl) (by rfl) (World.news_of_block (cs := #[.int .i64 q.area, .string S]) (t := 54) (fr := (0, 0)) (heap_alloc_new w3 _)) (by simp [encWr, Value.oneCell']) (by omega) (by unfold maxLen; omega) (by simp; omega) ?_; intro g5 cap5 w5 hown5 hg5 hat5; have hgg : (w3.alloc (.cells #[.int .i64 q.area, .string S] 54)).grownBy w5 vw.ownBlock := ⟨hg5.os, hg5.tape, hg5.output, hg5.size, hg5.block⟩; have hft := HQA.out.tab.ofBlock (grown_block hgg HQA.out.lt HQA.out.nw); have n8 : w5.cell? ⟨b, 8, none⟩ = some vw := hft.at' 8 (by omega); have n0 : w5.cell? ⟨b, 0, none⟩ = some (.int .i64 q.area) := hft.at' 0 (by omega); have nf := hft.fz 8; have HG5 := Lib.hid hgg; have HOWN5 := Lib.hid hown5; have HAT5 := Lib.hid hat5; clear hgg hft hg5 hown5 hat5) | fail)
  all_goals
    have HQ5 := Lib.hid (HQA.out.growW HG5.out HOWN5.out HAT5.out)
    have HT5 := Lib.hid ((HTA.out.growW (n := q.writes.length + 1) (cap := cap5) HG5.out HAT5.out).set 8 (.slice (some ⟨g5, 0, none⟩) (q.writes.length + 1) cap5))
    clear HG5 HOWN5 HAT5 n8 n0 nf d8 d0 hlt3 HQA HTA HOW HQ3 HT3
    generalize w5.setCell ⟨b, 8, none⟩ (.slice (some ⟨g5, 0, none⟩) (q.writes.length + 1) cap5) = w6 at *
    have e9 : w6.cell? ⟨b, 9, none⟩ = some (.int .i64 q.size) := HQ5.out.tab.at' 9 (by omega)
    have e10 : w6.cell? ⟨b, 10, none⟩ = some (.int .i64 q.seq) := HQ5.out.tab.at' 10 (by omega)
    have ef := HQ5.out.tab.fz
    have HF : Hid (RetWrite B b q' vj vw w (.returned (.int .i64 0)) (((w6.setCell ⟨b, 9, none⟩ (.int .i64 (q.size + (S.size : Int)))).setCell ⟨b, 10, none⟩ (.int .i64 (q.seq + 1))).drew)) := by
      refine ⟨_, rfl, ?_, ((HT5.out.set 9 (.int .i64 (q.size + (S.size : Int)))).set 10 (.int .i64 (q.seq + 1))).drewN 1⟩
      rw [HRQ.out, ← HS.out, ← HLL.out]
      have k1 : QAt (w6.setCell ⟨b, 9, none⟩ (.int .i64 (q.size + (S.size : Int)))) B b { q with writes := q.writes ++ [⟨q.area, S⟩], size := q.size + (S.size : Int) } vj (.slice (some ⟨g5, 0, none⟩) (q.writes.length + 1) cap5) := QAt.put HQ5.out (i := 9) (by omega) _ rfl rfl fun j hj => by
        match j, hj with
        | 0, _ => rfl
        | 1, _ => rfl
        | 2, _ => rfl
        | 3, _ => rfl
        | 4, _ => rfl
        | 5, _ => rfl
        | 6, _ => rfl
        | 7, _ => rfl
        | 8, _ => rfl
        | 9, _ => rfl
        | 10, _ => rfl
      exact QAt.drewN (QAt.put (q' := { q with writes := q.writes ++ [⟨q.area, S⟩], size := q.size + (S.size : Int), seq := q.seq + 1 }) k1 (i := 10) (by omega) _ rfl rfl fun j hj => by
        match j, hj with
        | 0, _ => rfl
        | 1, _ => rfl
        | 2, _ => rfl
        | 3, _ => rfl
        | 4, _ => rfl
        | 5, _ => rfl
        | 6, _ => rfl
        | 7, _ => rfl
        | 8, _ => rfl
        | 9, _ => rfl
        | 10, _ => rfl) 1
    clear HQ5 HT5
    go_wp2
    go_region
    all_goals
      go_wp2
      go_ret
      exact HF.out
end Go.Proofs.YtnnnihjagjfkdaaGreatDoor
