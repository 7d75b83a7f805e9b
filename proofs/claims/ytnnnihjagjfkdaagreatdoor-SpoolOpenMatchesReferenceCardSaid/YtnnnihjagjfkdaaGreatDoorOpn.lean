/-
  The walk of spool.Open. Own text.
-/
import Derived.Test.YtnnnihjagjfkdaaGreatDoorOpnV
import Derived.OwnWalk
import Derived.StillTailTactics
namespace Go.Proofs.YtnnnihjagjfkdaaGreatDoor
open Go.RowKit
set_option linter.unusedVariables false
def RetOpen (A B : List UInt8) (w : World) (e : Ending) (w' : World) : Prop :=
  ((∃ c, openV A B = .error c ∧ e = .returned (.tuple #[.pointer none, .int .i64 c])) ∨
   ∃ q qb vj vw, openV A B = .ok q ∧ e = .returned (.tuple #[.pointer (some ⟨qb, 0, none⟩), .int .i64 0]) ∧ w.heap.size ≤ qb ∧ QAt w' qb qb q vj vw) ∧ Below w.heap.size w w'
/-- The best queue so far. -/
structure BestIs (w wr : World) (N : Int → Nat) (q : Que) (s : Sc) (qb sb : Nat) (vj vw : Value) : Prop where
  at1 : QAt wr qb qb q vj vw
  at2 : ScAt wr sb s
  ok : ScOk s
  j : q.jobs.length ≤ 64
  n0 : 0 ≤ q.next
  n1 : q.next ≤ 1073741825
  old : w.heap.size < sb
  lt : sb < qb
  ar : q.area = 0 ∨ q.area = 1
  sum : Sums s (N q.area)
def BestAt (w wr : World) (N : Int → Nat) (x : Option (Que × Sc)) (v4 v5 : Value) : Prop :=
  (x = none ∧ v4 = .pointer none ∧ v5 = .pointer none) ∨
  ∃ q s qb sb vj vw, x = some (q, s) ∧ v4 = .pointer (some ⟨qb, 0, none⟩) ∧ v5 = .pointer (some ⟨sb, 0, none⟩) ∧ BestIs w wr N q s qb sb vj vw
theorem BestIs.below {w wr wr' : World} {N : Int → Nat} {q : Que} {s : Sc} {qb sb : Nat} {vj vw : Value} (h : BestIs w wr N q s qb sb vj vw) (hb : Below wr.heap.size wr wr') : BestIs w wr' N q s qb sb vj vw :=
  ⟨h.at1.below hb, h.at2.below hb, h.ok, h.j, h.n0, h.n1, h.old, h.lt, h.ar, h.sum⟩
theorem BestIs.drewN {w wr : World} {N : Int → Nat} {q : Que} {s : Sc} {qb sb : Nat} {vj vw : Value} (h : BestIs w wr N q s qb sb vj vw) (n : Nat) : BestIs w (wr.drewN n) N q s qb sb vj vw :=
  ⟨h.at1.drewN n, FTab.drewN h.at2 n, h.ok, h.j, h.n0, h.n1, h.old, h.lt, h.ar, h.sum⟩
/-- What the loop over the records keeps. -/
def LoopO (w wr : World) (N : Int → Nat) (a b : ByteArray) (qb sb : Nat) (q0 : Que) (s0 : Sc) : Prop :=
  ∃ q s vj vw n, BestIs w wr N q s qb sb vj vw ∧ s.rest.length < n ∧ runV (s0.rest.length + 1) q0 s0 = runV n q s ∧ q.area = q0.area ∧ Below w.heap.size w wr ∧ wr.cell? ⟨w.heap.size, 0, none⟩ = some (.string a) ∧ wr.cell? ⟨w.heap.size, 1, none⟩ = some (.string b)
def restN (sb : Nat) (w : World) : Nat := match w.cell? ⟨sb, 0, none⟩ with
  | some (.string x) => x.size
  | _ => 0
theorem restN_at {sb : Nat} {w : World} {x : ByteArray} (h : w.cell? ⟨sb, 0, none⟩ = some (.string x)) : restN sb w = x.size := by
  unfold restN
  rw [h]
noncomputable def bestN (A B : List UInt8) : Nat → Option (Que × Sc)
  | 0 => none
  | 1 => bestV none 0 (begunV A)
  | _ => bestAB A B
def lenN (A B : List UInt8) (k : Int) : Nat := if k = 0 then A.length else B.length
theorem scan_of (x : Sc) (w : World) : ScAt (w.alloc (.cells #[.string (strB x.rest), .int .i64 x.epoch, .int .i64 x.seq, .int .i64 x.read] 63)) w.heap.size x := by
  refine ⟨fun i hi => ?_, fun o => ?_⟩
  · have hb := heap_alloc_new w (.cells #[.string (strB x.rest), .int .i64 x.epoch, .int .i64 x.seq, .int .i64 x.read] 63)
    rw [cell_of_row _ w.heap.size i _ _ (0, 0) hb]
    match i, hi with
    | 0, _ => rfl
    | 1, _ => rfl
    | 2, _ => rfl
    | 3, _ => rfl
  · unfold World.frozen?
    rw [heap_alloc_new]
    simp
set_option maxRecDepth 100000 in
set_option maxHeartbeats 8000000 in
theorem open_any (a b : ByteArray) (w : World) (ht : Tabz w) :
    Calls Tryz.prog 9 #[.agg #[.string a, .string b]] w (RetOpen a.data.toList b.data.toList w) := by
  obtain ⟨W1, hW1⟩ : ∃ W1, W1 = w.alloc (.cells #[.string a, .string b] 23) := ⟨_, rfl⟩
  have hb1 : Below w.heap.size w W1 := by rw [hW1]; exact balloc (Below.refl _ w) _
  have hz1 : W1.heap.size = w.heap.size + 1 := by rw [hW1]; exact World.size_alloc _ _
  have c0 : W1.cell? ⟨w.heap.size, 0, none⟩ = some (.string a) := by rw [hW1, cell_of_row _ w.heap.size 0 _ _ (0, 0) (heap_alloc_new w _)]; rfl
  have c1 : W1.cell? ⟨w.heap.size, 1, none⟩ = some (.string b) := by rw [hW1, cell_of_row _ w.heap.size 1 _ _ (0, 0) (heap_alloc_new w _)]; rfl
  have HTB : Hid (∀ W, Below w.heap.size w W → Tabz W) := fun W hb => ht.below hb
  have HB1 := Lib.hid hb1
  have hal : a.data.toList.length = a.size := by simp
  have hbl : b.data.toList.length = b.size := by simp
  obtain ⟨A, hA⟩ : ∃ A, A = a.data.toList := ⟨_, rfl⟩
  obtain ⟨C, hC⟩ : ∃ C, C = b.data.toList := ⟨_, rfl⟩
  rw [← hA] at hal
  rw [← hC] at hbl
  rw [← hA, ← hC]
  have HA := Lib.hid hA
  have HC := Lib.hid hC
  clear hb1 ht hA hC
  by_cases hla : 65536 < a.size
  · have t1 : decide ((65536 : Int) < (a.size : Int)) = true := by simp; omega
    have HF : Hid (RetOpen A C w (.returned (.tuple #[.pointer none, .int .i64 2])) W1) := ⟨.inl ⟨2, openV_large (.inl (by omega)), rfl⟩, HB1.out⟩
    clear hal hbl hla
    go_enter Tryz.func9, Tryz.ntmps9
    go_upto_region 1 with fail
    rw [← hW1]
    clear hW1
    go_wp2
    go_ret2
    exact HF.out
  by_cases hlb : 65536 < b.size
  · have t1 : decide ((65536 : Int) < (a.size : Int)) = false := by simp; omega
    have t2 : decide ((65536 : Int) < (b.size : Int)) = true := by simp; omega
    have HF : Hid (RetOpen A C w (.returned (.tuple #[.pointer none, .int .i64 2])) W1) := ⟨.inl ⟨2, openV_large (.inr (by omega)), rfl⟩, HB1.out⟩
    clear hal hbl hla hlb
    go_enter Tryz.func9, Tryz.ntmps9
    go_upto_region 1 with fail
    rw [← hW1]
    clear hW1
    go_wp2
    go_ret2
    exact HF.out
  have t1 : decide ((65536 : Int) < (a.size : Int)) = false := by simp; omega
  have t2 : decide ((65536 : Int) < (b.size : Int)) = false := by simp; omega
  have HSM : Hid (¬ (65536 < A.length ∨ 65536 < C.length)) := by show ¬ _; omega
  have HLN : Hid (lenN A C 0 = a.size ∧ lenN A C 1 = b.size) := ⟨hal, hbl⟩
  have hla2 : a.size ≤ 65536 := by omega
  have hlb2 : b.size ≤ 65536 := by omega
  clear hla hlb hal hbl
  have hns : ¬ (65536 < a.size) := by omega
  have hnt : ¬ (65536 < b.size) := by omega
  go_enter Tryz.func9, Tryz.ntmps9
  go_upto_region 1 with fail
  rw [← hW1]
  clear hW1
  go_wp2_with fail
  go_loopw [4, 5, 29] (fun v4 v5 i wr => ∃ k : Nat, k ≤ 2 ∧ i = .int .i64 k ∧ Hid (BestAt w wr (lenN A C) (bestN A C k) v4 v5 ∧ Below w.heap.size w wr ∧ wr.cell? ⟨w.heap.size, 0, none⟩ = some (.string a) ∧ wr.cell? ⟨w.heap.size, 1, none⟩ = some (.string b))) (fun _ _ i _ => 2 - (intOf i).toNat)
  case atStart => exact ⟨0, by omega, rfl, .inl ⟨rfl, rfl, rfl⟩, HB1.out, c0, c1⟩
  case round =>
    clear HB1 c0 c1
    obtain ⟨k, hk, rfl, HR⟩ := hrel
    by_cases hlt : k < 2
    · obtain rfl | rfl : k = 0 ∨ k = 1 := by omega
      ·
        have hix : ∀ W, (Instr.index 56 (.agg #[.string a, .string b]) (.int .i64 0)).run Tryz.prog W = .ok (.string a) W := fun _ => by kernel_rfl
        have hst : bestN A C (0 + 1) = bestV (bestN A C 0) 0 (begunV A) := rfl
        obtain ⟨hbest, hb, d0, d1⟩ := HR.out
        have HBG : Hid (Calls Tryz.prog 23 #[.string a] wr (RetBeg A wr)) := by
          have h := begun_any a wr hla2 (HTB.out wr hb)
          rw [← HA.out] at h
          exact h
        have hlA : A.length = a.size := HLN.out.1
        have HLX := Lib.hid hlA
        have hwz := hb.size
        have hd := cell?_lt d0
        simp only at hd
        have HST := Lib.hid hst
        have HBB := Lib.hid hbest
        have HB := Lib.hid hb
        have D0 := Lib.hid d0
        have D1 := Lib.hid d1
        have HNX : Hid (∀ W v4 v5, BestAt w W (lenN A C) (bestN A C (0 + 1)) v4 v5 → Below wr.heap.size wr W → BestAt w W (lenN A C) (bestN A C (0 + 1)) v4 v5 ∧ Below w.heap.size w W ∧ W.cell? ⟨w.heap.size, 0, none⟩ = some (.string a) ∧ W.cell? ⟨w.heap.size, 1, none⟩ = some (.string b)) :=
          fun W v4 v5 h h2 => ⟨h, bthen HB.out h2, keepCell h2 D0.out, keepCell h2 D1.out⟩
        clear hst hbest hb hlA HR
        go_wp2_with fail
        refine HBG.out.mono ?_
        rintro e w2 ⟨(⟨hn, rfl⟩ | ⟨q, s, qb, vj, vw, hbq, rfl, hqs, hq, hs, hok, hj, hn0, hn1⟩), hb2⟩
        · have HBN : Hid (begunV A = none) := hn
          have HB2 := Lib.hid hb2
          have HF : Hid (∀ N v4 v5, BestAt w wr (lenN A C) (bestN A C 0) v4 v5 → BestAt w (w2.drewN N) (lenN A C) (bestN A C (0 + 1)) v4 v5) := fun N v4 v5 h => by
            rw [HST.out, HBN.out]
            rcases h with ⟨h1, h2, h3⟩ | ⟨q, s, qb, sb, vj, vw, h1, h2, h3, h4⟩
            · exact .inl ⟨h1, h2, h3⟩
            · exact .inr ⟨q, s, qb, sb, vj, vw, h1, h2, h3, (h4.below HB2.out).drewN N⟩
          clear hb2 hn d0 d1 HBG
          go_upto_region 9 with fail
          go_quiet (fail)
          go_wp2
          go_roundw
          case rel => exact ⟨0 + 1, by omega, by go_num, HNX.out _ _ _ (HF.out _ _ _ HBB.out) (bdrewN HB2.out _)⟩
          case measure => simp [intOf]
        · have HBN : Hid (begunV A = some (q, s)) := hbq
          have HB2 := Lib.hid hb2
          have HBI : Hid (∀ N, BestIs w ((w2.drewN N).setCell ⟨qb, 0, none⟩ (.int .i64 0)) (lenN A C) { q with area := 0 } s qb wr.heap.size vj vw) := fun N =>
            ⟨QAt.put (q' := { q with area := 0 }) (hq.drewN N) (i := 0) (by omega) _ rfl rfl fun j hj => (by
                match j, hj with
                | 0, _ => rfl
                | 1, _ => rfl
                | 2, _ => rfl
                | 3, _ => rfl
                | 4, _ => rfl
                | 5, _ => rfl
                | 6, _ => rfl
                | 7, _ => rfl
                | 8, _ => rfl
                | 9, _ => rfl
                | 10, _ => rfl), ScAt.base (B := qb) (FTab.drewN hs N) ((Below.refl qb _).setCell (p := ⟨qb, 0, none⟩) (Nat.le_refl _) _) hqs, hok, hj, hn0, hn1, hd, hqs, .inl rfl, by
                have h := begun_sum hbq
                exact h⟩
          have HBL : Hid (∀ N, Below wr.heap.size wr ((w2.drewN N).setCell ⟨qb, 0, none⟩ (.int .i64 0))) := fun N => (bdrewN HB2.out N).setCell (p := ⟨qb, 0, none⟩) (by show wr.heap.size ≤ qb; omega) _
          have hlq := hq.lt
          have HQT := Lib.hid hq.tab
          clear hb2 hbq hs hok hj hn0 hn1 d0 d1 HBG
          have hbest := HBB.out
          rcases hbest with ⟨hn, rfl, rfl⟩ | ⟨q0, s0, qb0, sb0, vj0, vw0, hb0, rfl, rfl, hbi0⟩
          · have HNW : Hid (bestN A C (0 + 1) = some ({ q with area := 0 }, s)) := by show _ = _; rw [HST.out, HBN.out, hn]; rfl
            clear hn hq
            go_upto_region 9 with fail
            go_quiet (fail)
            have e0 : (w2.drewN nq).cell? ⟨qb, 0, none⟩ = some (.int .i64 q.area) := HQT.out.at' 0 (by omega)
            have ef := (HQT.out.drewN nq).fz 0
            go_wp2
            go_roundw
            case rel => exact ⟨0 + 1, by omega, by go_num, HNX.out _ _ _ (.inr ⟨_, s, qb, wr.heap.size, vj, vw, HNW.out, rfl, rfl, HBI.out _⟩) (HBL.out _)⟩
            case measure => simp [intOf]
          · have hbi2 := hbi0.below HB2.out
            have HOLD := Lib.hid hbi2
            have g1 : w2.cell? ⟨qb, 1, none⟩ = some (.int .i64 q.epoch) := HQT.out.at' 1 (by omega)
            have g2 : w2.cell? ⟨qb0, 1, none⟩ = some (.int .i64 q0.epoch) := hbi2.at1.tab.at' 1 (by omega)
            by_cases hep : q0.epoch < q.epoch
            · have HNW : Hid (bestN A C (0 + 1) = some ({ q with area := 0 }, s)) := by show _ = _; rw [HST.out, HBN.out, hb0]; exact if_pos hep
              clear hq hb0 hbi0 hbi2
              go_upto_region 9 with fail
              go_quiet (fail)
              have e0 : (w2.drewN nq).cell? ⟨qb, 0, none⟩ = some (.int .i64 q.area) := HQT.out.at' 0 (by omega)
              have ef := (HQT.out.drewN nq).fz 0
              go_wp2
              go_roundw
              case rel => exact ⟨0 + 1, by omega, by go_num, HNX.out _ _ _ (.inr ⟨_, s, qb, wr.heap.size, vj, vw, HNW.out, rfl, rfl, HBI.out _⟩) (HBL.out _)⟩
              case measure => simp [intOf]
            · have HNW : Hid (bestN A C (0 + 1) = some (q0, s0)) := by show _ = _; rw [HST.out, HBN.out, hb0]; exact if_neg hep
              clear hq hb0 hbi0 hbi2
              go_upto_region 9 with fail
              go_quiet (fail)
              go_wp2
              go_roundw
              case rel => exact ⟨0 + 1, by omega, by go_num, HNX.out _ _ _ (.inr ⟨q0, s0, qb0, sb0, vj0, vw0, HNW.out, rfl, rfl, HOLD.out.drewN _⟩) (bdrewN HB2.out _)⟩
              case measure => simp [intOf]
      ·
        have hix : ∀ W, (Instr.index 56 (.agg #[.string a, .string b]) (.int .i64 1)).run Tryz.prog W = .ok (.string b) W := fun _ => by kernel_rfl
        have hst : bestN A C (1 + 1) = bestV (bestN A C 1) 1 (begunV C) := rfl
        obtain ⟨hbest, hb, d0, d1⟩ := HR.out
        have HBG : Hid (Calls Tryz.prog 23 #[.string b] wr (RetBeg C wr)) := by
          have h := begun_any b wr hlb2 (HTB.out wr hb)
          rw [← HC.out] at h
          exact h
        have hlC : C.length = b.size := HLN.out.2
        have HLX := Lib.hid hlC
        have hwz := hb.size
        have hd := cell?_lt d0
        simp only at hd
        have HST := Lib.hid hst
        have HBB := Lib.hid hbest
        have HB := Lib.hid hb
        have D0 := Lib.hid d0
        have D1 := Lib.hid d1
        have HNX : Hid (∀ W v4 v5, BestAt w W (lenN A C) (bestN A C (1 + 1)) v4 v5 → Below wr.heap.size wr W → BestAt w W (lenN A C) (bestN A C (1 + 1)) v4 v5 ∧ Below w.heap.size w W ∧ W.cell? ⟨w.heap.size, 0, none⟩ = some (.string a) ∧ W.cell? ⟨w.heap.size, 1, none⟩ = some (.string b)) :=
          fun W v4 v5 h h2 => ⟨h, bthen HB.out h2, keepCell h2 D0.out, keepCell h2 D1.out⟩
        clear hst hbest hb hlC HR
        go_wp2_with fail
        refine HBG.out.mono ?_
        rintro e w2 ⟨(⟨hn, rfl⟩ | ⟨q, s, qb, vj, vw, hbq, rfl, hqs, hq, hs, hok, hj, hn0, hn1⟩), hb2⟩
        · have HBN : Hid (begunV C = none) := hn
          have HB2 := Lib.hid hb2
          have HF : Hid (∀ N v4 v5, BestAt w wr (lenN A C) (bestN A C 1) v4 v5 → BestAt w (w2.drewN N) (lenN A C) (bestN A C (1 + 1)) v4 v5) := fun N v4 v5 h => by
            rw [HST.out, HBN.out]
            rcases h with ⟨h1, h2, h3⟩ | ⟨q, s, qb, sb, vj, vw, h1, h2, h3, h4⟩
            · exact .inl ⟨h1, h2, h3⟩
            · exact .inr ⟨q, s, qb, sb, vj, vw, h1, h2, h3, (h4.below HB2.out).drewN N⟩
          clear hb2 hn d0 d1 HBG
          go_upto_region 9 with fail
          go_quiet (fail)
          go_wp2
          go_roundw
          case rel => exact ⟨1 + 1, by omega, by go_num, HNX.out _ _ _ (HF.out _ _ _ HBB.out) (bdrewN HB2.out _)⟩
          case measure => simp [intOf]
        · have HBN : Hid (begunV C = some (q, s)) := hbq
          have HB2 := Lib.hid hb2
          have HBI : Hid (∀ N, BestIs w ((w2.drewN N).setCell ⟨qb, 0, none⟩ (.int .i64 1)) (lenN A C) { q with area := 1 } s qb wr.heap.size vj vw) := fun N =>
            ⟨QAt.put (q' := { q with area := 1 }) (hq.drewN N) (i := 0) (by omega) _ rfl rfl fun j hj => (by
                match j, hj with
                | 0, _ => rfl
                | 1, _ => rfl
                | 2, _ => rfl
                | 3, _ => rfl
                | 4, _ => rfl
                | 5, _ => rfl
                | 6, _ => rfl
                | 7, _ => rfl
                | 8, _ => rfl
                | 9, _ => rfl
                | 10, _ => rfl), ScAt.base (B := qb) (FTab.drewN hs N) ((Below.refl qb _).setCell (p := ⟨qb, 0, none⟩) (Nat.le_refl _) _) hqs, hok, hj, hn0, hn1, hd, hqs, .inr rfl, by
                have h := begun_sum hbq
                exact h⟩
          have HBL : Hid (∀ N, Below wr.heap.size wr ((w2.drewN N).setCell ⟨qb, 0, none⟩ (.int .i64 1))) := fun N => (bdrewN HB2.out N).setCell (p := ⟨qb, 0, none⟩) (by show wr.heap.size ≤ qb; omega) _
          have hlq := hq.lt
          have HQT := Lib.hid hq.tab
          clear hb2 hbq hs hok hj hn0 hn1 d0 d1 HBG
          have hbest := HBB.out
          rcases hbest with ⟨hn, rfl, rfl⟩ | ⟨q0, s0, qb0, sb0, vj0, vw0, hb0, rfl, rfl, hbi0⟩
          · have HNW : Hid (bestN A C (1 + 1) = some ({ q with area := 1 }, s)) := by show _ = _; rw [HST.out, HBN.out, hn]; rfl
            clear hn hq
            go_upto_region 9 with fail
            go_quiet (fail)
            have e0 : (w2.drewN nq).cell? ⟨qb, 0, none⟩ = some (.int .i64 q.area) := HQT.out.at' 0 (by omega)
            have ef := (HQT.out.drewN nq).fz 0
            go_wp2
            go_roundw
            case rel => exact ⟨1 + 1, by omega, by go_num, HNX.out _ _ _ (.inr ⟨_, s, qb, wr.heap.size, vj, vw, HNW.out, rfl, rfl, HBI.out _⟩) (HBL.out _)⟩
            case measure => simp [intOf]
          · have hbi2 := hbi0.below HB2.out
            have HOLD := Lib.hid hbi2
            have g1 : w2.cell? ⟨qb, 1, none⟩ = some (.int .i64 q.epoch) := HQT.out.at' 1 (by omega)
            have g2 : w2.cell? ⟨qb0, 1, none⟩ = some (.int .i64 q0.epoch) := hbi2.at1.tab.at' 1 (by omega)
            by_cases hep : q0.epoch < q.epoch
            · have HNW : Hid (bestN A C (1 + 1) = some ({ q with area := 1 }, s)) := by show _ = _; rw [HST.out, HBN.out, hb0]; exact if_pos hep
              clear hq hb0 hbi0 hbi2
              go_upto_region 9 with fail
              go_quiet (fail)
              have e0 : (w2.drewN nq).cell? ⟨qb, 0, none⟩ = some (.int .i64 q.area) := HQT.out.at' 0 (by omega)
              have ef := (HQT.out.drewN nq).fz 0
              go_wp2
              go_roundw
              case rel => exact ⟨1 + 1, by omega, by go_num, HNX.out _ _ _ (.inr ⟨_, s, qb, wr.heap.size, vj, vw, HNW.out, rfl, rfl, HBI.out _⟩) (HBL.out _)⟩
              case measure => simp [intOf]
            · have HNW : Hid (bestN A C (1 + 1) = some (q0, s0)) := by show _ = _; rw [HST.out, HBN.out, hb0]; exact if_neg hep
              clear hq hb0 hbi0 hbi2
              go_upto_region 9 with fail
              go_quiet (fail)
              go_wp2
              go_roundw
              case rel => exact ⟨1 + 1, by omega, by go_num, HNX.out _ _ _ (.inr ⟨q0, s0, qb0, sb0, vj0, vw0, HNW.out, rfl, rfl, HOLD.out.drewN _⟩) (bdrewN HB2.out _)⟩
              case measure => simp [intOf]
    · obtain rfl : k = 2 := by omega
      obtain ⟨hbest, hb, d0, d1⟩ := HR.out
      have HB := Lib.hid hb
      clear hb HR
      rcases hbest with ⟨hn, rfl, rfl⟩ | ⟨q, s, qb, sb, vj, vw, hbq, rfl, rfl, hbi⟩
      · have HF : Hid (RetOpen A C w (.returned (.tuple #[.pointer none, .int .i64 21])) wr) := ⟨.inl ⟨21, openV_lost HSM.out hn, rfl⟩, HB.out⟩
        clear hn d0 d1
        go_wp2
        go_ret2
        exact HF.out
      · have HBQ : Hid (bestAB A C = some (q, s)) := hbq
        have HLO : Hid (LoopO w wr (lenN A C) a b qb sb q s) := ⟨q, s, vj, vw, s.rest.length + 1, hbi, Nat.lt_succ_self _, rfl, rfl, HB.out, d0, d1⟩
        clear hbi hbq d0 d1 HB
        go_wp2_with fail
        go_loopw [5] (fun v5 wx => v5 = .pointer (some ⟨sb, 0, none⟩) ∧ Hid (LoopO w wx (lenN A C) a b qb sb q s)) (fun _ wx => restN sb wx)
        case atStart => exact ⟨rfl, HLO.out⟩
        case round =>
          clear HLO
          obtain ⟨rfl, HLP⟩ := hrel
          obtain ⟨q1, s1, vj1, vw1, n, hbi, hn, hrun, har, hb, d0, d1⟩ := HLP.out
          have f0 : wr.cell? ⟨sb, 0, none⟩ = some (.string (strB s1.rest)) := FTab.at' hbi.at2 0 (by omega)
          have f1 : wr.cell? ⟨sb, 1, none⟩ = some (.int .i64 s1.epoch) := FTab.at' hbi.at2 1 (by omega)
          have f2 : wr.cell? ⟨sb, 2, none⟩ = some (.int .i64 s1.seq) := FTab.at' hbi.at2 2 (by omega)
          have f3 : wr.cell? ⟨sb, 3, none⟩ = some (.int .i64 s1.read) := FTab.at' hbi.at2 3 (by omega)
          have hsl := hbi.at2.lt
          have hqw0 := hbi.at1.lt
          have HBI := Lib.hid hbi
          clear hbi
          go_upto_region 16 with fail
          have HSV := Lib.hid (scan_of s1 wr)
          have hba := balloc (Below.refl _ wr) (.cells #[.string (strB s1.rest), .int .i64 s1.epoch, .int .i64 s1.seq, .int .i64 s1.read] 63)
          have hsa : (wr.alloc (.cells #[.string (strB s1.rest), .int .i64 s1.epoch, .int .i64 s1.seq, .int .i64 s1.read] 63)).heap.size = wr.heap.size + 1 := World.size_alloc _ _
          have HB3 := Lib.hid (hb.trans (hba.mono hb.size))
          have HBI3 := Lib.hid (HBI.out.below hba)
          have d0 := keepCell hba d0
          have d1 := keepCell hba d1
          have hwd := cell?_lt d0
          simp only at hwd
          have F0 := Lib.hid f0
          clear f0 f1 f2 f3 HBI hba hb
          have hwr0 : w.heap.size ≤ wr.heap.size := by have := HBI3.out.old; omega
          generalize wr.alloc (.cells #[.string (strB s1.rest), .int .i64 s1.epoch, .int .i64 s1.seq, .int .i64 s1.read] 63) = w3 at *
          have hold := HBI3.out.old
          have hltq := HBI3.out.lt
          have hqw := HBI3.out.at1.lt
          have HRA := Lib.hid (rec_any sb s1 w3 HBI3.out.at2 HBI3.out.ok (fun W ho => HTB.out W (HB3.out.trans (ho.toBelow (by omega) (by omega)))))
          go_wp2_with fail
          refine HRA.out.mono ?_
          rintro e w4 (⟨l, s4, hrv, g4, rfl, hg, hws, hsc, hon⟩ | ⟨s4, hrv, rfl, hsc, hon⟩)
          · have hyes := recV_yes HBI3.out.ok hrv
            have HYES := Lib.hid hyes
            have hrs := recV_sum hrv HBI3.out.sum
            have HRS := Lib.hid hrs
            have hz4 := hon.size
            have HQ4 : Hid (QAt w4 qb qb q1 vj1 vw1) := HBI3.out.at1.only hon hltq
            have HSV4 : Hid (ScAt w4 wr.heap.size s1) := FTab.ofBlock HSV.out (hon.block _ (by omega) (by omega))
            have HSC4 := Lib.hid hsc
            have HB4 : Hid (Below w.heap.size w w4) := HB3.out.trans (hon.toBelow (by omega) (by omega))
            have HAP := Lib.hid (apply_any qb qb g4 (l.length + 1) q1 vj1 vw1 l w4 HQ4.out (by omega) (HTB.out w4 HB4.out) hws hyes.len hyes.many HBI3.out.j HBI3.out.n0 HBI3.out.n1)
            have d0 := hon.cell (show w.heap.size ≠ sb by omega) d0
            have d1 := hon.cell (show w.heap.size ≠ sb by omega) d1
            have D0 := Lib.hid d0
            have D1 := Lib.hid d1
            have HRV := Lib.hid hrv
            have hmany := hyes.many
            have hwd4 : w.heap.size < w4.heap.size := by omega
            clear hyes hrs hsc hon hrv hws HRA d0 d1 HSV HB3
            go_wp2_with fail
            refine HAP.out.mono ?_
            rintro e wz (⟨hr, rfl, hb⟩ | ⟨q', vj', vw', hr, rfl, hq', ht'⟩)
            · have hrf : runV n q1 s1 = (q1, s1) := by
                obtain ⟨m, rfl⟩ : ∃ m, n = m + 1 := ⟨n - 1, by omega⟩
                exact run_bad HRV.out hr
              have HQF : Hid (QAt wz qb qb q1 vj1 vw1) := HQ4.out.below hb
              have HSF : Hid (ScAt wz wr.heap.size s1) := HSV4.out.below hb
              have hsum := HBI3.out.sum
              have hrd1 := HBI3.out.ok.rd
              have harr := HBI3.out.ar
              have HRF : Hid (runV (s.rest.length + 1) q s = (q1, s1)) := hrun.trans hrf
              have HBW : Hid (Below w.heap.size w wz) := bthen HB4.out hb
              have hqsv : qb ≠ wr.heap.size := by omega
              have d0 := keepCell hb D0.out
              have d1 := keepCell hb D1.out
              clear HBI3 hrun hrf hb HAP HQ4 HSV4 HSC4 HB4 HYES HRS HRV
              go_upto_region 19 with fail
              have e6 : wz.cell? ⟨qb, 6, none⟩ = some (.string q1.a0) := HQF.out.tab.at' 6 (by omega)
              have e7 : wz.cell? ⟨qb, 7, none⟩ = some (.string q1.a1) := HQF.out.tab.at' 7 (by omega)
              have ef := HQF.out.tab.fz
              go_upto_region 20 with fail
              have hqlt := HQF.out.lt
              have HQ5 : Hid (QAt ((wz.setCell ⟨qb, 6, none⟩ (.string a)).setCell ⟨qb, 7, none⟩ (.string b)) qb qb { q1 with a0 := a, a1 := b } vj1 vw1) := by
                have h1 := QAt.put (q' := { q1 with a0 := a }) HQF.out (i := 6) (by omega) (.string a) rfl rfl fun j hj => (by
                      match j, hj with
                      | 0, _ => rfl
                      | 1, _ => rfl
                      | 2, _ => rfl
                      | 3, _ => rfl
                      | 4, _ => rfl
                      | 5, _ => rfl
                      | 6, _ => rfl
                      | 7, _ => rfl
                      | 8, _ => rfl
                      | 9, _ => rfl
                      | 10, _ => rfl)
                exact QAt.put (q' := { q1 with a0 := a, a1 := b }) h1 (i := 7) (by omega) (.string b) rfl rfl fun j hj => (by
                      match j, hj with
                      | 0, _ => rfl
                      | 1, _ => rfl
                      | 2, _ => rfl
                      | 3, _ => rfl
                      | 4, _ => rfl
                      | 5, _ => rfl
                      | 6, _ => rfl
                      | 7, _ => rfl
                      | 8, _ => rfl
                      | 9, _ => rfl
                      | 10, _ => rfl)
              have HS5 : Hid (ScAt ((wz.setCell ⟨qb, 6, none⟩ (.string a)).setCell ⟨qb, 7, none⟩ (.string b)) wr.heap.size s1) := FTab.ofBlock HSF.out (by
                rw [Below.heap_setCell _ _ _ _ (fun e => hqsv e.symm), Below.heap_setCell _ _ _ _ (fun e => hqsv e.symm)])
              have HB5 : Hid (Below w.heap.size w ((wz.setCell ⟨qb, 6, none⟩ (.string a)).setCell ⟨qb, 7, none⟩ (.string b))) := (HBW.out.setCell (p := ⟨qb, 6, none⟩) (by show w.heap.size ≤ qb; omega) _).setCell (p := ⟨qb, 7, none⟩) (by show w.heap.size ≤ qb; omega) _
              clear e6 e7 ef d0 d1 HQF HSF HBW
              generalize (wz.setCell ⟨qb, 6, none⟩ (.string a)).setCell ⟨qb, 7, none⟩ (.string b) = w5 at *
              have g6 : w5.cell? ⟨qb, 6, none⟩ = some (.string a) := HQ5.out.tab.at' 6 (by omega)
              have g7 : w5.cell? ⟨qb, 7, none⟩ = some (.string b) := HQ5.out.tab.at' 7 (by omega)
              have gf := HQ5.out.tab.fz
              obtain ⟨rd, hrd⟩ : ∃ rd : Nat, s1.read = (rd : Int) := ⟨s1.read.toNat, by omega⟩
              have g3 : w5.cell? ⟨wr.heap.size, 3, none⟩ = some (.int .i64 (rd : Int)) := by rw [← hrd]; exact FTab.at' HS5.out 3 (by omega)
              have g0 : w5.cell? ⟨qb, 0, none⟩ = some (.int .i64 q1.area) := HQ5.out.tab.at' 0 (by omega)
              have hrd0 : (0 : Int) ≤ (rd : Int) := by omega
              rcases harr with har0 | har0
              · rw [har0] at g0 hsum
                have hle : rd ≤ a.size := by have h := HLN.out.1; unfold Sums at hsum; rw [h] at hsum; omega
                have HEQ : Hid (endQ A C (q1, s1) = { q1 with a0 := a.extract 0 rd, a1 := b, size := (rd : Int), seq := s1.seq }) := by
                  show endQ A C (q1, s1) = _
                  unfold endQ
                  simp only
                  rw [har0]
                  rw [if_pos rfl, if_pos rfl]
                  rw [hrd, show ((rd : Nat) : Int).toNat = rd from rfl]
                  have x1 : strB (A.take rd) = a.extract 0 rd := by
                    rw [HA.out]
                    apply ByteArray.ext
                    apply Array.ext'
                    rw [extractL]
                    rfl
                  have x2 : strB C = b := by rw [HC.out]; exact strB_eq _
                  rw [x1, x2]
                have HOP : Hid (openV A C = .ok { q1 with a0 := a.extract 0 rd, a1 := b, size := (rd : Int), seq := s1.seq }) := by
                  show openV A C = _
                  rw [openV_ok HSM.out HBQ.out, HRF.out, HEQ.out]
                have HQ6 : Hid (QAt (w5.setCell ⟨qb, 6, none⟩ (.string (a.extract 0 rd))).drew qb qb { q1 with a0 := a.extract 0 rd, a1 := b } vj1 vw1) := by
                  have h1 := QAt.put (q' := { q1 with a0 := a.extract 0 rd, a1 := b }) HQ5.out (i := 6) (by omega) (.string (a.extract 0 rd)) rfl rfl fun j hj => (by
                    match j, hj with
                    | 0, _ => rfl
                    | 1, _ => rfl
                    | 2, _ => rfl
                    | 3, _ => rfl
                    | 4, _ => rfl
                    | 5, _ => rfl
                    | 6, _ => rfl
                    | 7, _ => rfl
                    | 8, _ => rfl
                    | 9, _ => rfl
                    | 10, _ => rfl)
                  exact h1.drewN 1
                have HS6 : Hid (ScAt (w5.setCell ⟨qb, 6, none⟩ (.string (a.extract 0 rd))).drew wr.heap.size s1) := FTab.drewN (FTab.ofBlock HS5.out (by rw [Below.heap_setCell _ _ _ _ (fun e => hqsv e.symm)])) 1
                have HB6 : Hid (Below w.heap.size w (w5.setCell ⟨qb, 6, none⟩ (.string (a.extract 0 rd))).drew) := bdrewN (HB5.out.setCell (p := ⟨qb, 6, none⟩) (by show w.heap.size ≤ qb; omega) _) 1
                have hle2 : (rd : Int) ≤ (a.size : Int) := by omega
                clear HQ5 HS5 HB5
                go_region
                all_goals
                  clear g0 g3 g6 g7 gf
                  generalize (w5.setCell ⟨qb, 6, none⟩ (.string (a.extract 0 rd))).drew = w6 at *
                  have k3 : w6.cell? ⟨wr.heap.size, 3, none⟩ = some (.int .i64 (rd : Int)) := by rw [← hrd]; exact FTab.at' HS6.out 3 (by omega)
                  have k2 : w6.cell? ⟨wr.heap.size, 2, none⟩ = some (.int .i64 s1.seq) := FTab.at' HS6.out 2 (by omega)
                  have k9 : w6.cell? ⟨qb, 9, none⟩ = some (.int .i64 q1.size) := HQ6.out.tab.at' 9 (by omega)
                  have k10 : w6.cell? ⟨qb, 10, none⟩ = some (.int .i64 q1.seq) := HQ6.out.tab.at' 10 (by omega)
                  have kf := HQ6.out.tab.fz
                  have HF : Hid (RetOpen A C w (.returned (.tuple #[.pointer (some ⟨qb, 0, none⟩), .int .i64 0])) ((w6.setCell ⟨qb, 9, none⟩ (.int .i64 (rd : Int))).setCell ⟨qb, 10, none⟩ (.int .i64 s1.seq)).drew) := by
                    have h2 := QAt.put (q' := { q1 with a0 := a.extract 0 rd, a1 := b, size := (rd : Int) }) HQ6.out (i := 9) (by omega) (.int .i64 (rd : Int)) rfl rfl fun j hj => (by
                    match j, hj with
                    | 0, _ => rfl
                    | 1, _ => rfl
                    | 2, _ => rfl
                    | 3, _ => rfl
                    | 4, _ => rfl
                    | 5, _ => rfl
                    | 6, _ => rfl
                    | 7, _ => rfl
                    | 8, _ => rfl
                    | 9, _ => rfl
                    | 10, _ => rfl)
                    have h3 := QAt.put (q' := { q1 with a0 := a.extract 0 rd, a1 := b, size := (rd : Int), seq := s1.seq }) h2 (i := 10) (by omega) (.int .i64 s1.seq) rfl rfl fun j hj => (by
                    match j, hj with
                    | 0, _ => rfl
                    | 1, _ => rfl
                    | 2, _ => rfl
                    | 3, _ => rfl
                    | 4, _ => rfl
                    | 5, _ => rfl
                    | 6, _ => rfl
                    | 7, _ => rfl
                    | 8, _ => rfl
                    | 9, _ => rfl
                    | 10, _ => rfl)
                    exact ⟨.inr ⟨_, qb, vj1, vw1, HOP.out, rfl, by omega, h3.drewN 1⟩, bdrewN ((HB6.out.setCell (p := ⟨qb, 9, none⟩) (by show w.heap.size ≤ qb; omega) _).setCell (p := ⟨qb, 10, none⟩) (by show w.heap.size ≤ qb; omega) _) 1⟩
                  clear HQ6 HS6 HB6
                  go_upto_region 21 with fail
                  go_region
                  all_goals
                    go_wp2
                    go_ret2
                    exact HF.out
              · rw [har0] at g0 hsum
                have hle : rd ≤ b.size := by have h := HLN.out.2; unfold Sums at hsum; rw [h] at hsum; omega
                have HEQ : Hid (endQ A C (q1, s1) = { q1 with a0 := a, a1 := b.extract 0 rd, size := (rd : Int), seq := s1.seq }) := by
                  show endQ A C (q1, s1) = _
                  unfold endQ
                  simp only
                  rw [har0]
                  rw [if_neg (by decide), if_neg (by decide)]
                  rw [hrd, show ((rd : Nat) : Int).toNat = rd from rfl]
                  have x1 : strB (C.take rd) = b.extract 0 rd := by
                    rw [HC.out]
                    apply ByteArray.ext
                    apply Array.ext'
                    rw [extractL]
                    rfl
                  have x2 : strB A = a := by rw [HA.out]; exact strB_eq _
                  rw [x1, x2]
                have HOP : Hid (openV A C = .ok { q1 with a0 := a, a1 := b.extract 0 rd, size := (rd : Int), seq := s1.seq }) := by
                  show openV A C = _
                  rw [openV_ok HSM.out HBQ.out, HRF.out, HEQ.out]
                have HQ6 : Hid (QAt (w5.setCell ⟨qb, 7, none⟩ (.string (b.extract 0 rd))).drew qb qb { q1 with a0 := a, a1 := b.extract 0 rd } vj1 vw1) := by
                  have h1 := QAt.put (q' := { q1 with a0 := a, a1 := b.extract 0 rd }) HQ5.out (i := 7) (by omega) (.string (b.extract 0 rd)) rfl rfl fun j hj => (by
                    match j, hj with
                    | 0, _ => rfl
                    | 1, _ => rfl
                    | 2, _ => rfl
                    | 3, _ => rfl
                    | 4, _ => rfl
                    | 5, _ => rfl
                    | 6, _ => rfl
                    | 7, _ => rfl
                    | 8, _ => rfl
                    | 9, _ => rfl
                    | 10, _ => rfl)
                  exact h1.drewN 1
                have HS6 : Hid (ScAt (w5.setCell ⟨qb, 7, none⟩ (.string (b.extract 0 rd))).drew wr.heap.size s1) := FTab.drewN (FTab.ofBlock HS5.out (by rw [Below.heap_setCell _ _ _ _ (fun e => hqsv e.symm)])) 1
                have HB6 : Hid (Below w.heap.size w (w5.setCell ⟨qb, 7, none⟩ (.string (b.extract 0 rd))).drew) := bdrewN (HB5.out.setCell (p := ⟨qb, 7, none⟩) (by show w.heap.size ≤ qb; omega) _) 1
                have hle2 : (rd : Int) ≤ (b.size : Int) := by omega
                clear HQ5 HS5 HB5
                go_region
                all_goals
                  clear g0 g3 g6 g7 gf
                  generalize (w5.setCell ⟨qb, 7, none⟩ (.string (b.extract 0 rd))).drew = w6 at *
                  have k3 : w6.cell? ⟨wr.heap.size, 3, none⟩ = some (.int .i64 (rd : Int)) := by rw [← hrd]; exact FTab.at' HS6.out 3 (by omega)
                  have k2 : w6.cell? ⟨wr.heap.size, 2, none⟩ = some (.int .i64 s1.seq) := FTab.at' HS6.out 2 (by omega)
                  have k9 : w6.cell? ⟨qb, 9, none⟩ = some (.int .i64 q1.size) := HQ6.out.tab.at' 9 (by omega)
                  have k10 : w6.cell? ⟨qb, 10, none⟩ = some (.int .i64 q1.seq) := HQ6.out.tab.at' 10 (by omega)
                  have kf := HQ6.out.tab.fz
                  have HF : Hid (RetOpen A C w (.returned (.tuple #[.pointer (some ⟨qb, 0, none⟩), .int .i64 0])) ((w6.setCell ⟨qb, 9, none⟩ (.int .i64 (rd : Int))).setCell ⟨qb, 10, none⟩ (.int .i64 s1.seq)).drew) := by
                    have h2 := QAt.put (q' := { q1 with a0 := a, a1 := b.extract 0 rd, size := (rd : Int) }) HQ6.out (i := 9) (by omega) (.int .i64 (rd : Int)) rfl rfl fun j hj => (by
                    match j, hj with
                    | 0, _ => rfl
                    | 1, _ => rfl
                    | 2, _ => rfl
                    | 3, _ => rfl
                    | 4, _ => rfl
                    | 5, _ => rfl
                    | 6, _ => rfl
                    | 7, _ => rfl
                    | 8, _ => rfl
                    | 9, _ => rfl
                    | 10, _ => rfl)
                    have h3 := QAt.put (q' := { q1 with a0 := a, a1 := b.extract 0 rd, size := (rd : Int), seq := s1.seq }) h2 (i := 10) (by omega) (.int .i64 s1.seq) rfl rfl fun j hj => (by
                    match j, hj with
                    | 0, _ => rfl
                    | 1, _ => rfl
                    | 2, _ => rfl
                    | 3, _ => rfl
                    | 4, _ => rfl
                    | 5, _ => rfl
                    | 6, _ => rfl
                    | 7, _ => rfl
                    | 8, _ => rfl
                    | 9, _ => rfl
                    | 10, _ => rfl)
                    exact ⟨.inr ⟨_, qb, vj1, vw1, HOP.out, rfl, by omega, h3.drewN 1⟩, bdrewN ((HB6.out.setCell (p := ⟨qb, 9, none⟩) (by show w.heap.size ≤ qb; omega) _).setCell (p := ⟨qb, 10, none⟩) (by show w.heap.size ≤ qb; omega) _) 1⟩
                  clear HQ6 HS6 HB6
                  go_upto_region 21 with fail
                  go_region
                  all_goals
                    go_wp2
                    go_ret2
                    exact HF.out
            · have hbs := ht'.base HQ4.out (by omega)
              have hao := applyV_ok hr HBI3.out.j HBI3.out.n0 HBI3.out.n1
              have hsz := HSC4.out.base hbs hltq
              have F0Z : Hid (wz.cell? ⟨sb, 0, none⟩ = some (.string (strB s4.rest))) := FTab.at' hsz 0 (by omega)
              have HNL : Hid (LoopO w wz (lenN A C) a b qb sb q s) := by
                obtain ⟨m, rfl⟩ : ∃ m, n = m + 1 := ⟨n - 1, by omega⟩
                have h1 := HRS.out.2
                refine ⟨q', s4, vj', vw', m, ⟨hq', hsz, HYES.out.ok, hao.1, hao.2.1, hao.2.2.1, hold, hltq, by rw [hao.2.2.2]; exact HBI3.out.ar, by rw [hao.2.2.2]; exact HRS.out.1⟩, by omega, by rw [hrun, run_yes HRV.out hr], by rw [hao.2.2.2, har], HB4.out.trans (hbs.mono (by omega)), ?_, ?_⟩
                · rw [World.cell?_of_block (hbs.block _ (by show w.heap.size < qb; omega))]; exact D0.out
                · rw [World.cell?_of_block (hbs.block _ (by show w.heap.size < qb; omega))]; exact D1.out
              clear hq' ht' hbs hao hsz
              go_wp2
              go_roundw
              case rel => exact ⟨_, _, _, _, _, _, _, _, _, _, _, _, _, _, _, _, _, _, _, _, ⟨rfl, HNL⟩, rfl⟩
              case measure => rw [restN_at F0Z.out, restN_at F0.out, strB_size, strB_size]; exact HRS.out.2
          · have d0 := hon.cell (show w.heap.size ≠ sb by omega) d0
            have d1 := hon.cell (show w.heap.size ≠ sb by omega) d1
            have hrf : runV n q1 s1 = (q1, s1) := by
              obtain ⟨m, rfl⟩ : ∃ m, n = m + 1 := ⟨n - 1, by omega⟩
              exact run_none hrv
            have HQF : Hid (QAt w4 qb qb q1 vj1 vw1) := HBI3.out.at1.only hon hltq
            have HSF : Hid (ScAt w4 wr.heap.size s1) := FTab.ofBlock HSV.out (hon.block _ (by omega) (by omega))
            have hsum := HBI3.out.sum
            have hrd1 := HBI3.out.ok.rd
            have harr := HBI3.out.ar
            have HRF : Hid (runV (s.rest.length + 1) q s = (q1, s1)) := hrun.trans hrf
            have HBW : Hid (Below w.heap.size w w4) := HB3.out.trans (hon.toBelow (by omega) (by omega))
            have hqsv : qb ≠ wr.heap.size := by omega
            clear HBI3 HRA hsc hon hrv hrun hrf HSV HB3
            go_upto_region 19 with fail
            have e6 : w4.cell? ⟨qb, 6, none⟩ = some (.string q1.a0) := HQF.out.tab.at' 6 (by omega)
            have e7 : w4.cell? ⟨qb, 7, none⟩ = some (.string q1.a1) := HQF.out.tab.at' 7 (by omega)
            have ef := HQF.out.tab.fz
            go_upto_region 20 with fail
            have hqlt := HQF.out.lt
            have HQ5 : Hid (QAt ((w4.setCell ⟨qb, 6, none⟩ (.string a)).setCell ⟨qb, 7, none⟩ (.string b)) qb qb { q1 with a0 := a, a1 := b } vj1 vw1) := by
              have h1 := QAt.put (q' := { q1 with a0 := a }) HQF.out (i := 6) (by omega) (.string a) rfl rfl fun j hj => (by
                    match j, hj with
                    | 0, _ => rfl
                    | 1, _ => rfl
                    | 2, _ => rfl
                    | 3, _ => rfl
                    | 4, _ => rfl
                    | 5, _ => rfl
                    | 6, _ => rfl
                    | 7, _ => rfl
                    | 8, _ => rfl
                    | 9, _ => rfl
                    | 10, _ => rfl)
              exact QAt.put (q' := { q1 with a0 := a, a1 := b }) h1 (i := 7) (by omega) (.string b) rfl rfl fun j hj => (by
                    match j, hj with
                    | 0, _ => rfl
                    | 1, _ => rfl
                    | 2, _ => rfl
                    | 3, _ => rfl
                    | 4, _ => rfl
                    | 5, _ => rfl
                    | 6, _ => rfl
                    | 7, _ => rfl
                    | 8, _ => rfl
                    | 9, _ => rfl
                    | 10, _ => rfl)
            have HS5 : Hid (ScAt ((w4.setCell ⟨qb, 6, none⟩ (.string a)).setCell ⟨qb, 7, none⟩ (.string b)) wr.heap.size s1) := FTab.ofBlock HSF.out (by
              rw [Below.heap_setCell _ _ _ _ (fun e => hqsv e.symm), Below.heap_setCell _ _ _ _ (fun e => hqsv e.symm)])
            have HB5 : Hid (Below w.heap.size w ((w4.setCell ⟨qb, 6, none⟩ (.string a)).setCell ⟨qb, 7, none⟩ (.string b))) := (HBW.out.setCell (p := ⟨qb, 6, none⟩) (by show w.heap.size ≤ qb; omega) _).setCell (p := ⟨qb, 7, none⟩) (by show w.heap.size ≤ qb; omega) _
            clear e6 e7 ef d0 d1 HQF HSF HBW
            generalize (w4.setCell ⟨qb, 6, none⟩ (.string a)).setCell ⟨qb, 7, none⟩ (.string b) = w5 at *
            have g6 : w5.cell? ⟨qb, 6, none⟩ = some (.string a) := HQ5.out.tab.at' 6 (by omega)
            have g7 : w5.cell? ⟨qb, 7, none⟩ = some (.string b) := HQ5.out.tab.at' 7 (by omega)
            have gf := HQ5.out.tab.fz
            obtain ⟨rd, hrd⟩ : ∃ rd : Nat, s1.read = (rd : Int) := ⟨s1.read.toNat, by omega⟩
            have g3 : w5.cell? ⟨wr.heap.size, 3, none⟩ = some (.int .i64 (rd : Int)) := by rw [← hrd]; exact FTab.at' HS5.out 3 (by omega)
            have g0 : w5.cell? ⟨qb, 0, none⟩ = some (.int .i64 q1.area) := HQ5.out.tab.at' 0 (by omega)
            have hrd0 : (0 : Int) ≤ (rd : Int) := by omega
            rcases harr with har0 | har0
            · rw [har0] at g0 hsum
              have hle : rd ≤ a.size := by have h := HLN.out.1; unfold Sums at hsum; rw [h] at hsum; omega
              have HEQ : Hid (endQ A C (q1, s1) = { q1 with a0 := a.extract 0 rd, a1 := b, size := (rd : Int), seq := s1.seq }) := by
                show endQ A C (q1, s1) = _
                unfold endQ
                simp only
                rw [har0]
                rw [if_pos rfl, if_pos rfl]
                rw [hrd, show ((rd : Nat) : Int).toNat = rd from rfl]
                have x1 : strB (A.take rd) = a.extract 0 rd := by
                  rw [HA.out]
                  apply ByteArray.ext
                  apply Array.ext'
                  rw [extractL]
                  rfl
                have x2 : strB C = b := by rw [HC.out]; exact strB_eq _
                rw [x1, x2]
              have HOP : Hid (openV A C = .ok { q1 with a0 := a.extract 0 rd, a1 := b, size := (rd : Int), seq := s1.seq }) := by
                show openV A C = _
                rw [openV_ok HSM.out HBQ.out, HRF.out, HEQ.out]
              have HQ6 : Hid (QAt (w5.setCell ⟨qb, 6, none⟩ (.string (a.extract 0 rd))).drew qb qb { q1 with a0 := a.extract 0 rd, a1 := b } vj1 vw1) := by
                have h1 := QAt.put (q' := { q1 with a0 := a.extract 0 rd, a1 := b }) HQ5.out (i := 6) (by omega) (.string (a.extract 0 rd)) rfl rfl fun j hj => (by
                  match j, hj with
                  | 0, _ => rfl
                  | 1, _ => rfl
                  | 2, _ => rfl
                  | 3, _ => rfl
                  | 4, _ => rfl
                  | 5, _ => rfl
                  | 6, _ => rfl
                  | 7, _ => rfl
                  | 8, _ => rfl
                  | 9, _ => rfl
                  | 10, _ => rfl)
                exact h1.drewN 1
              have HS6 : Hid (ScAt (w5.setCell ⟨qb, 6, none⟩ (.string (a.extract 0 rd))).drew wr.heap.size s1) := FTab.drewN (FTab.ofBlock HS5.out (by rw [Below.heap_setCell _ _ _ _ (fun e => hqsv e.symm)])) 1
              have HB6 : Hid (Below w.heap.size w (w5.setCell ⟨qb, 6, none⟩ (.string (a.extract 0 rd))).drew) := bdrewN (HB5.out.setCell (p := ⟨qb, 6, none⟩) (by show w.heap.size ≤ qb; omega) _) 1
              have hle2 : (rd : Int) ≤ (a.size : Int) := by omega
              clear HQ5 HS5 HB5
              go_region
              all_goals
                clear g0 g3 g6 g7 gf
                generalize (w5.setCell ⟨qb, 6, none⟩ (.string (a.extract 0 rd))).drew = w6 at *
                have k3 : w6.cell? ⟨wr.heap.size, 3, none⟩ = some (.int .i64 (rd : Int)) := by rw [← hrd]; exact FTab.at' HS6.out 3 (by omega)
                have k2 : w6.cell? ⟨wr.heap.size, 2, none⟩ = some (.int .i64 s1.seq) := FTab.at' HS6.out 2 (by omega)
                have k9 : w6.cell? ⟨qb, 9, none⟩ = some (.int .i64 q1.size) := HQ6.out.tab.at' 9 (by omega)
                have k10 : w6.cell? ⟨qb, 10, none⟩ = some (.int .i64 q1.seq) := HQ6.out.tab.at' 10 (by omega)
                have kf := HQ6.out.tab.fz
                have HF : Hid (RetOpen A C w (.returned (.tuple #[.pointer (some ⟨qb, 0, none⟩), .int .i64 0])) ((w6.setCell ⟨qb, 9, none⟩ (.int .i64 (rd : Int))).setCell ⟨qb, 10, none⟩ (.int .i64 s1.seq)).drew) := by
                  have h2 := QAt.put (q' := { q1 with a0 := a.extract 0 rd, a1 := b, size := (rd : Int) }) HQ6.out (i := 9) (by omega) (.int .i64 (rd : Int)) rfl rfl fun j hj => (by
                  match j, hj with
                  | 0, _ => rfl
                  | 1, _ => rfl
                  | 2, _ => rfl
                  | 3, _ => rfl
                  | 4, _ => rfl
                  | 5, _ => rfl
                  | 6, _ => rfl
                  | 7, _ => rfl
                  | 8, _ => rfl
                  | 9, _ => rfl
                  | 10, _ => rfl)
                  have h3 := QAt.put (q' := { q1 with a0 := a.extract 0 rd, a1 := b, size := (rd : Int), seq := s1.seq }) h2 (i := 10) (by omega) (.int .i64 s1.seq) rfl rfl fun j hj => (by
                  match j, hj with
                  | 0, _ => rfl
                  | 1, _ => rfl
                  | 2, _ => rfl
                  | 3, _ => rfl
                  | 4, _ => rfl
                  | 5, _ => rfl
                  | 6, _ => rfl
                  | 7, _ => rfl
                  | 8, _ => rfl
                  | 9, _ => rfl
                  | 10, _ => rfl)
                  exact ⟨.inr ⟨_, qb, vj1, vw1, HOP.out, rfl, by omega, h3.drewN 1⟩, bdrewN ((HB6.out.setCell (p := ⟨qb, 9, none⟩) (by show w.heap.size ≤ qb; omega) _).setCell (p := ⟨qb, 10, none⟩) (by show w.heap.size ≤ qb; omega) _) 1⟩
                clear HQ6 HS6 HB6
                go_upto_region 21 with fail
                go_region
                all_goals
                  go_wp2
                  go_ret2
                  exact HF.out
            · rw [har0] at g0 hsum
              have hle : rd ≤ b.size := by have h := HLN.out.2; unfold Sums at hsum; rw [h] at hsum; omega
              have HEQ : Hid (endQ A C (q1, s1) = { q1 with a0 := a, a1 := b.extract 0 rd, size := (rd : Int), seq := s1.seq }) := by
                show endQ A C (q1, s1) = _
                unfold endQ
                simp only
                rw [har0]
                rw [if_neg (by decide), if_neg (by decide)]
                rw [hrd, show ((rd : Nat) : Int).toNat = rd from rfl]
                have x1 : strB (C.take rd) = b.extract 0 rd := by
                  rw [HC.out]
                  apply ByteArray.ext
                  apply Array.ext'
                  rw [extractL]
                  rfl
                have x2 : strB A = a := by rw [HA.out]; exact strB_eq _
                rw [x1, x2]
              have HOP : Hid (openV A C = .ok { q1 with a0 := a, a1 := b.extract 0 rd, size := (rd : Int), seq := s1.seq }) := by
                show openV A C = _
                rw [openV_ok HSM.out HBQ.out, HRF.out, HEQ.out]
              have HQ6 : Hid (QAt (w5.setCell ⟨qb, 7, none⟩ (.string (b.extract 0 rd))).drew qb qb { q1 with a0 := a, a1 := b.extract 0 rd } vj1 vw1) := by
                have h1 := QAt.put (q' := { q1 with a0 := a, a1 := b.extract 0 rd }) HQ5.out (i := 7) (by omega) (.string (b.extract 0 rd)) rfl rfl fun j hj => (by
                  match j, hj with
                  | 0, _ => rfl
                  | 1, _ => rfl
                  | 2, _ => rfl
                  | 3, _ => rfl
                  | 4, _ => rfl
                  | 5, _ => rfl
                  | 6, _ => rfl
                  | 7, _ => rfl
                  | 8, _ => rfl
                  | 9, _ => rfl
                  | 10, _ => rfl)
                exact h1.drewN 1
              have HS6 : Hid (ScAt (w5.setCell ⟨qb, 7, none⟩ (.string (b.extract 0 rd))).drew wr.heap.size s1) := FTab.drewN (FTab.ofBlock HS5.out (by rw [Below.heap_setCell _ _ _ _ (fun e => hqsv e.symm)])) 1
              have HB6 : Hid (Below w.heap.size w (w5.setCell ⟨qb, 7, none⟩ (.string (b.extract 0 rd))).drew) := bdrewN (HB5.out.setCell (p := ⟨qb, 7, none⟩) (by show w.heap.size ≤ qb; omega) _) 1
              have hle2 : (rd : Int) ≤ (b.size : Int) := by omega
              clear HQ5 HS5 HB5
              go_region
              all_goals
                clear g0 g3 g6 g7 gf
                generalize (w5.setCell ⟨qb, 7, none⟩ (.string (b.extract 0 rd))).drew = w6 at *
                have k3 : w6.cell? ⟨wr.heap.size, 3, none⟩ = some (.int .i64 (rd : Int)) := by rw [← hrd]; exact FTab.at' HS6.out 3 (by omega)
                have k2 : w6.cell? ⟨wr.heap.size, 2, none⟩ = some (.int .i64 s1.seq) := FTab.at' HS6.out 2 (by omega)
                have k9 : w6.cell? ⟨qb, 9, none⟩ = some (.int .i64 q1.size) := HQ6.out.tab.at' 9 (by omega)
                have k10 : w6.cell? ⟨qb, 10, none⟩ = some (.int .i64 q1.seq) := HQ6.out.tab.at' 10 (by omega)
                have kf := HQ6.out.tab.fz
                have HF : Hid (RetOpen A C w (.returned (.tuple #[.pointer (some ⟨qb, 0, none⟩), .int .i64 0])) ((w6.setCell ⟨qb, 9, none⟩ (.int .i64 (rd : Int))).setCell ⟨qb, 10, none⟩ (.int .i64 s1.seq)).drew) := by
                  have h2 := QAt.put (q' := { q1 with a0 := a, a1 := b.extract 0 rd, size := (rd : Int) }) HQ6.out (i := 9) (by omega) (.int .i64 (rd : Int)) rfl rfl fun j hj => (by
                  match j, hj with
                  | 0, _ => rfl
                  | 1, _ => rfl
                  | 2, _ => rfl
                  | 3, _ => rfl
                  | 4, _ => rfl
                  | 5, _ => rfl
                  | 6, _ => rfl
                  | 7, _ => rfl
                  | 8, _ => rfl
                  | 9, _ => rfl
                  | 10, _ => rfl)
                  have h3 := QAt.put (q' := { q1 with a0 := a, a1 := b.extract 0 rd, size := (rd : Int), seq := s1.seq }) h2 (i := 10) (by omega) (.int .i64 s1.seq) rfl rfl fun j hj => (by
                  match j, hj with
                  | 0, _ => rfl
                  | 1, _ => rfl
                  | 2, _ => rfl
                  | 3, _ => rfl
                  | 4, _ => rfl
                  | 5, _ => rfl
                  | 6, _ => rfl
                  | 7, _ => rfl
                  | 8, _ => rfl
                  | 9, _ => rfl
                  | 10, _ => rfl)
                  exact ⟨.inr ⟨_, qb, vj1, vw1, HOP.out, rfl, by omega, h3.drewN 1⟩, bdrewN ((HB6.out.setCell (p := ⟨qb, 9, none⟩) (by show w.heap.size ≤ qb; omega) _).setCell (p := ⟨qb, 10, none⟩) (by show w.heap.size ≤ qb; omega) _) 1⟩
                clear HQ6 HS6 HB6
                go_upto_region 21 with fail
                go_region
                all_goals
                  go_wp2
                  go_ret2
                  exact HF.out
end Go.Proofs.YtnnnihjagjfkdaaGreatDoor
