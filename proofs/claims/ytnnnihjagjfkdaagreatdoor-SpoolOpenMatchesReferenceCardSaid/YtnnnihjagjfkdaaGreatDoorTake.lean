/-
  A job of a queue is written in place. The walk of the queue's Take. Own text.
-/
import Derived.Test.YtnnnihjagjfkdaaGreatDoorQues
import Derived.Test.YtnnnihjagjfkdaaGreatDoorJobs
namespace Go.Proofs.YtnnnihjagjfkdaaGreatDoor
open Go.RowKit
set_option linter.unusedVariables false
theorem flatMap_set1 {α : Type} {k : Nat} {enc : α → List Value} (hl : ∀ x, (enc x).length = k) {j : Nat} (hj : j < k) {v : Value} {y : α} : ∀ (xs : List α) (i : Nat) (h : i < xs.length), enc y = (enc xs[i]).set j v → (xs.set i y).flatMap enc = (xs.flatMap enc).set (i * k + j) v
  | x :: xs, 0, _, he => by
    have he' : enc y = (enc x).set j v := he
    rw [List.set_cons_zero, List.flatMap_cons, List.flatMap_cons, he', Nat.zero_mul, Nat.zero_add, List.set_append_left _ _ (by rw [hl]; exact hj)]
  | x :: xs, i + 1, h, he => by
    have h' : i < xs.length := by simpa using h
    have e : (i + 1) * k + j = k + (i * k + j) := by rw [Nat.add_mul]; omega
    rw [List.set_cons_succ, List.flatMap_cons, List.flatMap_cons, e, List.set_append_right _ _ (by rw [hl]; omega), hl, Nat.add_sub_cancel_left, flatMap_set1 hl hj xs i h' he]
theorem Own.setAt {α : Type} {w : World} {base : Nat} {e : TypeId} {k : Nat} {enc : α → List Value} {g n c : Nat} {xs : List α} (h : Own w base e k enc (.slice (some ⟨g, 0, none⟩) n c) xs) (hl : ∀ x, (enc x).length = k) {i : Nat} (hi : i < xs.length) {j : Nat} (hj : j < k) {v : Value} {y : α} (he : enc y = (enc xs[i]).set j v) :
    Own (w.setCell ⟨g, i * k + j, none⟩ v) base e k enc (.slice (some ⟨g, 0, none⟩) n c) (xs.set i y) := by
  have hn : n = xs.length := by
    rcases h.2 with ⟨e1, _⟩ | ⟨g1, c1, cur, e1, _⟩
    · cases e1
    · simp only [Value.slice.injEq] at e1
      exact e1.2.1
  subst hn
  have h1 := (World.ownsRow.stored h (i * k + j) v).1
  unfold Own
  rw [List.length_set, flatMap_set1 hl hj xs i hi he]
  exact h1
theorem QAt.setJob {w : World} {B b g n c : Nat} {q : Que} {vw : Value} (h : QAt w B b q (.slice (some ⟨g, 0, none⟩) n c) vw) {i : Nat} (hi : i < q.jobs.length) {j : Nat} (hj : j < 4) {v : Value} {y : Jb} (he : encJb y = (encJb q.jobs[i]).set j v) :
    QAt (w.setCell ⟨g, i * 4 + j, none⟩ v) B b { q with jobs := q.jobs.set i y } (.slice (some ⟨g, 0, none⟩) n c) vw := by
  have hgb : g ≠ b := fun e => h.nj (by rw [e]; rfl)
  exact ⟨(h.tab.other hgb v).congr fun k hk => by
    match k, hk with
    | 0, _ => rfl
    | 1, _ => rfl
    | 2, _ => rfl
    | 3, _ => rfl
    | 4, _ => rfl
    | 5, _ => rfl
    | 6, _ => rfl
    | 7, _ => rfl
    | 8, _ => rfl
    | 9, _ => rfl
    | 10, _ => rfl, h.jobs.setAt (fun _ => rfl) hi hj he, own_other h.wr (fun e => h.jw g rfl e) v, h.bb, h.nj, h.nw, h.jw⟩
theorem Turn.setJ {b g n c : Nat} {vj vw u1 : Value} {w w1 : World} (h : Turn b vj vw (.slice (some ⟨g, 0, none⟩) n c) u1 w w1) (o : Nat) (v : Value) : Turn b vj vw (.slice (some ⟨g, 0, none⟩) n c) u1 w (w1.setCell ⟨g, o, none⟩ v) := by
  refine ⟨h.os, h.tape, h.output, by simpa using h.size, fun j hj hn => ?_, h.kj, h.kw⟩
  rw [Below.heap_setCell _ _ _ _ (fun e => ?_)]
  · exact h.block j hj hn
  · have e' : j = g := e
    subst e'
    rcases h.kj j rfl with e | e
    · exact hn (.inr (.inl e))
    · omega
theorem Turn.alloc {b : Nat} {vj vw v1 u1 : Value} {w w1 : World} (h : Turn b vj vw v1 u1 w w1) (o : Obj) : Turn b vj vw v1 u1 w (w1.alloc o) := h.below (balloc (Below.refl _ _) o)
/-- A lease is given. -/
def leaseJ (j : Jb) (n t : Int) : Jb := { j with lease := n, till := t }
def takeQ (q : Que) (i : Nat) (y : Jb) : Que := { q with leases := q.leases + 1, jobs := q.jobs.set i y }
end Go.Proofs.YtnnnihjagjfkdaaGreatDoor
namespace Go.Proofs.YtnnnihjagjfkdaaGreatDoor
open Go.RowKit
set_option linter.unusedVariables false
theorem QAt.far {w : World} {B b : Nat} {q : Que} {vj vw : Value} (h : QAt w B b q vj vw) {m : Nat} (hm : ¬ InQ b vj vw m) (o : Nat) (v : Value) : QAt (w.setCell ⟨m, o, none⟩ v) B b q vj vw :=
  ⟨h.tab.other (fun e => hm (.inl e)) v, own_other h.jobs (fun e => hm (.inr (.inl e))) v, own_other h.wr (fun e => hm (.inr (.inr e))) v, h.bb, h.nj, h.nw, h.jw⟩
theorem Turn.setNew {b : Nat} {vj vw v1 u1 : Value} {w w1 : World} (h : Turn b vj vw v1 u1 w w1) {m : Nat} (hm : w.heap.size ≤ m) (o : Nat) (v : Value) : Turn b vj vw v1 u1 w (w1.setCell ⟨m, o, none⟩ v) := by
  refine ⟨h.os, h.tape, h.output, by simpa using h.size, fun g hg hn => ?_, h.kj, h.kw⟩
  rw [Below.heap_setCell _ _ _ _ (fun e => by have e' : g = m := e; omega)]
  exact h.block g hg hn
def RetTake (B b : Nat) (q' : Que) (id : Int) (s : ByteArray) (n c : Int) (vj vw : Value) (w : World) (e : Ending) (w' : World) : Prop := e = .returned (.tuple #[.agg #[.int .i64 id, .string s], .int .i64 n, .int .i64 c]) ∧ QAt w' B b q' vj vw ∧ Turn b vj vw vj vw w w'
set_option maxRecDepth 100000 in
set_option maxHeartbeats 4000000 in
theorem take_none (B b : Nat) (q : Que) (vj vw : Value) (hold : Int) (w : World) (hq : QAt w B b q vj vw) (hh1 : 1 ≤ hold) (hh2 : hold ≤ 1099511627776) (hjl : q.jobs.length ≤ 64) (hno : ∀ k (h : k < q.jobs.length), q.jobs[k].lease ≠ 0) :
    Calls Tryz.prog 33 #[.pointer (some ⟨b, 0, none⟩), .int .i64 hold] w (RetTake B b q 0 ⟨#[]⟩ 0 8 vj vw w) := by
  obtain ⟨oj, cj, rfl, hjm, hjf⟩ := hq.jobs.flat (fun _ => rfl)
  have hl := hq.lt
  have hb0 := balloc (Below.refl _ w) (.cells #[.int .i64 0, .string ⟨#[]⟩] 41)
  obtain ⟨W, hW⟩ : ∃ W, W = w.alloc (.cells #[.int .i64 0, .string ⟨#[]⟩] 41) := ⟨_, rfl⟩
  rw [← hW] at hb0
  have c5 : W.cell? ⟨b, 5, none⟩ = some (.slice oj q.jobs.length cj) := (hq.below hb0).tab.at' 5 (by omega)
  have HJF := Lib.hid (hjf.below hb0)
  have HW := Lib.hid hW
  obtain ⟨n, hn⟩ : ∃ n, n = q.jobs.length := ⟨_, rfl⟩
  have HNO := Lib.hid hno
  have HNN := Lib.hid hn
  have m0 : W.cell? ⟨w.heap.size, 0, none⟩ = some (.int .i64 0) := by rw [hW, cell_of_row _ w.heap.size 0 _ _ (0, 0) (heap_alloc_new w _)]; rfl
  have m1 : W.cell? ⟨w.heap.size, 1, none⟩ = some (.string ⟨#[]⟩) := by rw [hW, cell_of_row _ w.heap.size 1 _ _ (0, 0) (heap_alloc_new w _)]; rfl
  have mf : ∀ o, W.frozen? ⟨w.heap.size, o, none⟩ = false := fun o => by unfold World.frozen?; rw [hW, heap_alloc_new]; simp
  have hin : ¬ InQ b (.slice oj q.jobs.length cj) vw w.heap.size := fun h => by have := (hq.inq h).2; omega
  have HF : Hid (RetTake B b q 0 ⟨#[]⟩ 0 8 (.slice oj q.jobs.length cj) vw w (.returned (.tuple #[.agg #[.int .i64 0, .string ⟨#[]⟩], .int .i64 0, .int .i64 8])) ((W.setCell ⟨w.heap.size, 0, none⟩ (.int .i64 0)).setCell ⟨w.heap.size, 1, none⟩ (.string ⟨#[]⟩))) :=
    ⟨rfl, ((hq.below hb0).far hin 0 _).far hin 1 _, ((Turn.ofBelow hb0).setNew (Nat.le_refl _) 0 _).setNew (Nat.le_refl _) 1 _⟩
  rw [← hn] at c5 hjl
  clear hb0 hjf hjm hq hno hW hin
  have z1 : ¬ hold < 1 := by omega
  have z2 : ¬ 1099511627776 < hold := by omega
  have hres : Tryz.f33.results = #[.cell 4 41, .tmp 5, .tmp 6] := rfl
  go_enter Tryz.func33, Tryz.ntmps33
  go_upto_region 1 with fail
  rw [← HW.out]
  go_wp2
  go_loopw [21] (fun i wr => ∃ k : Nat, k ≤ n ∧ i = .int .i64 k ∧ wr = W) (fun i _ => n - (intOf i).toNat)
  case atStart => exact ⟨0, by omega, rfl, rfl⟩
  case round =>
    obtain ⟨k, hk, rfl, rfl⟩ := hrel
    by_cases hlt : k < n
    · have hkx : k < q.jobs.length := by have := HNN.out; omega
      obtain ⟨bj, offj, rfl, i0, i1, i2, i3⟩ := HJF.out.jb hkx
      have hnz := HNO.out k hkx
      have kd : (k : Int) < (n : Int) := by omega
      have k0 : (0 : Int) ≤ (k : Int) := by omega
      obtain ⟨x, hx⟩ : ∃ x, x = q.jobs[k].lease := ⟨_, rfl⟩
      rw [← hx] at i2 hnz
      have hbe : (x == 0) = false := by simpa using hnz
      clear i0 i1 i3 hx
      go_wp2
      go_roundw
      case rel => exact ⟨k + 1, by omega, by go_num, trivial⟩
      case measure => simp [intOf]; omega
    · obtain rfl : n = k := by omega
      go_wp2
      refine bodyPost_ret (v := .tuple #[.agg #[.int .i64 0, .string ⟨#[]⟩], .int .i64 0, .int .i64 8]) (by simp only [results, hres]; go_simp) rfl ?_
      exact HF.out
set_option maxRecDepth 100000 in
set_option maxHeartbeats 4000000 in
theorem take_some (B b : Nat) (q : Que) (vj vw : Value) (hold : Int) (w : World) (hq : QAt w B b q vj vw) (hh1 : 1 ≤ hold) (hh2 : hold ≤ 1099511627776) (hjl : q.jobs.length ≤ 64) (m : Nat) (hm : m < q.jobs.length) (hz : q.jobs[m].lease = 0) (hno : ∀ k (h : k < m), q.jobs[k].lease ≠ 0) (hl0 : 0 ≤ q.leases) (hl1 : q.leases ≤ 1099511627776) (hn0 : 0 ≤ q.now) (hn1 : q.now ≤ 1099511627776) :
    Calls Tryz.prog 33 #[.pointer (some ⟨b, 0, none⟩), .int .i64 hold] w (RetTake B b (takeQ q m (leaseJ q.jobs[m] (q.leases + 1) (q.now + hold))) q.jobs[m].id q.jobs[m].text (q.leases + 1) 0 vj vw w) := by
  rcases hq.jobs.2 with ⟨e, hn⟩ | ⟨g, cap, cur, e, hgr⟩
  · omega
  subst e
  have hl := hq.lt
  have hgb : g ≠ b := fun e => hq.nj (by rw [e]; rfl)
  have hgl := (hq.inq (g := g) (.inr (.inl rfl))).2
  have hb0 := balloc (Below.refl _ w) (.cells #[.int .i64 0, .string ⟨#[]⟩] 41)
  obtain ⟨W, hW⟩ : ∃ W, W = w.alloc (.cells #[.int .i64 0, .string ⟨#[]⟩] 41) := ⟨_, rfl⟩
  rw [← hW] at hb0
  have hqW := hq.below hb0
  have c3 : W.cell? ⟨b, 3, none⟩ = some (.int .i64 q.leases) := hqW.tab.at' 3 (by omega)
  have c4 : W.cell? ⟨b, 4, none⟩ = some (.int .i64 q.now) := hqW.tab.at' 4 (by omega)
  have c5 : W.cell? ⟨b, 5, none⟩ = some (.slice (some ⟨g, 0, none⟩) q.jobs.length cap) := hqW.tab.at' 5 (by omega)
  have cf := hqW.tab.fz
  have HJF : Hid (∀ k (h : k < q.jobs.length), W.cell? ⟨g, k * 4, none⟩ = some (.int .i64 q.jobs[k].id) ∧ W.cell? ⟨g, k * 4 + 1, none⟩ = some (.string q.jobs[k].text) ∧ W.cell? ⟨g, k * 4 + 2, none⟩ = some (.int .i64 q.jobs[k].lease) ∧ W.cell? ⟨g, k * 4 + 3, none⟩ = some (.int .i64 q.jobs[k].till)) := fun k h => by
    obtain ⟨oa, c, e2, _, hf⟩ := hqW.jobs.flat (fun _ => rfl)
    cases e2
    obtain ⟨b1, off, e3, i0, i1, i2, i3⟩ := hf.jb h
    cases e3
    simp only [Nat.zero_add] at i0 i1 i2 i3
    exact ⟨i0, i1, i2, i3⟩
  have gf : ∀ o, W.frozen? ⟨g, o, none⟩ = false := fun o => by
    rcases hqW.jobs.2 with ⟨e, hn⟩ | ⟨g1, cap1, cur1, e, hg1, hrow, hr⟩
    · cases e
    · cases e
      unfold World.frozen?
      rw [hrow]
      simp
  have HW := Lib.hid hW
  obtain ⟨n, hn⟩ : ∃ n, n = q.jobs.length := ⟨_, rfl⟩
  have HNO := Lib.hid hno
  have HNN := Lib.hid hn
  have HZ := Lib.hid hz
  have mf : ∀ o, W.frozen? ⟨w.heap.size, o, none⟩ = false := fun o => by unfold World.frozen?; rw [hW, heap_alloc_new]; simp
  have m0 : W.cell? ⟨w.heap.size, 0, none⟩ = some (.int .i64 0) := by rw [hW, cell_of_row _ w.heap.size 0 _ _ (0, 0) (heap_alloc_new w _)]; rfl
  have m1 : W.cell? ⟨w.heap.size, 1, none⟩ = some (.string ⟨#[]⟩) := by rw [hW, cell_of_row _ w.heap.size 1 _ _ (0, 0) (heap_alloc_new w _)]; rfl
  have hin : ¬ InQ b (.slice (some ⟨g, 0, none⟩) q.jobs.length cap) vw w.heap.size := fun h => by have := (hq.inq h).2; omega
  have HIN := Lib.hid hin
  have HQW := Lib.hid hqW
  have HTW := Lib.hid (Turn.ofBelow (b := b) (vj := .slice (some ⟨g, 0, none⟩) q.jobs.length cap) (vw := vw) hb0)
  have hwb : w.heap.size ≠ b := by omega
  have hwg : w.heap.size ≠ g := by omega
  have hnm : m < n := by omega
  rw [← hn] at c5 hjl
  clear hb0 hq hno hW hin hqW hgr
  have z1 : ¬ hold < 1 := by omega
  have z2 : ¬ 1099511627776 < hold := by omega
  have hres : Tryz.f33.results = #[.cell 4 41, .tmp 5, .tmp 6] := rfl
  go_enter Tryz.func33, Tryz.ntmps33
  go_upto_region 1 with fail
  rw [← HW.out]
  go_wp2
  go_loopw [21] (fun i wr => ∃ k : Nat, k ≤ m ∧ i = .int .i64 k ∧ wr = W) (fun i _ => n - (intOf i).toNat)
  case atStart => exact ⟨0, by omega, rfl, rfl⟩
  case round =>
    obtain ⟨k, hk, rfl, rfl⟩ := hrel
    have hkn : k < n := by omega
    have hkx : k < q.jobs.length := by have := HNN.out; omega
    have kd : (k : Int) < (n : Int) := by omega
    have k0 : (0 : Int) ≤ (k : Int) := by omega
    by_cases hlt : k < m
    · obtain ⟨i0, i1, i2, i3⟩ := HJF.out k hkx
      have hnz := HNO.out k hlt
      obtain ⟨x, hx⟩ : ∃ x, x = q.jobs[k].lease := ⟨_, rfl⟩
      rw [← hx] at i2 hnz
      have hbe : (x == 0) = false := by simpa using hnz
      clear i0 i1 i3 hx c3 c4 m0 m1
      go_wp2
      go_roundw
      case rel => exact ⟨k + 1, by omega, by go_num, trivial⟩
      case measure => simp [intOf]; omega
    · obtain rfl : m = k := by omega
      obtain ⟨i0, i1, i2, i3⟩ := HJF.out m hkx
      rw [HZ.out] at i2
      obtain ⟨x, hx⟩ : ∃ x, x = q.jobs[m] := ⟨_, rfl⟩
      rw [← hx] at i0 i1 i3
      have x1 : IntKind.i64.wrap (q.leases + 1) = q.leases + 1 := IntWalk.i64_in _ (by omega)
      have x2 : IntKind.i64.wrap (q.now + hold) = q.now + hold := IntWalk.i64_in _ (by omega)
      have HQ9 : Hid (QAt (((wr.setCell ⟨b, 3, none⟩ (.int .i64 (q.leases + 1))).setCell ⟨g, m * 4 + 2, none⟩ (.int .i64 (q.leases + 1))).setCell ⟨g, m * 4 + 3, none⟩ (.int .i64 (q.now + hold))) B b (takeQ q m (leaseJ q.jobs[m] (q.leases + 1) (q.now + hold))) (.slice (some ⟨g, 0, none⟩) q.jobs.length cap) vw) := by
        have q1 := QAt.put (q' := { q with leases := q.leases + 1 }) HQW.out (i := 3) (by omega) (.int .i64 (q.leases + 1)) rfl rfl (fun j hj => by
          match j, hj with
          | 0, _ => rfl
          | 1, _ => rfl
          | 2, _ => rfl
          | 3, _ => rfl
          | 4, _ => rfl
          | 5, _ => rfl
          | 6, _ => rfl
          | 7, _ => rfl
          | 8, _ => rfl
          | 9, _ => rfl
          | 10, _ => rfl)
        have q2 := q1.setJob (i := m) hkx (j := 2) (by omega) (v := .int .i64 (q.leases + 1)) (y := { q.jobs[m] with lease := q.leases + 1 }) rfl
        have q3 := q2.setJob (i := m) (by simpa using hkx) (j := 3) (by omega) (v := .int .i64 (q.now + hold)) (y := leaseJ q.jobs[m] (q.leases + 1) (q.now + hold)) (by simp [encJb, leaseJ])
        simp only [List.set_set] at q3
        exact q3
      have HT9 : Hid (Turn b (.slice (some ⟨g, 0, none⟩) q.jobs.length cap) vw (.slice (some ⟨g, 0, none⟩) q.jobs.length cap) vw w (((wr.setCell ⟨b, 3, none⟩ (.int .i64 (q.leases + 1))).setCell ⟨g, m * 4 + 2, none⟩ (.int .i64 (q.leases + 1))).setCell ⟨g, m * 4 + 3, none⟩ (.int .i64 (q.now + hold)))) :=
        ((HTW.out.set 3 _).setJ _ _).setJ _ _
      go_wp2
      go_region_held3 (fun w' => w'.cell? ⟨b, 3, none⟩ = some (.int .i64 (q.leases + 1)) ∧ w'.cell? ⟨b, 4, none⟩ = some (.int .i64 q.now)) ((refine ⟨?_, ?_⟩ <;> go_simp)) (fail)
      have HQX := Lib.hid (HQ9.out.drewN 1)
      have HTX := Lib.hid (HT9.out.drewN 1)
      have n0 : (((wr.setCell ⟨b, 3, none⟩ (.int .i64 (q.leases + 1))).setCell ⟨g, m * 4 + 2, none⟩ (.int .i64 (q.leases + 1))).setCell ⟨g, m * 4 + 3, none⟩ (.int .i64 (q.now + hold))).drew.cell? ⟨w.heap.size, 0, none⟩ = some (.int .i64 0) := by go_simp
      have n1 : (((wr.setCell ⟨b, 3, none⟩ (.int .i64 (q.leases + 1))).setCell ⟨g, m * 4 + 2, none⟩ (.int .i64 (q.leases + 1))).setCell ⟨g, m * 4 + 3, none⟩ (.int .i64 (q.now + hold))).drew.cell? ⟨w.heap.size, 1, none⟩ = some (.string ⟨#[]⟩) := by go_simp
      have nf : ∀ o, (((wr.setCell ⟨b, 3, none⟩ (.int .i64 (q.leases + 1))).setCell ⟨g, m * 4 + 2, none⟩ (.int .i64 (q.leases + 1))).setCell ⟨g, m * 4 + 3, none⟩ (.int .i64 (q.now + hold))).drew.frozen? ⟨w.heap.size, o, none⟩ = false := fun o => by go_simp
      have HQY : Hid (QAt (((wr.setCell ⟨b, 3, none⟩ (.int .i64 (q.leases + 1))).setCell ⟨g, m * 4 + 2, none⟩ (.int .i64 (q.leases + 1))).setCell ⟨g, m * 4 + 3, none⟩ (.int .i64 (q.now + hold))).drew B b (takeQ q m (leaseJ q.jobs[m] (q.leases + 1) (q.now + hold))) (.slice (some ⟨g, 0, none⟩) q.jobs.length cap) vw) := HQX.out
      have HTY : Hid (Turn b (.slice (some ⟨g, 0, none⟩) q.jobs.length cap) vw (.slice (some ⟨g, 0, none⟩) q.jobs.length cap) vw w (((wr.setCell ⟨b, 3, none⟩ (.int .i64 (q.leases + 1))).setCell ⟨g, m * 4 + 2, none⟩ (.int .i64 (q.leases + 1))).setCell ⟨g, m * 4 + 3, none⟩ (.int .i64 (q.now + hold))).drew) := HTX.out
      rename_i hHeld
      clear hHeld HQ9 HT9 HQX HTX m0 m1 mf gf cf c3 c4 c5 i0 i1 i2 i3 HJF HQW HTW HW
      generalize (((wr.setCell ⟨b, 3, none⟩ (.int .i64 (q.leases + 1))).setCell ⟨g, m * 4 + 2, none⟩ (.int .i64 (q.leases + 1))).setCell ⟨g, m * 4 + 3, none⟩ (.int .i64 (q.now + hold))).drew = W5 at *
      obtain ⟨oa, c, e2, _, hf⟩ := HQY.out.jobs.flat (fun _ => rfl)
      have hlen : (takeQ q m (leaseJ q.jobs[m] (q.leases + 1) (q.now + hold))).jobs.length = q.jobs.length := List.length_set
      have hmk : m < (takeQ q m (leaseJ q.jobs[m] (q.leases + 1) (q.now + hold))).jobs.length := by rw [hlen]; exact hkx
      obtain ⟨b1, off, e3, i0, i1, i2, i3⟩ := hf.jb hmk
      subst e3
      simp only [Value.slice.injEq, Option.some.injEq, Addr.mk.injEq, and_true] at e2
      obtain ⟨⟨rfl, rfl⟩, -, -⟩ := e2
      have hget : (takeQ q m (leaseJ q.jobs[m] (q.leases + 1) (q.now + hold))).jobs[m] = leaseJ q.jobs[m] (q.leases + 1) (q.now + hold) := List.getElem_set_self _
      rw [hget, Nat.zero_add] at i0 i1 i2
      simp only [leaseJ] at i0 i1 i2
      rw [← hx] at i0 i1
      have HF : Hid (RetTake B b (takeQ q m (leaseJ q.jobs[m] (q.leases + 1) (q.now + hold))) q.jobs[m].id q.jobs[m].text (q.leases + 1) 0 (.slice (some ⟨g, 0, none⟩) q.jobs.length cap) vw w (.returned (.tuple #[.agg #[.int .i64 x.id, .string x.text], .int .i64 (q.leases + 1), .int .i64 0])) ((W5.setCell ⟨w.heap.size, 0, none⟩ (.int .i64 x.id)).setCell ⟨w.heap.size, 1, none⟩ (.string x.text)).drew) :=
        ⟨by rw [hx], ((HQY.out.far HIN.out 0 _).far HIN.out 1 _).drewN 1, ((HTY.out.setNew (Nat.le_refl _) 0 _).setNew (Nat.le_refl _) 1 _).drewN 1⟩
      clear HQY HTY hf i3 hget hlen HNO HNN HZ HIN
      go_wp2
      go_region_held3 (fun w' => w'.cell? ⟨g, m * 4, none⟩ = some (.int .i64 x.id) ∧ w'.cell? ⟨g, m * 4 + 1, none⟩ = some (.string x.text) ∧ w'.cell? ⟨g, m * 4 + 2, none⟩ = some (.int .i64 (q.leases + 1))) ((refine ⟨?_, ?_, ?_⟩ <;> go_simp)) (fail)
      all_goals
        go_wp2
        refine bodyPost_ret (v := .tuple #[.agg #[.int .i64 x.id, .string x.text], .int .i64 (q.leases + 1), .int .i64 0]) (by simp only [results, hres]; go_simp) rfl ?_
        subst hx
        exact HF.out
end Go.Proofs.YtnnnihjagjfkdaaGreatDoor
