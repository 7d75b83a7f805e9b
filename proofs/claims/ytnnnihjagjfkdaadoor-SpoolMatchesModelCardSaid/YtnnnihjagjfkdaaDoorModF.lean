/-
  The list's find; what a step is asked and what it answers. Own text.
-/
import Derived.Test.YtnnnihjagjfkdaaDoorDone
import Derived.Test.YtnnnihjagjfkdaaDoorTick
import Derived.Test.YtnnnihjagjfkdaaDoorModI
import Derived.Test.YtnnnihjagjfkdaaDoorComp
namespace Go.Proofs.YtnnnihjagjfkdaaDoor
open Go.RowKit
set_option linter.unusedVariables false
set_option maxRecDepth 100000 in
set_option maxHeartbeats 4000000 in
/-- A job that is not leased so is not given back. -/
theorem back_no (B b : Nat) (q : Que) (vj vw : Value) (id n c0 : Int) (w : World) (hq : QAt w B b q vj vw) (hm : q.jobs.length ≤ 64) (hno : ∀ i c, LeasedAt q.jobs id n i c → c = c0) (hc0 : c0 ≠ 0) :
    Calls Tryd.prog 30 #[.pointer (some ⟨b, 0, none⟩), .int .i64 id, .int .i64 n] w (RetDone B b q c0 vj vw w) := by
  have HLE := Lib.hid (leased_any B b q vj vw id n w hq hm)
  have HQ := Lib.hid hq
  have HNO := Lib.hid hno
  clear hq hno
  go_enter Tryd.func30, Tryd.ntmps30
  go_wp2_with fail
  refine HLE.out.mono ?_
  rintro e w2 ⟨i, c, rfl, hla, hb2⟩
  obtain rfl := HNO.out i c hla
  have HF : Hid (RetDone B b q c vj vw w (.returned (.int .i64 c)) w2) := ⟨vj, vw, rfl, HQ.out.below hb2, Turn.ofBelow hb2⟩
  have hbe : (c == 0) = false := by simpa using hc0
  clear hla hb2 HLE HQ
  go_wp2
  go_ret
  exact HF.out
def backQ (q : Que) (m : Nat) (x : Jb) : Que := { q with jobs := q.jobs.set m (leaseJ x 0 0) }
set_option maxRecDepth 100000 in
set_option maxHeartbeats 4000000 in
/-- A leased job waits again. -/
theorem back_yes (B b : Nat) (q : Que) (vj vw : Value) (id n : Int) (w : World) (hq : QAt w B b q vj vw) (hm : q.jobs.length ≤ 64) (m : Nat) (hmj : m < q.jobs.length) (hyes : ∀ i c, LeasedAt q.jobs id n i c → i = m ∧ c = 0) :
    Calls Tryd.prog 30 #[.pointer (some ⟨b, 0, none⟩), .int .i64 id, .int .i64 n] w (RetDone B b (backQ q m q.jobs[m]) 0 vj vw w) := by
  have HLE := Lib.hid (leased_any B b q vj vw id n w hq hm)
  rcases hq.jobs.2 with ⟨e, hn⟩ | ⟨g, cap, cur, e, hgr⟩
  · omega
  subst e
  have HQ := Lib.hid hq
  have HY := Lib.hid hyes
  have hgb : g ≠ b := fun e => hq.nj (by rw [e]; rfl)
  obtain ⟨N, hN⟩ : ∃ N, N = q.jobs.length := ⟨_, rfl⟩
  have hmN : m < N := by omega
  have hN64 : N ≤ 64 := by omega
  have HN := Lib.hid hN
  have HMJ := Lib.hid hmj
  clear hq hyes hgr hm
  go_enter Tryd.func30, Tryd.ntmps30
  go_wp2_with fail
  refine HLE.out.mono ?_
  rintro e w2 ⟨i, c, rfl, hla, hb2⟩
  obtain ⟨rfl, rfl⟩ := HY.out i c hla
  have HQ2 := Lib.hid (HQ.out.below hb2)
  have c5 : w2.cell? ⟨b, 5, none⟩ = some (.slice (some ⟨g, 0, none⟩) N cap) := by rw [HN.out]; exact HQ2.out.tab.at' 5 (by omega)
  have gf : ∀ o, w2.frozen? ⟨g, o, none⟩ = false := fun o => by
    rcases HQ2.out.jobs.2 with ⟨e, hn⟩ | ⟨g1, cap1, cur1, e, hg1, hrow, hr⟩
    · cases e
    · cases e
      unfold World.frozen?
      rw [hrow]
      simp
  obtain ⟨oa, cc, e2, _, hf⟩ := HQ2.out.jobs.flat (fun _ => rfl)
  cases e2
  obtain ⟨b1, off, e3, i0, i1, i2, i3⟩ := hf.jb hmj
  cases e3
  simp only [Nat.zero_add] at i0 i1 i2 i3
  have hT := (Turn.ofBelow (b := b) (vj := .slice (some ⟨g, 0, none⟩) q.jobs.length cap) (vw := vw) hb2)
  have HF : Hid (QAt ((w2.setCell ⟨g, m * 4 + 2, none⟩ (.int .i64 0)).setCell ⟨g, m * 4 + 3, none⟩ (.int .i64 0)) B b (backQ q m q.jobs[m]) (.slice (some ⟨g, 0, none⟩) q.jobs.length cap) vw ∧ Turn b (.slice (some ⟨g, 0, none⟩) q.jobs.length cap) vw (.slice (some ⟨g, 0, none⟩) q.jobs.length cap) vw w ((w2.setCell ⟨g, m * 4 + 2, none⟩ (.int .i64 0)).setCell ⟨g, m * 4 + 3, none⟩ (.int .i64 0))) := by
    refine ⟨?_, (hT.setJ _ _).setJ _ _⟩
    have q2 := HQ2.out.setJob (i := m) hmj (j := 2) (by omega) (v := .int .i64 0) (y := { q.jobs[m] with lease := 0 }) rfl
    have q3 := q2.setJob (i := m) (by simpa using hmj) (j := 3) (by omega) (v := .int .i64 0) (y := leaseJ q.jobs[m] 0 0) (by simp [encJb, leaseJ])
    simp only [List.set_set] at q3
    exact q3
  have md : (m : Int) < (N : Int) := by omega
  have m0 : (0 : Int) ≤ (m : Int) := by omega
  clear HQ2 hf hla hb2 hT i0 i1 HLE HQ HY
  go_wp2
  go_region_held3 (fun w' => w'.cell? ⟨b, 5, none⟩ = some (.slice (some ⟨g, 0, none⟩) N cap)) (first | exact c5 | go_simp) (fail)
  all_goals
    go_wp2
    go_ret
    exact ⟨_, _, rfl, HF.out.1.drewN 1, HF.out.2.drewN 1⟩
end Go.Proofs.YtnnnihjagjfkdaaDoor
namespace Go.Proofs.YtnnnihjagjfkdaaDoor
open Go.RowKit
set_option linter.unusedVariables false
set_option maxRecDepth 100000 in
set_option maxHeartbeats 4000000 in
/-- A text that is too long. -/
theorem put_large (b : Nat) (s : ByteArray) (w : World) (hs : 256 < s.size) (h2 : s.size ≤ maxLen) :
    Calls Tryd.prog 11 #[.pointer (some ⟨b, 0, none⟩), .string s] w fun e w' => e = .returned (.tuple #[.int .i64 0, .int .i64 2]) ∧ w = w' := by
  unfold maxLen at h2
  go_enter Tryd.func11, Tryd.ntmps11
  go_wp2
  go_ret2
  exact ⟨rfl, rfl⟩
set_option maxRecDepth 100000 in
set_option maxHeartbeats 4000000 in
/-- A time that is out of bounds. -/
theorem take_range (B b : Nat) (q : Que) (vj vw : Value) (hold : Int) (w : World) (hq : QAt w B b q vj vw) (hh : hold < 1) :
    Calls Tryd.prog 12 #[.pointer (some ⟨b, 0, none⟩), .int .i64 hold] w (RetTake B b q 0 ⟨#[]⟩ 0 3 vj vw w) := by
  have hb0 := balloc (Below.refl _ w) (.cells #[.int .i64 0, .string ⟨#[]⟩] 39)
  obtain ⟨W, hW⟩ : ∃ W, W = w.alloc (.cells #[.int .i64 0, .string ⟨#[]⟩] 39) := ⟨_, rfl⟩
  rw [← hW] at hb0
  have m0 : W.cell? ⟨w.heap.size, 0, none⟩ = some (.int .i64 0) := by rw [hW, cell_of_row _ w.heap.size 0 _ _ (0, 0) (heap_alloc_new w _)]; rfl
  have m1 : W.cell? ⟨w.heap.size, 1, none⟩ = some (.string ⟨#[]⟩) := by rw [hW, cell_of_row _ w.heap.size 1 _ _ (0, 0) (heap_alloc_new w _)]; rfl
  have mf : ∀ o, W.frozen? ⟨w.heap.size, o, none⟩ = false := fun o => by unfold World.frozen?; rw [hW, heap_alloc_new]; simp
  have hin : ¬ InQ b vj vw w.heap.size := fun h => by have := (hq.inq h).2; omega
  have HF : Hid (RetTake B b q 0 ⟨#[]⟩ 0 3 vj vw w (.returned (.tuple #[.agg #[.int .i64 0, .string ⟨#[]⟩], .int .i64 0, .int .i64 3])) ((W.setCell ⟨w.heap.size, 0, none⟩ (.int .i64 0)).setCell ⟨w.heap.size, 1, none⟩ (.string ⟨#[]⟩))) :=
    ⟨rfl, ((hq.below hb0).far hin 0 _).far hin 1 _, ((Turn.ofBelow hb0).setNew (Nat.le_refl _) 0 _).setNew (Nat.le_refl _) 1 _⟩
  have HW := Lib.hid hW
  clear hb0 hq hW hin
  have hres : Tryd.f12.results = #[.cell 4 39, .tmp 5, .tmp 6] := rfl
  go_enter Tryd.func12, Tryd.ntmps12
  go_upto_region 1 with fail
  rw [← HW.out]
  repeat (first | go_values | go_skip | go_guarded | go_step | go_upon)
  refine bodyPost_ret (v := .tuple #[.agg #[.int .i64 0, .string ⟨#[]⟩], .int .i64 0, .int .i64 3]) (by simp only [results, hres]; go_simp) rfl ?_
  exact HF.out
set_option maxRecDepth 100000 in
set_option maxHeartbeats 4000000 in
/-- A time that has passed. -/
theorem tick_range (B b : Nat) (q : Que) (vj vw : Value) (t : Int) (w : World) (hq : QAt w B b q vj vw) (h1 : t < q.now) :
    Calls Tryd.prog 15 #[.pointer (some ⟨b, 0, none⟩), .int .i64 t] w fun e w' => e = .returned (.tuple #[.slice none 0 0, .int .i64 3]) ∧ w = w' := by
  have c4 : w.cell? ⟨b, 4, none⟩ = some (.int .i64 q.now) := hq.tab.at' 4 (by omega)
  clear hq
  go_enter Tryd.func15, Tryd.ntmps15
  go_wp2
  go_ret2
  exact ⟨rfl, rfl⟩
end Go.Proofs.YtnnnihjagjfkdaaDoor
namespace Go.Proofs.YtnnnihjagjfkdaaDoor
open Go.RowKit
set_option linter.unusedVariables false
def RetFind (xs : List Jb) (id : Int) (w : World) (e : Ending) (w' : World) : Prop := ∃ r, e = .returned (.int .i64 r) ∧ FoundAt xs id r ∧ w = w'
set_option maxRecDepth 100000 in
set_option maxHeartbeats 4000000 in
theorem mfind_any (B b : Nat) (m : Mod) (vm : Value) (id : Int) (w : World) (hq : MAt w B b m vm) (hm : m.jobs.length ≤ 64) :
    Calls Tryd.prog 31 #[.pointer (some ⟨b, 0, none⟩), .int .i64 id] w (RetFind m.jobs id w) := by
  obtain ⟨oj, cj, rfl, hjm, hjf⟩ := hq.jobs.flat (fun _ => rfl)
  have c0 : w.cell? ⟨b, 0, none⟩ = some (.slice oj m.jobs.length cj) := hq.tab.at' 0 (by omega)
  have HX := Lib.hid hjf
  obtain ⟨n, hn⟩ : ∃ n, n = m.jobs.length := ⟨_, rfl⟩
  have HN := Lib.hid hn
  rw [← hn] at c0 hm
  clear hn hjf hjm hq
  go_enter Tryd.func31, Tryd.ntmps31
  go_wp2
  go_loopw [11] (fun i wr => ∃ k : Nat, k ≤ n ∧ i = .int .i64 k ∧ Hid (∀ j (hj : j < m.jobs.length), j < k → hasId id m.jobs[j] = false) ∧ w = wr) (fun i _ => n - (intOf i).toNat)
  case atStart => exact ⟨0, by omega, rfl, fun j hj h => by omega, rfl⟩
  case round =>
    obtain ⟨k, hk, rfl, HR, rfl⟩ := hrel
    by_cases hlt : k < n
    · have hkx : k < m.jobs.length := by have := HN.out; omega
      obtain ⟨bj, offj, rfl, i0, i1, i2, i3⟩ := HX.out.jb hkx
      have kd : (k : Int) < (n : Int) := by omega
      have k0 : (0 : Int) ≤ (k : Int) := by omega
      obtain ⟨x, hx⟩ : ∃ x, x = m.jobs[k] := ⟨_, rfl⟩
      rw [← hx] at i0
      have HXK := Lib.hid hx
      clear hx i1 i2 i3
      by_cases he : x.id = id
      · have HF : Hid (RetFind m.jobs id w (.returned (.int .i64 (k : Int))) w) :=
          ⟨k, rfl, .inl ⟨k, rfl, hkx, by rw [← HXK.out]; simpa [hasId] using he, fun j hj => HR.out j (by omega) hj⟩, rfl⟩
        have hbe : (x.id == id) = true := by simpa using he
        clear HR he
        go_wp2
        go_ret
        exact HF.out
      · have HNX : Hid (∀ j (hj : j < m.jobs.length), j < k + 1 → hasId id m.jobs[j] = false) := fun j hj h => by
          by_cases e : j = k
          · subst e
            rw [← HXK.out]
            simpa [hasId] using he
          · exact HR.out j hj (by omega)
        have hbe : (x.id == id) = false := by simpa using he
        clear HR he
        go_wp2
        go_roundw
        case rel => exact ⟨k + 1, by omega, by go_num, HNX, trivial⟩
        case measure => simp [intOf]; omega
    · obtain rfl : n = k := by omega
      have HF : Hid (RetFind m.jobs id w (.returned (.int .i64 (-1))) w) :=
        ⟨-1, rfl, .inr ⟨rfl, fun j hj => HR.out j hj (by have := HN.out; omega)⟩, rfl⟩
      clear HR
      go_wp2
      go_ret
      exact HF.out
/-- What a step is asked. -/
structure StepIn (w : World) (B b bm t : Nat) (q : Que) (m : Mod) (vj vw vm : Value) : Prop where
  two : Two w B b bm q m vj vw vm
  inv : Inv t 0 q m
  tt : t < 60
  tb : ∀ W', Below B w W' → Tabs W'
  hB : B ≤ w.heap.size
theorem StepIn.ht {w : World} {B b bm t : Nat} {q : Que} {m : Mod} {vj vw vm : Value} (h : StepIn w B b bm t q m vj vw vm) : Tabs w := h.tb w (Below.refl _ _)
/-- What a step answers. -/
def RetStep (B b bm t : Nat) (w : World) (e : Ending) (w' : World) : Prop := ∃ q' m' vj' vw' vm', e = .returned (.bool true) ∧ Two w' B b bm q' m' vj' vw' vm' ∧ Below B w w' ∧ Inv (t + 1) 0 q' m'
theorem Two.base {w w1 : World} {B b bm : Nat} {q : Que} {m : Mod} {vj vw vm v1 u1 : Value} (h : Two w B b bm q m vj vw vm) (ht : Turn b vj vw v1 u1 w w1) (hB : B ≤ w.heap.size) : Below B w w1 := ht.base h.q hB
theorem Two.mbase {w w1 : World} {B b bm : Nat} {q : Que} {m : Mod} {vj vw vm v1 : Value} (h : Two w B b bm q m vj vw vm) (ht : MTurn bm vm v1 w w1) (hB : B ≤ w.heap.size) : Below B w w1 := ht.base h.m hB
/-- The list's row has grown by a job, and is stored back. -/
theorem MAt.grow {w w' : World} {B b g cap : Nat} {m : Mod} {vm : Value} {y : Jb} (h : MAt w B b m vm) (hg : w.grownBy w' vm.ownBlock) (hown : Own w' B 58 4 encJb (.slice (some ⟨g, 0, none⟩) (m.jobs.length + 1) cap) (m.jobs ++ [y])) (hat : vm.ownBlock = some g ∨ g = w.heap.size) :
    MAt (w'.setCell ⟨b, 0, none⟩ (.slice (some ⟨g, 0, none⟩) (m.jobs.length + 1) cap)) B b { m with jobs := m.jobs ++ [y] } (.slice (some ⟨g, 0, none⟩) (m.jobs.length + 1) cap) := by
  have hbl := h.lt
  refine h.row (grown_block hg h.lt h.nj) hown ?_
  rcases hat with e | e
  · intro e2; exact h.nj (by rw [e, e2])
  · omega
end Go.Proofs.YtnnnihjagjfkdaaDoor
