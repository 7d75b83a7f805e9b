/-
  The walk of leased. Own text.
-/
import Derived.Test.YtnnnihjagjfkdaaGreatDoorFind
namespace Go.Proofs.YtnnnihjagjfkdaaGreatDoor
open Go.RowKit
set_option linter.unusedVariables false
def LeasedAt (xs : List Jb) (id n i c : Int) : Prop := (c = 8 ∧ i = 0 ∧ ∀ j (hj : j < xs.length), hasId id xs[j] = false) ∨ (∃ m : Nat, ∃ h : m < xs.length, hasId id xs[m] = true ∧ (∀ j (hj : j < m), hasId id (xs[j]'(by omega)) = false) ∧ (((n = 0 ∨ xs[m].lease ≠ n) ∧ i = 0 ∧ c = 9) ∨ (n ≠ 0 ∧ xs[m].lease = n ∧ i = m ∧ c = 0)))
def RetLeased (xs : List Jb) (id n : Int) (w : World) (e : Ending) (w' : World) : Prop := ∃ i c, e = .returned (.tuple #[.int .i64 i, .int .i64 c]) ∧ LeasedAt xs id n i c ∧ Below w.heap.size w w'
set_option maxRecDepth 100000 in
set_option maxHeartbeats 4000000 in
theorem leased_any (B b : Nat) (q : Que) (vj vw : Value) (id n : Int) (w : World) (hq : QAt w B b q vj vw) (hm : q.jobs.length ≤ 64) :
    Calls Tryz.prog 50 #[.pointer (some ⟨b, 0, none⟩), .int .i64 id, .int .i64 n] w (RetLeased q.jobs id n w) := by
  have HFI := Lib.hid (find_any B b q vj vw id w hq hm)
  have HQ := Lib.hid hq
  have hl := hq.lt
  clear hq
  go_enter Tryz.func50, Tryz.ntmps50
  go_wp2_with fail
  refine HFI.out.mono ?_
  rintro e w2 ⟨r, rfl, hf, hb2⟩
  have HB := Lib.hid hb2
  have HQ2 := Lib.hid (HQ.out.below hb2)
  clear hb2 HFI HQ
  rcases hf with ⟨m, rfl, hm2, hid, hno⟩ | ⟨rfl, hno⟩
  · obtain ⟨oj, cj, rfl, hjm, hjf⟩ := HQ2.out.jobs.flat (fun _ => rfl)
    have c5 : w2.cell? ⟨b, 5, none⟩ = some (.slice oj q.jobs.length cj) := HQ2.out.tab.at' 5 (by omega)
    obtain ⟨bj, offj, rfl, i0, i1, i2, i3⟩ := hjf.jb hm2
    have kd : (m : Int) < (q.jobs.length : Int) := by omega
    have k0 : (0 : Int) ≤ (m : Int) := by omega
    obtain ⟨x, hx⟩ : ∃ x, x = q.jobs[m].lease := ⟨_, rfl⟩
    rw [← hx] at i2
    have HX := Lib.hid hx
    have HID := Lib.hid hid
    have HNO := Lib.hid hno
    have HM2 := Lib.hid hm2
    have hlen : q.jobs.length ≤ 64 := hm
    clear hx hid hno i0 i1 i3 hjf hjm
    by_cases h0 : n = 0
    · subst h0
      have HF : Hid (RetLeased q.jobs id 0 w (.returned (.tuple #[.int .i64 0, .int .i64 9])) w2) := ⟨0, 9, rfl, .inr ⟨m, HM2.out, HID.out, HNO.out, .inl ⟨.inl rfl, rfl, rfl⟩⟩, HB.out⟩
      clear HQ2
      go_wp2
      go_ret2
      exact HF.out
    · by_cases h1 : x = n
      · have HF : Hid (RetLeased q.jobs id n w (.returned (.tuple #[.int .i64 (m : Int), .int .i64 0])) w2) := ⟨m, 0, rfl, .inr ⟨m, HM2.out, HID.out, HNO.out, .inr ⟨h0, by rw [← HX.out]; exact h1, rfl, rfl⟩⟩, HB.out⟩
        subst h1
        have hbe : (x == x) = true := by simp
        clear HQ2
        go_wp2
        go_ret2
        exact HF.out
      · have HF : Hid (RetLeased q.jobs id n w (.returned (.tuple #[.int .i64 0, .int .i64 9])) w2) := ⟨0, 9, rfl, .inr ⟨m, HM2.out, HID.out, HNO.out, .inl ⟨.inr (by rw [← HX.out]; exact h1), rfl, rfl⟩⟩, HB.out⟩
        have hbe : (x != n) = true := by simpa using h1
        have hn0 : (n == 0) = false := by simpa using h0
        clear HQ2
        go_wp2
        go_ret2
        exact HF.out
  · have HF : Hid (RetLeased q.jobs id n w (.returned (.tuple #[.int .i64 0, .int .i64 8])) w2) := ⟨0, 8, rfl, .inl ⟨rfl, rfl, hno⟩, HB.out⟩
    clear HQ2 hno
    go_wp2
    go_ret2
    exact HF.out
end Go.Proofs.YtnnnihjagjfkdaaGreatDoor
