/-
  The walks of find, leased, IndexFunc. Own text.
-/
import Derived.Test.YtnnnihjagjfkdaaGreatDoorTake
namespace Go.Proofs.YtnnnihjagjfkdaaGreatDoor
open Go.RowKit
set_option linter.unusedVariables false
def RetNum (n : Int) (w : World) (e : Ending) (w' : World) : Prop := e = .returned (.int .i64 n) ∧ Below w.heap.size w w'
def hasId (id : Int) (j : Jb) : Bool := j.id == id
set_option maxRecDepth 100000 in
set_option maxHeartbeats 4000000 in
/-- The test of one job. -/
theorem test_any (x : Jb) (id : Int) (ba : Nat) (w : World) (hc : w.cell? ⟨ba, 0, none⟩ = some (.int .i64 id)) :
    Calls Tryz.prog 56 #[.agg #[.int .i64 x.id, .string x.text, .int .i64 x.lease, .int .i64 x.till], .pointer (some ⟨ba, 0, none⟩)] w (fun e w' => e = .returned (.bool (hasId id x)) ∧ Below w.heap.size w w') := by
  have hl := cell?_lt hc
  simp only at hl
  have hb0 := balloc (Below.refl _ w) (.cells #[.int .i64 x.id, .string x.text, .int .i64 x.lease, .int .i64 x.till] 73)
  have HB := Lib.hid hb0
  have e1 : (x.id == id) = hasId id x := rfl
  clear hb0
  go_enter Tryz.func56, Tryz.ntmps56
  go_wp2
  go_ret
  exact ⟨by first | rfl | (simp [hasId]), HB.out⟩
def FoundAt (xs : List Jb) (id r : Int) : Prop := (∃ m : Nat, r = m ∧ ∃ h : m < xs.length, hasId id xs[m] = true ∧ ∀ j (hj : j < m), hasId id (xs[j]'(by omega)) = false) ∨ (r = -1 ∧ ∀ j (hj : j < xs.length), hasId id xs[j] = false)
set_option maxRecDepth 100000 in
set_option maxHeartbeats 4000000 in
theorem index_any (oj : Option Addr) (xs : List Jb) (cj : Nat) (id : Int) (ba : Nat) (w : World) (hm : xs.length ≤ 64) (hx : Flat w 4 encJb oj xs) (hc : w.cell? ⟨ba, 0, none⟩ = some (.int .i64 id)) :
    Calls Tryz.prog 55 #[.slice oj xs.length cj, .func (.func 56) #[] #[.pointer (some ⟨ba, 0, none⟩)]] w (fun e w' => ∃ r, e = .returned (.int .i64 r) ∧ FoundAt xs id r ∧ Below w.heap.size w w') := by
  have hl := cell?_lt hc
  simp only at hl
  have HX := Lib.hid hx
  have HC : Hid (∀ W, Below w.heap.size w W → W.cell? ⟨ba, 0, none⟩ = some (.int .i64 id)) := fun W hb => keepCell hb hc
  obtain ⟨n, hn⟩ : ∃ n, n = xs.length := ⟨_, rfl⟩
  have HN := Lib.hid hn
  rw [← hn] at hm
  rw [← hn]
  clear hn hx hc
  go_enter Tryz.func55, Tryz.ntmps55
  go_wp2
  go_loopw [8] (fun i wr => ∃ k : Nat, k ≤ n ∧ i = .int .i64 k ∧ Hid (Below w.heap.size w wr ∧ ∀ j (hj : j < xs.length), j < k → hasId id xs[j] = false)) (fun i _ => n - (intOf i).toNat)
  case atStart => exact ⟨0, by omega, rfl, Below.refl _ _, fun j hj h => by omega⟩
  case round =>
    obtain ⟨k, hk, rfl, HR⟩ := hrel
    by_cases hlt : k < n
    · have hkx : k < xs.length := by have := HN.out; omega
      obtain ⟨bj, offj, rfl, i0, i1, i2, i3⟩ := (HX.out.below HR.out.1).jb hkx
      have kd : (k : Int) < (n : Int) := by omega
      have k0 : (0 : Int) ≤ (k : Int) := by omega
      obtain ⟨x, hx⟩ : ∃ x, x = xs[k] := ⟨_, rfl⟩
      rw [← hx] at i0 i1 i2 i3
      have HXK := Lib.hid hx
      have HT := Lib.hid (test_any x id ba wr (HC.out wr HR.out.1))
      clear hx
      obtain ⟨bb, hbb⟩ : ∃ bb, bb = hasId id x := ⟨_, rfl⟩
      rw [← hbb] at HT
      have HBB := Lib.hid hbb
      clear hbb
      go_wp2_with fail
      refine HT.out.mono ?_
      rintro e w2 ⟨rfl, hb2⟩
      have HB2 := Lib.hid (HR.out.1.trans (hb2.mono HR.out.1.size))
      clear hb2 HT i0 i1 i2 i3
      cases bb with
      | true =>
        have HF : Hid (∃ r, Ending.returned (.int .i64 (k : Int)) = .returned (.int .i64 r) ∧ FoundAt xs id r ∧ Below w.heap.size w w2) :=
          ⟨k, rfl, .inl ⟨k, rfl, hkx, by rw [← HXK.out]; exact HBB.out.symm, fun j hj => HR.out.2 j (by omega) hj⟩, HB2.out⟩
        clear HR
        go_wp2
        go_ret
        exact HF.out
      | false =>
        have HNX : Hid (Below w.heap.size w w2 ∧ ∀ j (hj : j < xs.length), j < k + 1 → hasId id xs[j] = false) := ⟨HB2.out, fun j hj h => by
          by_cases e : j = k
          · subst e
            rw [← HXK.out]
            exact HBB.out.symm
          · exact HR.out.2 j hj (by omega)⟩
        clear HR HB2
        go_wp2
        go_roundw
        case rel => exact ⟨k + 1, by omega, by go_num, HNX⟩
        case measure => simp [intOf]; omega
    · obtain rfl : n = k := by omega
      have HF : Hid (∃ r, Ending.returned (.int .i64 (-1)) = .returned (.int .i64 r) ∧ FoundAt xs id r ∧ Below w.heap.size w wr) :=
        ⟨-1, rfl, .inr ⟨rfl, fun j hj => HR.out.2 j hj (by have := HN.out; omega)⟩, HR.out.1⟩
      clear HR
      go_wp2
      go_ret
      exact HF.out
set_option maxRecDepth 100000 in
set_option maxHeartbeats 4000000 in
theorem find_any (B b : Nat) (q : Que) (vj vw : Value) (id : Int) (w : World) (hq : QAt w B b q vj vw) (hm : q.jobs.length ≤ 64) :
    Calls Tryz.prog 39 #[.pointer (some ⟨b, 0, none⟩), .int .i64 id] w (fun e w' => ∃ r, e = .returned (.int .i64 r) ∧ FoundAt q.jobs id r ∧ Below w.heap.size w w') := by
  obtain ⟨oj, cj, rfl, hjm, hjf⟩ := hq.jobs.flat (fun _ => rfl)
  have hl := hq.lt
  have hb0 := balloc (Below.refl _ w) (.cells #[.int .i64 id] 3)
  have hc0 : (w.alloc (.cells #[.int .i64 id] 3)).cell? ⟨w.heap.size, 0, none⟩ = some (.int .i64 id) := by rw [cell_of_row _ w.heap.size 0 _ _ (0, 0) (heap_alloc_new w _)]; rfl
  have c5 : w.cell? ⟨b, 5, none⟩ = some (.slice oj q.jobs.length cj) := hq.tab.at' 5 (by omega)
  have HI := Lib.hid (index_any oj q.jobs cj id w.heap.size _ hm (hjf.below hb0) hc0)
  have HB := Lib.hid hb0
  have hmf : ∀ (fn : Fn) (first cap : Array Value) (w : World), (Instr.makeFunc fn first cap).run Tryz.prog w = .ok (.func fn first cap) w := fun _ _ _ _ => rfl
  clear hq hjf hb0 hc0
  go_enter Tryz.func39, Tryz.ntmps39
  go_wp2_with fail
  refine HI.out.mono ?_
  rintro e w2 ⟨r, rfl, hf, hb2⟩
  have HF : Hid (∃ r', Ending.returned (.int .i64 r) = .returned (.int .i64 r') ∧ FoundAt q.jobs id r' ∧ Below w.heap.size w w2) := ⟨r, rfl, hf, HB.out.trans (hb2.mono HB.out.size)⟩
  clear hf hb2
  go_wp2
  go_ret
  exact HF.out
end Go.Proofs.YtnnnihjagjfkdaaGreatDoor
