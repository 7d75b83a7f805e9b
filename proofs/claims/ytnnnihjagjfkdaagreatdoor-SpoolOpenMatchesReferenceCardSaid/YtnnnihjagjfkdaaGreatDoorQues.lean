/-
  The walks of the two fixed examples 'queues'. Own text.
-/
import Derived.Test.YtnnnihjagjfkdaaGreatDoorJobs
namespace Go.Proofs.YtnnnihjagjfkdaaGreatDoor
open Go.RowKit
set_option linter.unusedVariables false
def aStr : ByteArray := ⟨#[97]⟩
def oneQ : Que := putQ newQ aStr
theorem one_writes : oneQ.writes.length = 1 ∧ oneQ.jobs.length = 1 ∧ ∀ h : 0 < oneQ.writes.length, (oneQ.writes[0]).area = 0 := ⟨rfl, rfl, fun _ => rfl⟩
theorem put_one (w : World) (B b : Nat) (hq : QAt w B b newQ (.slice none 0 0) (.slice none 0 0)) (hB : B ≤ w.heap.size) (ht : Tabs w) :
    Calls Tryz.prog 15 #[.pointer (some ⟨b, 0, none⟩), .string ⟨#[97]⟩] w (fun e w' => ∃ vj vw, e = .returned (.tuple #[.int .i64 1, .int .i64 0]) ∧ QAt w' B b oneQ vj vw ∧ Below B w w') := by
  refine (put_any B b newQ (.slice none 0 0) (.slice none 0 0) aStr w hq newQ_ok hB ht (by decide) (by decide) (by decide) ?_).mono ?_
  · have h := putL_len newQ.next aStr (by decide) (by decide) (by decide)
    rw [lineV_len]
    show (21 : Int) + _ ≤ _
    omega
  · rintro e w' ⟨vj, vw, rfl, hq', hT⟩
    exact ⟨vj, vw, rfl, hq', hT.base hq hB⟩
theorem Flat.wr {w : World} {oa : Option Addr} {xs : List Wr} (h : Flat w 2 encWr oa xs) {i : Nat} (hi : i < xs.length) :
    ∃ b off, oa = some ⟨b, off, none⟩ ∧ w.cell? ⟨b, off + i * 2, none⟩ = some (.int .i64 xs[i].area) ∧ w.cell? ⟨b, off + i * 2 + 1, none⟩ = some (.string xs[i].data) := by
  obtain ⟨v0, h0, b, off, e, c0⟩ := h i hi 0 (by omega)
  obtain ⟨v1, h1, b1, off1, e1, c1⟩ := h i hi 1 (by omega)
  rw [e] at e1
  simp only [Option.some.injEq, Addr.mk.injEq, and_true] at e1
  obtain ⟨rfl, rfl⟩ := e1
  simp only [encWr, List.getElem?_cons_zero, List.getElem?_cons_succ, Option.some.injEq] at h0 h1
  subst h0 h1
  exact ⟨b, off, e, by simpa using c0, by simpa [Nat.add_assoc] using c1⟩
set_option maxRecDepth 100000 in
set_option maxHeartbeats 4000000 in
theorem queues4_any (w : World) (ht : Tabs w) : Calls Tryz.prog 8 #[] w (fun e w' => e = .returned (.bool true) ∧ Below w.heap.size w w') := by
  have HT := Lib.hid ht
  have HNW := Lib.hid (new_any w ht)
  clear ht
  go_enter Tryz.func8, Tryz.ntmps8
  go_wp2_with fail
  refine HNW.out.mono ?_
  rintro e w2 ⟨rfl, hq2, hb2⟩
  have HP := Lib.hid (put_one w2 w.heap.size w.heap.size hq2 hb2.size (HT.out.below hb2))
  have HB2 := Lib.hid hb2
  have hz2 := hb2.size
  clear hq2 hb2
  go_wp2_with fail
  refine HP.out.mono ?_
  rintro e w3 ⟨vj, vw, rfl, hq3, hb3⟩
  have HB3 := Lib.hid (HB2.out.trans hb3)
  have HW := Lib.hid (writes_any w.heap.size w.heap.size oneQ vj vw w3 hq3 (by rw [one_writes.1]; decide))
  have HQ3 := Lib.hid hq3
  clear hq3 hb3 HP
  go_wp2_with fail
  refine HW.out.mono ?_
  rintro e w4 ⟨v4, rfl, hv4, hb4⟩
  obtain ⟨oa, c4, rfl, _, hf4⟩ := hv4.flat (fun _ => rfl)
  obtain ⟨bw, offw, rfl, j0, _⟩ := hf4.wr (i := 0) (by rw [one_writes.1]; decide)
  rw [one_writes.2.2, Nat.zero_mul, Nat.add_zero] at j0
  rw [one_writes.1]
  have HB4 := Lib.hid (HB3.out.trans (hb4.mono HB3.out.size))
  have HJ := Lib.hid (jobs_any w.heap.size w.heap.size oneQ vj vw w4 (HQ3.out.below hb4) (by rw [one_writes.2.1]; decide))
  clear hv4 hb4 hf4 HW HQ3
  go_wp2_with fail
  refine HJ.out.mono ?_
  rintro e w5 ⟨v5, rfl, hv5, hb5⟩
  obtain ⟨oj, c5, rfl, _, hf5⟩ := hv5.flat (fun _ => rfl)
  rw [List.length_map, one_writes.2.1]
  have HB5 := Lib.hid (HB4.out.trans (hb5.mono HB4.out.size))
  clear hv5 hb5 hf5 HJ
  go_wp2
  go_ret
  exact ⟨rfl, HB5.out⟩
end Go.Proofs.YtnnnihjagjfkdaaGreatDoor
