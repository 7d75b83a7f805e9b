/-
  A step that makes the writes certain, and one that compacts. Own text.
-/
import Derived.Test.YtnnnihjagjfkdaaDoorModF
namespace Go.Proofs.YtnnnihjagjfkdaaDoor
open Go.RowKit
set_option linter.unusedVariables false
set_option maxRecDepth 100000 in
set_option maxHeartbeats 4000000 in
theorem step_comp (s : ByteArray) (a : Int) (w : World) (B b bm t : Nat) (q : Que) (m : Mod) (vj vw vm : Value) (h : StepIn w B b bm t q m vj vw vm) :
    Calls Tryd.prog 20 #[.pointer (some ⟨bm, 0, none⟩), .pointer (some ⟨b, 0, none⟩), .string s, .int .i64 6, .int .i64 a] w (RetStep B b bm t w) := by
  have H := Lib.hid h
  have ht := h.tt
  have hi := h.inv
  have hj := hi.jl
  have hje := hi.jlq
  have hep := hi.ep
  have hnx := hi.nx
  have hnq := hi.next
  have hle := compLs_le q q.jobs.length (hi.jobsOk (by omega)) (Nat.le_refl _) (by omega) (by omega) (by omega) (by omega) (by omega)
  have HC := Lib.hid (comp_any B b q vj vw w ⟨h.two.q, hi.qok (by omega) (by omega), h.ht, h.hB, hi.jobsOk (by omega), by omega, by omega, hi.wa, by have := hi.bs; omega⟩)
  have HI := Lib.hid (hi.comp (by omega))
  clear h ht hi hj hje hep hnx hnq hle
  generalize compQ q = q' at *
  go_enter Tryd.func20, Tryd.ntmps20
  go_wp2_with fail
  refine HC.out.mono ?_
  rintro e w2 ⟨vj2, vw2, rfl, hq2, ht2⟩
  have HF : Hid (RetStep B b bm t w (.returned (.bool true)) w2) := ⟨q', m, vj2, vw2, vm, rfl, H.out.two.turn hq2 ht2, H.out.two.base ht2 H.out.hB, HI.out⟩
  clear hq2 ht2 HC
  go_wp2
  go_ret
  exact HF.out
set_option maxRecDepth 100000 in
set_option maxHeartbeats 4000000 in
theorem step_sync (s : ByteArray) (a : Int) (w : World) (B b bm t : Nat) (q : Que) (m : Mod) (vj vw vm : Value) (h : StepIn w B b bm t q m vj vw vm) :
    Calls Tryd.prog 20 #[.pointer (some ⟨bm, 0, none⟩), .pointer (some ⟨b, 0, none⟩), .string s, .int .i64 7, .int .i64 a] w (RetStep B b bm t w) := by
  have H := Lib.hid h
  have ht := h.tt
  have hi := h.inv
  have hwl : q.writes.length ≤ 4000 := by have := hi.wl; omega
  have HW1 := Lib.hid (writes_any B b q vj vw w h.two.q (by omega))
  have HSY : Hid (∀ W, Below w.heap.size w W → Calls Tryd.prog 34 #[.pointer (some ⟨b, 0, none⟩)] W (RetSync B b (syncQ q) (q.writes.length : Nat) vj vw W)) := fun W hb => sync_any B b q vj vw W (H.out.two.q.below hb) (by omega) H.out.inv.wa (by have := H.out.inv.bs; have := H.out.tt; omega)
  have HW2 : Hid (∀ W, QAt W B b (syncQ q) vj (.slice none 0 0) → Calls Tryd.prog 21 #[.pointer (some ⟨b, 0, none⟩)] W (RetRows 30 2 encWr [] W)) := fun W hq => writes_any B b (syncQ q) vj (.slice none 0 0) W hq (by simp [syncQ])
  have HI := Lib.hid hi.sync
  have HWL := Lib.hid hwl
  obtain ⟨n, hn⟩ : ∃ n, n = q.writes.length := ⟨_, rfl⟩
  have HN := Lib.hid hn
  rw [← hn] at hwl HSY
  clear h ht hi hn
  generalize syncQ q = q' at *
  go_enter Tryd.func20, Tryd.ntmps20
  go_wp2_with fail
  refine HW1.out.mono ?_
  rintro e w2 ⟨v, rfl, hv, hb2⟩
  obtain ⟨ov, cv, rfl, -, -⟩ := hv.flat (fun _ => rfl)
  rw [← HN.out]
  have HB2 := Lib.hid hb2
  clear hv hb2 HW1
  go_wp2_with fail
  refine (HSY.out _ HB2.out).mono ?_
  rintro e w3 ⟨rfl, hq3, ht3⟩
  have HT3 := Lib.hid ((H.out.two.below HB2.out).turn hq3 ht3)
  have HB3 : Hid (Below B w w3) := (HB2.out.mono H.out.hB).trans ((H.out.two.below HB2.out).base ht3 (Nat.le_trans H.out.hB HB2.out.size))
  clear hq3 ht3 HSY
  have hbe : ((n : Int) == (n : Int)) = true := by simp
  go_wp2_with fail
  refine (HW2.out _ HT3.out.q).mono ?_
  rintro e w4 ⟨v4, rfl, hv4, hb4⟩
  obtain ⟨o4, c4, rfl, -, -⟩ := hv4.flat (fun _ => rfl)
  have HF : Hid (RetStep B b bm t w (.returned (.bool true)) w4) := ⟨q', m, _, _, _, rfl, HT3.out.below hb4, HB3.out.trans (hb4.mono (Nat.le_trans H.out.hB HB3.out.size)), HI.out⟩
  clear hv4 hb4 HW2
  go_wp2
  go_ret
  exact HF.out
end Go.Proofs.YtnnnihjagjfkdaaDoor
