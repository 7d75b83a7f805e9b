/-
  A step that puts. Own text.
-/
import Derived.Test.YtnnnihjagjfkdaaDoorModF
namespace Go.Proofs.YtnnnihjagjfkdaaDoor
open Go.RowKit
set_option linter.unusedVariables false
set_option maxRecDepth 100000 in
set_option maxHeartbeats 4000000 in
theorem step_put (k : Int) (hk : k = 0 ∨ k = 1) (s : ByteArray) (hsm : s.size ≤ maxLen) (a : Int) (w : World) (B b bm t : Nat) (q : Que) (m : Mod) (vj vw vm : Value) (h : StepIn w B b bm t q m vj vw vm) :
    Calls Tryd.prog 20 #[.pointer (some ⟨bm, 0, none⟩), .pointer (some ⟨b, 0, none⟩), .string s, .int .i64 k, .int .i64 a] w (RetStep B b bm t w) := by
  have H := Lib.hid h
  have hnl : (s.size : Int) ≤ 9223372036854775807 := by unfold maxLen at hsm; omega
  by_cases hs : 256 < s.size
  · have HP := Lib.hid (put_large b s w hs hsm)
    have HF : Hid (RetStep B b bm t w (.returned (.bool true)) w) := ⟨q, m, vj, vw, vm, rfl, H.out.two, Below.refl _ _, H.out.inv.next' (by omega)⟩
    clear h H
    rcases hk with rfl | rfl
    all_goals
      go_enter Tryd.func20, Tryd.ntmps20
      go_wp2_with fail
      refine HP.out.mono ?_
      rintro e w' ⟨rfl, rfl⟩
      go_wp2
      go_ret
      exact HF.out
  · have ht := h.tt
    have hi := h.inv
    have hnx := hi.nx
    have hjl := hi.jl
    have hqn := hi.next
    have hsz := hi.sz
    have hlv := lineV_len q.epoch q.seq (putL q.next s)
    have hpl := putL_len q.next s (by omega) (by omega) (by omega)
    have HP := Lib.hid (put_any B b q vj vw s w h.two.q (hi.qok (by omega) (by omega)) h.hB h.ht (by omega) (by rw [hi.jlq]; omega) (by omega) (by omega))
    rw [hqn] at HP
    have HI := Lib.hid (hi.put (by omega) s (by omega))
    have HPM : Hid (putM m s = { m with jobs := m.jobs ++ [⟨m.next, s, 0, 0⟩], next := m.next + 1 }) := rfl
    have hml : m.jobs.length ≤ 60 := by omega
    have hmn : 1 ≤ m.next ∧ m.next ≤ 100 := by omega
    clear hi hnx hjl hqn hsz hlv hpl h ht
    generalize putQ q s = q' at *
    generalize putM m s = m' at *
    rcases hk with rfl | rfl
    all_goals
      go_enter Tryd.func20, Tryd.ntmps20
      go_wp2_with fail
      refine HP.out.mono ?_
      rintro e w2 ⟨vj2, vw2, rfl, hq2, ht2⟩
      have HT2 := Lib.hid (H.out.two.turn hq2 ht2)
      have HB2 := Lib.hid (H.out.two.base ht2 H.out.hB)
      clear hq2 ht2 HP
      obtain ⟨om, cm, rfl, hmm, -⟩ := HT2.out.m.jobs.flat (fun _ => rfl)
      have c0 : w2.cell? ⟨bm, 0, none⟩ = some (.slice om m.jobs.length cm) := HT2.out.m.tab.at' 0 (by omega)
      have c1 : w2.cell? ⟨bm, 1, none⟩ = some (.int .i64 m.next) := HT2.out.m.tab.at' 1 (by omega)
      have e64 : ((m.jobs.length : Int) == 64) = false := by simp; omega
      have hB2 : B ≤ w2.heap.size := Nat.le_trans H.out.hB HB2.out.size
      have hbl := HT2.out.m.lt
      clear hmm
      go_upto_region 9 with fail
      have HMA := Lib.hid (HT2.out.m.below (balloc (Below.refl _ w2) (.cells #[.int .i64 m.next, .string s, .int .i64 0, .int .i64 0] 58)))
      have HMT := Lib.hid ((MTurn.refl bm (.slice om m.jobs.length cm) w2).alloc (.cells #[.int .i64 m.next, .string s, .int .i64 0, .int .i64 0] 58))
      have HJ1 : Hid (Own w2 B 58 4 encJb (.slice om m.jobs.length cm) m.jobs) := HT2.out.m.jobs
      go_region_law (first | (refine step_app1L (by rfl) (.tmp 67) (.tmp 75) 53 (by rfl) elemMj Tryd.underlying53 B (.slice om m.jobs.length cm) m.jobs encJb (by rfl) (HJ1.out.alloc (.cells #[.int .i64 m.next, .string s, .int .i64 0, .int .i64 0] 58)) ⟨m.next, s, 0, 0⟩ ⟨w2.heap.size, 0, none⟩ 1 (by rfl) (by rfl) (World.news_of_block (cs := #[.int .i64 m.next, .string s, .int .i64 0, .int .i64 0]) (t := 58) (fr := (0, 0)) (heap_alloc_new w2 _)) (by simp [encJb, Value.oneCell']) (by omega) (by unfold maxLen; omega) (by simp; omega) ?_; intro g6 cap6 w6 hown6 hg6 hat6; have hgg : (w2.alloc (.cells #[.int .i64 m.next, .string s, .int .i64 0, .int .i64 0] 58)).grownBy w6 (Value.slice om m.jobs.length cm).ownBlock := ⟨hg6.os, hg6.tape, hg6.output, hg6.size, hg6.block⟩; have hft := HMA.out.tab.ofBlock (grown_block hgg HMA.out.lt HMA.out.nj); have n0 : w6.cell? ⟨bm, 0, none⟩ = some (.slice om m.jobs.length cm) := hft.at' 0 (by omega); have n1 : w6.cell? ⟨bm, 1, none⟩ = some (.int .i64 m.next) := hft.at' 1 (by omega); have nf := hft.fz; have HG6 := Lib.hid hgg; have HOWN6 := Lib.hid hown6; have HAT6 := Lib.hid hat6; clear hgg hft hg6 hown6 hat6) | fail)
      all_goals
        have HM7 := Lib.hid (HMA.out.grow (y := ⟨m.next, s, 0, 0⟩) (cap := cap6) (g := g6) HG6.out HOWN6.out HAT6.out)
        have HMT7 := Lib.hid ((HMT.out.grow (n := m.jobs.length + 1) (cap := cap6) HG6.out HAT6.out).set 0 (.slice (some ⟨g6, 0, none⟩) (m.jobs.length + 1) cap6))
        clear HG6 HOWN6 HAT6 n0 n1 nf c0 c1 HMA HMT HJ1 e64
        generalize w6.setCell ⟨bm, 0, none⟩ (.slice (some ⟨g6, 0, none⟩) (m.jobs.length + 1) cap6) = w7 at *
        have e1 : w7.cell? ⟨bm, 1, none⟩ = some (.int .i64 m.next) := HM7.out.tab.at' 1 (by omega)
        have ef := HM7.out.tab.fz
        have HF : Hid (RetStep B b bm t w (.returned (.bool true)) (w7.setCell ⟨bm, 1, none⟩ (.int .i64 (m.next + 1)))) := by
          have hm8 : MAt (w7.setCell ⟨bm, 1, none⟩ (.int .i64 (m.next + 1))) B bm m' (.slice (some ⟨g6, 0, none⟩) (m.jobs.length + 1) cap6) := by
            rw [HPM.out]
            exact MAt.put (m' := { m with jobs := m.jobs ++ [⟨m.next, s, 0, 0⟩], next := m.next + 1 }) HM7.out (i := 1) (by omega) (.int .i64 (m.next + 1)) rfl (fun j hj => by
              match j, hj with
              | 0, _ => rfl
              | 1, _ => rfl
              | 2, _ => rfl
              | 3, _ => rfl)
          have ht8 := HMT7.out.set 1 (.int .i64 (m.next + 1))
          exact ⟨q', m', _, _, _, rfl, HT2.out.mturn hm8 ht8, HB2.out.trans (HT2.out.mbase ht8 hB2), HI.out⟩
        have esub : m.next + 1 - 1 = m.next := by omega
        have ebe : (m.next == m.next) = true := by simp
        clear HM7 HMT7
        go_wp2
        go_ret
        exact HF.out
end Go.Proofs.YtnnnihjagjfkdaaDoor
