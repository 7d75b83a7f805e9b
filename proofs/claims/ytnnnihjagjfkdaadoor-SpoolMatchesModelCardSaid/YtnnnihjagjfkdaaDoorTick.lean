/-
  The walk of the queue's Tick. Own text.
-/
import Derived.Test.YtnnnihjagjfkdaaDoorTake
namespace Go.Proofs.YtnnnihjagjfkdaaDoor
open Go.RowKit
set_option linter.unusedVariables false
def expJ (t : Int) (j : Jb) : Bool := !(j.lease == 0) && decide (j.till ≤ t)
def tickJ (t : Int) (j : Jb) : Jb := if expJ t j then leaseJ j 0 0 else j
def tickQ (q : Que) (t : Int) : Que := { q with now := t, jobs := q.jobs.map (tickJ t) }
def tickIds (xs : List Jb) (t : Int) : List Int := (xs.filter (expJ t)).map Jb.id
def midJ (f : Jb → Jb) (xs : List Jb) (k : Nat) : List Jb := (xs.take k).map f ++ xs.drop k
theorem midJ_len (f : Jb → Jb) (xs : List Jb) (k : Nat) (h : k ≤ xs.length) : (midJ f xs k).length = xs.length := by
  unfold midJ
  simp
  omega
theorem midJ_at (f : Jb → Jb) (xs : List Jb) (k : Nat) (h : k < xs.length) : midJ f xs k = (xs.take k).map f ++ xs[k] :: xs.drop (k + 1) := by
  unfold midJ
  rw [List.drop_eq_getElem_cons h]
theorem midJ_next (f : Jb → Jb) (xs : List Jb) (k : Nat) (h : k < xs.length) : midJ f xs (k + 1) = (xs.take k).map f ++ f xs[k] :: xs.drop (k + 1) := by
  unfold midJ
  rw [List.take_succ_eq_append_getElem h, List.map_append, List.append_assoc]
  rfl
theorem midJ_get (f : Jb → Jb) (xs : List Jb) (k : Nat) (h : k < xs.length) (h' : k < (midJ f xs k).length) : (midJ f xs k)[k] = xs[k] := by
  have e := midJ_at f xs k h
  have hl : ((xs.take k).map f).length = k := by simp; omega
  simp only [e]
  rw [List.getElem_append_right (by omega)]
  have h0 : k - ((xs.take k).map f).length = 0 := by omega
  simp only [h0]
  rfl
theorem midJ_set (f : Jb → Jb) (xs : List Jb) (k : Nat) (h : k < xs.length) : (midJ f xs k).set k (f xs[k]) = midJ f xs (k + 1) := by
  have hl : ((xs.take k).map f).length = k := by simp; omega
  rw [midJ_at f xs k h, midJ_next f xs k h, List.set_append_right _ _ (by omega), hl, Nat.sub_self]
  rfl
theorem midJ_keep (f : Jb → Jb) (xs : List Jb) (k : Nat) (h : k < xs.length) (e : f xs[k] = xs[k]) : midJ f xs (k + 1) = midJ f xs k := by
  rw [midJ_at f xs k h, midJ_next f xs k h, e]
theorem tickIds_next (xs : List Jb) (t : Int) (k : Nat) (h : k < xs.length) : tickIds (xs.take (k + 1)) t = tickIds (xs.take k) t ++ (if expJ t xs[k] then [xs[k].id] else []) := by
  unfold tickIds
  rw [List.take_succ_eq_append_getElem h, List.filter_append, List.map_append]
  congr 1
  by_cases hx : expJ t xs[k] = true
  · simp [hx]
  · simp [hx]
theorem QAt.beside {w w' : World} {B b : Nat} {q : Que} {vj vw u : Value} (h : QAt w B b q vj vw) (hg : w.grownBy w' u.ownBlock) (hn : ∀ g, InQ b vj vw g → u.ownBlock ≠ some g) : QAt w' B b q vj vw :=
  ⟨h.tab.ofBlock (grown_block hg h.lt (hn b (.inl rfl))), h.jobs.ofBlocks fun j hj => grown_block hg (h.jobs.blk hj).2 (hn j (.inr (.inl hj))), h.wr.ofBlocks fun j hj => grown_block hg (h.wr.blk hj).2 (hn j (.inr (.inr hj))), h.bb, h.nj, h.nw, h.jw⟩
theorem Turn.beside {b : Nat} {vj vw v1 u1 u : Value} {w w1 w' : World} (h : Turn b vj vw v1 u1 w w1) (hg : w1.grownBy w' u.ownBlock) (hn : ∀ g, u.ownBlock = some g → w.heap.size ≤ g) : Turn b vj vw v1 u1 w w' := by
  have hs := h.size
  refine ⟨hg.os.trans h.os, hg.tape.trans h.tape, hg.output.trans h.output, Nat.le_trans hs hg.size, fun j hj hi => ?_, h.kj, h.kw⟩
  rw [grown_block hg (by omega) (fun e => by have := hn j e; omega), h.block j hj hi]
theorem elemIntT : ElemType Tryd.prog 3 (.int .i64 0) 1 8 := ElemType.mk (by kernel_rfl) rfl (by decide)
def RetTick (B b : Nat) (q' : Que) (ids : List Int) (vj vw : Value) (w : World) (e : Ending) (w' : World) : Prop := ∃ v, e = .returned (.tuple #[v, .int .i64 0]) ∧ QAt w' B b q' vj vw ∧ Turn b vj vw vj vw w w' ∧ Own w' w.heap.size 3 1 encInt v ids
set_option maxRecDepth 100000 in
set_option maxHeartbeats 4000000 in
theorem tick_any (B b : Nat) (q : Que) (vj vw : Value) (t : Int) (w : World) (hq : QAt w B b q vj vw) (h1 : q.now ≤ t) (h2 : t ≤ 1099511627776) (hjl : q.jobs.length ≤ 64) :
    Calls Tryd.prog 15 #[.pointer (some ⟨b, 0, none⟩), .int .i64 t] w (RetTick B b (tickQ q t) (tickIds q.jobs t) vj vw w) := by
  obtain ⟨oj, cj, rfl, hjm, hjf⟩ := hq.jobs.flat (fun _ => rfl)
  have hl := hq.lt
  have hgl : ∀ g, InQ b (.slice oj q.jobs.length cj) vw g → g < w.heap.size := fun g h => (hq.inq h).2
  have HGL := Lib.hid hgl
  have c4 : w.cell? ⟨b, 4, none⟩ = some (.int .i64 q.now) := hq.tab.at' 4 (by omega)
  have c5 : w.cell? ⟨b, 5, none⟩ = some (.slice oj q.jobs.length cj) := hq.tab.at' 5 (by omega)
  have cf := hq.tab.fz
  have hq1 : QAt (w.setCell ⟨b, 4, none⟩ (.int .i64 t)) B b { q with now := t } (.slice oj q.jobs.length cj) vw := QAt.put hq (i := 4) (by omega) (.int .i64 t) rfl rfl (fun j hj => by
    match j, hj with
    | 0, _ => rfl
    | 1, _ => rfl
    | 2, _ => rfl
    | 3, _ => rfl
    | 4, _ => rfl
    | 5, _ => rfl
    | 6, _ => rfl
    | 7, _ => rfl
    | 8, _ => rfl
    | 9, _ => rfl
    | 10, _ => rfl)
  have HQ1 := Lib.hid hq1
  have HT1 := Lib.hid ((Turn.refl b (.slice oj q.jobs.length cj) vw w).set 4 (.int .i64 t))
  have hj5 : (w.setCell ⟨b, 4, none⟩ (.int .i64 t)).cell? ⟨b, 5, none⟩ = some (.slice oj q.jobs.length cj) := hq1.tab.at' 5 (by omega)
  obtain ⟨n, hn⟩ : ∃ n, n = q.jobs.length := ⟨_, rfl⟩
  have HNN := Lib.hid hn
  have hbj : Value.ownBlock (.slice oj q.jobs.length cj) ≠ some b := hq.nj
  have HBJ := Lib.hid hbj
  rw [← hn] at c5 hjl
  clear hq hq1 hjf hjm hj5 hbj hgl
  have z1 : ¬ t < q.now := by omega
  have z2 : ¬ 1099511627776 < t := by omega
  go_enter Tryd.func15, Tryd.ntmps15
  go_wp2
  go_loopw [6, 28] (fun v i wr => ∃ k : Nat, k ≤ n ∧ i = .int .i64 k ∧ Hid (QAt wr B b { q with now := t, jobs := midJ (tickJ t) q.jobs k } (.slice oj q.jobs.length cj) vw ∧ Turn b (.slice oj q.jobs.length cj) vw (.slice oj q.jobs.length cj) vw w wr ∧ Own wr w.heap.size 3 1 encInt v (tickIds (q.jobs.take k) t))) (fun _ i _ => n - (intOf i).toNat)
  case atStart => exact ⟨0, by omega, rfl, HQ1.out, HT1.out, Own.nil _ _ _ _ _⟩
  case round =>
    obtain ⟨k, hk, rfl, HR⟩ := hrel
    by_cases hlt : k < n
    · have hkx : k < q.jobs.length := by have := HNN.out; omega
      have kd : (k : Int) < (n : Int) := by omega
      have k0 : (0 : Int) ≤ (k : Int) := by omega
      have hml := midJ_len (tickJ t) q.jobs k (by omega)
      have hkm : k < (midJ (tickJ t) q.jobs k).length := by rw [hml]; exact hkx
      have d5 : wr.cell? ⟨b, 5, none⟩ = some (.slice oj n cj) := by rw [HNN.out]; exact HR.out.1.tab.at' 5 (by omega)
      rcases HR.out.1.jobs.2 with ⟨e, he⟩ | ⟨g, cap, cur, e, hbg, hrow, hr⟩
      · have he' : (midJ (tickJ t) q.jobs k).length = 0 := he
        omega
      simp only [Value.slice.injEq] at e
      obtain ⟨rfl, -, rfl⟩ := e
      have gf : ∀ o, wr.frozen? ⟨g, o, none⟩ = false := fun o => by unfold World.frozen?; rw [hrow]; simp
      have hgw : g < w.heap.size := HGL.out g (.inr (.inl rfl))
      have hgb : g ≠ b := fun e => HBJ.out (by rw [e]; rfl)
      obtain ⟨oa, c, e2, _, hf⟩ := HR.out.1.jobs.flat (fun _ => rfl)
      simp only [Value.slice.injEq] at e2
      obtain ⟨rfl, -, -⟩ := e2
      obtain ⟨b1, off, e3, i0, i1, i2, i3⟩ := hf.jb hkm
      simp only [Option.some.injEq, Addr.mk.injEq, and_true] at e3
      obtain ⟨rfl, rfl⟩ := e3
      have hget := midJ_get (tickJ t) q.jobs k hkx hkm
      simp only [hget, Nat.zero_add] at i0 i2 i3
      obtain ⟨x, hx⟩ : ∃ x, x = q.jobs[k] := ⟨_, rfl⟩
      rw [← hx] at i0 i2 i3
      have HX := Lib.hid hx
      have hidn := tickIds_next q.jobs t k hkx
      have hset := midJ_set (tickJ t) q.jobs k hkx
      rw [← hx] at hidn hset
      have HID := Lib.hid hidn
      have HST := Lib.hid hset
      clear hx hidn hset hf hrow hr i1 hml
      by_cases hz : x.lease = 0
      · have hbe : (x.lease == 0) = true := by simpa using hz
        have he : expJ t x = false := by unfold expJ; rw [hbe]; rfl
        have HN : Hid (QAt wr B b { q with now := t, jobs := midJ (tickJ t) q.jobs (k + 1) } (.slice (some ⟨g, 0, none⟩) q.jobs.length cj) vw ∧ Turn b (.slice (some ⟨g, 0, none⟩) q.jobs.length cj) vw (.slice (some ⟨g, 0, none⟩) q.jobs.length cj) vw w wr ∧ Own wr w.heap.size 3 1 encInt u6 (tickIds (q.jobs.take (k + 1)) t)) := by
          refine ⟨?_, HR.out.2.1, ?_⟩
          · rw [midJ_keep _ _ _ hkx (by rw [← HX.out]; unfold tickJ; rw [he]; rfl)]; exact HR.out.1
          · rw [HID.out, he]; simpa using HR.out.2.2
        rw [hz] at i2
        clear HR he hz hbe
        go_wp2
        go_roundw
        case rel => exact ⟨k + 1, by omega, by go_num, HN⟩
        case measure => simp [intOf]; omega
      · have hbe : (x.lease == 0) = false := by simpa using hz
        by_cases ht : x.till ≤ t
        · have he : expJ t x = true := by unfold expJ; rw [hbe]; simpa using ht
          have hQ2 : QAt ((wr.setCell ⟨g, k * 4 + 2, none⟩ (.int .i64 0)).setCell ⟨g, k * 4 + 3, none⟩ (.int .i64 0)) B b { q with now := t, jobs := midJ (tickJ t) q.jobs (k + 1) } (.slice (some ⟨g, 0, none⟩) q.jobs.length cj) vw := by
            have q2 := HR.out.1.setJob (i := k) hkm (j := 2) (by omega) (v := .int .i64 0) (y := { q.jobs[k] with lease := 0 }) (by rw [hget]; rfl)
            have q3 := q2.setJob (i := k) (by simpa using hkm) (j := 3) (by omega) (v := .int .i64 0) (y := leaseJ q.jobs[k] 0 0) (by simp [encJb, leaseJ])
            simp only [List.set_set] at q3
            have e4 : leaseJ q.jobs[k] 0 0 = tickJ t x := by unfold tickJ; rw [he, HX.out]; rfl
            rw [e4, HST.out] at q3
            exact q3
          have hT2 := (HR.out.2.1.setJ (k * 4 + 2) (.int .i64 0)).setJ (k * 4 + 3) (.int .i64 0)
          have hsz : w.heap.size ≤ wr.heap.size := HR.out.2.1.size
          have hO2 : Own ((wr.setCell ⟨g, k * 4 + 2, none⟩ (.int .i64 0)).setCell ⟨g, k * 4 + 3, none⟩ (.int .i64 0)) w.heap.size 3 1 encInt u6 (tickIds (q.jobs.take k) t) := by
            have hne : u6.ownBlock ≠ some g := fun h => by
              have h1 := (HR.out.2.2.blk h).1
              omega
            exact own_other (own_other HR.out.2.2 hne _) hne _
          have hlen : (tickIds (q.jobs.take k) t).length ≤ 64 := by
            unfold tickIds
            rw [List.length_map]
            have h1 := List.length_filter_le (expJ t) (q.jobs.take k)
            rw [List.length_take] at h1
            omega
          have HQ2 := Lib.hid (hQ2.below (balloc (Below.refl _ _) (.cells #[.int .i64 x.id] 3)))
          have HT2 := Lib.hid (hT2.alloc (.cells #[.int .i64 x.id] 3))
          have HO2 := Lib.hid (hO2.alloc (.cells #[.int .i64 x.id] 3))
          have HIN : Hid (tickIds (q.jobs.take (k + 1)) t = tickIds (q.jobs.take k) t ++ [x.id]) := by
            show _ = _
            rw [HID.out, he]
            rfl
          have HNE : Hid (∀ g, u6.ownBlock = some g → w.heap.size ≤ g) := fun g h => (HR.out.2.2.blk h).1
          have HNEW : Hid (∀ j u, (encInt x.id)[j]? = some u → (((wr.setCell ⟨g, k * 4 + 2, none⟩ (.int .i64 0)).setCell ⟨g, k * 4 + 3, none⟩ (.int .i64 0)).alloc (.cells #[.int .i64 x.id] 3)).cell? ((⟨wr.heap.size, 0, none⟩ : Addr).add j) = some u) := by
            have h := World.news_of_block (cs := #[.int .i64 x.id]) (t := 3) (fr := (0, 0)) (heap_alloc_new ((wr.setCell ⟨g, k * 4 + 2, none⟩ (.int .i64 0)).setCell ⟨g, k * 4 + 3, none⟩ (.int .i64 0)) _)
            have hz : ((wr.setCell ⟨g, k * 4 + 2, none⟩ (.int .i64 0)).setCell ⟨g, k * 4 + 3, none⟩ (.int .i64 0)).heap.size = wr.heap.size := by simp
            rw [hz] at h
            exact h
          have hll := Lib.hid hlen
          have hwl : wr.heap.size < wr.heap.size + 1 := by omega
          clear HR hQ2 hT2 hO2 he HQ1 HT1 c4 cf hlen
          go_wp2_with (at_builtin; refine wpList_app1 rfl (.tmp 56) (.tmp 62) 37 rfl elemIntT Tryd.underlying37 w.heap.size u6 _ encInt rfl HO2.out x.id ⟨wr.heap.size, 0, none⟩ 1 rfl rfl HNEW.out ?c1 ?c2 ?c3 ?c4 ?_)
          case c1 => simp [encInt, Value.oneCell']
          case c2 => have := hll.out; omega
          case c3 => have := hll.out; unfold maxLen; omega
          case c4 => omega
          intro v' w5 hown5 hg5
          have HN : Hid (QAt w5 B b { q with now := t, jobs := midJ (tickJ t) q.jobs (k + 1) } (.slice (some ⟨g, 0, none⟩) q.jobs.length cj) vw ∧ Turn b (.slice (some ⟨g, 0, none⟩) q.jobs.length cj) vw (.slice (some ⟨g, 0, none⟩) q.jobs.length cj) vw w w5 ∧ Own w5 w.heap.size 3 1 encInt v' (tickIds (q.jobs.take (k + 1)) t)) :=
            ⟨HQ2.out.beside hg5 fun j hj e => by have h1 := HGL.out j hj; have h2 := HNE.out j e; omega, HT2.out.beside hg5 HNE.out, by rw [HIN.out]; exact hown5⟩
          clear hown5 hg5 HQ2 HT2 HO2 HNEW
          go_wp2
          go_roundw
          case rel => exact ⟨k + 1, by omega, by go_num, HN⟩
          case measure => simp [intOf]; omega
        · have he : expJ t x = false := by unfold expJ; rw [hbe]; simpa using ht
          have HN : Hid (QAt wr B b { q with now := t, jobs := midJ (tickJ t) q.jobs (k + 1) } (.slice (some ⟨g, 0, none⟩) q.jobs.length cj) vw ∧ Turn b (.slice (some ⟨g, 0, none⟩) q.jobs.length cj) vw (.slice (some ⟨g, 0, none⟩) q.jobs.length cj) vw w wr ∧ Own wr w.heap.size 3 1 encInt u6 (tickIds (q.jobs.take (k + 1)) t)) := by
            refine ⟨?_, HR.out.2.1, ?_⟩
            · rw [midJ_keep _ _ _ hkx (by rw [← HX.out]; unfold tickJ; rw [he]; rfl)]; exact HR.out.1
            · rw [HID.out, he]; simpa using HR.out.2.2
          clear HR he
          go_wp2
          go_roundw
          case rel => exact ⟨k + 1, by omega, by go_num, HN⟩
          case measure => simp [intOf]; omega
    · obtain rfl : n = k := by omega
      have HE : Hid (RetTick B b (tickQ q t) (tickIds q.jobs t) (.slice oj q.jobs.length cj) vw w (.returned (.tuple #[u6, .int .i64 0])) wr) := by
        have h := HR.out
        have e1 : midJ (tickJ t) q.jobs n = q.jobs.map (tickJ t) := by unfold midJ; rw [HNN.out]; simp
        rw [e1, List.take_of_length_le (by have := HNN.out; omega)] at h
        exact ⟨_, rfl, h.1, h.2.1, h.2.2⟩
      clear HR
      go_wp2
      go_ret2
      exact HE.out
end Go.Proofs.YtnnnihjagjfkdaaDoor
