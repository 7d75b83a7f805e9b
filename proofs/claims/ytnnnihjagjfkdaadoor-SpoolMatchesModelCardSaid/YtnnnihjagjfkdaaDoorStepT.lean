/-
  A step that takes. Own text.
-/
import Derived.Test.YtnnnihjagjfkdaaDoorModF
import Derived.Maps.AppendAt
namespace Go.Proofs.YtnnnihjagjfkdaaDoor
open Go.RowKit
set_option linter.unusedVariables false
/-- The first waiting job, if there is one. -/
theorem first_wait (xs : List Jb) : (∀ k (h : k < xs.length), xs[k].lease ≠ 0) ∨ ∃ f, ∃ h : f < xs.length, xs[f].lease = 0 ∧ ∀ k (hk : k < f), (xs[k]'(by omega)).lease ≠ 0 := by
  induction xs with
  | nil => exact .inl fun k h => by cases h
  | cons x xs ih =>
    by_cases hx : x.lease = 0
    · exact .inr ⟨0, by simp, hx, fun k hk => by omega⟩
    · rcases ih with h | ⟨f, hf, h1, h2⟩
      · refine .inl fun k hk => ?_
        match k, hk with
        | 0, _ => exact hx
        | k + 1, hk => exact h k (by simpa using hk)
      · refine .inr ⟨f + 1, by simpa using hf, by simpa using h1, fun k hk => ?_⟩
        match k, hk with
        | 0, _ => exact hx
        | k + 1, hk => exact h2 k (by omega)
theorem Inv.get {t e : Nat} {q : Que} {m : Mod} (h : Inv t e q m) {i : Nat} (hi : i < q.jobs.length) (hi2 : i < m.jobs.length) : q.jobs[i].id = m.jobs[i].id ∧ q.jobs[i].text = m.jobs[i].text ∧ q.jobs[i].lease = m.jobs[i].lease := by
  have hge : q.jobs[i] = normJ m.jobs[i] := by simp only [h.jobs, List.getElem_map]
  rw [hge, normJ_id, normJ_text, normJ_lease]
  exact ⟨rfl, rfl, rfl⟩
/-- The first waiting job of the queue is taken. -/
theorem take_inv {t e : Nat} {B b : Nat} {q : Que} {m : Mod} {vj vw : Value} {w : World} (hi : Inv t e q m) (ht : t ≤ 60) (he : e ≤ 64) (hq : QAt w B b q vj vw) (f : Nat) (hf : f < m.jobs.length) (hz : m.jobs[f].lease = 0) (hno : ∀ k (hk : k < f), (m.jobs[k]'(by omega)).lease ≠ 0) (hold : Int) (h1 : 1 ≤ hold) (h2 : hold ≤ 30) :
    ∃ q', Calls Tryd.prog 12 #[.pointer (some ⟨b, 0, none⟩), .int .i64 hold] w (RetTake B b q' m.jobs[f].id m.jobs[f].text (m.leases + 1) 0 vj vw w) ∧ Inv t (e + 1) q' (takeM m f (m.now + hold)) := by
  have hl := hi.jlq
  have hjl := hi.jl
  have hls := hi.ls
  have hnw := hi.nw
  have hf2 : f < q.jobs.length := by omega
  obtain ⟨g1, g2, g3⟩ := hi.get hf2 hf
  have h := take_some B b q vj vw hold w hq h1 (by omega) (by omega) f hf2 (by rw [g3]; exact hz) (fun k hk => by rw [(hi.get (by omega) (by omega)).2.2]; exact hno k hk) (by rw [hi.leases]; omega) (by rw [hi.leases]; omega) (by rw [hi.now]; omega) (by rw [hi.now]; omega)
  have hI := hi.take ht f hf2 (m.now + hold)
  rw [g1, g2] at h
  rw [hi.now] at h
  refine ⟨_, ?_, hI⟩
  rw [← hi.leases]
  exact h
theorem MAt.rowOf {w : World} {B b : Nat} {m : Mod} {vm : Value} (h : MAt w B b m vm) (hn : 0 < m.jobs.length) : ∃ g cap, vm = .slice (some ⟨g, 0, none⟩) m.jobs.length cap ∧ g ≠ b ∧ g < w.heap.size ∧ (∀ o, w.frozen? ⟨g, o, none⟩ = false) ∧
    ∀ k (hk : k < m.jobs.length), w.cell? ⟨g, k * 4, none⟩ = some (.int .i64 m.jobs[k].id) ∧ w.cell? ⟨g, k * 4 + 1, none⟩ = some (.string m.jobs[k].text) ∧ w.cell? ⟨g, k * 4 + 2, none⟩ = some (.int .i64 m.jobs[k].lease) ∧ w.cell? ⟨g, k * 4 + 3, none⟩ = some (.int .i64 m.jobs[k].till) := by
  obtain ⟨oa, c, e2, _, hf⟩ := h.jobs.flat (fun _ => rfl)
  rcases h.jobs.2 with ⟨e, hz⟩ | ⟨g, cap, cur, e, hbg, hrow, hr⟩
  · omega
  · subst e
    simp only [Value.slice.injEq] at e2
    obtain ⟨rfl, -, -⟩ := e2
    refine ⟨g, cap, rfl, fun e => h.nj (by rw [e]; rfl), (Array.getElem?_eq_some_iff.1 hrow).1, fun o => by unfold World.frozen?; rw [hrow]; simp, fun k hk => ?_⟩
    obtain ⟨b1, off, e3, i0, i1, i2, i3⟩ := hf.jb hk
    simp only [Option.some.injEq, Addr.mk.injEq, and_true] at e3
    obtain ⟨rfl, rfl⟩ := e3
    simp only [Nat.zero_add] at i0 i1 i2 i3
    exact ⟨i0, i1, i2, i3⟩
set_option maxRecDepth 100000 in
set_option maxHeartbeats 4000000 in
theorem step_take0 (s : ByteArray) (a : Int) (ha : 0 ≤ a) (ha2 : a ≤ 2000) (h30 : a % 30 < 1) (w : World) (B b bm t : Nat) (q : Que) (m : Mod) (vj vw vm : Value) (h : StepIn w B b bm t q m vj vw vm) :
    Calls Tryd.prog 20 #[.pointer (some ⟨bm, 0, none⟩), .pointer (some ⟨b, 0, none⟩), .string s, .int .i64 2, .int .i64 a] w (RetStep B b bm t w) := by
  have H := Lib.hid h
  have HT := Lib.hid (take_range B b q vj vw (a % 30) w h.two.q h30)
  clear h
  go_enter Tryd.func20, Tryd.ntmps20
  go_wp2_with fail
  refine HT.out.mono ?_
  rintro e w2 ⟨rfl, hq2, ht2⟩
  have HF : Hid (RetStep B b bm t w (.returned (.bool true)) (w2.alloc (.cells #[.int .i64 0, .string ⟨#[]⟩] 39))) :=
    ⟨q, m, vj, vw, vm, rfl, (H.out.two.turn hq2 ht2).below (balloc (Below.refl _ _) _), H.out.two.base (ht2.alloc _) H.out.hB, H.out.inv.next' (by omega)⟩
  clear hq2 ht2 HT
  go_wp2
  go_ret
  exact HF.out
set_option maxRecDepth 100000 in
set_option maxHeartbeats 4000000 in
theorem step_takeN (s : ByteArray) (a : Int) (ha : 0 ≤ a) (ha2 : a ≤ 2000) (h30 : 1 ≤ a % 30) (w : World) (B b bm t : Nat) (q : Que) (m : Mod) (vj vw vm : Value) (h : StepIn w B b bm t q m vj vw vm) (hno : ∀ k (h : k < m.jobs.length), m.jobs[k].lease ≠ 0) :
    Calls Tryd.prog 20 #[.pointer (some ⟨bm, 0, none⟩), .pointer (some ⟨b, 0, none⟩), .string s, .int .i64 2, .int .i64 a] w (RetStep B b bm t w) := by
  have H := Lib.hid h
  have hi := h.inv
  have hl := hi.jlq
  have hjl := hi.jl
  have ht := h.tt
  have hr2 := Int.emod_lt_of_pos a (show (0 : Int) < 30 by omega)
  have HT := Lib.hid (take_none B b q vj vw (a % 30) w h.two.q h30 (by omega) (by omega) (fun k hk => by rw [(hi.get hk (by omega)).2.2]; exact hno k (by omega)))
  have HNO := Lib.hid hno
  have hml : m.jobs.length ≤ 60 := by omega
  have hn1 : ¬ a % 30 < 1 := by omega
  clear h hno hi hl hjl ht
  go_enter Tryd.func20, Tryd.ntmps20
  go_wp2_with fail
  refine HT.out.mono ?_
  rintro e w2 ⟨rfl, hq2, ht2⟩
  have HT2 := Lib.hid ((H.out.two.turn hq2 ht2).below (balloc (Below.refl _ _) (.cells #[.int .i64 0, .string ⟨#[]⟩] 39)))
  have m0 : (w2.alloc (.cells #[.int .i64 0, .string ⟨#[]⟩] 39)).cell? ⟨w2.heap.size, 0, none⟩ = some (.int .i64 0) := by rw [cell_of_row _ w2.heap.size 0 _ _ (0, 0) (heap_alloc_new w2 _)]; rfl
  have m1 : (w2.alloc (.cells #[.int .i64 0, .string ⟨#[]⟩] 39)).cell? ⟨w2.heap.size, 1, none⟩ = some (.string ⟨#[]⟩) := by rw [cell_of_row _ w2.heap.size 1 _ _ (0, 0) (heap_alloc_new w2 _)]; rfl
  have HF : Hid (RetStep B b bm t w (.returned (.bool true)) (w2.alloc (.cells #[.int .i64 0, .string ⟨#[]⟩] 39))) :=
    ⟨q, m, vj, vw, vm, rfl, HT2.out, H.out.two.base (ht2.alloc _) H.out.hB, H.out.inv.next' (by omega)⟩
  clear hq2 ht2 HT
  obtain ⟨om, cm, rfl, -, hmf⟩ := HT2.out.m.jobs.flat (fun _ => rfl)
  have c0 : (w2.alloc (.cells #[.int .i64 0, .string ⟨#[]⟩] 39)).cell? ⟨bm, 0, none⟩ = some (.slice om m.jobs.length cm) := HT2.out.m.tab.at' 0 (by omega)
  have HMF := Lib.hid hmf
  obtain ⟨n, hn⟩ : ∃ n, n = m.jobs.length := ⟨_, rfl⟩
  rw [← hn] at c0 hml
  have HN := Lib.hid hn
  clear hn hmf
  go_upto_region 15 with fail
  generalize w2.alloc (.cells #[.int .i64 0, .string ⟨#[]⟩] 39) = W at *
  go_wp2
  go_loopw [121] (fun i wr => ∃ k : Nat, k ≤ n ∧ i = .int .i64 k ∧ W = wr) (fun i _ => n - (intOf i).toNat)
  case atStart => exact ⟨0, by omega, rfl, rfl⟩
  case round =>
    obtain ⟨k, hk, rfl, rfl⟩ := hrel
    by_cases hlt : k < n
    · have hkx : k < m.jobs.length := by have := HN.out; omega
      obtain ⟨bj, offj, rfl, i0, i1, i2, i3⟩ := HMF.out.jb hkx
      have hnz := HNO.out k hkx
      have kd : (k : Int) < (n : Int) := by omega
      have k0 : (0 : Int) ≤ (k : Int) := by omega
      obtain ⟨x, hx⟩ : ∃ x, x = m.jobs[k].lease := ⟨_, rfl⟩
      rw [← hx] at i2 hnz
      have hbe : (x == 0) = false := by simpa using hnz
      clear i0 i1 i3 hx hnz
      go_wp2
      go_roundw
      case rel => exact ⟨k + 1, by omega, by go_num, trivial⟩
      case measure => simp [intOf]; omega
    · obtain rfl : n = k := by omega
      go_wp2
      go_ret
      exact HF.out
set_option maxRecDepth 100000 in
set_option maxHeartbeats 4000000 in
theorem step_takeS (s : ByteArray) (a : Int) (ha : 0 ≤ a) (ha2 : a ≤ 2000) (h30 : 1 ≤ a % 30) (w : World) (B b bm t : Nat) (q : Que) (m : Mod) (vj vw vm : Value) (h : StepIn w B b bm t q m vj vw vm) (f : Nat) (hf : f < m.jobs.length) (hz : m.jobs[f].lease = 0) (hno : ∀ k (hk : k < f), (m.jobs[k]'(by omega)).lease ≠ 0) :
    Calls Tryd.prog 20 #[.pointer (some ⟨bm, 0, none⟩), .pointer (some ⟨b, 0, none⟩), .string s, .int .i64 2, .int .i64 a] w (RetStep B b bm t w) := by
  have H := Lib.hid h
  have hi := h.inv
  have hl := hi.jlq
  have hjl := hi.jl
  have ht := h.tt
  have hls := hi.ls
  have hnw := hi.nw
  have hr2 := Int.emod_lt_of_pos a (show (0 : Int) < 30 by omega)
  obtain ⟨q', hT, hI⟩ := take_inv hi (by omega) (by omega) h.two.q f hf hz hno (a % 30) h30 (by omega)
  have HT := Lib.hid hT
  have HI := Lib.hid (hI.next' (by omega))
  have HNO := Lib.hid hno
  have HZ := Lib.hid hz
  have HMM : Hid (takeM m f (m.now + a % 30) = { m with leases := m.leases + 1, jobs := m.jobs.set f (leaseJ m.jobs[f] (m.leases + 1) (m.now + a % 30)) }) := by
    show _ = _
    unfold takeM
    rw [modify_eq_set _ _ _ hf]
  have hml : m.jobs.length ≤ 60 := by omega
  have hn1 : ¬ a % 30 < 1 := by omega
  have hls2 : 0 ≤ m.leases ∧ m.leases ≤ 4000 := by omega
  have hnw2 : 0 ≤ m.now ∧ m.now ≤ 4000 := by omega
  obtain ⟨y, hy⟩ : ∃ y, y = m.jobs[f] := ⟨_, rfl⟩
  rw [← hy] at HT HMM
  have HY := Lib.hid hy
  obtain ⟨n, hn⟩ : ∃ n, n = m.jobs.length := ⟨_, rfl⟩
  have HN := Lib.hid hn
  have hfn : f < n := by omega
  rw [← hn] at hml
  generalize takeM m f (m.now + a % 30) = m' at *
  clear h hno hi hl hjl ht hls hnw hT hI hz hy hn
  go_enter Tryd.func20, Tryd.ntmps20
  go_wp2_with fail
  refine HT.out.mono ?_
  rintro e w2 ⟨rfl, hq2, ht2⟩
  have HT2 := Lib.hid ((H.out.two.turn hq2 ht2).below (balloc (Below.refl _ _) (.cells #[.int .i64 y.id, .string y.text] 39)))
  have m0 : (w2.alloc (.cells #[.int .i64 y.id, .string y.text] 39)).cell? ⟨w2.heap.size, 0, none⟩ = some (.int .i64 y.id) := by rw [cell_of_row _ w2.heap.size 0 _ _ (0, 0) (heap_alloc_new w2 _)]; rfl
  have m1 : (w2.alloc (.cells #[.int .i64 y.id, .string y.text] 39)).cell? ⟨w2.heap.size, 1, none⟩ = some (.string y.text) := by rw [cell_of_row _ w2.heap.size 1 _ _ (0, 0) (heap_alloc_new w2 _)]; rfl
  have HB2 : Hid (Below B w (w2.alloc (.cells #[.int .i64 y.id, .string y.text] 39))) := H.out.two.base (ht2.alloc _) H.out.hB
  have hml2 := (H.out.two.turn hq2 ht2).m.lt
  have hgl : ∀ g, vm.ownBlock = some g → g < w2.heap.size := fun g e => ((H.out.two.turn hq2 ht2).m.inm (.inr e)).2
  obtain ⟨g, cap, hvm, hgb, -, gf, hrow⟩ := HT2.out.m.rowOf (by have := HN.out; omega)
  subst hvm
  have hgw := hgl g rfl
  have mf := HT2.out.m.tab.fz
  have c0 : (w2.alloc (.cells #[.int .i64 y.id, .string y.text] 39)).cell? ⟨bm, 0, none⟩ = some (.slice (some ⟨g, 0, none⟩) n cap) := by rw [HN.out]; exact HT2.out.m.tab.at' 0 (by omega)
  have c2 : (w2.alloc (.cells #[.int .i64 y.id, .string y.text] 39)).cell? ⟨bm, 2, none⟩ = some (.int .i64 m.leases) := HT2.out.m.tab.at' 2 (by omega)
  have c3 : (w2.alloc (.cells #[.int .i64 y.id, .string y.text] 39)).cell? ⟨bm, 3, none⟩ = some (.int .i64 m.now) := HT2.out.m.tab.at' 3 (by omega)
  have HROW := Lib.hid hrow
  have hwm : w2.heap.size ≠ bm := by omega
  have hwg : w2.heap.size ≠ g := by omega
  have hBz : Hid (B ≤ (w2.alloc (.cells #[.int .i64 y.id, .string y.text] 39)).heap.size) := Nat.le_trans H.out.hB HB2.out.size
  clear hq2 ht2 HT hrow hgl
  go_upto_region 15 with fail
  generalize w2.alloc (.cells #[.int .i64 y.id, .string y.text] 39) = W at *
  go_wp2
  go_loopw [121] (fun i wr => ∃ k : Nat, k ≤ f ∧ i = .int .i64 k ∧ W = wr) (fun i _ => n - (intOf i).toNat)
  case atStart => exact ⟨0, by omega, rfl, rfl⟩
  case round =>
    obtain ⟨k, hk, rfl, rfl⟩ := hrel
    have hkn : k < n := by omega
    have hkx : k < m.jobs.length := by have := HN.out; omega
    have kd : (k : Int) < (n : Int) := by omega
    have k0 : (0 : Int) ≤ (k : Int) := by omega
    obtain ⟨i0, i1, i2, i3⟩ := HROW.out k hkx
    by_cases hlt : k < f
    · have hnz := HNO.out k hlt
      obtain ⟨x, hx⟩ : ∃ x, x = m.jobs[k].lease := ⟨_, rfl⟩
      rw [← hx] at i2 hnz
      have hbe : (x == 0) = false := by simpa using hnz
      clear i0 i1 i3 hx hnz
      go_wp2
      go_roundw
      case rel => exact ⟨k + 1, by omega, by go_num, trivial⟩
      case measure => simp [intOf]; omega
    · obtain rfl : f = k := by omega
      rw [HZ.out] at i2
      rw [← HY.out] at i0 i1 i3
      have x1 : IntKind.i64.wrap (m.leases + 1) = m.leases + 1 := IntWalk.i64_in _ (by omega)
      have x2 : IntKind.i64.wrap (m.now + a % 30) = m.now + a % 30 := IntWalk.i64_in _ (by omega)
      have HM9 : Hid (MAt (((W.setCell ⟨bm, 2, none⟩ (.int .i64 (m.leases + 1))).setCell ⟨g, f * 4 + 2, none⟩ (.int .i64 (m.leases + 1))).setCell ⟨g, f * 4 + 3, none⟩ (.int .i64 (m.now + a % 30))) B bm m' (.slice (some ⟨g, 0, none⟩) n cap)) := by
        show MAt _ _ _ _ _
        rw [HMM.out, HN.out]
        have q1 := MAt.put (m' := { m with leases := m.leases + 1 }) HT2.out.m (i := 2) (by omega) (.int .i64 (m.leases + 1)) rfl (fun j hj => by
          match j, hj with
          | 0, _ => rfl
          | 1, _ => rfl
          | 2, _ => rfl
          | 3, _ => rfl)
        have q2 := q1.setJob (i := f) hkx (j := 2) (by omega) (v := .int .i64 (m.leases + 1)) (y := { m.jobs[f] with lease := m.leases + 1 }) rfl
        have q3 := q2.setJob (i := f) (by simpa using hkx) (j := 3) (by omega) (v := .int .i64 (m.now + a % 30)) (y := leaseJ m.jobs[f] (m.leases + 1) (m.now + a % 30)) (by simp [encJb, leaseJ])
        simp only [List.set_set] at q3
        rw [← HY.out] at q3
        exact q3
      have HT9 : Hid (MTurn bm (.slice (some ⟨g, 0, none⟩) n cap) (.slice (some ⟨g, 0, none⟩) n cap) W (((W.setCell ⟨bm, 2, none⟩ (.int .i64 (m.leases + 1))).setCell ⟨g, f * 4 + 2, none⟩ (.int .i64 (m.leases + 1))).setCell ⟨g, f * 4 + 3, none⟩ (.int .i64 (m.now + a % 30)))) :=
        (((MTurn.refl bm _ W).set 2 _).setJ _ _).setJ _ _
      go_wp2
      go_region_held3 (fun w' => w'.cell? ⟨bm, 0, none⟩ = some (.slice (some ⟨g, 0, none⟩) n cap) ∧ w'.cell? ⟨bm, 2, none⟩ = some (.int .i64 (m.leases + 1)) ∧ w'.cell? ⟨bm, 3, none⟩ = some (.int .i64 m.now)) ((refine ⟨?_, ?_, ?_⟩ <;> go_simp)) (fail)
      rename_i hHeld
      have HMX : Hid (MAt (((W.setCell ⟨bm, 2, none⟩ (.int .i64 (m.leases + 1))).setCell ⟨g, f * 4 + 2, none⟩ (.int .i64 (m.leases + 1))).setCell ⟨g, f * 4 + 3, none⟩ (.int .i64 (m.now + a % 30))).drew B bm m' (.slice (some ⟨g, 0, none⟩) n cap)) := HM9.out.drewN 1
      have HTX : Hid (MTurn bm (.slice (some ⟨g, 0, none⟩) n cap) (.slice (some ⟨g, 0, none⟩) n cap) W (((W.setCell ⟨bm, 2, none⟩ (.int .i64 (m.leases + 1))).setCell ⟨g, f * 4 + 2, none⟩ (.int .i64 (m.leases + 1))).setCell ⟨g, f * 4 + 3, none⟩ (.int .i64 (m.now + a % 30))).drew) := HT9.out.drewN 1
      have n0 : (((W.setCell ⟨bm, 2, none⟩ (.int .i64 (m.leases + 1))).setCell ⟨g, f * 4 + 2, none⟩ (.int .i64 (m.leases + 1))).setCell ⟨g, f * 4 + 3, none⟩ (.int .i64 (m.now + a % 30))).drew.cell? ⟨w2.heap.size, 0, none⟩ = some (.int .i64 y.id) := by go_simp
      have n1 : (((W.setCell ⟨bm, 2, none⟩ (.int .i64 (m.leases + 1))).setCell ⟨g, f * 4 + 2, none⟩ (.int .i64 (m.leases + 1))).setCell ⟨g, f * 4 + 3, none⟩ (.int .i64 (m.now + a % 30))).drew.cell? ⟨w2.heap.size, 1, none⟩ = some (.string y.text) := by go_simp
      have e0 : (((W.setCell ⟨bm, 2, none⟩ (.int .i64 (m.leases + 1))).setCell ⟨g, f * 4 + 2, none⟩ (.int .i64 (m.leases + 1))).setCell ⟨g, f * 4 + 3, none⟩ (.int .i64 (m.now + a % 30))).drew.cell? ⟨g, f * 4, none⟩ = some (.int .i64 y.id) := by go_simp
      have e1 : (((W.setCell ⟨bm, 2, none⟩ (.int .i64 (m.leases + 1))).setCell ⟨g, f * 4 + 2, none⟩ (.int .i64 (m.leases + 1))).setCell ⟨g, f * 4 + 3, none⟩ (.int .i64 (m.now + a % 30))).drew.cell? ⟨g, f * 4 + 1, none⟩ = some (.string y.text) := by go_simp
      clear hHeld HM9 HT9 m0 m1 mf gf c0 c2 c3 i0 i1 i2 i3 HROW
      generalize (((W.setCell ⟨bm, 2, none⟩ (.int .i64 (m.leases + 1))).setCell ⟨g, f * 4 + 2, none⟩ (.int .i64 (m.leases + 1))).setCell ⟨g, f * 4 + 3, none⟩ (.int .i64 (m.now + a % 30))).drew = W5 at *
      have f0 : W5.cell? ⟨bm, 0, none⟩ = some (.slice (some ⟨g, 0, none⟩) n cap) := HMX.out.tab.at' 0 (by omega)
      have f2 : W5.cell? ⟨bm, 2, none⟩ = some (.int .i64 (m.leases + 1)) := (HMX.out.tab.at' 2 (by omega)).trans (by rw [HMM.out]; rfl)
      have HF : Hid (∀ W', Below W5.heap.size W5 W' → RetStep B b bm t w (.returned (.bool true)) W') := fun W' hb =>
        ⟨q', m', vj, vw, _, rfl, (Two.mturn (vm := .slice (some ⟨g, 0, none⟩) n cap) (by have h := HT2.out; rw [← HN.out] at h; exact h) HMX.out HTX.out).below hb, (HB2.out.trans (HTX.out.base (by have h := HT2.out.m; rw [← HN.out] at h; exact h) hBz.out)).trans (hb.mono (by have h1 := hBz.out; have h2 := HTX.out.size; omega)), HI.out⟩
      clear HMX HTX HMM HT2
      have b1 : (y.id == y.id) = true := by simp
      have b3 : (m.leases + 1 == m.leases + 1) = true := by simp
      go_wp2
      go_quiet (fail)
      go_wp2
      go_ret
      exact HF.out _ (bdrewN (Below.refl _ _) _)
end Go.Proofs.YtnnnihjagjfkdaaDoor
namespace Go.Proofs.YtnnnihjagjfkdaaDoor
open Go.RowKit
set_option linter.unusedVariables false
theorem LeasedAt.norm {xs : List Jb} {id n i c : Int} (h : LeasedAt (xs.map normJ) id n i c) : LeasedAt xs id n i c := by
  rcases h with ⟨h1, h2, h3⟩ | ⟨k, hk, h1, h2, h3⟩
  · exact .inl ⟨h1, h2, fun j hj => by
      have := h3 j (by simpa using hj)
      rw [← hasId_norm]; simpa using this⟩
  · have hk' : k < xs.length := by simpa using hk
    refine .inr ⟨k, hk', ?_, fun j hj => ?_, ?_⟩
    · rw [← hasId_norm]; simpa using h1
    · have := h2 j hj
      rw [← hasId_norm]; simpa using this
    · simp only [List.getElem_map, normJ_lease] at h3
      exact h3
theorem back_set (m : Mod) (p : Nat) (hp : p < m.jobs.length) (y : Jb) (hy : y = m.jobs[p]) : backM m p = { m with jobs := m.jobs.set p { y with lease := 0 } } := by
  unfold backM
  rw [modify_eq_set _ _ _ hp, hy]
/-- Where the job with a number is. -/
theorem place_or (xs : List Jb) (id : Int) : (∀ j (hj : j < xs.length), hasId id xs[j] = false) ∨ ∃ i, ∃ h : i < xs.length, hasId id xs[i] = true ∧ ∀ j (hj : j < i), hasId id (xs[j]'(by omega)) = false := by
  induction xs with
  | nil => exact .inl fun k h => by cases h
  | cons x xs ih =>
    by_cases hx : hasId id x = true
    · exact .inr ⟨0, by simp, hx, fun k hk => by omega⟩
    · have hx' : hasId id x = false := by simpa using hx
      rcases ih with h | ⟨f, hf, h1, h2⟩
      · refine .inl fun k hk => ?_
        match k, hk with
        | 0, _ => exact hx'
        | k + 1, hk => exact h k (by simpa using hk)
      · refine .inr ⟨f + 1, by simpa using hf, by simpa using h1, fun k hk => ?_⟩
        match k, hk with
        | 0, _ => exact hx'
        | k + 1, hk => exact h2 k (by omega)
theorem FoundAt.none {xs : List Jb} {id r : Int} (h : FoundAt xs id r) (hno : ∀ j (hj : j < xs.length), hasId id xs[j] = false) : r = -1 := by
  rcases h with ⟨k, rfl, hk, h1, h2⟩ | ⟨rfl, h1⟩
  · rw [hno k hk] at h1; cases h1
  · rfl
theorem FoundAt.some {xs : List Jb} {id r : Int} (h : FoundAt xs id r) {i : Nat} (hi : i < xs.length) (h1 : hasId id xs[i] = true) (h2 : ∀ j (hj : j < i), hasId id (xs[j]'(by omega)) = false) : r = i := by
  rcases h with ⟨k, rfl, hk, g1, g2⟩ | ⟨rfl, g1⟩
  · rcases Nat.lt_trichotomy k i with hlt | heq | hgt
    · rw [h2 k hlt] at g1; cases g1
    · rw [heq]
    · rw [g2 i hgt] at h1; cases h1
  · rw [g1 i hi] at h1; cases h1
theorem LeasedAt.none {xs : List Jb} {id n i c : Int} (h : LeasedAt xs id n i c) (hno : ∀ j (hj : j < xs.length), hasId id xs[j] = false) : c = 8 := by
  rcases h with ⟨h1, _, _⟩ | ⟨k, hk, h1, _, _⟩
  · exact h1
  · rw [hno k hk] at h1; cases h1
theorem LeasedAt.state {xs : List Jb} {id n i c : Int} (h : LeasedAt xs id n i c) {p : Nat} (hp : p < xs.length) (h1 : hasId id xs[p] = true) (h2 : ∀ j (hj : j < p), hasId id (xs[j]'(by omega)) = false) (hs : n = 0 ∨ xs[p].lease ≠ n) : c = 9 := by
  rcases h with ⟨_, _, g⟩ | ⟨k, hk, g1, g2, g3⟩
  · rw [g p hp] at h1; cases h1
  · obtain rfl : k = p := by
      rcases Nat.lt_trichotomy k p with hlt | heq | hgt
      · rw [h2 k hlt] at g1; cases g1
      · exact heq
      · rw [g2 p hgt] at h1; cases h1
    rcases g3 with ⟨_, _, g⟩ | ⟨g4, g5, _, _⟩
    · exact g
    · rcases hs with hs | hs
      · exact absurd hs g4
      · exact absurd g5 hs
theorem LeasedAt.yes {xs : List Jb} {id n i c : Int} (h : LeasedAt xs id n i c) {p : Nat} (hp : p < xs.length) (h1 : hasId id xs[p] = true) (h2 : ∀ j (hj : j < p), hasId id (xs[j]'(by omega)) = false) (hn : n ≠ 0) (hs : xs[p].lease = n) : i = p ∧ c = 0 := by
  rcases h with ⟨_, _, g⟩ | ⟨k, hk, g1, g2, g3⟩
  · rw [g p hp] at h1; cases h1
  · obtain rfl : k = p := by
      rcases Nat.lt_trichotomy k p with hlt | heq | hgt
      · rw [h2 k hlt] at g1; cases g1
      · exact heq
      · rw [g2 p hgt] at h1; cases h1
    rcases g3 with ⟨g, _, _⟩ | ⟨_, _, g4, g5⟩
    · rcases g with g | g
      · exact absurd g hn
      · exact absurd hs g
    · exact ⟨g4, g5⟩
/-- A place in an increasing list is the first one. -/
theorem first_of {xs : List Jb} (h : xs.Pairwise fun a b => a.id < b.id) {i : Nat} (hi : i < xs.length) : hasId xs[i].id xs[i] = true ∧ ∀ j (hj : j < i), hasId xs[i].id (xs[j]'(by omega)) = false := by
  refine ⟨by simp [hasId], fun j hj => ?_⟩
  have := List.pairwise_iff_getElem.1 h j i (by omega) hi hj
  simp only [hasId, beq_eq_false_iff_ne, ne_eq]
  omega
section
variable {P : Program} {w : World} {ops : Array Oper} {o : Oper} {a : Act} {K : Act → World → Prop} {Q : Exit → Act → World → Prop} {E : Prop}
/-- 'append(s, y...)' in a drawn region, s an own row that is there. -/
theorem step_appRowL {α : Type} (hgd : o.guard = none) (s x : Operand) (t : TypeId)
    (ho : o.op = .call { callee := .builtin .append, args := #[s, x], argTypes := #[t, t] })
    {e : TypeId} {z : Value} {size bytes : Nat} (hE : ElemType P e z size bytes) (ht : P.underlying t = some (.slice e))
    (base g0 n0 c0 : Nat) (xs : List α) (enc : α → List Value) (hs : a.eval s = .slice (some ⟨g0, 0, none⟩) n0 c0) (hown : Own w base e size enc (.slice (some ⟨g0, 0, none⟩) n0 c0) xs) (ys : List α) (ad : Addr) (m c : Nat)
    (hx : a.eval x = .slice (some ad) m c) (hm : m = ys.length) (hy : Flat w size enc (some ad) ys) (hl : ∀ x, (enc x).length = size) (h1 : ∀ y, ∀ u ∈ enc y, u.oneCell' = true)
    (hbytes : (xs.length + ys.length) * bytes ≤ 140737488355328) (h63 : xs.length + ys.length ≤ maxLen) (hbase : base ≤ w.heap.size) (N : Nat) (hN : xs.length + ys.length = N)
    (h : ∀ g cap w', Own w' base e size enc (.slice (some ⟨g, 0, none⟩) N cap) (xs ++ ys) → w.grownBy w' (some g0) → (g0 = g ∨ g = w.heap.size) → K (a.put o.dst (.slice (some ⟨g, 0, none⟩) N cap)) w') : if Region.wanted o (yielded ops a.tmps) = true then Oper.wp P o a w K Q else E := by
  obtain ⟨i, hi, hz, hsz, hby, hzs, h0⟩ := hE
  have hw : Region.wanted o (yielded ops a.tmps) = true := by simp [Region.wanted, hgd]
  rw [if_pos hw]
  subst hm
  obtain ⟨v', w', hr, h2, h3, h4, h5⟩ := run_append_own_at (P := P) w base t o.type e i z size bytes ht hi hz hsz hby hzs h0 _ xs.length (xs.flatMap enc) hown ad ys.length c (ys.flatMap enc) (by rw [flatMap_length hl]) (hy.news hl h0)
    (fun u hu => by obtain ⟨y, _, hy⟩ := List.mem_flatMap.1 hu; exact h1 y u hy) h63 hbytes hbase
  have hform : ∃ g cap, v' = .slice (some ⟨g, 0, none⟩) N cap := by
    rcases h2.2 with ⟨e1, _⟩ | ⟨g1, c1, cur, e1, _⟩
    · have := (h4.1 e1).1
      cases this
    · exact ⟨g1, c1, by rw [e1, hN]⟩
  obtain ⟨g, cap, rfl⟩ := hform
  unfold Oper.wp execOp
  simp only [ho, resolve, invoke, builtin, Sem.run_bind, Sem.run_pure, Result.andThen_ok, List.map_toArray, List.map_cons, List.map_nil, hs, hx, hr]
  refine h g cap w' ?_ h3 ?_
  · unfold Own
    rw [List.length_append, List.flatMap_append]
    exact h2
  · rcases h5 with h5 | h5
    · left
      have : some g = some g0 := h5
      exact (Option.some.inj this).symm
    · right
      exact Option.some.inj h5
end
theorem Flat.take {α : Type} {w : World} {k : Nat} {enc : α → List Value} {oa : Option Addr} {xs : List α} (h : Flat w k enc oa xs) (n : Nat) : Flat w k enc oa (xs.take n) := by
  intro i hi j hj
  have hi' : i < xs.length := by rw [List.length_take] at hi; omega
  obtain ⟨v, hv, hc⟩ := h i hi' j hj
  exact ⟨v, by rw [List.getElem_take]; exact hv, hc⟩
theorem Flat.dropAt {α : Type} {w : World} {k b off : Nat} {enc : α → List Value} {xs : List α} (h : Flat w k enc (some ⟨b, off, none⟩) xs) (n : Nat) : Flat w k enc (some ⟨b, off + n * k, none⟩) (xs.drop n) := by
  intro i hi j hj
  have hi' : n + i < xs.length := by rw [List.length_drop] at hi; omega
  obtain ⟨v, hv, b1, off1, e, hc⟩ := h (n + i) hi' j hj
  simp only [Option.some.injEq, Addr.mk.injEq, and_true] at e
  obtain ⟨rfl, rfl⟩ := e
  refine ⟨v, by rw [List.getElem_drop]; exact hv, b, off + n * k, rfl, ?_⟩
  rw [← hc]
  congr 2
  rw [Nat.add_mul]
  omega
/-- What the loop that takes until the job comes knows. -/
def Loop4 (w0 : World) (B b bm t N p : Nat) (id : Int) (vj vw vm : Value) (c : Nat) (wr : World) : Prop :=
  ∃ q m, Two wr B b bm q m vj vw vm ∧ Inv t c q m ∧ m.jobs.length = N ∧ (∀ k (h : k < m.jobs.length), k < c → m.jobs[k].lease ≠ 0) ∧ (∃ h : p < m.jobs.length, m.jobs[p].lease = 0 ∧ m.jobs[p].id = id) ∧ Below B w0 wr
theorem wait_at {m : Mod} {p c : Nat} (hp : p < m.jobs.length) (hz : m.jobs[p].lease = 0) (hno : ∀ k (h : k < m.jobs.length), k < c → m.jobs[k].lease ≠ 0) : ∃ f, ∃ hf : f < m.jobs.length, m.jobs[f].lease = 0 ∧ (∀ k (hk : k < f), (m.jobs[k]'(by omega)).lease ≠ 0) ∧ c ≤ f ∧ f ≤ p := by
  rcases first_wait m.jobs with h | ⟨f, hf, h1, h2⟩
  · exact absurd hz (h p hp)
  · refine ⟨f, hf, h1, h2, ?_, ?_⟩
    · rcases Nat.lt_or_ge f c with h | h
      · exact absurd h1 (hno f hf h)
      · exact h
    · rcases Nat.lt_or_ge p f with h | h
      · exact absurd hz (h2 p h)
      · exact h
theorem takeM_jobs (m : Mod) (f : Nat) (u : Int) (hf : f < m.jobs.length) : (takeM m f u).jobs = m.jobs.set f (leaseJ m.jobs[f] (m.leases + 1) u) := modify_eq_set _ _ _ hf
/-- The next round of the loop. -/
theorem Loop4.next {w0 wr : World} {B b bm t N p f c : Nat} {id u : Int} {vj vw vm : Value} {q : Que} {m : Mod} (hT : Two wr B b bm q (takeM m f u) vj vw vm) (hI : Inv t (c + 1) q (takeM m f u)) (hN : m.jobs.length = N) (hf : f < m.jobs.length) (hno : ∀ k (hk : k < f), (m.jobs[k]'(by omega)).lease ≠ 0) (hcf : c ≤ f) (hfp : f ≠ p)
    (hp : p < m.jobs.length) (hz : m.jobs[p].lease = 0) (hid : m.jobs[p].id = id) (hls : 0 ≤ m.leases) (hB : Below B w0 wr) : Loop4 w0 B b bm t N p id vj vw vm (c + 1) wr := by
  have hj := takeM_jobs m f u hf
  have hl : (takeM m f u).jobs.length = m.jobs.length := by rw [hj, List.length_set]
  have hget (k : Nat) (hk : k < (takeM m f u).jobs.length) (hk2 : k < m.jobs.length) (hkf : f ≠ k) : (takeM m f u).jobs[k] = m.jobs[k] := by
    simp only [hj]
    exact List.getElem_set_ne hkf _
  refine ⟨q, takeM m f u, hT, hI, by omega, fun k hk hkc => ?_, ⟨by omega, ?_, ?_⟩, hB⟩
  · by_cases e : f = k
    · subst e
      simp only [hj, List.getElem_set_self]
      show m.leases + 1 ≠ 0
      omega
    · rw [hget k hk (by omega) e]
      exact hno k (by omega)
  · rw [hget p (by omega) hp hfp]; exact hz
  · rw [hget p (by omega) hp hfp]; exact hid
theorem own_emptyM (W : World) (B : Nat) (h : B ≤ W.heap.size) : Own (W.alloc (.cells #[] 58)) B 58 4 encJb (.slice (some ⟨W.heap.size, 0, none⟩) 0 0) [] :=
  Own.lit W B 4 encJb [] 58 (fun _ => rfl) (by simp) h
theorem below_fresh {w W w1 : World} {g0 : Nat} (hb : Below w.heap.size w W) (hg : W.grownBy w1 (some g0)) (h0 : w.heap.size ≤ g0) : Below w.heap.size w w1 :=
  ⟨hg.os.trans hb.os, hg.tape.trans hb.tape, hg.output.trans hb.output, Nat.le_trans hb.size hg.size, fun k hk => by
    have hs := hb.size
    rw [hg.block k (by omega) (fun e => by have : k = g0 := Option.some.inj e; omega), hb.block k hk]⟩
theorem MTurn.fresh {b g n c : Nat} {vm : Value} {w w1 : World} (h : MTurn b vm vm w w1) (hg : w.heap.size ≤ g) : MTurn b vm (.slice (some ⟨g, 0, none⟩) n c) w w1 :=
  ⟨h.os, h.tape, h.output, h.size, h.block, fun j e => .inr (by
    have e2 : g = j := by simpa [Value.ownBlock] using e
    rw [← e2]
    exact hg)⟩
/-- The list without a job, in a new row. -/
theorem erase_row {w w9 : World} {B b bm f n n9 cm g g9 cap9 : Nat} {q : Que} {m : Mod} {vj vw : Value} (h : Two w B b bm q m vj vw (.slice (some ⟨g, 0, none⟩) n cm)) (hb : Below w.heap.size w w9) (hg9 : w.heap.size ≤ g9)
    (hown : Own w9 B 58 4 encJb (.slice (some ⟨g9, 0, none⟩) n9 cap9) (m.jobs.eraseIdx f)) (hB : B ≤ w.heap.size) :
    Two (w9.setCell ⟨bm, 0, none⟩ (.slice (some ⟨g9, 0, none⟩) n9 cap9)) B b bm q (eraseM m f) vj vw (.slice (some ⟨g9, 0, none⟩) n9 cap9) ∧ Below B w (w9.setCell ⟨bm, 0, none⟩ (.slice (some ⟨g9, 0, none⟩) n9 cap9)) := by
  have h1 : MAt (w9.setCell ⟨bm, 0, none⟩ (.slice (some ⟨g9, 0, none⟩) n9 cap9)) B bm (eraseM m f) (.slice (some ⟨g9, 0, none⟩) n9 cap9) := h.m.row (hb.block bm h.m.lt) hown (by have := h.m.lt; omega)
  have h2 := MTurn.fresh (n := n9) (c := cap9) (((MTurn.refl bm (.slice (some ⟨g, 0, none⟩) n cm) w).below hb).set 0 (.slice (some ⟨g9, 0, none⟩) n9 cap9)) hg9
  exact ⟨h.mturn h1 h2, h.mbase h2 hB⟩
theorem fresh_le {w W : World} {g0 g : Nat} (h : g0 = g ∨ g = W.heap.size) (h0 : w.heap.size ≤ g0) (hb : Below w.heap.size w W) : w.heap.size ≤ g := by
  have := hb.size
  rcases h with h | h <;> omega
end Go.Proofs.YtnnnihjagjfkdaaDoor
