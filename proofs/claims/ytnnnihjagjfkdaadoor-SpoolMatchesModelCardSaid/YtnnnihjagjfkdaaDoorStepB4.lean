/-
  A step that gives back (kind 4). Own text.
-/
import Derived.Test.YtnnnihjagjfkdaaDoorStepT
import Derived.Deep.DeepCutAuto
namespace Go.Proofs.YtnnnihjagjfkdaaDoor
open Go.RowKit
set_option linter.unusedVariables false
set_option maxRecDepth 100000 in
set_option maxHeartbeats 4000000 in
theorem step_back4 (s : ByteArray) (a : Int) (ha : 0 ≤ a) (ha2 : a ≤ 2000) (w : World) (B b bm t : Nat) (q : Que) (m : Mod) (vj vw vm : Value) (h : StepIn w B b bm t q m vj vw vm) :
    Calls Tryd.prog 20 #[.pointer (some ⟨bm, 0, none⟩), .pointer (some ⟨b, 0, none⟩), .string s, .int .i64 4, .int .i64 a] w (RetStep B b bm t w) := by
  have H := Lib.hid h
  have hi := h.inv
  have ht := h.tt
  have hl := hi.jlq
  have hjl := hi.jl
  obtain ⟨om, cm, rfl, hmm, hmf⟩ := h.two.m.jobs.flat (fun _ => rfl)
  have c0 : w.cell? ⟨bm, 0, none⟩ = some (.slice om m.jobs.length cm) := h.two.m.tab.at' 0 (by omega)
  have HMF := Lib.hid hmf
  obtain ⟨n, hn⟩ : ∃ n, n = m.jobs.length := ⟨_, rfl⟩
  have HN := Lib.hid hn
  have hml : n ≤ 60 := by omega
  rw [← hn] at c0
  have a4 : 0 ≤ a % 4 ∧ a % 4 < 4 := by omega
  have a7 : 0 ≤ a % 7 ∧ a % 7 < 7 := by omega
  have a5 : 0 ≤ a / 7 % 5 ∧ a / 7 % 5 < 5 := by omega
  have a8 : 0 ≤ a / 4 ∧ a / 4 ≤ 500 := by omega
  have a9 : 0 ≤ a / 7 ∧ a / 7 ≤ 500 := by omega
  clear h hi ht hl hjl hn hmf hmm
  go_enter Tryd.func20, Tryd.ntmps20
  go_upto_region 29 with fail
  go_cut [216] from 206 to 216 (fun s216 wx => ∃ c : Bool, s216 = .bool c ∧ (c = true → 0 < n) ∧ w = wx)
  case first =>
    by_cases h1 : 0 < n
    · by_cases h2 : 0 < a % 4
      · go_wp2_with fail
        go_meet
        exact ⟨true, rfl, fun _ => h1, rfl⟩
      · have h3 : a % 4 = 0 := by omega
        go_wp2_with fail
        go_meet
        exact ⟨false, rfl, fun e => (by cases e), rfl⟩
    · obtain rfl : n = 0 := by omega
      go_wp2_with fail
      go_meet
      exact ⟨false, rfl, fun e => (by cases e), rfl⟩
  case rest =>
    obtain ⟨c, rfl, hc, rfl⟩ := hcut
    go_upto_if 216 with fail
    go_cut [18, 19] from 217 to 247 (fun s18 s19 wx => ∃ id ls : Int, s18 = .int .i64 id ∧ s19 = .int .i64 ls ∧ Hid (∃ nq, wx = w.drewN nq))
    case first =>
      cases c with
      | false =>
        go_wp2_with fail
        go_meet
        exact ⟨_, _, rfl, rfl, 0, rfl⟩
      | true =>
        have hn0 : 0 < n := hc rfl
        have e1 := Int.emod_nonneg (a / 4) (b := (n : Int)) (by omega)
        have e2 := Int.emod_lt_of_pos (a / 4) (b := (n : Int)) (by omega)
        obtain ⟨k, hk⟩ : ∃ k : Nat, a / 4 % (n : Int) = (k : Int) := ⟨(a / 4 % (n : Int)).toNat, by omega⟩
        have hkn : k < n := by omega
        have hkx : k < m.jobs.length := by have := HN.out; omega
        obtain ⟨bj, offj, rfl, i0, i1, i2, i3⟩ := HMF.out.jb hkx
        have kd : (k : Int) < (n : Int) := by omega
        have k0 : (0 : Int) ≤ (k : Int) := by omega
        have n0 : (0 : Int) < (n : Int) := by omega
        obtain ⟨x, hx⟩ : ∃ x, x = m.jobs[k] := ⟨_, rfl⟩
        rw [← hx] at i0 i2
        clear hx i1 i3 e1 e2
        go_wp2_with fail
        go_quiet (fail)
        go_wp2_with fail
        go_meet
        exact ⟨_, _, rfl, rfl, _, rfl⟩
    case rest =>
      obtain ⟨id, ls, rfl, rfl, HW⟩ := hcut
      obtain ⟨nq, hw⟩ := HW.out
      subst hw
      have HTW := Lib.hid (H.out.two.drewN nq)
      have HBW : Hid (Below w.heap.size w (w.drewN nq)) := bdrewN (Below.refl _ _) nq
      have HBB : Hid (B ≤ (w.drewN nq).heap.size) := H.out.hB
      clear HW c0 hc a4 a5 a7 a8 a9
      generalize w.drewN nq = W at *
      have HIV : Hid (Inv t 0 q m) := H.out.inv
      have HTT : Hid (t < 60) := H.out.tt
      have HTB : Hid (Tabs W) := H.out.ht.below HBW.out
      have HB0 : Hid (Below B w W) := HBW.out.mono H.out.hB
      have hqn : q.jobs.length ≤ 64 := by have h1 := HIV.out.jlq; have h2 := HIV.out.jl; have h3 := HTT.out; omega
      have HFD : Hid (∀ W', Below W.heap.size W W' → Calls Tryd.prog 31 #[.pointer (some ⟨bm, 0, none⟩), .int .i64 id] W' (RetFind m.jobs id W')) := fun W' hb => mfind_any B bm m _ id W' (HTW.out.m.below hb) (by have := HN.out; omega)
      rcases place_or m.jobs id with hno | ⟨p, hp, hp1, hp2⟩
      · have HBK := Lib.hid (back_no B b q vj vw id ls 8 W HTW.out.q hqn (fun i c h => (by rw [HIV.out.jobs] at h; exact h.norm.none hno)) (by omega))
        have HNO := Lib.hid hno
        clear hno
        go_wp2_with fail
        refine HBK.out.mono ?_
        rintro e w2 ⟨vj2, vw2, rfl, hq2, ht2⟩
        have HT2 := Lib.hid (HTW.out.turn hq2 ht2)
        have HB2 : Hid (Below B w w2) := HB0.out.trans (HTW.out.base ht2 HBB.out)
        have HFD2 := Lib.hid (mfind_any B bm m _ id w2 HT2.out.m (by have := HN.out; omega))
        clear hq2 ht2 HBK HFD
        go_wp2_with fail
        refine HFD2.out.mono ?_
        rintro e w3 ⟨r, rfl, hr, rfl⟩
        obtain rfl := hr.none HNO.out
        have HF : Hid (RetStep B b bm t w (.returned (.bool true)) w2) := ⟨q, m, vj2, vw2, _, rfl, HT2.out, HB2.out, HIV.out.next' (by omega)⟩
        clear hr
        go_wp2
        go_ret
        exact HF.out
      · have hpq : p < q.jobs.length := by rw [HIV.out.jlq]; exact hp
        have hpn : p < n := by have := HN.out; omega
        have HGT := Lib.hid (HIV.out.get hpq hp)
        have HP1 := Lib.hid hp1
        have HP2 := Lib.hid hp2
        have HP := Lib.hid hp
        obtain ⟨y, hy⟩ : ∃ y, y = m.jobs[p]'hp := ⟨_, rfl⟩
        have HY := Lib.hid hy
        have HID : Hid (y.id = id) := by show y.id = id; rw [hy]; exact by simpa [hasId] using hp1
        clear hp1 hp2 hy
        by_cases hst : ls = 0 ∨ y.lease ≠ ls
        · have HBK := Lib.hid (back_no B b q vj vw id ls 9 W HTW.out.q hqn (fun i c h => (by rw [HIV.out.jobs] at h; exact h.norm.state hp HP1.out HP2.out (HY.out ▸ hst))) (by omega))
          go_wp2_with fail
          refine HBK.out.mono ?_
          rintro e w2 ⟨vj2, vw2, rfl, hq2, ht2⟩
          have HT2 := Lib.hid (HTW.out.turn hq2 ht2)
          have HB2 : Hid (Below B w w2) := HB0.out.trans (HTW.out.base ht2 HBB.out)
          have HFD2 := Lib.hid (mfind_any B bm m _ id w2 HT2.out.m (by have := HN.out; omega))
          clear hq2 ht2 HBK HFD
          go_wp2_with fail
          refine HFD2.out.mono ?_
          rintro e w3 ⟨r, rfl, hr, rfl⟩
          obtain rfl := hr.some HP.out HP1.out HP2.out
          have HF : Hid (RetStep B b bm t w (.returned (.bool true)) w2) := ⟨q, m, vj2, vw2, _, rfl, HT2.out, HB2.out, HIV.out.next' (by omega)⟩
          obtain ⟨g, cap, hvm, hgb, hgl, gf, hrow⟩ := HT2.out.m.rowOf (by have := HN.out; omega)
          simp only [Value.slice.injEq] at hvm
          obtain ⟨rfl, -, rfl⟩ := hvm
          obtain ⟨i0, i1, i2, i3⟩ := hrow p HP.out
          have d0 : w2.cell? ⟨bm, 0, none⟩ = some (.slice (some ⟨g, 0, none⟩) n cm) := by rw [HN.out]; exact HT2.out.m.tab.at' 0 (by omega)
          have kd : (p : Int) < (n : Int) := by omega
          have k0 : (0 : Int) ≤ (p : Int) := by omega
          rw [← HY.out] at i2
          obtain ⟨x, hx⟩ : ∃ x, x = y.lease := ⟨_, rfl⟩
          rw [← hx] at i2 hst
          clear hr hrow hx i0 i1 i3
          by_cases h0 : ls = 0
          · subst h0
            go_wp2
            go_ret
            exact HF.out
          · have h1 : x ≠ ls := by
              rcases hst with e | e
              · exact absurd e h0
              · exact e
            have e1 : (ls == 0) = false := by simpa using h0
            have e2 : (x != ls) = true := by simpa using h1
            clear hst h0 h1
            go_wp2
            go_ret
            exact HF.out
        · have h0 : ls ≠ 0 := fun e => hst (.inl e)
          have h1 : y.lease = ls := by
            by_cases e : y.lease = ls
            · exact e
            · exact absurd (.inr e) hst
          have HBK := Lib.hid (back_yes B b q vj vw id ls W HTW.out.q hqn p hpq (fun i c h => (by rw [HIV.out.jobs] at h; exact h.norm.yes hp HP1.out HP2.out h0 (HY.out ▸ h1))))
          have HI2 : Hid (Inv t 0 (backQ q p (q.jobs[p]'hpq)) (backM m p)) := HIV.out.back p hpq
          have HMB : Hid (backM m p = { m with jobs := m.jobs.set p { y with lease := 0 } }) := back_set m p hp y HY.out
          generalize backQ q p (q.jobs[p]'hpq) = q2 at *
          clear hst
          go_wp2_with fail
          refine HBK.out.mono ?_
          rintro e w2 ⟨vj2, vw2, rfl, hq2, ht2⟩
          have HT2 := Lib.hid (HTW.out.turn hq2 ht2)
          have HB2 : Hid (Below B w w2) := HB0.out.trans (HTW.out.base ht2 HBB.out)
          have HFD2 := Lib.hid (mfind_any B bm m _ id w2 HT2.out.m (by have := HN.out; omega))
          clear hq2 ht2 HBK HFD
          go_wp2_with fail
          refine HFD2.out.mono ?_
          rintro e w3 ⟨r, rfl, hr, rfl⟩
          obtain rfl := hr.some HP.out HP1.out HP2.out
          obtain ⟨g, cap, hvm, hgb, hgl, gf, hrow⟩ := HT2.out.m.rowOf (by have := HN.out; omega)
          simp only [Value.slice.injEq] at hvm
          obtain ⟨rfl, -, rfl⟩ := hvm
          obtain ⟨i0, i1, i2, i3⟩ := hrow p HP.out
          have d0 : w2.cell? ⟨bm, 0, none⟩ = some (.slice (some ⟨g, 0, none⟩) n cm) := by rw [HN.out]; exact HT2.out.m.tab.at' 0 (by omega)
          have kd : (p : Int) < (n : Int) := by omega
          have k0 : (0 : Int) ≤ (p : Int) := by omega
          rw [← HY.out, h1] at i2
          have e1 : (ls == 0) = false := by simpa using h0
          have e2 : (ls != ls) = false := by simp
          have hM3 : MAt (w2.setCell ⟨g, p * 4 + 2, none⟩ (.int .i64 0)) B bm (backM m p) (.slice (some ⟨g, 0, none⟩) n cm) := by
            have hm2 := HT2.out.m
            rw [← HN.out] at hm2
            have h3 := hm2.setJob (i := p) HP.out (j := 2) (by omega) (v := .int .i64 0) (y := { y with lease := 0 }) (by rw [HY.out]; rfl)
            rw [HMB.out]
            exact h3
          have hT3 : Two (w2.setCell ⟨g, p * 4 + 2, none⟩ (.int .i64 0)) B b bm q2 (backM m p) vj2 vw2 (.slice (some ⟨g, 0, none⟩) n cm) := Two.mturn (vm := .slice (some ⟨g, 0, none⟩) n cm) (by have h3 := HT2.out; rw [← HN.out] at h3; exact h3) hM3 ((MTurn.refl _ _ _).setJ _ _)
          have hB3 : Below B w (w2.setCell ⟨g, p * 4 + 2, none⟩ (.int .i64 0)) := HB2.out.trans (Two.mbase (vm := .slice (some ⟨g, 0, none⟩) n cm) (by have h3 := HT2.out; rw [← HN.out] at h3; exact h3) ((MTurn.refl _ _ _).setJ _ _) (Nat.le_trans H.out.hB HB2.out.size))
          have HT3 := Lib.hid hT3
          have HB3 := Lib.hid hB3
          clear hr hrow h0 h1 i0 i1 i3 hM3 hT3 hB3
          have HL0 : Hid (Loop4 w B b bm t n p id vj2 vw2 (.slice (some ⟨g, 0, none⟩) n cm) 0 (w2.setCell ⟨g, p * 4 + 2, none⟩ (.int .i64 0))) := by
            have hl : (backM m p).jobs.length = m.jobs.length := by rw [HMB.out]; exact List.length_set
            have hg : ∀ h : p < (backM m p).jobs.length, (backM m p).jobs[p] = { y with lease := 0 } := fun h => by simp only [HMB.out, List.getElem_set_self]
            refine ⟨q2, backM m p, HT3.out, HI2.out, by rw [hl]; exact HN.out.symm, fun k h hk => by omega, ⟨by rw [hl]; exact HP.out, ?_, ?_⟩, HB3.out⟩
            · rw [hg]
            · rw [hg]; exact HID.out
          clear HT3 HB3 HI2 HMB HP1 HP2 HGT HT2 HB2 HTB HBB HB0 HTW HBW HFD2
          have HPN : Hid (p < n) := hpn
          have HTAB : Hid (∀ W', Below B w W' → Tabs W') := H.out.tb
          go_wp2
          go_loopw [22] (fun i wr => ∃ c : Nat, c ≤ p ∧ i = .int .i64 c ∧ Hid (Loop4 w B b bm t n p id vj2 vw2 (.slice (some ⟨g, 0, none⟩) n cm) c wr)) (fun i _ => n - (intOf i).toNat)
          case atStart => exact ⟨0, by omega, rfl, HL0.out⟩
          case round =>
            clear HL0 d0 i2 gf
            obtain ⟨c, hc, rfl, HR⟩ := hrel
            obtain ⟨q3, m3, hT, hI, hN3, hno, ⟨hp3, hz3, hid3⟩, hB⟩ := HR.out
            have HNO := Lib.hid hno
            obtain ⟨f, hf, hzf, hnof, hcf, hfp⟩ := wait_at hp3 hz3 hno
            have htt := HTT.out
            have hjl3 := hI.jl
            have hls := hI.ls
            have hnw := hI.nw
            have hcn : c ≤ 60 := by omega
            obtain ⟨q4, hTK, hI4⟩ := take_inv hI (by omega) (by omega) hT.q f hf hzf hnof 1 (by omega) (by omega)
            have HTK := Lib.hid hTK
            have HI4 := Lib.hid hI4
            have HT := Lib.hid hT
            have HI3 := Lib.hid hI
            have HBR := Lib.hid hB
            have hls2 : 0 ≤ m3.leases ∧ m3.leases ≤ 4100 := by omega
            have hnw2 : 0 ≤ m3.now ∧ m3.now ≤ 4000 := by omega
            obtain ⟨z, hz⟩ : ∃ z, z = m3.jobs[f]'hf := ⟨_, rfl⟩
            rw [← hz] at HTK
            have HZ := Lib.hid hz
            have HF := Lib.hid hf
            have HN3 := Lib.hid hN3
            have HNOF := Lib.hid hnof
            have HP3 := Lib.hid hp3
            have HZ3 := Lib.hid hz3
            have HID3 := Lib.hid hid3
            have hBw : Hid (B ≤ wr.heap.size) := Nat.le_trans H.out.hB HBR.out.size
            have hfn : f < n := by omega
            have c0 : wr.cell? ⟨bm, 0, none⟩ = some (.slice (some ⟨g, 0, none⟩) n cm) := hT.m.tab.at' 0 (by omega)
            have cd : (c : Int) < (n : Int) := by omega
            have c00 : (0 : Int) ≤ (c : Int) := by omega
            clear hno hnof hzf hz3 hid3 hI hTK hI4 hB hjl3 hls hnw hz hN3 HR
            go_wp2_with fail
            refine HTK.out.mono ?_
            rintro e w4 ⟨rfl, hq4, ht4⟩
            have hT4 := (HT.out.turn hq4 ht4).below (balloc (Below.refl _ _) (.cells #[.int .i64 z.id, .string z.text] 39))
            have HB4 : Hid (Below B w (w4.alloc (.cells #[.int .i64 z.id, .string z.text] 39))) := HBR.out.trans (HT.out.base (ht4.alloc _) hBw.out)
            have m0 : (w4.alloc (.cells #[.int .i64 z.id, .string z.text] 39)).cell? ⟨w4.heap.size, 0, none⟩ = some (.int .i64 z.id) := by rw [cell_of_row _ w4.heap.size 0 _ _ (0, 0) (heap_alloc_new w4 _)]; rfl
            have hml4 := (HT.out.turn hq4 ht4).m.lt
            have hgl4 : g < w4.heap.size := ((HT.out.turn hq4 ht4).m.inm (.inr rfl)).2
            have mf := hT4.m.tab.fz
            have d0 : (w4.alloc (.cells #[.int .i64 z.id, .string z.text] 39)).cell? ⟨bm, 0, none⟩ = some (.slice (some ⟨g, 0, none⟩) n cm) := hT4.m.tab.at' 0 (by omega)
            have d2 : (w4.alloc (.cells #[.int .i64 z.id, .string z.text] 39)).cell? ⟨bm, 2, none⟩ = some (.int .i64 m3.leases) := hT4.m.tab.at' 2 (by omega)
            have d3 : (w4.alloc (.cells #[.int .i64 z.id, .string z.text] 39)).cell? ⟨bm, 3, none⟩ = some (.int .i64 m3.now) := hT4.m.tab.at' 3 (by omega)
            obtain ⟨g1, cap1, hvm1, hgb1, -, gf, hrow⟩ := hT4.m.rowOf (by have := HN3.out; omega)
            simp only [Value.slice.injEq, Option.some.injEq, Addr.mk.injEq, and_true, true_and] at hvm1
            obtain ⟨rfl, -, rfl⟩ := hvm1
            obtain ⟨i0, i1, i2, i3⟩ := hrow f HF.out
            rw [← HZ.out] at i0 i1 i2 i3
            have hwm : w4.heap.size ≠ bm := by omega
            have hwg : w4.heap.size ≠ g := by omega
            have HT4 := Lib.hid hT4
            have hm5 : MAt ((w4.alloc (.cells #[.int .i64 z.id, .string z.text] 39)).setCell ⟨bm, 2, none⟩ (.int .i64 (m3.leases + 1))) B bm { m3 with leases := m3.leases + 1 } (.slice (some ⟨g, 0, none⟩) n cm) :=
              MAt.put (m' := { m3 with leases := m3.leases + 1 }) hT4.m (i := 2) (by omega) (.int .i64 (m3.leases + 1)) rfl (fun j hj => by
                match j, hj with
                | 0, _ => rfl
                | 1, _ => rfl
                | 2, _ => rfl
                | 3, _ => rfl)
            have HM5 := Lib.hid hm5
            have HFD4 := Lib.hid (mfind_any B bm { m3 with leases := m3.leases + 1 } _ z.id _ hm5 (by have := HN3.out; show m3.jobs.length ≤ 64; omega))
            clear hq4 ht4 HTK hT4 hm5 hrow i1 c0
            have e9 : (m3.leases + 1 != m3.leases + 1) = false := by simp
            have x1 : IntKind.i64.wrap (m3.leases + 1) = m3.leases + 1 := IntWalk.i64_in _ (by omega)
            have x2 : IntKind.i64.wrap (m3.now + 1) = m3.now + 1 := IntWalk.i64_in _ (by omega)
            have HMM : Hid (takeM m3 f (m3.now + 1) = { m3 with leases := m3.leases + 1, jobs := m3.jobs.set f (leaseJ z (m3.leases + 1) (m3.now + 1)) }) := by
              show _ = _
              unfold takeM
              rw [modify_eq_set _ _ _ HF.out, HZ.out]
            have hBz : Hid (B ≤ (w4.alloc (.cells #[.int .i64 z.id, .string z.text] 39)).heap.size) := Nat.le_trans H.out.hB HB4.out.size
            go_upto_region 45 with fail
            generalize w4.alloc (.cells #[.int .i64 z.id, .string z.text] 39) = W4 at *
            go_wp2_with fail
            refine HFD4.out.mono ?_
            rintro e w5 ⟨r, rfl, hr, rfl⟩
            have hr2 : FoundAt m3.jobs (m3.jobs[f]'HF.out).id r := by rw [← HZ.out]; exact hr
            obtain rfl := hr2.at HI3.out.uniq HF.out
            have fd : (f : Int) < (n : Int) := by omega
            have f0 : (0 : Int) ≤ (f : Int) := by omega
            have f1 : ¬ (f : Int) < 0 := by omega
            have HM9 : Hid (MAt (((W4.setCell ⟨bm, 2, none⟩ (.int .i64 (m3.leases + 1))).setCell ⟨g, f * 4 + 2, none⟩ (.int .i64 (m3.leases + 1))).setCell ⟨g, f * 4 + 3, none⟩ (.int .i64 (m3.now + 1))) B bm (takeM m3 f (m3.now + 1)) (.slice (some ⟨g, 0, none⟩) n cm)) := by
              show MAt _ _ _ _ _
              rw [HMM.out]
              have q2 := HM5.out.setJob (i := f) HF.out (j := 2) (by omega) (v := .int .i64 (m3.leases + 1)) (y := { z with lease := m3.leases + 1 }) (by rw [HZ.out]; rfl)
              have q3 := q2.setJob (i := f) (by simpa using HF.out) (j := 3) (by omega) (v := .int .i64 (m3.now + 1)) (y := leaseJ z (m3.leases + 1) (m3.now + 1)) (by simp [encJb, leaseJ])
              simp only [List.set_set] at q3
              exact q3
            have HT9 : Hid (MTurn bm (.slice (some ⟨g, 0, none⟩) n cm) (.slice (some ⟨g, 0, none⟩) n cm) W4 (((W4.setCell ⟨bm, 2, none⟩ (.int .i64 (m3.leases + 1))).setCell ⟨g, f * 4 + 2, none⟩ (.int .i64 (m3.leases + 1))).setCell ⟨g, f * 4 + 3, none⟩ (.int .i64 (m3.now + 1)))) :=
              (((MTurn.refl bm _ W4).set 2 _).setJ _ _).setJ _ _
            clear hr hr2 HFD4 HM5
            go_upto_region 51 with fail
            go_region_held3 (fun w' => w'.cell? ⟨bm, 0, none⟩ = some (.slice (some ⟨g, 0, none⟩) n cm) ∧ w'.cell? ⟨bm, 3, none⟩ = some (.int .i64 m3.now)) ((refine ⟨?_, ?_⟩ <;> go_simp)) (fail)
            rename_i hHeld
            have HMX : Hid (MAt (((W4.setCell ⟨bm, 2, none⟩ (.int .i64 (m3.leases + 1))).setCell ⟨g, f * 4 + 2, none⟩ (.int .i64 (m3.leases + 1))).setCell ⟨g, f * 4 + 3, none⟩ (.int .i64 (m3.now + 1))).drew B bm (takeM m3 f (m3.now + 1)) (.slice (some ⟨g, 0, none⟩) n cm)) := HM9.out.drewN 1
            have HTX : Hid (MTurn bm (.slice (some ⟨g, 0, none⟩) n cm) (.slice (some ⟨g, 0, none⟩) n cm) W4 (((W4.setCell ⟨bm, 2, none⟩ (.int .i64 (m3.leases + 1))).setCell ⟨g, f * 4 + 2, none⟩ (.int .i64 (m3.leases + 1))).setCell ⟨g, f * 4 + 3, none⟩ (.int .i64 (m3.now + 1))).drew) := HT9.out.drewN 1
            have n0 : (((W4.setCell ⟨bm, 2, none⟩ (.int .i64 (m3.leases + 1))).setCell ⟨g, f * 4 + 2, none⟩ (.int .i64 (m3.leases + 1))).setCell ⟨g, f * 4 + 3, none⟩ (.int .i64 (m3.now + 1))).drew.cell? ⟨w4.heap.size, 0, none⟩ = some (.int .i64 z.id) := by go_simp
            clear hHeld HM9 HT9 m0 mf gf d0 d2 d3 i0 i2 i3
            generalize (((W4.setCell ⟨bm, 2, none⟩ (.int .i64 (m3.leases + 1))).setCell ⟨g, f * 4 + 2, none⟩ (.int .i64 (m3.leases + 1))).setCell ⟨g, f * 4 + 3, none⟩ (.int .i64 (m3.now + 1))).drew = W6 at *
            have HTT6 : Hid (Two W6 B b bm q4 (takeM m3 f (m3.now + 1)) vj2 vw2 (.slice (some ⟨g, 0, none⟩) n cm)) := HT4.out.mturn HMX.out HTX.out
            have HB6 : Hid (Below B w W6) := HB4.out.trans (HTX.out.base HT4.out.m hBz.out)
            clear HMX HTX HT4 hwm hwg
            by_cases hfp2 : f = p
            · subst hfp2
              obtain ⟨m6, hm6⟩ : ∃ m6, m6 = takeM m3 f (m3.now + 1) := ⟨_, rfl⟩
              have hj6 : m6.jobs = m3.jobs.set f (leaseJ z (m3.leases + 1) (m3.now + 1)) := by rw [hm6, HMM.out]
              rw [← hm6] at HTT6 HI4
              have hl6 : m6.jobs.length = n := by rw [hj6, List.length_set, HN3.out]
              have hf6 : f < m6.jobs.length := by omega
              have hg6 : m6.jobs[f] = leaseJ z (m3.leases + 1) (m3.now + 1) := by simp only [hj6, List.getElem_set_self]
              have hid6 : m6.jobs[f].id = id := by
                rw [hg6]
                show z.id = id
                rw [HZ.out]
                exact HID3.out
              have hf1 := first_of HI4.out.uniq hf6
              rw [hid6] at hf1
              have hidb := HI4.out.ids _ (List.getElem_mem hf6)
              rw [hid6] at hidb
              have hnx6 := HI4.out.nx
              have hsz6 := HI4.out.sz
              have htt6 := HTT.out
              have hlq6 : q4.jobs.length = n := by rw [HI4.out.jlq]; exact hl6
              have HDN : Hid (∀ W, QAt W B b q4 vj2 vw2 → Below B w W → Calls Tryd.prog 17 #[.pointer (some ⟨b, 0, none⟩), .int .i64 id, .int .i64 (m3.leases + 1)] W (RetDone B b (doneQ q4 id f) 0 vj2 vw2 W)) := fun W hq hb => by
                have h5 := doneL_len id (by omega) (by omega)
                have h6 := lineV_len q4.epoch q4.seq (doneL id)
                exact done_yes B b q4 vj2 vw2 id (m3.leases + 1) f W hq (HI4.out.qok (by omega) (by omega)) (Nat.le_trans H.out.hB hb.size) (HTAB.out W hb) (by omega) (by omega) (fun i c h => by
                  rw [HI4.out.jobs] at h
                  exact h.norm.yes hf6 hf1.1 hf1.2 (by omega) (by rw [hg6]; rfl)) (by omega) (by omega) (by omega)
              have HI9 : Hid (Inv (t + 1) 0 (doneQ q4 id f) (eraseM m6 f)) := by
                have h7 := HI4.out.done (by omega) f id (by omega) (by omega)
                have h8 := HI4.out.ls
                refine ⟨h7.jobs, h7.next, h7.leases, h7.now, h7.jl, h7.nx, h7.ids, h7.uniq, ⟨h8.1, ?_⟩, h7.nw, h7.area, h7.ep, h7.sz, h7.sq, h7.wl, h7.wa, h7.bs⟩
                show m6.leases ≤ _
                omega
              have HFL : Hid (∀ W, Below W6.heap.size W6 W → Flat W 4 encJb (some ⟨g, 0, none⟩) m6.jobs) := fun W hb => by
                obtain ⟨oa, c9, e9, -, hf9⟩ := HTT6.out.m.jobs.flat (fun _ => rfl)
                simp only [Value.slice.injEq] at e9
                obtain ⟨rfl, -, -⟩ := e9
                exact hf9.below hb
              have hncm : n ≤ cm := by
                rcases HTT6.out.m.jobs.2 with ⟨e, _⟩ | ⟨g1, c1, cur, e, _, _, hnc, _⟩
                · cases e
                · simp only [Value.slice.injEq] at e
                  obtain ⟨-, -, rfl⟩ := e
                  omega
              have HL6 := Lib.hid hl6
              have HER : Hid (m6.jobs.eraseIdx f = m6.jobs.take f ++ m6.jobs.drop (f + 1)) := List.eraseIdx_eq_take_drop_succ _ _
              have hB6 : Hid (B ≤ W6.heap.size) := Nat.le_trans H.out.hB HB6.out.size
              have c0 : W6.cell? ⟨bm, 0, none⟩ = some (.slice (some ⟨g, 0, none⟩) n cm) := HTT6.out.m.tab.at' 0 (by omega)
              have cf := HTT6.out.m.tab.fz
              have hbl := HTT6.out.m.lt
              have hbe : (z.id == id) = true := by
                have : z.id = id := by rw [HZ.out]; exact HID3.out
                simpa using this
              have x3 : IntKind.i64.wrap ((f : Int) + 1) = (f : Int) + 1 := IntWalk.i64_in _ (by omega)
              have y1 : (0 : Int) ≤ (f : Int) + 1 := by omega
              have y2 : (f : Int) + 1 ≤ (n : Int) := by omega
              have y3 : (n : Int) ≤ (cm : Int) := by omega
              have y4 : f + 1 ≤ n := by omega
              have y5 : f ≤ cm := by omega
              have y6 : f + 1 ≤ cm := by omega
              have hT1 : Hid ((m6.jobs.take f).length = f) := by show _ = _; rw [List.length_take]; omega
              have hT2 : Hid ((m6.jobs.drop (f + 1)).length = n - (f + 1)) := by show _ = _; rw [List.length_drop]; omega
              clear hj6 hm6 hl6 hf6 hg6 hid6 hf1 hidb hnx6 hsz6 htt6 hlq6 HI4 HMM HZ HID3 HN3 HZ3 HP3 HNOF HF
              by_cases hcj : cm = f + 1
              · obtain rfl : n = f + 1 := by omega
                subst hcj
                have hdr : m6.jobs.drop (f + 1) = [] := List.drop_of_length_le (by rw [HL6.out]; omega)
                have HDR := Lib.hid hdr
                have hT3 : Hid (([] : List Jb).length = 0) := rfl
                have q1 : (f : Int) ≤ (f : Int) + 1 := by omega
                have q2 : f ≤ f + 1 := by omega
                have q3 : (0 : Int) ≤ (f : Int) := by omega
                clear hdr
                go_upto_region 53 with fail
                go_region_law (first | (refine step_appRowL (by rfl) (.tmp 363) (.tmp 369) 53 (by rfl) elemMj Tryd.underlying53 B _ 0 0 [] encJb (by rfl) ((own_emptyM W6 B hB6.out).drewN 1) (m6.jobs.take f) ⟨g, 0, none⟩ f (f + 1) (by rfl) hT1.out.symm ((HFL.out _ (bdrewN (balloc (Below.refl _ W6) (.cells #[] 58)) 1)).take f) (fun _ => rfl) (by simp [encJb, Value.oneCell']) (by have h := hT1.out; simp only [List.length_nil]; omega) (by have h := hT1.out; simp only [List.length_nil]; unfold maxLen; omega) (by have h := hB6.out; simp; omega) f (by have h := hT1.out; simp only [List.length_nil]; omega) ?_; intro g1 cap1 w1 hown1 hg1 hat1; have hz1 : Below W6.heap.size W6 w1 := below_fresh (bdrewN (balloc (Below.refl _ W6) (.cells #[] 58)) 1) hg1 (Nat.le_refl _); have k0 : w1.cell? ⟨bm, 0, none⟩ = some (.slice (some ⟨g, 0, none⟩) (f + 1) (f + 1)) := keepCell hz1 c0; have hgz1 : W6.heap.size ≤ g1 := fresh_le hat1 (Nat.le_refl _) (bdrewN (balloc (Below.refl _ W6) (.cells #[] 58)) 1); have HO1 := Lib.hid hown1; clear hg1 hat1 hown1) | (refine step_appRowL (by rfl) (.tmp 370) (.tmp 377) 53 (by rfl) elemMj Tryd.underlying53 B g1 f cap1 ([] ++ m6.jobs.take f) encJb (by rfl) HO1.out [] ⟨g, 0, none⟩ 0 0 (by rfl) hT3.out.symm (fun i hi => by cases hi) (fun _ => rfl) (by simp [encJb, Value.oneCell']) (by have h := hT1.out; have h' := hT3.out; rw [List.nil_append]; omega) (by have h := hT1.out; have h' := hT3.out; rw [List.nil_append]; unfold maxLen; omega) (by have h := hB6.out; have h' := hz1.size; omega) f (by have h := hT1.out; have h' := hT3.out; rw [List.nil_append]; omega) ?_; intro g2 cap2 w2 hown2 hg2 hat2; have hgz2 : W6.heap.size ≤ g2 := fresh_le hat2 hgz1 hz1; have hz2 : Below W6.heap.size W6 w2 := below_fresh hz1 hg2 hgz1; have k2 : w2.cell? ⟨bm, 0, none⟩ = some (.slice (some ⟨g, 0, none⟩) (f + 1) (f + 1)) := keepCell hz2 c0; have k3 : w2.frozen? ⟨bm, 0, none⟩ = false := (hz2.frozen (p := ⟨bm, 0, none⟩) hbl).trans (cf 0); have HO2 := Lib.hid hown2; clear hg2 hat2 hown2) | fail)
                all_goals
                  have hown9 : Own w2 B 58 4 encJb (.slice (some ⟨g2, 0, none⟩) f cap2) (m6.jobs.eraseIdx f) := by
                    have h := HO2.out
                    rw [List.nil_append] at h
                    rw [HER.out, HDR.out]
                    exact h
                  obtain ⟨hT9, hB9⟩ := erase_row HTT6.out hz2 hgz2 hown9 hB6.out
                  have HT9 := Lib.hid hT9
                  have HB9 : Hid (Below B w (w2.setCell ⟨bm, 0, none⟩ (.slice (some ⟨g2, 0, none⟩) f cap2))) := HB6.out.trans hB9
                  clear hT9 hB9 hown9 HO2 HO1 hz1 hz2 hgz1 hgz2 k0 k2 k3 c0 cf
                  generalize w2.setCell ⟨bm, 0, none⟩ (.slice (some ⟨g2, 0, none⟩) f cap2) = W9 at *
                  have HD9 := Lib.hid (HDN.out W9 HT9.out.q HB9.out)
                  go_wp2_with fail
                  refine HD9.out.mono ?_
                  rintro e w10 ⟨vj10, vw10, rfl, hq10, ht10⟩
                  have HF10 : Hid (RetStep B b bm t w (.returned (.bool true)) w10) := ⟨_, _, vj10, vw10, _, rfl, HT9.out.turn hq10 ht10, HB9.out.trans (HT9.out.base ht10 (Nat.le_trans H.out.hB HB9.out.size)), HI9.out⟩
                  clear hq10 ht10 HD9
                  go_wp2
                  go_ret
                  exact HF10.out
              · have hcj2 : ¬ (cm : Int) = (f : Int) + 1 := by omega
                go_upto_region 53 with fail
                go_region_law (first | (refine step_appRowL (by rfl) (.tmp 363) (.tmp 369) 53 (by rfl) elemMj Tryd.underlying53 B _ 0 0 [] encJb (by rfl) ((own_emptyM W6 B hB6.out).drewN 1) (m6.jobs.take f) ⟨g, 0, none⟩ f cm (by rfl) hT1.out.symm ((HFL.out _ (bdrewN (balloc (Below.refl _ W6) (.cells #[] 58)) 1)).take f) (fun _ => rfl) (by simp [encJb, Value.oneCell']) (by have h := hT1.out; simp only [List.length_nil]; omega) (by have h := hT1.out; simp only [List.length_nil]; unfold maxLen; omega) (by have h := hB6.out; simp; omega) f (by have h := hT1.out; simp only [List.length_nil]; omega) ?_; intro g1 cap1 w1 hown1 hg1 hat1; have hz1 : Below W6.heap.size W6 w1 := below_fresh (bdrewN (balloc (Below.refl _ W6) (.cells #[] 58)) 1) hg1 (Nat.le_refl _); have k0 : w1.cell? ⟨bm, 0, none⟩ = some (.slice (some ⟨g, 0, none⟩) n cm) := keepCell hz1 c0; have hgz1 : W6.heap.size ≤ g1 := fresh_le hat1 (Nat.le_refl _) (bdrewN (balloc (Below.refl _ W6) (.cells #[] 58)) 1); have HO1 := Lib.hid hown1; clear hg1 hat1 hown1) | (refine step_appRowL (by rfl) (.tmp 370) (.tmp 377) 53 (by rfl) elemMj Tryd.underlying53 B g1 f cap1 ([] ++ m6.jobs.take f) encJb (by rfl) HO1.out (m6.jobs.drop (f + 1)) ⟨g, (f + 1) * 4, none⟩ (n - (f + 1)) (cm - (f + 1)) (by rfl) hT2.out.symm (by have h := (HFL.out _ hz1).dropAt (f + 1); simpa using h) (fun _ => rfl) (by simp [encJb, Value.oneCell']) (by have h := hT1.out; have h' := hT2.out; rw [List.nil_append]; omega) (by have h := hT1.out; have h' := hT2.out; rw [List.nil_append]; unfold maxLen; omega) (by have h := hB6.out; have h' := hz1.size; omega) (n - 1) (by have h := hT1.out; have h' := hT2.out; rw [List.nil_append]; omega) ?_; intro g2 cap2 w2 hown2 hg2 hat2; have hgz2 : W6.heap.size ≤ g2 := fresh_le hat2 hgz1 hz1; have hz2 : Below W6.heap.size W6 w2 := below_fresh hz1 hg2 hgz1; have k2 : w2.cell? ⟨bm, 0, none⟩ = some (.slice (some ⟨g, 0, none⟩) n cm) := keepCell hz2 c0; have k3 : w2.frozen? ⟨bm, 0, none⟩ = false := (hz2.frozen (p := ⟨bm, 0, none⟩) hbl).trans (cf 0); have HO2 := Lib.hid hown2; clear hg2 hat2 hown2) | fail)
                all_goals
                  have hown9 : Own w2 B 58 4 encJb (.slice (some ⟨g2, 0, none⟩) (n - 1) cap2) (m6.jobs.eraseIdx f) := by
                    have h := HO2.out
                    rw [List.nil_append] at h
                    rw [HER.out]
                    exact h
                  obtain ⟨hT9, hB9⟩ := erase_row HTT6.out hz2 hgz2 hown9 hB6.out
                  have HT9 := Lib.hid hT9
                  have HB9 : Hid (Below B w (w2.setCell ⟨bm, 0, none⟩ (.slice (some ⟨g2, 0, none⟩) (n - 1) cap2))) := HB6.out.trans hB9
                  clear hT9 hB9 hown9 HO2 HO1 hz1 hz2 hgz1 hgz2 k0 k2 k3 c0 cf
                  generalize w2.setCell ⟨bm, 0, none⟩ (.slice (some ⟨g2, 0, none⟩) (n - 1) cap2) = W9 at *
                  have HD9 := Lib.hid (HDN.out W9 HT9.out.q HB9.out)
                  go_wp2_with fail
                  refine HD9.out.mono ?_
                  rintro e w10 ⟨vj10, vw10, rfl, hq10, ht10⟩
                  have HF10 : Hid (RetStep B b bm t w (.returned (.bool true)) w10) := ⟨_, _, vj10, vw10, _, rfl, HT9.out.turn hq10 ht10, HB9.out.trans (HT9.out.base ht10 (Nat.le_trans H.out.hB HB9.out.size)), HI9.out⟩
                  clear hq10 ht10 HD9
                  go_wp2
                  go_ret
                  exact HF10.out
            · have hzi : z.id ≠ id := fun e => hfp2 (place_uniq HI3.out.uniq HF.out HP3.out (by rw [HID3.out, ← HZ.out]; exact e))
              have hbe : (z.id == id) = false := by simpa using hzi
              have HLN : Hid (Loop4 w B b bm t n p id vj2 vw2 (.slice (some ⟨g, 0, none⟩) n cm) (c + 1) W6) := Loop4.next HTT6.out HI4.out HN3.out HF.out HNOF.out hcf hfp2 HP3.out HZ3.out HID3.out hls2.1 HB6.out
              clear HTT6 HI4
              go_wp2
              go_roundw
              case rel => exact ⟨c + 1, by omega, by go_num, HLN⟩
              case measure => simp [intOf]; omega
end Go.Proofs.YtnnnihjagjfkdaaDoor
