/-
  A step that gives back (kind 3). Own text.
-/
import Derived.Test.YtnnnihjagjfkdaaDoorStepT
import Derived.Deep.DeepCutAuto
namespace Go.Proofs.YtnnnihjagjfkdaaDoor
open Go.RowKit
set_option linter.unusedVariables false
set_option maxRecDepth 100000 in
set_option maxHeartbeats 4000000 in
theorem step_back3 (s : ByteArray) (a : Int) (ha : 0 ≤ a) (ha2 : a ≤ 2000) (w : World) (B b bm t : Nat) (q : Que) (m : Mod) (vj vw vm : Value) (h : StepIn w B b bm t q m vj vw vm) :
    Calls Tryd.prog 20 #[.pointer (some ⟨bm, 0, none⟩), .pointer (some ⟨b, 0, none⟩), .string s, .int .i64 3, .int .i64 a] w (RetStep B b bm t w) := by
  have H := Lib.hid h
  have hi := h.inv
  have ht := h.tt
  have hl := hi.jlq
  have hjl := hi.jl
  obtain ⟨om, cm, rfl, hmm, hmf⟩ := h.two.m.jobs.flat (fun _ => rfl)
  have c0 : w.cell? ⟨bm, 0, none⟩ = some (.slice om m.jobs.length cm) := h.two.m.tab.at' 0 (by omega)
  have HMF := Lib.hid hmf
  obtain ⟨n, hn⟩ : ∃ n, n = m.jobs.length := ⟨_, rfl⟩
  have HN := Lib.hid hn
  have hml : n ≤ 60 := by omega
  rw [← hn] at c0
  have a4 : 0 ≤ a % 4 ∧ a % 4 < 4 := by omega
  have a7 : 0 ≤ a % 7 ∧ a % 7 < 7 := by omega
  have a5 : 0 ≤ a / 7 % 5 ∧ a / 7 % 5 < 5 := by omega
  have a8 : 0 ≤ a / 4 ∧ a / 4 ≤ 500 := by omega
  have a9 : 0 ≤ a / 7 ∧ a / 7 ≤ 500 := by omega
  clear h hi ht hl hjl hn hmf hmm
  go_enter Tryd.func20, Tryd.ntmps20
  go_upto_region 29 with fail
  go_cut [216] from 206 to 216 (fun s216 wx => ∃ c : Bool, s216 = .bool c ∧ (c = true → 0 < n) ∧ w = wx)
  case first =>
    by_cases h1 : 0 < n
    · by_cases h2 : 0 < a % 4
      · go_wp2_with fail
        go_meet
        exact ⟨true, rfl, fun _ => h1, rfl⟩
      · have h3 : a % 4 = 0 := by omega
        go_wp2_with fail
        go_meet
        exact ⟨false, rfl, fun e => (by cases e), rfl⟩
    · obtain rfl : n = 0 := by omega
      go_wp2_with fail
      go_meet
      exact ⟨false, rfl, fun e => (by cases e), rfl⟩
  case rest =>
    obtain ⟨c, rfl, hc, rfl⟩ := hcut
    go_upto_if 216 with fail
    go_cut [18, 19] from 217 to 247 (fun s18 s19 wx => ∃ id ls : Int, s18 = .int .i64 id ∧ s19 = .int .i64 ls ∧ Hid (∃ nq, wx = w.drewN nq))
    case first =>
      cases c with
      | false =>
        go_wp2_with fail
        go_meet
        exact ⟨_, _, rfl, rfl, 0, rfl⟩
      | true =>
        have hn0 : 0 < n := hc rfl
        have e1 := Int.emod_nonneg (a / 4) (b := (n : Int)) (by omega)
        have e2 := Int.emod_lt_of_pos (a / 4) (b := (n : Int)) (by omega)
        obtain ⟨k, hk⟩ : ∃ k : Nat, a / 4 % (n : Int) = (k : Int) := ⟨(a / 4 % (n : Int)).toNat, by omega⟩
        have hkn : k < n := by omega
        have hkx : k < m.jobs.length := by have := HN.out; omega
        obtain ⟨bj, offj, rfl, i0, i1, i2, i3⟩ := HMF.out.jb hkx
        have kd : (k : Int) < (n : Int) := by omega
        have k0 : (0 : Int) ≤ (k : Int) := by omega
        have n0 : (0 : Int) < (n : Int) := by omega
        obtain ⟨x, hx⟩ : ∃ x, x = m.jobs[k] := ⟨_, rfl⟩
        rw [← hx] at i0 i2
        clear hx i1 i3 e1 e2
        go_wp2_with fail
        go_quiet (fail)
        go_wp2_with fail
        go_meet
        exact ⟨_, _, rfl, rfl, _, rfl⟩
    case rest =>
      obtain ⟨id, ls, rfl, rfl, HW⟩ := hcut
      obtain ⟨nq, hw⟩ := HW.out
      subst hw
      have HTW := Lib.hid (H.out.two.drewN nq)
      have HBW : Hid (Below w.heap.size w (w.drewN nq)) := bdrewN (Below.refl _ _) nq
      have HBB : Hid (B ≤ (w.drewN nq).heap.size) := H.out.hB
      clear HW c0 hc a4 a5 a7 a8 a9
      generalize w.drewN nq = W at *
      have HIV : Hid (Inv t 0 q m) := H.out.inv
      have HTT : Hid (t < 60) := H.out.tt
      have HTB : Hid (Tabs W) := H.out.ht.below HBW.out
      have HB0 : Hid (Below B w W) := HBW.out.mono H.out.hB
      have hqn : q.jobs.length ≤ 64 := by have h1 := HIV.out.jlq; have h2 := HIV.out.jl; have h3 := HTT.out; omega
      have HFD : Hid (∀ W', Below W.heap.size W W' → Calls Tryd.prog 31 #[.pointer (some ⟨bm, 0, none⟩), .int .i64 id] W' (RetFind m.jobs id W')) := fun W' hb => mfind_any B bm m _ id W' (HTW.out.m.below hb) (by have := HN.out; omega)
      rcases place_or m.jobs id with hno | ⟨p, hp, hp1, hp2⟩
      · have HBK := Lib.hid (back_no B b q vj vw id ls 8 W HTW.out.q hqn (fun i c h => (by rw [HIV.out.jobs] at h; exact h.norm.none hno)) (by omega))
        have HNO := Lib.hid hno
        clear hno
        go_wp2_with fail
        refine HBK.out.mono ?_
        rintro e w2 ⟨vj2, vw2, rfl, hq2, ht2⟩
        have HT2 := Lib.hid (HTW.out.turn hq2 ht2)
        have HB2 : Hid (Below B w w2) := HB0.out.trans (HTW.out.base ht2 HBB.out)
        have HFD2 := Lib.hid (mfind_any B bm m _ id w2 HT2.out.m (by have := HN.out; omega))
        clear hq2 ht2 HBK HFD
        go_wp2_with fail
        refine HFD2.out.mono ?_
        rintro e w3 ⟨r, rfl, hr, rfl⟩
        obtain rfl := hr.none HNO.out
        have HF : Hid (RetStep B b bm t w (.returned (.bool true)) w2) := ⟨q, m, vj2, vw2, _, rfl, HT2.out, HB2.out, HIV.out.next' (by omega)⟩
        clear hr
        go_wp2
        go_ret
        exact HF.out
      · have hpq : p < q.jobs.length := by rw [HIV.out.jlq]; exact hp
        have hpn : p < n := by have := HN.out; omega
        have HGT := Lib.hid (HIV.out.get hpq hp)
        have HP1 := Lib.hid hp1
        have HP2 := Lib.hid hp2
        have HP := Lib.hid hp
        obtain ⟨y, hy⟩ : ∃ y, y = m.jobs[p]'hp := ⟨_, rfl⟩
        have HY := Lib.hid hy
        have HID : Hid (y.id = id) := by show y.id = id; rw [hy]; exact by simpa [hasId] using hp1
        clear hp1 hp2 hy
        by_cases hst : ls = 0 ∨ y.lease ≠ ls
        · have HBK := Lib.hid (back_no B b q vj vw id ls 9 W HTW.out.q hqn (fun i c h => (by rw [HIV.out.jobs] at h; exact h.norm.state hp HP1.out HP2.out (HY.out ▸ hst))) (by omega))
          go_wp2_with fail
          refine HBK.out.mono ?_
          rintro e w2 ⟨vj2, vw2, rfl, hq2, ht2⟩
          have HT2 := Lib.hid (HTW.out.turn hq2 ht2)
          have HB2 : Hid (Below B w w2) := HB0.out.trans (HTW.out.base ht2 HBB.out)
          have HFD2 := Lib.hid (mfind_any B bm m _ id w2 HT2.out.m (by have := HN.out; omega))
          clear hq2 ht2 HBK HFD
          go_wp2_with fail
          refine HFD2.out.mono ?_
          rintro e w3 ⟨r, rfl, hr, rfl⟩
          obtain rfl := hr.some HP.out HP1.out HP2.out
          have HF : Hid (RetStep B b bm t w (.returned (.bool true)) w2) := ⟨q, m, vj2, vw2, _, rfl, HT2.out, HB2.out, HIV.out.next' (by omega)⟩
          obtain ⟨g, cap, hvm, hgb, hgl, gf, hrow⟩ := HT2.out.m.rowOf (by have := HN.out; omega)
          simp only [Value.slice.injEq] at hvm
          obtain ⟨rfl, -, rfl⟩ := hvm
          obtain ⟨i0, i1, i2, i3⟩ := hrow p HP.out
          have d0 : w2.cell? ⟨bm, 0, none⟩ = some (.slice (some ⟨g, 0, none⟩) n cm) := by rw [HN.out]; exact HT2.out.m.tab.at' 0 (by omega)
          have kd : (p : Int) < (n : Int) := by omega
          have k0 : (0 : Int) ≤ (p : Int) := by omega
          rw [← HY.out] at i2
          obtain ⟨x, hx⟩ : ∃ x, x = y.lease := ⟨_, rfl⟩
          rw [← hx] at i2 hst
          clear hr hrow hx i0 i1 i3
          by_cases h0 : ls = 0
          · subst h0
            go_wp2
            go_ret
            exact HF.out
          · have h1 : x ≠ ls := by
              rcases hst with e | e
              · exact absurd e h0
              · exact e
            have e1 : (ls == 0) = false := by simpa using h0
            have e2 : (x != ls) = true := by simpa using h1
            clear hst h0 h1
            go_wp2
            go_ret
            exact HF.out
        · have h0 : ls ≠ 0 := fun e => hst (.inl e)
          have h1 : y.lease = ls := by
            by_cases e : y.lease = ls
            · exact e
            · exact absurd (.inr e) hst
          have HBK := Lib.hid (back_yes B b q vj vw id ls W HTW.out.q hqn p hpq (fun i c h => (by rw [HIV.out.jobs] at h; exact h.norm.yes hp HP1.out HP2.out h0 (HY.out ▸ h1))))
          have HI2 : Hid (Inv t 0 (backQ q p (q.jobs[p]'hpq)) (backM m p)) := HIV.out.back p hpq
          have HMB : Hid (backM m p = { m with jobs := m.jobs.set p { y with lease := 0 } }) := back_set m p hp y HY.out
          generalize backQ q p (q.jobs[p]'hpq) = q2 at *
          clear hst
          go_wp2_with fail
          refine HBK.out.mono ?_
          rintro e w2 ⟨vj2, vw2, rfl, hq2, ht2⟩
          have HT2 := Lib.hid (HTW.out.turn hq2 ht2)
          have HB2 : Hid (Below B w w2) := HB0.out.trans (HTW.out.base ht2 HBB.out)
          have HFD2 := Lib.hid (mfind_any B bm m _ id w2 HT2.out.m (by have := HN.out; omega))
          clear hq2 ht2 HBK HFD
          go_wp2_with fail
          refine HFD2.out.mono ?_
          rintro e w3 ⟨r, rfl, hr, rfl⟩
          obtain rfl := hr.some HP.out HP1.out HP2.out
          obtain ⟨g, cap, hvm, hgb, hgl, gf, hrow⟩ := HT2.out.m.rowOf (by have := HN.out; omega)
          simp only [Value.slice.injEq] at hvm
          obtain ⟨rfl, -, rfl⟩ := hvm
          obtain ⟨i0, i1, i2, i3⟩ := hrow p HP.out
          have d0 : w2.cell? ⟨bm, 0, none⟩ = some (.slice (some ⟨g, 0, none⟩) n cm) := by rw [HN.out]; exact HT2.out.m.tab.at' 0 (by omega)
          have kd : (p : Int) < (n : Int) := by omega
          have k0 : (0 : Int) ≤ (p : Int) := by omega
          rw [← HY.out, h1] at i2
          have e1 : (ls == 0) = false := by simpa using h0
          have e2 : (ls != ls) = false := by simp
          have hM3 : MAt (w2.setCell ⟨g, p * 4 + 2, none⟩ (.int .i64 0)) B bm (backM m p) (.slice (some ⟨g, 0, none⟩) n cm) := by
            have hm2 := HT2.out.m
            rw [← HN.out] at hm2
            have h3 := hm2.setJob (i := p) HP.out (j := 2) (by omega) (v := .int .i64 0) (y := { y with lease := 0 }) (by rw [HY.out]; rfl)
            rw [HMB.out]
            exact h3
          have hT3 : Two (w2.setCell ⟨g, p * 4 + 2, none⟩ (.int .i64 0)) B b bm q2 (backM m p) vj2 vw2 (.slice (some ⟨g, 0, none⟩) n cm) := Two.mturn (vm := .slice (some ⟨g, 0, none⟩) n cm) (by have h3 := HT2.out; rw [← HN.out] at h3; exact h3) hM3 ((MTurn.refl _ _ _).setJ _ _)
          have hB3 : Below B w (w2.setCell ⟨g, p * 4 + 2, none⟩ (.int .i64 0)) := HB2.out.trans (Two.mbase (vm := .slice (some ⟨g, 0, none⟩) n cm) (by have h3 := HT2.out; rw [← HN.out] at h3; exact h3) ((MTurn.refl _ _ _).setJ _ _) (Nat.le_trans H.out.hB HB2.out.size))
          have HT3 := Lib.hid hT3
          have HB3 := Lib.hid hB3
          clear hr hrow h0 h1 i0 i1 i3 hM3 hT3 hB3
          have HF : Hid (RetStep B b bm t w (.returned (.bool true)) (w2.setCell ⟨g, p * 4 + 2, none⟩ (.int .i64 0))) := ⟨q2, backM m p, vj2, vw2, _, rfl, HT3.out, HB3.out, HI2.out.next' (by omega)⟩
          go_wp2
          go_ret
          exact HF.out
end Go.Proofs.YtnnnihjagjfkdaaDoor
