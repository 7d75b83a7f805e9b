/-
  The walk of SpoolMatchesModel. Own text.
-/
import Derived.Test.YtnnnihjagjfkdaaDoorStepP
import Derived.Test.YtnnnihjagjfkdaaDoorStepS
import Derived.Test.YtnnnihjagjfkdaaDoorStepT
import Derived.Test.YtnnnihjagjfkdaaDoorStepK2
import Derived.Test.YtnnnihjagjfkdaaDoorStepB3
import Derived.Test.YtnnnihjagjfkdaaDoorStepB4
import Derived.Test.YtnnnihjagjfkdaaDoorNum
namespace Go.Proofs.YtnnnihjagjfkdaaDoor
open Go.RowKit
set_option linter.unusedVariables false
set_option maxHeartbeats 400000 in
theorem within4_any (x lo hi : Int) (w : World) (h0 : -1000000000000000000 ≤ lo) (h1 : lo ≤ hi) (h2 : hi ≤ 1000000000000000000) :
    Calls Tryd.prog 19 #[.int .i64 x, .int .i64 lo, .int .i64 hi] w fun e w' => e = .returned (.int .i64 (wi x lo hi)) ∧ w = w' := by
  have hb := tmod_bd x (hi - lo + 1) (by omega)
  have hr := Int.emod_nonneg (x.tmod (hi - lo + 1)) (b := (hi - lo + 1)) (by omega)
  have hr2 := Int.emod_lt_of_pos (x.tmod (hi - lo + 1)) (b := (hi - lo + 1)) (by omega)
  go_enter Tryd.func19, Tryd.ntmps19
  go_wp2
  go_ret
  exact ⟨rfl, rfl⟩
/-- Every step does what the list does. -/
theorem step_any (x : Int) (h0 : 0 ≤ x) (h1 : x ≤ 9999) (s : ByteArray) (hs : s.size ≤ maxLen) (w : World) (B b bm t : Nat) (q : Que) (m : Mod) (vj vw vm : Value) (h : StepIn w B b bm t q m vj vw vm) :
    Calls Tryd.prog 20 #[.pointer (some ⟨bm, 0, none⟩), .pointer (some ⟨b, 0, none⟩), .string s, .int .i64 (x % 8), .int .i64 (x / 8)] w (RetStep B b bm t w) := by
  have a0 : 0 ≤ x / 8 := by omega
  have a1 : x / 8 ≤ 2000 := by omega
  have hk : x % 8 = 0 ∨ x % 8 = 1 ∨ x % 8 = 2 ∨ x % 8 = 3 ∨ x % 8 = 4 ∨ x % 8 = 5 ∨ x % 8 = 6 ∨ x % 8 = 7 := by omega
  rcases hk with e | e | e | e | e | e | e | e
  · rw [e]; exact step_put 0 (.inl rfl) s hs _ w B b bm t q m vj vw vm h
  · rw [e]; exact step_put 1 (.inr rfl) s hs _ w B b bm t q m vj vw vm h
  · rw [e]
    by_cases h30 : x / 8 % 30 < 1
    · exact step_take0 s _ a0 a1 h30 w B b bm t q m vj vw vm h
    · rcases first_wait m.jobs with hn | ⟨f, hf, hz, hn⟩
      · exact step_takeN s _ a0 a1 (by omega) w B b bm t q m vj vw vm h hn
      · exact step_takeS s _ a0 a1 (by omega) w B b bm t q m vj vw vm h f hf hz hn
  · rw [e]; exact step_back3 s _ a0 a1 w B b bm t q m vj vw vm h
  · rw [e]; exact step_back4 s _ a0 a1 w B b bm t q m vj vw vm h
  · rw [e]
    by_cases h20 : x / 8 % 20 < 2
    · exact step_tick0 s _ a0 a1 h20 w B b bm t q m vj vw vm h
    · exact step_tickN s _ a0 a1 (by omega) w B b bm t q m vj vw vm h
  · rw [e]; exact step_comp s _ w B b bm t q m vj vw vm h
  · rw [e]; exact step_sync s _ w B b bm t q m vj vw vm h
theorem Flat.sj {w : World} {oa : Option Addr} {xs : List Sj} (h : Flat w 2 encSj oa xs) {i : Nat} (hi : i < xs.length) :
    ∃ b off, oa = some ⟨b, off, none⟩ ∧ w.cell? ⟨b, off + i * 2, none⟩ = some (.int .i64 xs[i].id) ∧ w.cell? ⟨b, off + i * 2 + 1, none⟩ = some (.string xs[i].text) := by
  obtain ⟨v0, h0, b, off, e, c0⟩ := h i hi 0 (by omega)
  obtain ⟨v1, h1, b1, off1, e1, c1⟩ := h i hi 1 (by omega)
  rw [e] at e1
  simp only [Option.some.injEq, Addr.mk.injEq, and_true] at e1
  obtain ⟨rfl, rfl⟩ := e1
  simp only [encSj, List.getElem?_cons_zero, List.getElem?_cons_succ, Option.some.injEq] at h0 h1
  subst h0 h1
  exact ⟨b, off, e, by simpa using c0, by simpa [Nat.add_assoc] using c1⟩
theorem show_same (xs : List Jb) : (xs.map normJ).map showJ = xs.map showJ := by
  rw [List.map_map]
  exact List.map_congr_left fun j _ => showJ_norm j
theorem drew_add (w : World) (p r : Nat) : (w.drewN p).drewN r = w.drewN (p + r) := by simp [World.drewN, Nat.add_assoc]
/-- The loop's state behind i steps. -/
def ModAt (w0 wr : World) (B bm i : Nat) : Prop := ∃ q m vj vw vm, Two wr B B bm q m vj vw vm ∧ Inv i 0 q m ∧ Below B w0 wr
def RetYes4 (w : World) (e : Ending) (w' : World) : Prop := e = .returned (.bool true) ∧ Below w.heap.size w w'
def IsTexts (w : World) (o : Option Addr) (l : List ByteArray) : Prop := Flat w 1 encS o l ∧ ∀ s ∈ l, s.size ≤ maxLen
theorem newM_at (w : World) (B : Nat) (hB : B ≤ w.heap.size) : MAt (w.alloc (.cells #[.slice none 0 0, .int .i64 1, .int .i64 0, .int .i64 0] 55)) B w.heap.size newM (.slice none 0 0) := by
  refine ⟨⟨fun i hi => ?_, fun o => ?_⟩, Own.nil _ _ _ _ _, hB, by simp [Value.ownBlock]⟩
  · rw [cell_of_row _ w.heap.size i _ _ (0, 0) (heap_alloc_new w _)]
    match i, hi with
    | 0, _ => rfl
    | 1, _ => rfl
    | 2, _ => rfl
    | 3, _ => rfl
  · unfold World.frozen?
    rw [heap_alloc_new]
    simp
set_option maxRecDepth 100000 in
set_option maxHeartbeats 4000000 in
theorem model_any (ot os : Option Addr) (texts : List ByteArray) (steps : List Int) (ct cs : Nat) (w : World) (htx : IsTexts w ot texts) (hst : Flat w 1 encInt os steps) (hl1 : texts.length ≤ maxLen) (hl2 : steps.length ≤ maxLen) (ht : Tabs w) :
    Calls Tryd.prog 5 #[.slice ot texts.length ct, .slice os steps.length cs] w (RetYes4 w) := by
  unfold maxLen at hl1 hl2
  have HT := Lib.hid ht
  have HTX := Lib.hid htx
  have HST := Lib.hid hst
  have HQU := Lib.hid (queues4_any w ht)
  obtain ⟨nt, hnt⟩ : ∃ nt, nt = texts.length := ⟨_, rfl⟩
  obtain ⟨ns, hns⟩ : ∃ ns, ns = steps.length := ⟨_, rfl⟩
  rw [← hnt, ← hns]
  rw [← hnt] at hl1
  rw [← hns] at hl2
  have HNT := Lib.hid hnt
  have HNS := Lib.hid hns
  clear ht htx hst hnt hns
  go_enter Tryd.func5, Tryd.ntmps5
  go_wp2_with fail
  refine HQU.out.mono ?_
  rintro e w1 ⟨rfl, hb1⟩
  have HB1 := Lib.hid hb1
  have HNW := Lib.hid (new_any w1 (HT.out.below hb1))
  clear hb1 HQU
  go_wp2_with fail
  refine HNW.out.mono ?_
  rintro e w2 ⟨rfl, hq2, hb2⟩
  obtain ⟨B, hB⟩ : ∃ B, B = w1.heap.size := ⟨_, rfl⟩
  rw [← hB] at hq2
  rw [← hB]
  have HBB : Hid (w.heap.size ≤ B) := by show _ ≤ _; rw [hB]; exact HB1.out.size
  have HB2 : Hid (Below w.heap.size w w2) := HB1.out.trans (hb2.mono HB1.out.size)
  have HB0 : Hid (B ≤ w2.heap.size) := by show _ ≤ _; rw [hB]; exact hb2.size
  have hq3 := hq2.below (balloc (Below.refl _ w2) (.cells #[.slice none 0 0, .int .i64 1, .int .i64 0, .int .i64 0] 55))
  have hm3 := newM_at w2 B HB0.out
  have hin : ∀ g, InM w2.heap.size (.slice none 0 0) g → ¬ InQ B (.slice none 0 0) (.slice none 0 0) g := fun g e e2 => by
    have h2 := (hq2.inq e2).2
    rcases e with e | e
    · omega
    · simp [Value.ownBlock] at e
  have HS0 : Hid (ModAt w2 (w2.alloc (.cells #[.slice none 0 0, .int .i64 1, .int .i64 0, .int .i64 0] 55)) B w2.heap.size 0) := ⟨newQ, newM, _, _, _, ⟨hq3, hm3, hin⟩, Inv.new, (balloc (Below.refl _ w2) _).mono HB0.out⟩
  have HTAB : Hid (∀ W, Below B w2 W → Tabs W) := fun W hb => HT.out.below (HB2.out.trans (hb.mono HBB.out))
  have HARG : Hid (∀ W, Below B w2 W → IsTexts W ot texts ∧ Flat W 1 encInt os steps) := fun W hb => by
    have h := HB2.out.trans (hb.mono HBB.out)
    exact ⟨⟨HTX.out.1.below h, HTX.out.2⟩, HST.out.below h⟩
  clear hq2 hb2 hB HNW hq3 hm3 hin
  obtain ⟨bm, hbm⟩ : ∃ bm, bm = w2.heap.size := ⟨_, rfl⟩
  rw [← hbm] at HS0
  have HBM := Lib.hid hbm
  clear hbm
  go_upto_region 4 with fail
  rw [← HBM.out]
  generalize w2.alloc (.cells #[.slice none 0 0, .int .i64 1, .int .i64 0, .int .i64 0] 55) = w3 at *
  go_wp2
  go_loopw [7] (fun i wr => ∃ k : Nat, k ≤ ns ∧ k ≤ 60 ∧ i = .int .i64 k ∧ Hid (ModAt w2 wr B bm k)) (fun i _ => 61 - (intOf i).toNat)
  case atStart => exact ⟨0, by omega, by omega, rfl, HS0.out⟩
  case round =>
    clear HS0
    obtain ⟨k, hk, hk60, rfl, HR⟩ := hrel
    by_cases hlt : k < ns ∧ k < 60
    · obtain ⟨hlt1, hlt2⟩ := hlt
      have hkx : k < steps.length := by have := HNS.out; omega
      obtain ⟨q, m, vj, vw, vm, hT, hI, hB⟩ := HR.out
      have HTW := Lib.hid hT
      have HI := Lib.hid hI
      have HB := Lib.hid hB
      obtain ⟨htxw, hstw⟩ := HARG.out wr hB
      obtain ⟨bs, offs, rfl, s0⟩ := hstw.int hkx
      have HTXW := Lib.hid htxw
      have kd : (k : Int) < (ns : Int) := by omega
      have k0 : (0 : Int) ≤ (k : Int) := by omega
      have k6 : (k : Int) < 60 := by omega
      have HWI := Lib.hid (fun W => within4_any (steps[k]'hkx) 0 9999 W (by decide) (by decide) (by decide))
      obtain ⟨z, hz⟩ : ∃ z, z = steps[k]'hkx := ⟨_, rfl⟩
      rw [← hz] at s0 HWI
      have hwb := wi_bd z 0 9999 (by decide)
      obtain ⟨x, hx⟩ : ∃ x, x = wi z 0 9999 := ⟨_, rfl⟩
      rw [← hx] at HWI hwb
      obtain ⟨x0, x1⟩ := hwb
      have HSP : Hid (∀ s : ByteArray, s.size ≤ maxLen → Calls Tryd.prog 20 #[.pointer (some ⟨bm, 0, none⟩), .pointer (some ⟨B, 0, none⟩), .string s, .int .i64 (x % 8), .int .i64 (x / 8)] wr (RetStep B B bm k wr)) := fun s hs =>
        step_any x x0 x1 s hs wr B B bm k q m vj vw vm ⟨HTW.out, HI.out, hlt2, fun W' hb => HTAB.out W' (HB.out.trans hb), Nat.le_trans HB0.out HB.out.size⟩
      have y0 : 0 ≤ x / 8 ∧ x / 8 ≤ 2000 := by omega
      have y1 : 0 ≤ x % 8 ∧ x % 8 < 8 := by omega
      clear hT hI hB htxw hstw hz hx HR
      have HFIN : Hid (∀ s : ByteArray, s.size ≤ maxLen → True) := fun _ _ => trivial
      by_cases hn0 : 0 < nt
      · have e1 := Int.emod_nonneg (x / 8) (b := (nt : Int)) (by omega)
        have e2 := Int.emod_lt_of_pos (x / 8) (b := (nt : Int)) (by omega)
        obtain ⟨j, hj⟩ : ∃ j : Nat, x / 8 % (nt : Int) = (j : Int) := ⟨(x / 8 % (nt : Int)).toNat, by omega⟩
        have hjn : j < nt := by omega
        have hjx : j < texts.length := by have := HNT.out; omega
        obtain ⟨bt, offt, rfl, t0⟩ := HTXW.out.1.st hjx
        have hts := HTXW.out.2 _ (List.getElem_mem hjx)
        obtain ⟨s, hs⟩ : ∃ s, s = texts[j]'hjx := ⟨_, rfl⟩
        rw [← hs] at t0 hts
        have HSS := Lib.hid (HSP.out s hts)
        have jd : (j : Int) < (nt : Int) := by omega
        have j0 : (0 : Int) ≤ (j : Int) := by omega
        have n0 : (0 : Int) < (nt : Int) := by omega
        clear hs hts e1 e2 HSP HFIN
        go_wp2_with fail
        refine (HWI.out _).mono ?_
        rintro e w' ⟨rfl, rfl⟩
        go_wp2_with fail
        refine HSS.out.mono ?_
        rintro e w5 ⟨q5, m5, vj5, vw5, vm5, rfl, hT5, hB5, hI5⟩
        have HTW5 := Lib.hid hT5
        have HB5 : Hid (Below B w2 w5) := HB.out.trans hB5
        have HI5 := Lib.hid hI5
        have hjl := hI5.jl
        have HJ : Hid (Calls Tryd.prog 18 #[.pointer (some ⟨B, 0, none⟩)] w5 (RetRows 39 2 encSj (m5.jobs.map showJ) w5)) := by
          have h := jobs_any B B q5 vj5 vw5 w5 hT5.q (by rw [hI5.jlq]; omega)
          rw [hI5.jobs, show_same] at h
          exact h
        clear hT5 hB5 hI5 hj HTW HI HB HSS HTXW HWI
        go_wp2_with fail
        refine HJ.out.mono ?_
        rintro e w6 ⟨v6, rfl, hv6, hb6⟩
        obtain ⟨o6, c6, rfl, -, hf6⟩ := hv6.flat (fun _ => rfl)
        rw [List.length_map]
        obtain ⟨n5, hn5⟩ : ∃ n5, n5 = m5.jobs.length := ⟨_, rfl⟩
        have HN5 := Lib.hid hn5
        obtain ⟨om, cm, rfl, -, hmf⟩ := (HTW5.out.below hb6).m.jobs.flat (fun _ => rfl)
        have c0 : w6.cell? ⟨bm, 0, none⟩ = some (.slice om m5.jobs.length cm) := (HTW5.out.below hb6).m.tab.at' 0 (by omega)
        have HT6 := Lib.hid (HTW5.out.below hb6)
        have HB6 : Hid (Below B w2 w6) := HB5.out.trans (hb6.mono (Nat.le_trans HB0.out HB5.out.size))
        have HF6 := Lib.hid hf6
        have HMF := Lib.hid hmf
        rw [← hn5] at c0 hjl
        rw [← hn5]
        have hbe : ((n5 : Int) != (n5 : Int)) = false := by simp
        clear hv6 hb6 hf6 hmf hn5 HJ HTW5 HB5
        go_wp2
        go_loopw [64] (fun i wx => ∃ j : Nat, j ≤ n5 ∧ i = .int .i64 j ∧ Hid (∃ p, wx = w6.drewN p)) (fun i _ => n5 - (intOf i).toNat)
        case atStart => exact ⟨0, by omega, rfl, 0, rfl⟩
        case round =>
          clear c0
          obtain ⟨j, hj, rfl, HP⟩ := hrel
          obtain ⟨p, hp⟩ := HP.out
          subst hp
          by_cases hlt : j < n5
          · have hjx : j < m5.jobs.length := by have := HN5.out; omega
            obtain ⟨b1, off1, rfl, i0, i1⟩ := (HF6.out.below (bdrewN (Below.refl _ w6) p)).sj (i := j) (by rw [List.length_map]; exact hjx)
            obtain ⟨b2, off2, rfl, j0, j1, -, -⟩ := (HMF.out.below (bdrewN (Below.refl _ w6) p)).jb hjx
            rw [List.getElem_map] at i0 i1
            obtain ⟨y, hy⟩ : ∃ y, y = m5.jobs[j]'hjx := ⟨_, rfl⟩
            have i0' : (w6.drewN p).cell? ⟨b1, off1 + j * 2, none⟩ = some (.int .i64 y.id) := by rw [hy]; exact i0
            have i1' : (w6.drewN p).cell? ⟨b1, off1 + j * 2 + 1, none⟩ = some (.string y.text) := by rw [hy]; exact i1
            rw [← hy] at j0 j1
            have c0 : (w6.drewN p).cell? ⟨bm, 0, none⟩ = some (.slice (some ⟨b2, off2, none⟩) n5 cm) := by have h := (HT6.out.drewN p).m.tab.at' 0 (by omega); rw [HN5.out]; exact h
            have kd : (j : Int) < (n5 : Int) := by omega
            have k00 : (0 : Int) ≤ (j : Int) := by omega
            clear i0 i1 hy
            obtain ⟨w7, hw7⟩ : ∃ w7, w7 = w6.drewN p := ⟨_, rfl⟩
            rw [← hw7] at i0' i1' j0 j1 c0
            rw [← hw7]
            have HW7 : Hid (∀ r, ∃ p', w7.drewN r = w6.drewN p') := fun r => by rw [hw7]; exact ⟨_, drew_add w6 p r⟩
            clear hw7
            have b3 : (y.id == y.id) = true := by simp
            go_wp2
            go_quiet (fail)
            go_wp2
            go_roundw
            case rel => exact ⟨j + 1, by omega, by go_num, HW7.out _⟩
            case measure => simp [intOf]; omega
          · obtain rfl : n5 = j := by omega
            have HNX : Hid (ModAt w2 (w6.drewN p) B bm (k + 1)) := ⟨q5, m5, vj5, vw5, _, HT6.out.drewN p, HI5.out, bdrewN HB6.out p⟩
            clear HT6 HF6 HMF
            go_wp2
            go_roundw
            case rel => exact ⟨k + 1, by omega, by omega, by go_num, HNX⟩
            case measure => simp [intOf]; omega
      · obtain rfl : nt = 0 := by omega
        have HSS := Lib.hid (HSP.out ⟨#[106, 111, 98]⟩ (by decide))
        clear HSP HFIN
        go_wp2_with fail
        refine (HWI.out _).mono ?_
        rintro e w' ⟨rfl, rfl⟩
        go_wp2_with fail
        refine HSS.out.mono ?_
        rintro e w5 ⟨q5, m5, vj5, vw5, vm5, rfl, hT5, hB5, hI5⟩
        have HTW5 := Lib.hid hT5
        have HB5 : Hid (Below B w2 w5) := HB.out.trans hB5
        have HI5 := Lib.hid hI5
        have hjl := hI5.jl
        have HJ : Hid (Calls Tryd.prog 18 #[.pointer (some ⟨B, 0, none⟩)] w5 (RetRows 39 2 encSj (m5.jobs.map showJ) w5)) := by
          have h := jobs_any B B q5 vj5 vw5 w5 hT5.q (by rw [hI5.jlq]; omega)
          rw [hI5.jobs, show_same] at h
          exact h
        clear hT5 hB5 hI5 HTW HI HB HSS HTXW HWI
        go_wp2_with fail
        refine HJ.out.mono ?_
        rintro e w6 ⟨v6, rfl, hv6, hb6⟩
        obtain ⟨o6, c6, rfl, -, hf6⟩ := hv6.flat (fun _ => rfl)
        rw [List.length_map]
        obtain ⟨n5, hn5⟩ : ∃ n5, n5 = m5.jobs.length := ⟨_, rfl⟩
        have HN5 := Lib.hid hn5
        obtain ⟨om, cm, rfl, -, hmf⟩ := (HTW5.out.below hb6).m.jobs.flat (fun _ => rfl)
        have c0 : w6.cell? ⟨bm, 0, none⟩ = some (.slice om m5.jobs.length cm) := (HTW5.out.below hb6).m.tab.at' 0 (by omega)
        have HT6 := Lib.hid (HTW5.out.below hb6)
        have HB6 : Hid (Below B w2 w6) := HB5.out.trans (hb6.mono (Nat.le_trans HB0.out HB5.out.size))
        have HF6 := Lib.hid hf6
        have HMF := Lib.hid hmf
        rw [← hn5] at c0 hjl
        rw [← hn5]
        have hbe : ((n5 : Int) != (n5 : Int)) = false := by simp
        clear hv6 hb6 hf6 hmf hn5 HJ HTW5 HB5
        go_wp2
        go_loopw [64] (fun i wx => ∃ j : Nat, j ≤ n5 ∧ i = .int .i64 j ∧ Hid (∃ p, wx = w6.drewN p)) (fun i _ => n5 - (intOf i).toNat)
        case atStart => exact ⟨0, by omega, rfl, 0, rfl⟩
        case round =>
          clear c0
          obtain ⟨j, hj, rfl, HP⟩ := hrel
          obtain ⟨p, hp⟩ := HP.out
          subst hp
          by_cases hlt : j < n5
          · have hjx : j < m5.jobs.length := by have := HN5.out; omega
            obtain ⟨b1, off1, rfl, i0, i1⟩ := (HF6.out.below (bdrewN (Below.refl _ w6) p)).sj (i := j) (by rw [List.length_map]; exact hjx)
            obtain ⟨b2, off2, rfl, j0, j1, -, -⟩ := (HMF.out.below (bdrewN (Below.refl _ w6) p)).jb hjx
            rw [List.getElem_map] at i0 i1
            obtain ⟨y, hy⟩ : ∃ y, y = m5.jobs[j]'hjx := ⟨_, rfl⟩
            have i0' : (w6.drewN p).cell? ⟨b1, off1 + j * 2, none⟩ = some (.int .i64 y.id) := by rw [hy]; exact i0
            have i1' : (w6.drewN p).cell? ⟨b1, off1 + j * 2 + 1, none⟩ = some (.string y.text) := by rw [hy]; exact i1
            rw [← hy] at j0 j1
            have c0 : (w6.drewN p).cell? ⟨bm, 0, none⟩ = some (.slice (some ⟨b2, off2, none⟩) n5 cm) := by have h := (HT6.out.drewN p).m.tab.at' 0 (by omega); rw [HN5.out]; exact h
            have kd : (j : Int) < (n5 : Int) := by omega
            have k00 : (0 : Int) ≤ (j : Int) := by omega
            clear i0 i1 hy
            obtain ⟨w7, hw7⟩ : ∃ w7, w7 = w6.drewN p := ⟨_, rfl⟩
            rw [← hw7] at i0' i1' j0 j1 c0
            rw [← hw7]
            have HW7 : Hid (∀ r, ∃ p', w7.drewN r = w6.drewN p') := fun r => by rw [hw7]; exact ⟨_, drew_add w6 p r⟩
            clear hw7
            have b3 : (y.id == y.id) = true := by simp
            go_wp2
            go_quiet (fail)
            go_wp2
            go_roundw
            case rel => exact ⟨j + 1, by omega, by go_num, HW7.out _⟩
            case measure => simp [intOf]; omega
          · obtain rfl : n5 = j := by omega
            have HNX : Hid (ModAt w2 (w6.drewN p) B bm (k + 1)) := ⟨q5, m5, vj5, vw5, _, HT6.out.drewN p, HI5.out, bdrewN HB6.out p⟩
            clear HT6 HF6 HMF
            go_wp2
            go_roundw
            case rel => exact ⟨k + 1, by omega, by omega, by go_num, HNX⟩
            case measure => simp [intOf]; omega
    · have HFI : Hid (RetYes4 w (.returned (.bool true)) wr) := by
        obtain ⟨q, m, vj, vw, vm, hT, hI, hB⟩ := HR.out
        exact ⟨rfl, HB2.out.trans (hB.mono HBB.out)⟩
      by_cases h1 : k < ns
      · have h2 : k = 60 := by
          by_cases e : k = 60
          · exact e
          · exact absurd ⟨h1, by omega⟩ hlt
        subst h2
        clear hlt HR
        go_wp2
        go_ret
        exact HFI.out
      · obtain rfl : ns = k := by omega
        clear hlt HR
        go_wp2
        go_ret
        exact HFI.out
end Go.Proofs.YtnnnihjagjfkdaaDoor
