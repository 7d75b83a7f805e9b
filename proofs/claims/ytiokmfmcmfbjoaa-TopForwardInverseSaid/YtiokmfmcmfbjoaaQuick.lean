/-
  grid.Quick, profile.Quick. Own text.
-/
import Derived.Test.YtiokmfmcmfbjoaaRaw
namespace Go.Proofs.Ytiokmfmcmfbjoaa
open Go.RowKit
set_option linter.unusedVariables false
theorem OkCurve.part {pts : List (Int × Int)} (h : OkCurve pts) {x : Int} (h0 : 0 ≤ x) : ∃ i, OnPart pts i x := by
  have go : ∀ m k, m + k + 2 = pts.length → px pts k ≤ x → ∃ i, OnPart pts i x := by
    intro m
    induction m with
    | zero => intro k hk hx; exact ⟨k, by omega, hx, .inr (by omega)⟩
    | succ m ih =>
      intro k hk hx
      by_cases hc : x < px pts (k + 1)
      · exact ⟨k, by omega, hx, .inl hc⟩
      · exact ih (k + 1) (by omega) (by omega)
  have h2 := h.two
  exact go (pts.length - 2) 0 (by omega) (by rw [h.first]; exact h0)
theorem curveV_at {pts : List (Int × Int)} (h : OkCurve pts) {x : Int} (h0 : 0 ≤ x) : CurveAt pts x (curveV pts x) := by
  obtain ⟨i, hi⟩ := h.part h0
  have : CurveAt pts x (partV pts i x) := ⟨i, hi, rfl⟩
  rw [curveV_eq h this]
  exact this
theorem fineV_mono {P : Prof} (hok : OkProf P) {k : Nat} (hk : k < P.inks.length) {t t' : Int} (h0 : 0 ≤ t) (h1 : t ≤ t') (h2 : t' ≤ 255) : fineV P k t ≤ fineV P k t' := by
  have hkc : k < P.curves.length := by have := hok.same; omega
  have hoc := hok.curves k hkc
  have e : P.curves.getD k [] = P.curves[k] := by rw [List.getD_eq_getElem?_getD, List.getElem?_eq_getElem hkc]; rfl
  unfold fineV
  rw [e]
  exact CurveAt.mono hoc (curveV_at hoc (by omega)) (curveV_at hoc (by omega)) (by omega) (by omega)
theorem fineV_bd {P : Prof} (hok : OkProf P) {k : Nat} (hk : k < P.inks.length) {t : Int} (h0 : 0 ≤ t) (h2 : t ≤ 255) : 0 ≤ fineV P k t ∧ fineV P k t ≤ 65280 := by
  have hkc : k < P.curves.length := by have := hok.same; omega
  have hoc := hok.curves k hkc
  have e : P.curves.getD k [] = P.curves[k] := by rw [List.getD_eq_getElem?_getD, List.getElem?_eq_getElem hkc]; rfl
  unfold fineV
  rw [e]
  exact CurveAt.bd hoc (curveV_at hoc (by omega)) (by omega)
/-- The fine tones of tones. -/
noncomputable def fineL (P : Prof) (ts : List Int) : List Int := (List.range ts.length).map (fun i => fineV P i (ts.getD i 0))
theorem fineL_len (P : Prof) (ts : List Int) : (fineL P ts).length = ts.length := by unfold fineL; rw [List.length_map, List.length_range]
theorem fineL_get {P : Prof} {ts : List Int} {i : Nat} (h : i < (fineL P ts).length) : (fineL P ts)[i] = fineV P i (ts.getD i 0) := by simp [fineL]
theorem fineL_bd {P : Prof} (hok : OkProf P) {ts : List Int} (ht : OkTones ts (P.inks.length : Int)) : ∀ i (h : i < (fineL P ts).length), 0 ≤ (fineL P ts)[i] ∧ (fineL P ts)[i] ≤ 65280 := fun i h => by
  rw [fineL_get h]
  rw [fineL_len] at h
  have h1 := ht.2 i h
  have h2 := ht.1
  have e : ts.getD i 0 = ts[i] := by rw [List.getD_eq_getElem?_getD, List.getElem?_eq_getElem h]; rfl
  rw [e]
  exact fineV_bd hok (by omega) h1.1 h1.2
theorem valAt_bd {P : Prof} (hok : OkProf P) (d o : Nat) (c : Nat → Int) : -65535 ≤ valAt P d o c ∧ valAt P d o c ≤ 65535 := by
  unfold valAt
  generalize (nodeV P.size ((List.range d).map c) * P.out).toNat + o = k
  by_cases h : k < P.vals.length
  · rw [List.getD_eq_getElem?_getD, List.getElem?_eq_getElem h]
    have := hok.grid.rng k h
    show -65535 ≤ P.vals[k] ∧ P.vals[k] ≤ 65535
    omega
  · rw [List.getD_eq_getElem?_getD, List.getElem?_eq_none (by omega)]
    exact ⟨by decide, by decide⟩
theorem OkProf.step {P : Prof} (hok : OkProf P) : 1 ≤ stepOf P.size ∧ stepOf P.size ≤ 65280 ∧ stepOf P.size * (P.size - 1) = 65280 ∧ 2 ≤ P.size ∧ P.size ≤ 9 ∧ 65280 / (P.size - 1) = stepOf P.size := step_facts hok.grid.shape.2.1
theorem rawV_bd {P : Prof} (hok : OkProf P) (xs : List Int) (o : Nat) : -4278124800 ≤ rawV P xs o ∧ rawV P xs o ≤ 4278124800 := by
  obtain ⟨s1, s2, _⟩ := hok.step
  have hr := rawGo_bd (V := valAt P xs.length o) (part := partOf (stepOf P.size) xs) (lo := -65535) (hi := 65535) (axesTo (partOf (stepOf P.size) xs) xs.length xs.length) (cellV (stepOf P.size) xs) (stepOf P.size) (by omega)
    (axesTo_nodup _ (Nat.le_refl _)) (fun a _ => ⟨Int.emod_nonneg _ (by omega), Int.le_of_lt (Int.emod_lt_of_pos _ (by omega))⟩) (axesTo_desc _ (Nat.le_refl _))
    (fun c' _ => valAt_bd hok _ _ _)
  unfold rawV
  omega
set_option maxRecDepth 100000 in
set_option maxHeartbeats 4000000 in
theorem gquick_any (b : Nat) (P : Prof) (oi : Option Addr) (ci : Nat) (oc : Option Addr) (cc : Nat) (ov : Option Addr) (cv : Nat) (ox : Option Addr) (xs : List Int) (cx : Nat) (w : World) (hh : HeldAt w b P oi ci oc cc ov cv) (hok : OkProf P) (hx : Flat w 1 encInt ox xs) (hl : xs.length = P.inks.length) (hr : ∀ i (h : i < xs.length), 0 ≤ xs[i] ∧ xs[i] ≤ 65280) :
    Calls Try.prog 21 #[.pointer (some ⟨b, 3, none⟩), .slice ox xs.length cx] w (RetRow 3 (fun o => quickV P xs o) w) := by
  have c5 := hh.size
  have hst := hok.step
  obtain ⟨s1, s2, s3, s4, s5, s6⟩ := hst
  have HRAW := Lib.hid (raw_any b P oi ci oc cc ov cv ox xs cx w hh hok hx hl hr)
  have HRB := Lib.hid (rawV_bd hok xs)
  have HQ : Hid (∀ o, quickV P xs o = nearV (rawV P xs o) (stepOf P.size)) := fun o => rfl
  obtain ⟨S, hS⟩ : ∃ S, S = stepOf P.size := ⟨_, rfl⟩
  rw [← hS] at s1 s2 s3 s6 HQ
  have hnz : ¬ P.size - 1 = 0 := by omega
  obtain ⟨size, hsize⟩ : ∃ s, s = P.size := ⟨_, rfl⟩
  rw [← hsize] at c5 s3 s4 s5 s6 hnz
  clear hh hok hx hl hr hS hsize
  generalize xs.length = n at *
  go_enter Try.func21, Try.ntmps21
  go_wp2_with (go_at_call 24; rw [s6]; refine HRAW.out.mono ?_; rintro e w2 ⟨g, rfl, hg, hg2, hT, hb⟩; have HT := Lib.hid hT; have HB := Lib.hid hb; clear hT hb)
  have HT0 : Hid (FTab (Value.int .i64) w2 g 3 (fun o => if o < 0 then quickV P xs o else rawV P xs o) ∧ Below w.heap.size w w2) := ⟨HT.out.congr fun o _ => (if_neg (by omega)).symm, HB.out⟩
  go_loopw [20] (fun i wr => ∃ q : Nat, q ≤ 3 ∧ i = .int .i64 q ∧ Hid (FTab (Value.int .i64) wr g 3 (fun o => if o < q then quickV P xs o else rawV P xs o) ∧ Below w.heap.size w wr) ∧ g < wr.heap.size) (fun i _ => 3 - (intOf i).toNat)
  case atStart => exact ⟨0, by omega, rfl, HT0, hg2⟩
  case round =>
    clear HT0 HT HB HRAW
    obtain ⟨q, hq, rfl, HR, hsz⟩ := hrel
    by_cases hlt : q < 3
    · have f1 := HR.out.1.at' q hlt
      have f2 := HR.out.1.fz q
      have hb := HRB.out q
      rw [if_neg (by omega)] at f1
      have hne := Lib.hid (nearest_any (rawV P xs q) S wr (by omega) (by omega) s1 (by omega))
      have HN : Hid (FTab (Value.int .i64) (wr.setCell ⟨g, q, none⟩ (.int .i64 (nearV (rawV P xs q) S))) g 3 (fun o => if o < q + 1 then quickV P xs o else rawV P xs o) ∧ Below w.heap.size w (wr.setCell ⟨g, q, none⟩ (.int .i64 (nearV (rawV P xs q) S)))) := by
        refine ⟨(HR.out.1.set hlt _).congr fun o ho => ?_, HR.out.2.setCell (p := ⟨g, q, none⟩) hg _⟩
        by_cases e : o = q
        · subst e
          rw [if_pos rfl, if_pos (by omega), HQ.out]
        · rw [if_neg e]
          by_cases e2 : o < q
          · rw [if_pos e2, if_pos (by omega)]
          · rw [if_neg e2, if_neg (by omega)]
      generalize rawV P xs q = r at *
      go_wp2_with (go_at_call 25; refine hne.out.mono ?_; rintro e w3 ⟨rfl, rfl⟩)
      go_roundw
      case rel => exact ⟨q + 1, by omega, by go_num, HN, by simpa using hsz⟩
      case measure => simp [intOf]; omega
    · obtain rfl : q = 3 := by omega
      have HF : Hid (RetRow 3 (fun o => quickV P xs o) w (.returned (.slice (some ⟨g, 0, none⟩) 3 3)) wr) := ⟨g, rfl, hg, hsz, HR.out.1.congr fun o ho => if_pos ho, HR.out.2⟩
      go_wp2
      go_ret
      exact HF.out
/-- The colour of tones. -/
noncomputable def labV (P : Prof) (ts : List Int) (o : Nat) : Int := quickV P (fineL P ts) o
def RetLab (L : Nat → Int) (w : World) (e : Ending) (w' : World) : Prop := e = .returned (.agg #[.int .i64 (L 0), .int .i64 (L 1), .int .i64 (L 2)]) ∧ Below w.heap.size w w'
set_option maxRecDepth 100000 in
set_option maxHeartbeats 4000000 in
theorem pquick_any (b : Nat) (P : Prof) (oi : Option Addr) (ci : Nat) (oc : Option Addr) (cc : Nat) (ov : Option Addr) (cv : Nat) (ot : Option Addr) (ts : List Int) (ct : Nat) (w : World) (hh : HeldAt w b P oi ci oc cc ov cv) (hok : OkProf P) (hx : Flat w 1 encInt ot ts) (ht : OkTones ts (P.inks.length : Int)) :
    Calls Try.prog 16 #[.pointer (some ⟨b, 0, none⟩), .slice ot ts.length ct] w (RetLab (labV P ts) w) := by
  obtain ⟨n, hn⟩ : ∃ n, n = ts.length := ⟨_, rfl⟩
  have HF : Hid (∀ w', Below w.heap.size w w' → Calls Try.prog 22 #[.pointer (some ⟨b, 0, none⟩), .slice ot n ct] w' (RetRow n (fun i => fineV P i (ts.getD i 0)) w')) := fun w' hb => by
    rw [hn]
    exact fine_any b P oi ci oc cc ov cv ot ts ct w' (hh.below hb) hok (hx.below hb) ht
  have HG : Hid (∀ w' g, Below w.heap.size w w' → FTab (Value.int .i64) w' g n (fun i => fineV P i (ts.getD i 0)) → Calls Try.prog 21 #[.pointer (some ⟨b, 3, none⟩), .slice (some ⟨g, 0, none⟩) n n] w' (RetRow 3 (labV P ts) w')) := fun w' g hb hT => by
    have h1 := fineL_len P ts
    have hi := ht.1
    have h := gquick_any b P oi ci oc cc ov cv (some ⟨g, 0, none⟩) (fineL P ts) n w' (hh.below hb) hok (by unfold fineL; rw [← hn]; exact hT.flat) (by omega) (fineL_bd hok ht)
    rw [h1, ← hn] at h
    exact h
  have hb0 := Lib.hid (balloc (Below.refl _ w) (.cells #[.int .i64 0, .int .i64 0, .int .i64 0] 33))
  clear hh hok hx ht
  rw [← hn]
  clear hn
  go_enter Try.func16, Try.ntmps16
  go_wp2
  have z0 := BoxAt.new w #[.int .i64 0, .int .i64 0, .int .i64 0] 33
  have z1 : (w.alloc (.cells #[.int .i64 0, .int .i64 0, .int .i64 0] 33)).cell? ⟨w.heap.size, 0, none⟩ = some (.int .i64 0) := z0.at' 0 _ rfl
  have z2 : (w.alloc (.cells #[.int .i64 0, .int .i64 0, .int .i64 0] 33)).cell? ⟨w.heap.size, 1, none⟩ = some (.int .i64 0) := z0.at' 1 _ rfl
  have z3 : (w.alloc (.cells #[.int .i64 0, .int .i64 0, .int .i64 0] 33)).cell? ⟨w.heap.size, 2, none⟩ = some (.int .i64 0) := z0.at' 2 _ rfl
  have zs : w.heap.size < (w.alloc (.cells #[.int .i64 0, .int .i64 0, .int .i64 0] 33)).heap.size := by simp
  have zf : ∀ o, (w.alloc (.cells #[.int .i64 0, .int .i64 0, .int .i64 0] 33)).frozen? ⟨w.heap.size, o, none⟩ = false := fun o => by
    unfold World.frozen?
    rw [heap_alloc_new]
    simp
  clear z0
  generalize w.alloc (.cells #[.int .i64 0, .int .i64 0, .int .i64 0] 33) = W1 at *
  go_region_held3 (fun w' => Below W1.heap.size W1 w') (first | assumption | go_grown) (first | fail | (go_at_call 22; (with_reducible refine (HF.out _ (bthen hb0.out (by assumption))).mono ?_); rintro e w2 ⟨g, rfl, hg, hg2, hT, hb2⟩; have HT2 := Lib.hid hT; have hz2 : Below W1.heap.size W1 w2 := bthen (by assumption) hb2) | (go_at_call 21; (with_reducible refine (HG.out _ _ (bthen hb0.out (by assumption)) HT2.out).mono ?_); rintro e w3 ⟨g3, rfl, hg3, hg32, hT3, hb3⟩; have HT3 := Lib.hid hT3; have hz3 : Below W1.heap.size W1 w3 := bthen (by assumption) hb3))
  have l0 := HT3.out.at' 0 (by omega)
  have l1 := HT3.out.at' 1 (by omega)
  have l2 := HT3.out.at' 2 (by omega)
  have y0 := keepCell hz3 z1
  have y1 := keepCell hz3 z2
  have y2 := keepCell hz3 z3
  have yf : ∀ o, w3.frozen? ⟨w.heap.size, o, none⟩ = false := fun o => by rw [hz3.frozen (p := ⟨w.heap.size, o, none⟩) zs]; exact zf o
  have ys := hz3.size
  have hne : w.heap.size ≠ g3 := by have := hz2.size; omega
  have HB := Lib.hid (bthen hb0.out hz3)
  clear hz3 hz2 hT3 hT hb3 hb2 HT2 z1 z2 z3 zf
  obtain ⟨L0, hL0⟩ : ∃ L, L = labV P ts 0 := ⟨_, rfl⟩
  obtain ⟨L1, hL1⟩ : ∃ L, L = labV P ts 1 := ⟨_, rfl⟩
  obtain ⟨L2, hL2⟩ : ∃ L, L = labV P ts 2 := ⟨_, rfl⟩
  rw [← hL0] at l0
  rw [← hL1] at l1
  rw [← hL2] at l2
  have HL := Lib.hid (And.intro hL0 (And.intro hL1 hL2))
  clear hL0 hL1 hL2 HT3
  go_wp2
  go_region
  all_goals
    repeat (first | go_values | go_skip | go_guarded | go_step | go_upon)
    have hres : Try.f16.results = #[.cell 4 33] := rfl
    refine bodyPost_ret (v := .agg #[.int .i64 L0, .int .i64 L1, .int .i64 L2]) (by simp only [results, hres]; go_simp) rfl ?_
    refine ⟨by rw [HL.out.1, HL.out.2.1, HL.out.2.2], ?_⟩
    exact (((HB.out.setCell (p := ⟨w.heap.size, 0, none⟩) (Nat.le_refl _) _).setCell (p := ⟨w.heap.size, 1, none⟩) (Nat.le_refl _) _).setCell (p := ⟨w.heap.size, 2, none⟩) (Nat.le_refl _) _).drew
end Go.Proofs.Ytiokmfmcmfbjoaa
