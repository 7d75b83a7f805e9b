/-
  The walk of CollateCountsAddUp. Own text.
-/
import Derived.Test.YtemldminpndemaaCopies
import Derived.Deep.DeepCutAuto
import Derived.Deep.CutBlock
namespace Go.Proofs.Ytemldminpndemaa
open Go.RowKit
set_option linter.unusedVariables false
/-! ### Plain -/
def knownRow (l : List Pt) : List Int := (l.filter fun x => decide (0 < x.copy)).map Pt.copy
def knownTo (fs : List (List Pt)) (k : Nat) : List Int := (fs.take k).flatMap knownRow
theorem knownTo_succ (fs : List (List Pt)) (k : Nat) (h : k < fs.length) : knownTo fs (k + 1) = knownTo fs k ++ knownRow fs[k] := by
  unfold knownTo
  rw [List.take_succ_eq_append_getElem h, List.flatMap_append]
  simp
theorem knownRow_succ (l : List Pt) (j : Nat) (h : j < l.length) : knownRow (l.take (j + 1)) = knownRow (l.take j) ++ (if 0 < l[j].copy then [l[j].copy] else []) := by
  unfold knownRow
  rw [List.take_succ_eq_append_getElem h, List.filter_append, List.map_append]
  congr 1
  by_cases e : 0 < l[j].copy
  · simp [e]
  · simp [e]
theorem knownRow_len (l : List Pt) : (knownRow l).length ≤ l.length := by
  unfold knownRow
  rw [List.length_map]
  exact List.length_filter_le _ _
theorem knownTo_len (fs : List (List Pt)) (hl : ∀ k, ln fs k ≤ 512) (k : Nat) (hk : k ≤ fs.length) : (knownTo fs k).length ≤ 512 * k := by
  induction k with
  | zero => simp [knownTo]
  | succ k ih =>
    have h1 := ih (by omega)
    have h2 := knownRow_len fs[k]
    have h3 := hl k
    rw [ln_get fs k (by omega)] at h3
    rw [knownTo_succ fs k (by omega), List.length_append]
    omega
theorem knownTo_mem {fs : List (List Pt)} {x : Int} : x ∈ knownTo fs fs.length ↔ 0 < x ∧ ∃ l ∈ fs, ∃ p ∈ l, p.copy = x := by
  unfold knownTo knownRow
  rw [List.take_length]
  simp only [List.mem_flatMap, List.mem_map, List.mem_filter, decide_eq_true_eq]
  constructor
  · rintro ⟨l, hl, p, ⟨hp, h0⟩, rfl⟩
    exact ⟨h0, l, hl, p, hp, rfl⟩
  · rintro ⟨h0, l, hl, p, hp, rfl⟩
    exact ⟨l, hl, p, ⟨hp, h0⟩, rfl⟩
/-- What the law asks of the copies. -/
structure KOk (g ms kn : List Int) : Prop where
  msk : ∀ x ∈ ms, x ∈ kn
  msg : ∀ x ∈ ms, x ∉ g
  inc : ms.Pairwise (· < ·)
  gk : ∀ x ∈ g, x ≠ 0 → x ∈ kn
  kk : ∀ x ∈ kn, x ∈ g ∨ x ∈ ms
theorem kok {fs : List (List Pt)} {c : Nat} {a : Nat → Nat} {g : List Int} {p : List (List Int)} (hok : FeedOk fs) (hi : RunInv fs c a g p) : KOk g (finX fs g a 0) (knownTo fs fs.length) := by
  have hm : IsMissing fs g (finX fs g a 0) := missing_is fs g
  refine ⟨fun x hx => ?_, fun x hx => ((hm.2 x).1 hx).2.1, hm.1, fun x hx h0 => ?_, fun x hx => ?_⟩
  · obtain ⟨h0, _, l, hl, y, hy, e⟩ := (hm.2 x).1 hx
    have := (hok.rows l hl).rng y hy
    exact knownTo_mem.2 ⟨by omega, l, hl, y, hy, e⟩
  · rcases hi.mem x hx with e | ⟨k, i, hk, hi2, e⟩
    · exact absurd e h0
    · have hi3 : i < fs[k].length := by rw [← ln_get fs k hk]; exact hi2
      have e2 : fs[k][i].copy = x := by rw [← cp_get fs k i hk hi3]; exact e
      have := (hok.rows _ (List.getElem_mem hk)).rng _ (List.getElem_mem hi3)
      exact knownTo_mem.2 ⟨by omega, _, List.getElem_mem hk, _, List.getElem_mem hi3, e2⟩
  · obtain ⟨h0, l, hl, y, hy, e⟩ := knownTo_mem.1 hx
    by_cases hg : x ∈ g
    · exact .inl hg
    · exact .inr ((hm.2 x).2 ⟨by omega, hg, l, hl, y, hy, e⟩)
def emptyTo (fs : List (List Pt)) (a : Nat → Nat) (k : Nat) : Bool := (List.range k).any fun k => a k == ln fs k
theorem emptyTo_succ (fs : List (List Pt)) (a : Nat → Nat) (k : Nat) : emptyTo fs a (k + 1) = (emptyTo fs a k || (a k == ln fs k)) := by simp [emptyTo, List.range_succ]
theorem usedTo_get (a : Nat → Nat) (n k : Nat) (h : k < (usedTo a n).length) : (usedTo a n)[k] = (a k : Int) := by simp [usedTo]
theorem wstTo_get (a : Nat → Nat) (G n k : Nat) (h : k < (wstTo a G n).length) : (wstTo a G n)[k] = (a k : Int) - G := by simp [wstTo]
theorem lftTo_get (fs : List (List Pt)) (a : Nat → Nat) (n k : Nat) (h : k < (lftTo fs a n).length) : (lftTo fs a n)[k] = (ln fs k : Int) - a k := by simp [lftTo]
/-- A slice's cell, where the slice is known by its form. -/
theorem own_cell {w : World} {Z : Nat} {o : Option Addr} {n c : Nat} {xs : List Int} (h : Own w Z 3 1 encInt (.slice o n c) xs) {i : Nat} (hi : i < xs.length) : ∃ b off, o = some ⟨b, off, none⟩ ∧ w.cell? ⟨b, off + i, none⟩ = some (.int .i64 xs[i]) := by
  obtain ⟨b, off, cap, e, hc⟩ := own_at h hi
  simp only [Value.slice.injEq] at e
  obtain ⟨rfl, -, -⟩ := e
  exact ⟨b, off, rfl, hc⟩
/-- The known copies under way. -/
structure KW (w3 wr : World) (v : Value) (xs : List Int) : Prop where
  bel : Below w3.heap.size w3 wr
  own : Own wr w3.heap.size 3 1 encInt v xs
theorem KW.below {w3 wr w' : World} {v : Value} {xs : List Int} (h : KW w3 wr v xs) (hb : Below wr.heap.size wr w') : KW w3 w' v xs := ⟨h.bel.trans (hb.mono h.bel.size), h.own.below hb⟩
theorem KW.add {w3 wr w' : World} {v v' : Value} {xs xs' : List Int} (h : KW w3 wr v xs) (hown : Own w' w3.heap.size 3 1 encInt v' xs') (hg : wr.grownBy w' v.ownBlock) : KW w3 w' v' xs' :=
  ⟨h.bel.grown hg h.bel.size fun j hj => (h.own.lt hj).1, hown⟩
set_option maxRecDepth 100000 in
set_option maxHeartbeats 8000000 in
theorem counts_any (fs : List (List Pt)) (F : List Ft) (oa : Option Addr) (so : Nat → Option Addr) (sc : Nat → Nat) (ca : Nat) (oF : Option Addr) (cF : Nat) (w : World) (hA : Args w fs oa so sc) (hm : fs.length ≤ maxLen) (hF : Flat w 3 encFt oF F) (hFm : F.length ≤ maxLen) (hFc : F.length ≤ cF) (hF0 : oF = none → cF = 0) :
    Calls Try.prog 5 #[.slice oa fs.length ca, .slice oF F.length cF] w (RetTrue w) := by
  obtain ⟨E, hE⟩ : ∃ E, runErr fs F = E := ⟨_, rfl⟩
  have HC : Hid (Calls Try.prog 15 #[] w (RetTrue w)) := collates4_any w
  have HR : Hid (∀ w1, Below w.heap.size w w1 → Calls Try.prog 9 #[.slice oa fs.length ca, .slice oF F.length cF] w1 (RetAll fs F E w1)) := fun w1 hb => run_any fs F oa so sc ca oF cF w1 (hA.below hb) hm (hF.below hb) hFm hFc hF0 E hE
  have HA := Lib.hid hA
  have HE := Lib.hid hE
  obtain ⟨n, hn⟩ : ∃ n, n = fs.length := ⟨_, rfl⟩
  obtain ⟨M, hM⟩ : ∃ M, M = F.length := ⟨_, rfl⟩
  have HN := Lib.hid hn
  rw [← hn, ← hM] at HR ⊢
  clear hA hF hFm hFc hF0 hE hm hn hM
  go_enter Try.func5, Try.ntmps5
  go_wp2_with fail
  refine HC.out.mono ?_
  rintro e w1 ⟨rfl, hb1⟩
  have HB1 := Lib.hid hb1
  clear hb1 HC
  go_wp2_with fail
  refine (HR.out w1 HB1.out).mono ?_
  rintro e w2 h
  rcases h with ⟨h0, rfl, hb⟩ | ⟨h0, h⟩
  · have hbe : (E != 0) = true := by simpa using h0
    have HF : Hid (Below w.heap.size w w2) := HB1.out.trans (hb.mono HB1.out.size)
    clear hb h0 HR HE
    unfold zeroRep
    go_wp2
    go_ret
    exact ⟨rfl, HF.out.alloc HF.out.size _⟩
  · subst h0
    have HOK := runErr_ok HE.out
    have hone := HOK.1.one
    have hfew := HOK.1.few
    have h8 : n ≤ 8 := by have := HN.out; omega
    have h1 : 1 ≤ n := by have := HN.out; omega
    obtain ⟨c, a, g, p, og, cg, op, cpq, o0, n0, c0, o1, c1, o2, c2, o3, c3, rv, Z, rfl, hr, hrep, hn0, w0, w1', w2', w3', hZ, hb⟩ := run_ret h
    have hinv := hr.inv (RunInv.zero fs)
    have hcap := hr.cap HOK.1 HOK.2.len
    have hgl : g.length ≤ c := hinv.1.cyc
    have HKO := Lib.hid (kok HOK.1 hinv.1)
    have HLO := Lib.hid HOK.1.low
    have HEM := Lib.hid hinv.2
    have HUS := Lib.hid hinv.1.used
    have HWI := Lib.hid hinv.1.win
    have HB2 : Hid (Below w.heap.size w w2) := HB1.out.trans (hb.mono HB1.out.size)
    obtain ⟨N, hN⟩ : ∃ N, N = g.length := ⟨_, rfl⟩
    rw [← hN] at hrep hgl ⊢
    have HNG := Lib.hid hN
    rw [← HN.out] at w1' w2' w3' ⊢
    rw [← hN] at w2'
    have HOG := Lib.hid hrep.og
    have HO0 := Lib.hid w0
    have HO1 := Lib.hid w1'
    have HO2 := Lib.hid w2'
    have HO3 := Lib.hid w3'
    obtain ⟨ms, hms⟩ : ∃ ms, ms = finX fs g a 0 := ⟨_, rfl⟩
    rw [← hms] at HKO HO0 hn0
    have hml : n0 ≤ 4096 := by
      rw [hn0, hms]
      have h1 : (finX fs g a 0).length ≤ (missTo fs g fs.length).length := by
        show (Go.Lib.compact (srt _)).length ≤ _
        have := Go.Lib.compact_length_le (srt (missTo fs g fs.length))
        rw [srt_len] at this
        exact this
      have h2 := missTo_len fs g (fun k => HLO.out k) fs.length (Nat.le_refl _)
      omega
    have HN0 := Lib.hid hn0
    clear hb HR HE HB1 hr hrep hinv hZ hN hone hfew h w0 w1' w2' w3' hms hn0 HOK
    have hnn : ((n : Int) != (n : Int)) = false := by simp
    have hgc : ¬ c < N := by omega
    go_wp2
    obtain ⟨w3, hw3⟩ : ∃ w3, w3 = w2.alloc (.cells (repC og N cg op cpq o0 n0 c0 c n o1 c1 o2 c2 o3 c3) 28) := ⟨_, rfl⟩
    have hs3 : w3.heap.size = w2.heap.size + 1 := by rw [hw3]; exact World.size_alloc _ _
    have HB3 : Hid (Below w2.heap.size w2 w3) := by rw [hw3]; exact balloc (Below.refl _ _) _
    have HRC : Hid (∀ i v, (repC og N cg op cpq o0 n0 c0 c n o1 c1 o2 c2 o3 c3)[i]? = some v → w3.cell? ⟨w2.heap.size, i, none⟩ = some v) := fun i v hv => by
      rw [hw3, cell_of_row _ w2.heap.size i _ _ (0, 0) (heap_alloc_new w2 _)]
      exact hv
    have HST : Hid (KW w3 w3 (.slice none 0 0) (knownTo fs 0)) := ⟨Below.refl _ _, Own.nil _ _ _ _ _⟩
    rw [← hw3]
    have HOG3 := Lib.hid (HOG.out.below HB3.out)
    have HO03 := Lib.hid (HO0.out.below HB3.out)
    have HO13 := Lib.hid (HO1.out.below HB3.out)
    have HO23 := Lib.hid (HO2.out.below HB3.out)
    have HO33 := Lib.hid (HO3.out.below HB3.out)
    have HB23 : Hid (Below w.heap.size w w3) := HB2.out.trans (HB3.out.mono HB2.out.size)
    generalize hrb : w2.heap.size = rb at *
    have hrl : rb < w3.heap.size := by omega
    clear hs3 hw3 hrb HO0 HO1 HO2 HO3 HOG HB2 HB3
    go_loopw [7, 8, 64] (fun em kn i wr => ∃ k : Nat, k ≤ n ∧ i = .int .i64 k ∧ em = .bool (emptyTo fs a k) ∧ Hid (KW w3 wr kn (knownTo fs k))) (fun _ _ i _ => n - (intOf i).toNat)
    case atStart => exact ⟨0, by omega, rfl, rfl, HST.out⟩
    case round =>
      clear HST
      obtain ⟨k, hk, rfl, rfl, HK⟩ := hrel
      obtain ⟨w5, rfl⟩ : ∃ w5 : World, w5 = wr := ⟨_, rfl⟩
      obtain ⟨kn, rfl⟩ : ∃ kn : Value, kn = u8 := ⟨_, rfl⟩
      have HB5 := Lib.hid HK.out.bel
      have r0 : w5.cell? ⟨rb, 0, none⟩ = some (.slice og N cg) := keepCell HB5.out (HRC.out 0 _ rfl)
      have r2 : w5.cell? ⟨rb, 2, none⟩ = some (.slice o0 n0 c0) := keepCell HB5.out (HRC.out 2 _ rfl)
      have r4 : w5.cell? ⟨rb, 4, none⟩ = some (.slice o1 n c1) := keepCell HB5.out (HRC.out 4 _ rfl)
      have r5 : w5.cell? ⟨rb, 5, none⟩ = some (.slice o2 n c2) := keepCell HB5.out (HRC.out 5 _ rfl)
      have r6 : w5.cell? ⟨rb, 6, none⟩ = some (.slice o3 n c3) := keepCell HB5.out (HRC.out 6 _ rfl)
      by_cases hlt : k < n
      · have hkx : k < fs.length := by have := HN.out; omega
        obtain ⟨ba, off, rfl, p0⟩ := (HA.out.below (HB23.out.trans (HB5.out.mono HB23.out.size))).hd k hkx
        obtain ⟨b1, f1, rfl, q1⟩ := own_cell (HO13.out.below HB5.out) (i := k) (by rw [usedTo_len]; exact hlt)
        obtain ⟨b2, f2, rfl, q2⟩ := own_cell (HO23.out.below HB5.out) (i := k) (by rw [wstTo_len]; exact hlt)
        obtain ⟨b3, f3, rfl, q3⟩ := own_cell (HO33.out.below HB5.out) (i := k) (by rw [lftTo_len]; exact hlt)
        rw [usedTo_get] at q1
        rw [wstTo_get] at q2
        rw [lftTo_get] at q3
        have kd : (k : Int) < (n : Int) := by omega
        have k0 : (0 : Int) ≤ (k : Int) := by omega
        have hu := HUS.out k hkx
        have hw := HWI.out k hkx
        have hl := HLO.out k
        have HES := Lib.hid (emptyTo_succ fs a k)
        obtain ⟨L, hL⟩ : ∃ L, L = ln fs k := ⟨_, rfl⟩
        rw [← hL] at p0 q3 hw hl HES
        have HLL := Lib.hid hL
        rw [← HNG.out] at hu
        obtain ⟨y, hy⟩ : ∃ y, y = a k := ⟨_, rfl⟩
        rw [← hy] at q1 q2 q3 hu hw HES
        obtain ⟨ws, hws⟩ : ∃ ws : Int, ws = (y : Int) - (N : Int) := ⟨_, rfl⟩
        rw [← hws] at q2
        obtain ⟨lf, hlf⟩ : ∃ lf : Int, lf = (L : Int) - (y : Int) := ⟨_, rfl⟩
        rw [← hlf] at q3
        have s1 : IntKind.i64.wrap ((y : Int) + lf) = (L : Int) := by rw [hlf, show (y : Int) + ((L : Int) - y) = L by omega]; exact IntWalk.i64_in _ (by omega)
        have s2 : IntKind.i64.wrap ((y : Int) - ws) = (N : Int) := by rw [hws, show (y : Int) - ((y : Int) - N) = N by omega]; exact IntWalk.i64_in _ (by omega)
        have s3 : ¬ ws < 0 := by omega
        have s4 : ¬ lf < 0 := by omega
        have hLL : ((L : Int) != (L : Int)) = false := by simp
        have hNN : ((N : Int) != (N : Int)) = false := by simp
        have HLF : Hid ((lf == 0) = (y == L)) := by
          show _ = _
          by_cases e : y = L
          · have : lf = 0 := by omega
            simp [this, e]
          · have h1 : ¬ lf = 0 := by omega
            have h2 : (lf == 0) = false := by simpa using h1
            have h3 : (y == L) = false := by simpa using e
            rw [h2, h3]
        clear hL hy hws hlf
        obtain ⟨eb, heb⟩ : ∃ eb, eb = emptyTo fs a k := ⟨_, rfl⟩
        rw [← heb] at HES ⊢
        clear heb
        go_upto_region 13 with fail
        go_cut [7] (fun s7 wx => s7 = .bool (emptyTo fs a (k + 1)) ∧ w5 = wx)
        case first =>
          cases eb with
          | true =>
            have HE1 : Hid (emptyTo fs a (k + 1) = true) := by show _ = _; rw [HES.out]; rfl
            go_wp2_with fail
            go_meet
            exact ⟨by rw [HE1.out], rfl⟩
          | false =>
            have HE1 : Hid (emptyTo fs a (k + 1) = (lf == 0)) := by show _ = _; rw [HES.out, HLF.out]; simp
            go_wp2_with fail
            go_meet
            exact ⟨by rw [HE1.out], rfl⟩
        case rest =>
          obtain ⟨rfl, rfl⟩ := hcut
          clear HES HLF
          go_wp2
          go_quiet (fail)
          have HK5 : Hid (KW w3 (w5.drewN nq) kn (knownTo fs k)) := HK.out.below (bdrewN (Below.refl _ _) nq)
          have HROW := Lib.hid (HA.out.row k hkx)
          have HFK : Hid (fs[k].length = L) := by have h := HLL.out; rw [ln_get fs k hkx] at h; exact h.symm
          obtain ⟨l, hl5⟩ : ∃ l, l = fs[k] := ⟨_, rfl⟩
          rw [← hl5] at HROW HFK
          have HKS : Hid (knownTo fs (k + 1) = knownTo fs k ++ knownRow l) := by show _ = _; rw [hl5]; exact knownTo_succ fs k hkx
          have HKL : Hid ((knownTo fs k).length ≤ 4096) := by
            have h := knownTo_len fs (fun k => HLO.out k) k (by omega)
            show _ ≤ _
            omega
          clear hl5 HK r0 r2 r4 r5 r6 q1 q2 q3 p0
          go_wp2
          clear s1 s2 s3 s4
          generalize w5.drewN nq = w6 at *
          have HB6 := Lib.hid HK5.out.bel
          have HST : Hid (KW w3 w6 kn (knownTo fs k ++ knownRow (l.take 0))) := by rw [show knownRow (l.take 0) = [] from rfl, List.append_nil]; exact HK5.out
          clear HK5
          go_loopw [8, 127] (fun v j wr => ∃ q : Nat, q ≤ L ∧ j = .int .i64 q ∧ Hid (KW w3 wr v (knownTo fs k ++ knownRow (l.take q)))) (fun _ j _ => L - (intOf j).toNat)
          case atStart => exact ⟨0, by omega, rfl, HST.out⟩
          case round =>
            clear HST
            obtain ⟨q, hq, rfl, HKQ⟩ := hrel
            obtain ⟨w7, rfl⟩ : ∃ w7 : World, w7 = wr := ⟨_, rfl⟩
            obtain ⟨kv, rfl⟩ : ∃ kv : Value, kv = u8 := ⟨_, rfl⟩
            by_cases hqt : q < L
            · have hqx : q < l.length := by have := HFK.out; omega
              obtain ⟨bo, oo, hso, i0, i1⟩ := (HROW.out.below (HB23.out.trans (HKQ.out.bel.mono HB23.out.size))).pt hqx
              rw [hso]
              have HKR := Lib.hid (knownRow_succ l q hqx)
              have HKRL : Hid ((knownRow (l.take q)).length ≤ 512) := by
                have h1 := knownRow_len (l.take q)
                rw [List.length_take] at h1
                show _ ≤ _
                omega
              obtain ⟨x, hx⟩ : ∃ x, x = l[q] := ⟨_, rfl⟩
              rw [← hx] at i0 i1 HKR
              obtain ⟨xc, xs⟩ := x
              dsimp only at i0 i1 HKR
              have qd : (q : Int) < (L : Int) := by omega
              have q0 : (0 : Int) ≤ (q : Int) := by omega
              have HK8 := Lib.hid (HKQ.out.below (balloc (Below.refl _ w7) (.cells #[.int .i64 xc, .bool xs] 41)))
              clear hx hso HKQ
              by_cases hp : 0 < xc
              · have HKR2 : Hid (knownRow (l.take (q + 1)) = knownRow (l.take q) ++ [xc]) := by
                  have h := HKR.out
                  rw [if_pos hp] at h
                  exact h
                clear HKR
                obtain ⟨kl, hkl⟩ : ∃ kl, kl = knownTo fs k ++ knownRow (l.take q) := ⟨_, rfl⟩
                rw [← hkl] at HK8
                have HKLL : Hid (kl.length ≤ 5000) := by show _ ≤ _; rw [hkl, List.length_append]; have := HKL.out; have := HKRL.out; omega
                have HKE : Hid (knownTo fs k ++ knownRow (l.take (q + 1)) = kl ++ [xc]) := by show _ = _; rw [HKR2.out, ← List.append_assoc, hkl]
                clear hkl
                have HK9 := Lib.hid (HK8.out.below (balloc (Below.refl _ _) (.cells #[.int .i64 xc] 3)))
                have HNEW : Hid (∀ (j : Nat) (u : Value), (encInt xc)[j]? = some u → ((w7.alloc (.cells #[.int .i64 xc, .bool xs] 41)).alloc (.cells #[.int .i64 xc] 3)).cell? ((⟨w7.heap.size + 1, 0, none⟩ : Addr).add j) = some u) := by
                  have h := World.news_of_block (cs := #[.int .i64 xc]) (t := 3) (fr := (0, 0)) (heap_alloc_new (w7.alloc (.cells #[.int .i64 xc, .bool xs] 41)) _)
                  rw [World.size_alloc] at h
                  exact h
                have HSZ : Hid (w3.heap.size ≤ ((w7.alloc (.cells #[.int .i64 xc, .bool xs] 41)).alloc (.cells #[.int .i64 xc] 3)).heap.size) := HK9.out.bel.size
                go_wp2_with (at_builtin; refine wpList_appAt rfl (.tmp 134) (.tmp 137) 25 rfl elemIntT Try.underlying25 w3.heap.size kv _ encInt rfl HK9.out.own xc ⟨w7.heap.size + 1, 0, none⟩ 1 rfl rfl HNEW.out ?c1 ?c2 ?c3 ?c4 ?_)
                case c1 => simp [encInt, Value.oneCell']
                case c2 => have := HKLL.out; omega
                case c3 => have := HKLL.out; unfold maxLen; omega
                case c4 => exact HSZ.out
                intro v' w9 hown9 hg9 hat9
                have HNX : Hid (KW w3 w9 v' (knownTo fs k ++ knownRow (l.take (q + 1)))) := by
                  show KW _ _ _ _
                  rw [HKE.out]
                  exact HK9.out.add hown9 hg9
                clear hown9 hg9 hat9 HK9 HK8 HNEW HSZ i0 i1
                go_wp2
                go_roundw
                case rel => exact ⟨q + 1, by omega, by go_num, HNX⟩
                case measure => simp [intOf]; omega
              · have HNX : Hid (KW w3 (w7.alloc (.cells #[.int .i64 xc, .bool xs] 41)) kv (knownTo fs k ++ knownRow (l.take (q + 1)))) := by
                  have h := HKR.out
                  rw [if_neg hp, List.append_nil] at h
                  show KW _ _ _ _
                  rw [h]
                  exact HK8.out
                clear HKR HK8
                go_wp2
                go_roundw
                case rel => exact ⟨q + 1, by omega, by go_num, HNX⟩
                case measure => simp [intOf]; omega
            · obtain rfl : L = q := by omega
              have HNX : Hid (KW w3 w7 kv (knownTo fs (k + 1))) := by
                have h := HKQ.out
                rw [show l.take L = l by rw [← HFK.out]; exact List.take_length, ← HKS.out] at h
                exact h
              clear HKQ
              go_wp2
              go_roundw
              case rel => exact ⟨k + 1, by omega, by go_num, rfl, HNX⟩
              case measure => simp [intOf]; omega
      · obtain rfl : n = k := by omega
        have hkn : knownTo fs n = knownTo fs fs.length := by rw [HN.out]
        have hen : emptyTo fs a n = true := by rw [HN.out]; exact HEM.out
        rw [hen]
        have HKO2 : Hid (KOk g ms (knownTo fs n)) := by show KOk _ _ _; rw [hkn]; exact HKO.out
        have hkl : (knownTo fs n).length ≤ 4096 := by
          have h := knownTo_len fs (fun k => HLO.out k) n (by have := HN.out; omega)
          omega
        clear hkn hen
        obtain ⟨ks, hks⟩ : ∃ ks, ks = knownTo fs n := ⟨_, rfl⟩
        rw [← hks] at HK HKO2 hkl
        have HKQ := Lib.hid HK.out
        clear hks HK HKO
        obtain ⟨ok, ck, e9, -, -⟩ := HKQ.out.own.flat (fun _ => rfl)
        obtain ⟨rfl⟩ : kn = .slice ok ks.length ck := e9
        obtain ⟨K, hK⟩ : ∃ K, K = ks.length := ⟨_, rfl⟩
        rw [← hK] at HKQ hkl ⊢
        have HKK := Lib.hid hK
        have HCG : Hid (∀ x r, g.contains x = r → Calls Try.prog 16 #[.slice og N cg, .int .i64 x] w5 fun e w' => e = .returned (.bool r) ∧ w5 = w') := fun x r hr => contains_is _ g x w5 ((HOG3.out.below HB5.out).isSlice (fun _ => rfl)) r hr
        have HCM : Hid (∀ x r, ms.contains x = r → Calls Try.prog 16 #[.slice o0 n0 c0, .int .i64 x] w5 fun e w' => e = .returned (.bool r) ∧ w5 = w') := fun x r hr => contains_is _ ms x w5 ((HO03.out.below HB5.out).isSlice (fun _ => rfl)) r hr
        have HCK : Hid (∀ x r, ks.contains x = r → Calls Try.prog 16 #[.slice ok K ck, .int .i64 x] w5 fun e w' => e = .returned (.bool r) ∧ w5 = w') := fun x r hr => contains_is _ ks x w5 (HKQ.out.own.isSlice (fun _ => rfl)) r hr
        have HBF : Hid (Below w.heap.size w w5) := HB23.out.trans (HB5.out.mono HB23.out.size)
        clear hK
        go_wp2
        go_loopw [144] (fun i wr => ∃ q : Nat, q ≤ n0 ∧ i = .int .i64 q ∧ w5 = wr) (fun i _ => n0 - (intOf i).toNat)
        case atStart => exact ⟨0, by omega, rfl, rfl⟩
        case round =>
          obtain ⟨q, hq, rfl, rfl⟩ := hrel
          by_cases hqt : q < n0
          · have hqm : q < ms.length := by have := HN0.out; omega
            have hmem : ms[q] ∈ ms := List.getElem_mem hqm
            have h1 := HCK.out ms[q] true (by simpa using HKO2.out.msk _ hmem)
            have h2 := HCG.out ms[q] false (by simpa using HKO2.out.msg _ hmem)
            obtain ⟨bm, fm, e8, m0⟩ := own_cell (HO03.out.below HB5.out) hqm
            rw [e8] at r2 ⊢
            have HPR : Hid (∀ j, j + 1 = q → ∃ y, w5.cell? ⟨bm, fm + j, none⟩ = some (.int .i64 y) ∧ y < ms[q]) := fun j hj => by
              obtain ⟨b', f', e', m1⟩ := own_cell (HO03.out.below HB5.out) (i := j) (by omega)
              rw [e8] at e'
              simp only [Option.some.injEq, Addr.mk.injEq, and_true] at e'
              obtain ⟨rfl, rfl⟩ := e'
              exact ⟨_, m1, List.pairwise_iff_getElem.1 HKO2.out.inc j q (by omega) hqm (by omega)⟩
            obtain ⟨x, hx⟩ : ∃ x, x = ms[q] := ⟨_, rfl⟩
            rw [← hx] at h1 h2 m0 HPR
            have H1 := Lib.hid h1
            have H2 := Lib.hid h2
            have qd : (q : Int) < (n0 : Int) := by omega
            have q0 : (0 : Int) ≤ (q : Int) := by omega
            clear hx hmem h1 h2 e8
            rcases Nat.eq_zero_or_pos q with hz | hz
            · subst hz
              have m00 : w5.cell? ⟨bm, fm, none⟩ = some (.int .i64 x) := by simpa using m0
              clear m0 HPR
              go_wp2_with fail
              refine H1.out.mono ?_
              rintro e w7 ⟨rfl, rfl⟩
              go_wp2_with fail
              refine H2.out.mono ?_
              rintro e w8 ⟨rfl, rfl⟩
              go_wp2
              go_roundw
              case rel => exact ⟨0 + 1, by omega, by go_num, trivial⟩
              case measure => simp [intOf]; omega
            · obtain ⟨j, rfl⟩ : ∃ j, q = j + 1 := ⟨q - 1, by omega⟩
              obtain ⟨y, m1, hyx⟩ := HPR.out j rfl
              have z1 : IntKind.i64.wrap (((j + 1 : Nat) : Int) - 1) = (j : Int) := by rw [show ((j + 1 : Nat) : Int) - 1 = (j : Int) by omega]; exact IntWalk.i64_in _ (by omega)
              have z2 : (0 : Int) < ((j + 1 : Nat) : Int) := by omega
              have z3 : ¬ y ≥ x := by omega
              go_wp2_with fail
              refine H1.out.mono ?_
              rintro e w7 ⟨rfl, rfl⟩
              go_wp2_with fail
              refine H2.out.mono ?_
              rintro e w8 ⟨rfl, rfl⟩
              go_wp2
              go_roundw
              case rel => exact ⟨j + 1 + 1, by omega, by go_num, trivial⟩
              case measure => simp [intOf]; omega
          · obtain rfl : n0 = q := by omega
            have r00 := r0
            go_wp2
            go_loopw [177] (fun i wr => ∃ q : Nat, q ≤ N ∧ i = .int .i64 q ∧ w5 = wr) (fun i _ => N - (intOf i).toNat)
            case atStart => exact ⟨0, by omega, rfl, rfl⟩
            case round =>
              obtain ⟨q, hq2, rfl, rfl⟩ := hrel
              by_cases hqt : q < N
              · have hqm : q < g.length := by have := HNG.out; omega
                obtain ⟨bm, fm, rfl, m0⟩ := own_cell (HOG3.out.below HB5.out) hqm
                have HG1 : Hid (g[q] ≠ 0 → ks.contains g[q] = true) := fun h0 => by simpa using HKO2.out.gk _ (List.getElem_mem hqm) h0
                obtain ⟨x, hx⟩ : ∃ x, x = g[q] := ⟨_, rfl⟩
                rw [← hx] at m0 HG1
                have qd : (q : Int) < (N : Int) := by omega
                have q0 : (0 : Int) ≤ (q : Int) := by omega
                clear hx
                by_cases hx0 : x = 0
                · subst hx0
                  go_wp2
                  go_roundw
                  case rel => exact ⟨q + 1, by omega, by go_num, trivial⟩
                  case measure => simp [intOf]; omega
                · have x1 : (x != 0) = true := by simpa using hx0
                  have H1 := Lib.hid (HCK.out x true (HG1.out hx0))
                  go_wp2_with fail
                  refine H1.out.mono ?_
                  rintro e w7 ⟨rfl, rfl⟩
                  go_wp2
                  go_roundw
                  case rel => exact ⟨q + 1, by omega, by go_num, trivial⟩
                  case measure => simp [intOf]; omega
              · obtain rfl : N = q := by omega
                go_wp2
                go_loopw [192] (fun i wr => ∃ q : Nat, q ≤ K ∧ i = .int .i64 q ∧ w5 = wr) (fun i _ => K - (intOf i).toNat)
                case atStart => exact ⟨0, by omega, rfl, rfl⟩
                case round =>
                  obtain ⟨q, hq3, rfl, rfl⟩ := hrel
                  by_cases hqt : q < K
                  · have hqm : q < ks.length := by have := HKK.out; omega
                    obtain ⟨bm, fm, rfl, m0⟩ := own_cell HKQ.out.own hqm
                    have hor := HKO2.out.kk _ (List.getElem_mem hqm)
                    obtain ⟨x, hx⟩ : ∃ x, x = ks[q] := ⟨_, rfl⟩
                    rw [← hx] at m0 hor
                    have HOR := Lib.hid hor
                    have qd : (q : Int) < (K : Int) := by omega
                    have q0 : (0 : Int) ≤ (q : Int) := by omega
                    clear hx hor
                    by_cases hg : g.contains x = true
                    · have H1 := Lib.hid (HCG.out x true hg)
                      clear hg
                      go_wp2_with fail
                      refine H1.out.mono ?_
                      rintro e w7 ⟨rfl, rfl⟩
                      go_wp2
                      go_roundw
                      case rel => exact ⟨q + 1, by omega, by go_num, trivial⟩
                      case measure => simp [intOf]; omega
                    · have H1 := Lib.hid (HCG.out x false (by simpa using hg))
                      have H2 := Lib.hid (HCM.out x true (by
                        rcases HOR.out with h | h
                        · exact absurd (by simpa using h) hg
                        · simpa using h))
                      clear hg
                      go_wp2_with fail
                      refine H1.out.mono ?_
                      rintro e w7 ⟨rfl, rfl⟩
                      go_wp2_with fail
                      refine H2.out.mono ?_
                      rintro e w8 ⟨rfl, rfl⟩
                      go_wp2
                      go_roundw
                      case rel => exact ⟨q + 1, by omega, by go_num, trivial⟩
                      case measure => simp [intOf]; omega
                  · obtain rfl : K = q := by omega
                    go_wp2
                    go_ret
                    exact ⟨rfl, HBF.out⟩
end Go.Proofs.Ytemldminpndemaa
