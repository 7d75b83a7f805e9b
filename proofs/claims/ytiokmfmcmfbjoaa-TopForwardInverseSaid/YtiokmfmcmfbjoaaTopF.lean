/-
  The walk of TopForwardInverse. Own text.
-/
import Derived.Test.YtiokmfmcmfbjoaaTopFV
namespace Go.Proofs.Ytiokmfmcmfbjoaa
open Go.RowKit
set_option linter.unusedVariables false
def RetTrue (w : World) (e : Ending) (w' : World) : Prop := e = .returned (.bool true) ∧ Below w.heap.size w w'
/-- The step of the candidates. -/
def stepF (c : Bool) : Int := if c then 85 else 51
set_option maxRecDepth 100000 in
set_option maxHeartbeats 4000000 in
theorem topF_no (P : Prof) (oi : Option Addr) (ci : Nat) (oc : Option Addr) (cc : Nat) (ov : Option Addr) (cv : Nat) (ot : Option Addr) (ts : List Int) (ct : Nat) (coarse : Bool) (w : World) (hp : ProfAt w P oi ci oc cc ov cv) (hl : ts.length ≤ maxLen)
    (hno : ¬ (OkProf P ∧ P.inks.length ≤ ts.length)) :
    Calls Try.prog 3 #[.agg (profCells P oi ci oc cc ov cv), .slice ot ts.length ct, .bool coarse] w (RetTrue w) := by
  have hl9 : ts.length ≤ 9223372036854775807 := by unfold maxLen at hl; omega
  have hi9 : P.inks.length ≤ 9223372036854775807 := by have := hp.zi; have := hp.zi2; unfold maxLen at this; omega
  have hbox := BoxAt.new w (profCells P oi ci oc cc ov cv) 28
  have hb0 := balloc (Below.refl _ w) (.cells (profCells P oi ci oc cc ov cv) 28)
  obtain ⟨W1, hW1⟩ : ∃ W1, W1 = w.alloc (.cells (profCells P oi ci oc cc ov cv) 28) := ⟨_, rfl⟩
  rw [← hW1] at hbox hb0
  have HPR : Hid (ProfAt W1 P oi ci oc cc ov cv) := hp.below hb0
  have HCK : Hid (∀ W, Below W1.heap.size W1 W → Calls Try.prog 5 #[.agg (profCells P oi ci oc cc ov cv)] W (RetChk (OkProf P) W)) := fun W hb => profcheck_any P oi ci oc cc ov cv W (HPR.out.below hb)
  have HX := Lib.hid hbox
  have HB := Lib.hid hb0
  have HW1 := Lib.hid hW1
  have HNO := Lib.hid hno
  clear hbox hb0 hW1 hp hl hno
  unfold profCells at *
  cases coarse
  all_goals
    go_enter Try.func3, Try.ntmps3
    go_wp2_with fail
    rw [← HW1.out]
    refine (scolour_any _).mono ?_
    rintro e w2 ⟨rfl, hb2⟩
    have HB2 := Lib.hid hb2
    obtain ⟨p0, p1, p2, p3, p4, p5, p6⟩ := (HX.out.below hb2).all7
    clear hb2
    go_wp2_with fail
    by_cases hok : OkProf P
    · refine (RetChk.pos (HCK.out _ HB2.out) hok).mono ?_
      rintro e w3 ⟨rfl, hb3⟩
      have HF := Lib.hid (bthen HB.out (bthen HB2.out hb3))
      have hlt : (ts.length : Int) < (P.inks.length : Int) := by
        have := HNO.out
        by_cases h : P.inks.length ≤ ts.length
        · exact absurd ⟨hok, h⟩ this
        · omega
      clear hb3 p0 p1 p2 p3 p4 p5 p6
      go_wp2
      go_ret
      exact ⟨rfl, HF.out⟩
    · refine (RetChk.neg (HCK.out _ HB2.out) hok).mono ?_
      rintro e w3 ⟨c, rfl, hc, hb3⟩
      have HF := Lib.hid (bthen HB.out (bthen HB2.out hb3))
      clear hb3 p0 p1 p2 p3 p4 p5 p6
      go_wp2
      go_ret
      exact ⟨rfl, HF.out⟩
theorem fwd_cand (P : Prof) (oi : Option Addr) (ci : Nat) (oc : Option Addr) (cc : Nat) (ov : Option Addr) (cv : Nat) (W : World) (d : Nat) (st : Int) (M : Nat → Int) (g : Nat) (hd : d = P.inks.length) (hp : ProfAt W P oi ci oc cc ov cv) (hok : OkProf P) (hT : FTab (Value.int .i64) W g d (fun i => M i * st)) (hM : ∀ i, i < d → 0 ≤ M i * st ∧ M i * st ≤ 255) :
    Calls Try.prog 7 #[.agg (profCells P oi ci oc cc ov cv), .slice (some ⟨g, 0, none⟩) d d] W (RetFwd (labV P (candL d st M)) W) := by
  have hl := candL_len d st M
  have h := fwd_any P oi ci oc cc ov cv (some ⟨g, 0, none⟩) (candL d st M) d W hp hok hT.flat ⟨by rw [hl, hd], fun i hi => ?_⟩
  · rw [hl] at h
    exact h
  · have hi2 : i < d := by rw [hl] at hi; exact hi
    have e := candL_at hi2 st M
    rw [List.getD_eq_getElem?_getD, List.getElem?_eq_getElem hi] at e
    rw [show (candL d st M)[i] = M i * st from e]
    exact hM i hi2
set_option maxRecDepth 100000 in
set_option maxHeartbeats 8000000 in
theorem topF_yes (P : Prof) (oi : Option Addr) (ci : Nat) (oc : Option Addr) (cc : Nat) (ov : Option Addr) (cv : Nat) (bt offt : Nat) (ts : List Int) (ct : Nat) (coarse : Bool) (w : World) (hp : ProfAt w P oi ci oc cc ov cv) (hl : ts.length ≤ maxLen) (hx : Flat w 1 encInt (some ⟨bt, offt, none⟩) ts) (hx64 : ∀ x ∈ ts, i64ok x)
    (hok : OkProf P) (hge : P.inks.length ≤ ts.length) :
    Calls Try.prog 3 #[.agg (profCells P oi ci oc cc ov cv), .slice (some ⟨bt, offt, none⟩) ts.length ct, .bool coarse] w (RetTrue w) := by
  have hl9 : ts.length ≤ 9223372036854775807 := by unfold maxLen at hl; omega
  have hf := hok.few
  obtain ⟨d, hd⟩ : ∃ d, d = P.inks.length := ⟨_, rfl⟩
  obtain ⟨st, hst⟩ : ∃ st, st = stepF coarse := ⟨_, rfl⟩
  obtain ⟨m, hm⟩ : ∃ m : Nat → Int, m = fun i => modV (ts.getD i 0) / st := ⟨_, rfl⟩
  have hst2 : st = 51 ∨ st = 85 := by rw [hst]; cases coarse; exact .inl rfl; exact .inr rfl
  have hmb : ∀ x : Int, (0 ≤ modV x / st ∧ modV x / st ≤ 255) ∧ 0 ≤ modV x / st * st ∧ modV x / st * st ≤ 255 := fun x => by
    have := modV_bd x
    rcases hst2 with rfl | rfl <;> omega
  have HMB := Lib.hid hmb
  have HMD : Hid (∀ i, 0 ≤ m i * st ∧ m i * st ≤ 255) := fun i => by rw [hm]; exact (hmb _).2
  obtain ⟨c0, hc0⟩ : ∃ c, c = labV P (candL d st m) 0 := ⟨_, rfl⟩
  obtain ⟨c1, hc1⟩ : ∃ c, c = labV P (candL d st m) 1 := ⟨_, rfl⟩
  obtain ⟨c2, hc2⟩ : ∃ c, c = labV P (candL d st m) 2 := ⟨_, rfl⟩
  have hbox := BoxAt.new w (profCells P oi ci oc cc ov cv) 28
  have hb0 := balloc (Below.refl _ w) (.cells (profCells P oi ci oc cc ov cv) 28)
  have hs1 : (w.alloc (.cells (profCells P oi ci oc cc ov cv) 28)).heap.size = w.heap.size + 1 := World.size_alloc _ _
  obtain ⟨W1, hW1⟩ : ∃ W1, W1 = w.alloc (.cells (profCells P oi ci oc cc ov cv) 28) := ⟨_, rfl⟩
  rw [← hW1] at hbox hb0 hs1
  have HPR : Hid (ProfAt W1 P oi ci oc cc ov cv) := hp.below hb0
  have HXT : Hid (Flat W1 1 encInt (some ⟨bt, offt, none⟩) ts) := hx.below hb0
  have HCK : Hid (∀ W, Below W1.heap.size W1 W → Calls Try.prog 5 #[.agg (profCells P oi ci oc cc ov cv)] W (fun e w' => e = .returned (.int .i64 0) ∧ Below W.heap.size W w')) := fun W hb => RetChk.pos (profcheck_any P oi ci oc cc ov cv W (HPR.out.below hb)) hok
  have HFM : Hid (∀ W g M, Below W1.heap.size W1 W → FTab (Value.int .i64) W g d (fun i => M i * st) → (∀ i, i < d → 0 ≤ M i * st ∧ M i * st ≤ 255) → distV P d st (fun o => labV P (candL d st m) o) M = 0 → Calls Try.prog 7 #[.agg (profCells P oi ci oc cc ov cv), .slice (some ⟨g, 0, none⟩) d d] W (fun e w' => e = .returned (.tuple #[.agg #[.int .i64 c0, .int .i64 c1, .int .i64 c2], .int .i64 0]) ∧ Below W.heap.size W w')) := fun W g M hb hT hM hD => by
    refine (fwd_cand P oi ci oc cc ov cv W d st M g hd (HPR.out.below hb) hok hT hM).mono ?_
    rintro e w' ⟨rfl, hb'⟩
    obtain ⟨z0, z1, z2⟩ := dist_zero hD
    rw [z0, z1, z2, hc0, hc1, hc2]
    exact ⟨rfl, hb'⟩
  have HFD : Hid (∀ W ba gl gh, LM W1 ba gl gh d c0 c1 c2 st (fun _ => 255) W → Calls Try.prog 8 #[.agg (profCells P oi ci oc cc ov cv), .agg #[.int .i64 c0, .int .i64 c1, .int .i64 c2, .int .i64 st, .int .i64 2040, .slice (some ⟨gl, 0, none⟩) d d, .slice (some ⟨gh, 0, none⟩) d d]] W (RetFind P d st (fun o => labV P (candL d st m) o) W)) := fun W ba gl gh hM => by
    have h := find_any P oi ci oc cc ov cv (fun o => labV P (candL d st m) o) m st 2040 gl gh d d d W (HPR.out.below hM.bel) hok hd hM.low hM.high (by omega) (by omega) hst2 (fun o _ => rfl) (fun i _ => by
      have h1 := HMD.out i
      refine ⟨?_, h1.2⟩
      rw [hm]
      exact (hmb _).1.1)
    have e : askCells (fun o => labV P (candL d st m) o) st 2040 (some ⟨gl, 0, none⟩) d (some ⟨gh, 0, none⟩) d d = #[.int .i64 c0, .int .i64 c1, .int .i64 c2, .int .i64 st, .int .i64 2040, .slice (some ⟨gl, 0, none⟩) d d, .slice (some ⟨gh, 0, none⟩) d d] := by
      rw [hc0, hc1, hc2]
      rfl
    rw [e] at h
    exact h
  have HX := Lib.hid hbox
  have HB := Lib.hid hb0
  have HW1 := Lib.hid hW1
  have HSELF : Hid (distV P d st (fun o => labV P (candL d st m) o) m = 0) := distV_self (fun o _ => rfl) (fun i _ => rfl)
  have HM := Lib.hid hm
  have HX64 := Lib.hid hx64
  have HST := Lib.hid hst
  have hd1 : 1 ≤ d := by omega
  have hd4 : d ≤ 4 := by omega
  have hgeN : d ≤ ts.length := by omega
  have hgeI : ¬ (ts.length : Int) < (d : Int) := by omega
  have hbt2 : bt < W1.heap.size := by
    obtain ⟨b', off', e', h'⟩ := hx.int (i := 0) (by omega)
    simp only [Option.some.injEq, Addr.mk.injEq, and_true] at e'
    obtain ⟨rfl, rfl⟩ := e'
    have := cell?_lt h'
    simp only at this
    omega
  have mk := run_makeArr (P := Try.prog) elemInt Try.underlying24 (.int .i64 0) rfl d (by omega) (by omega)
  have HPC : Hid (profCells P oi ci oc cc ov cv = #[.string P.name, .slice oi d ci, .slice oc P.curves.length cc, .int .i64 P.inn, .int .i64 P.out, .int .i64 P.size, .slice ov P.vals.length cv]) := by unfold profCells Hid; rw [hd]
  rw [HPC.out] at HX HW1 HCK HFM HFD
  rw [HPC.out]
  have hn1 : st ≠ 0 := by omega
  have hn2 : 1 ≤ st ∧ st ≤ 255 := by omega
  clear hbox hb0 hW1 hp hl hok hge hx hx64 hf hd hst hm hst2 hmb hc0 hc1 hc2 HPC hn1
  cases coarse
  all_goals
    go_enter Try.func3, Try.ntmps3
    go_wp2_with fail
    rw [← HW1.out]
    refine (scolour_any _).mono ?_
    rintro e w2 ⟨rfl, hb2⟩
    have HB2 := Lib.hid hb2
    obtain ⟨p0, p1, p2, p3, p4, p5, p6⟩ := (HX.out.below hb2).all7
    clear hb2
    go_upto_region 6 with fail
    first | rw [show (51 : Int) = st from HST.out.symm] | rw [show (85 : Int) = st from HST.out.symm]
    clear HST
    go_wp2_with fail
    refine (HCK.out _ HB2.out).mono ?_
    rintro e w3 ⟨rfl, hb3⟩
    have HB3 := Lib.hid (bthen HB2.out hb3)
    clear hb3 p0 p1 p2 p3 p4 p5 p6 HB2 HCK
    go_upto_region 9 with fail
    go_cut [9] (fun s9 wx => ∃ ba gl gh : Nat, s9 = .pointer (some ⟨ba, 0, none⟩) ∧ Hid (LM W1 ba gl gh d 0 0 0 st (fun _ => 0) wx))
    case first =>
      go_region
      all_goals
        go_wp2_with fail
        go_meet
      all_goals
        apply LM.madeE HB3.out
        all_goals first | exact .inl ⟨rfl, rfl⟩ | exact .inr (.inl ⟨rfl, rfl⟩) | exact .inr (.inr ⟨rfl, rfl⟩) | omega
    case rest =>
      obtain ⟨ba, gl, gh, rfl, HL⟩ := hcut
      obtain ⟨go, hgo⟩ : ∃ g, g = wc.heap.size := ⟨_, rfl⟩
      have HGO := Lib.hid hgo
      have hw1 := HL.out.bel.size
      have za := HL.out.za
      have zl := HL.out.zl
      have zh := HL.out.zh
      have n1 := HL.out.n1
      have n2 := HL.out.n2
      have n3 := HL.out.n3
      have g1 : ba ≠ go := by omega
      have g2 : gl ≠ go := by omega
      have g3 : gh ≠ go := by omega
      have g4 : bt ≠ go := by omega
      have g5 : bt ≠ ba := by omega
      have g6 : bt ≠ gh := by omega
      have g7 : W1.heap.size ≤ go := by omega
      have g8 : w.heap.size ≠ ba := by omega
      have HL2 : Hid (LM W1 ba gl gh d 0 0 0 st (upTo 0 (fun _ => 255) (fun _ => 0)) (wc.alloc (.cells (madeArr (.int .i64 0) d) 3)) ∧ FTab (Value.int .i64) (wc.alloc (.cells (madeArr (.int .i64 0) d) 3)) go d (upTo 0 (fun i => m i * st) (fun _ => 0)) ∧ go < (wc.alloc (.cells (madeArr (.int .i64 0) d) 3)).heap.size) := by
        refine ⟨(HL.out.below (balloc (Below.refl _ _) _)).congr fun i _ => (if_neg (by omega)).symm, ?_, by rw [World.size_alloc]; omega⟩
        have h := FTab.made (Value.int .i64) wc d 0 3
        rw [← hgo] at h
        exact h.congr fun i _ => (if_neg (by omega)).symm
      clear HL hw1 za zl zh hgo
      go_wp2
      rw [← HGO.out]
      clear HGO mk
      go_loopw [44] (fun s44 wr => ∃ k : Nat, k ≤ d ∧ s44 = .int .i64 k ∧ Hid (LM W1 ba gl gh d 0 0 0 st (upTo k (fun _ => 255) (fun _ => 0)) wr ∧ FTab (Value.int .i64) wr go d (upTo k (fun i => m i * st) (fun _ => 0)) ∧ go < wr.heap.size)) (fun s44 _ => d - (intOf s44).toNat)
      case atStart => exact ⟨0, by omega, rfl, HL2⟩
      case round =>
        clear HL2
        obtain ⟨k, hk, rfl, HR⟩ := hrel
        by_cases hlt : k < d
        · have kd : (k : Int) < (d : Int) := by omega
          have k0 : (0 : Int) ≤ (k : Int) := by omega
          have kt : (k : Int) < (ts.length : Int) := by omega
          have kN : k < ts.length := by omega
          have a6 : wr.cell? ⟨ba, 6, none⟩ = some (.slice (some ⟨gh, 0, none⟩) d d) := HR.out.1.ask.at' 6 (by omega)
          obtain ⟨x, hx⟩ : ∃ x, x = ts[k] := ⟨_, rfl⟩
          have ht : wr.cell? ⟨bt, offt + k, none⟩ = some (.int .i64 x) := by
            obtain ⟨b', off', e', h'⟩ := (HXT.out.below HR.out.1.bel).int kN
            simp only [Option.some.injEq, Addr.mk.injEq, and_true] at e'
            obtain ⟨rfl, rfl⟩ := e'
            rw [hx]
            exact h'
          have f1 : wr.cell? ⟨gh, k, none⟩ = some (.int .i64 0) := by have h := HR.out.1.high.at' k hlt; unfold upTo at h; rw [if_neg (by omega)] at h; exact h
          have f2 : wr.cell? ⟨go, k, none⟩ = some (.int .i64 0) := by have h := HR.out.2.1.at' k hlt; unfold upTo at h; rw [if_neg (by omega)] at h; exact h
          have f3 := HR.out.1.high.fz k
          have f4 := HR.out.2.1.fz k
          have hxo : i64ok x := by rw [hx]; exact HX64.out _ (List.getElem_mem kN)
          have HSM := Lib.hid (fun W => smod_any x hxo W)
          obtain ⟨y, hy⟩ : ∃ y, y = modV x / st := ⟨_, rfl⟩
          have hmk : m k = y := by
            rw [hy, HM.out, hx]
            show modV (ts.getD k 0) / st = _
            rw [List.getD_eq_getElem?_getD, List.getElem?_eq_getElem kN]
            rfl
          have hb := HMB.out x
          have x0 := modV_bd x
          have e1 : (modV x).tdiv st = y := by rw [hy]; exact Int.tdiv_eq_ediv_of_nonneg x0.1
          have x1 : IntKind.i64.wrap ((modV x).tdiv st) = y := by rw [e1]; exact IntWalk.i64_in _ (by omega)
          have x2 : IntKind.i64.wrap (y * st) = y * st := IntWalk.i64_in _ (by rw [hy]; omega)
          have x3 : ¬ st = 0 := by omega
          have HNX : Hid (LM W1 ba gl gh d 0 0 0 st (upTo (k + 1) (fun _ => 255) (fun _ => 0)) ((wr.setCell ⟨go, k, none⟩ (.int .i64 (y * st))).setCell ⟨gh, k, none⟩ (.int .i64 255)) ∧ FTab (Value.int .i64) ((wr.setCell ⟨go, k, none⟩ (.int .i64 (y * st))).setCell ⟨gh, k, none⟩ (.int .i64 255)) go d (upTo (k + 1) (fun i => m i * st) (fun _ => 0)) ∧ go < ((wr.setCell ⟨go, k, none⟩ (.int .i64 (y * st))).setCell ⟨gh, k, none⟩ (.int .i64 255)).heap.size) := by
            refine ⟨((HR.out.1.other g7 g1.symm g2.symm g3.symm _).setHigh hlt 255).congr fun i _ => upTo_next rfl i, ?_, by simpa using HR.out.2.2⟩
            rw [← hmk]
            exact ((HR.out.2.1.set hlt _).other g3 _).congr fun i _ => upTo_next rfl i
          have hyb : 0 ≤ y * st ∧ y * st ≤ 255 := by rw [hy]; exact hb.2
          have hyc : 0 ≤ y ∧ y ≤ 255 := by rw [hy]; exact hb.1
          clear hx hxo hmk hb hy HR
          go_wp2
          go_region_held3 (fun w' => w'.cell? ⟨ba, 6, none⟩ = some (.slice (some ⟨gh, 0, none⟩) d d) ∧ w'.cell? ⟨bt, offt + k, none⟩ = some (.int .i64 x)) ((refine ⟨?_, ?_⟩ <;> go_simp)) ((go_at_call 6; refine (HSM.out _).mono ?_; rintro e w' ⟨rfl, rfl⟩))
          go_wp2
          go_roundw
          case rel => exact ⟨k + 1, by omega, by go_num, HNX.out.1.drewN 1, HNX.out.2.1.drewN 1, HNX.out.2.2⟩
          case measure => simp [intOf]; omega
        · obtain rfl : d = k := by omega
          have HLF : Hid (LM W1 ba gl gh d 0 0 0 st (fun _ => 255) wr) := HR.out.1.congr fun i hi => if_pos hi
          have HF0 := Lib.hid (HFM.out wr go m HLF.out.bel (HR.out.2.1.congr fun i hi => if_pos hi) (fun i _ => HMD.out i) HSELF.out)
          obtain ⟨p0, p1, p2, p3, p4, p5, p6⟩ := (HX.out.below HLF.out.bel).all7
          clear HR hlt
          go_wp2_with fail
          refine HF0.out.mono ?_
          rintro e w4 ⟨rfl, hb4⟩
          have HL4 := Lib.hid (HLF.out.below hb4)
          clear hb4 p0 p1 p2 p3 p4 p5 p6 HF0 HLF
          go_upto_region 17 with fail
          have hla := HL4.out.za.2
          have x0 := BoxAt.new w4 #[.int .i64 c0, .int .i64 c1, .int .i64 c2] 33
          have x1 : (w4.alloc (.cells #[.int .i64 c0, .int .i64 c1, .int .i64 c2] 33)).cell? ⟨w4.heap.size, 0, none⟩ = some (.int .i64 c0) := x0.at' 0 _ rfl
          have x2 : (w4.alloc (.cells #[.int .i64 c0, .int .i64 c1, .int .i64 c2] 33)).cell? ⟨w4.heap.size, 1, none⟩ = some (.int .i64 c1) := x0.at' 1 _ rfl
          have x3 : (w4.alloc (.cells #[.int .i64 c0, .int .i64 c1, .int .i64 c2] 33)).cell? ⟨w4.heap.size, 2, none⟩ = some (.int .i64 c2) := x0.at' 2 _ rfl
          have HL5 := Lib.hid (HL4.out.below (balloc (Below.refl _ w4) (.cells #[.int .i64 c0, .int .i64 c1, .int .i64 c2] 33)))
          clear x0 HL4
          generalize w4.alloc (.cells #[.int .i64 c0, .int .i64 c1, .int .i64 c2] 33) = W5 at *
          generalize w4.heap.size = lb at *
          have hlb : lb ≠ ba := by omega
          have q0 : W5.cell? ⟨ba, 0, none⟩ = some (.int .i64 0) := HL5.out.ask.at' 0 (by omega)
          have q1 : W5.cell? ⟨ba, 1, none⟩ = some (.int .i64 0) := HL5.out.ask.at' 1 (by omega)
          have q2 : W5.cell? ⟨ba, 2, none⟩ = some (.int .i64 0) := HL5.out.ask.at' 2 (by omega)
          have qf := HL5.out.ask.fz
          go_upto_region 18 with fail
          have y1 : (((W5.setCell ⟨ba, 0, none⟩ (.int .i64 c0)).setCell ⟨ba, 1, none⟩ (.int .i64 c1)).setCell ⟨ba, 2, none⟩ (.int .i64 c2)).cell? ⟨lb, 0, none⟩ = some (.int .i64 c0) := by go_simp
          have y2 : (((W5.setCell ⟨ba, 0, none⟩ (.int .i64 c0)).setCell ⟨ba, 1, none⟩ (.int .i64 c1)).setCell ⟨ba, 2, none⟩ (.int .i64 c2)).cell? ⟨lb, 1, none⟩ = some (.int .i64 c1) := by go_simp
          have y3 : (((W5.setCell ⟨ba, 0, none⟩ (.int .i64 c0)).setCell ⟨ba, 1, none⟩ (.int .i64 c1)).setCell ⟨ba, 2, none⟩ (.int .i64 c2)).cell? ⟨lb, 2, none⟩ = some (.int .i64 c2) := by go_simp
          have HL6 := Lib.hid (HL5.out.aim c0 c1 c2)
          clear x1 x2 x3 q0 q1 q2 qf HL5
          generalize ((W5.setCell ⟨ba, 0, none⟩ (.int .i64 c0)).setCell ⟨ba, 1, none⟩ (.int .i64 c1)).setCell ⟨ba, 2, none⟩ (.int .i64 c2) = W6 at *
          obtain ⟨p0, p1, p2, p3, p4, p5, p6⟩ := (HX.out.below HL6.out.bel).all7
          have q0 : W6.cell? ⟨ba, 0, none⟩ = some (.int .i64 c0) := HL6.out.ask.at' 0 (by omega)
          have q1 : W6.cell? ⟨ba, 1, none⟩ = some (.int .i64 c1) := HL6.out.ask.at' 1 (by omega)
          have q2 : W6.cell? ⟨ba, 2, none⟩ = some (.int .i64 c2) := HL6.out.ask.at' 2 (by omega)
          have q3 : W6.cell? ⟨ba, 3, none⟩ = some (.int .i64 st) := HL6.out.ask.at' 3 (by omega)
          have q4 : W6.cell? ⟨ba, 4, none⟩ = some (.int .i64 2040) := HL6.out.ask.at' 4 (by omega)
          have q5 : W6.cell? ⟨ba, 5, none⟩ = some (.slice (some ⟨gl, 0, none⟩) d d) := HL6.out.ask.at' 5 (by omega)
          have q6 : W6.cell? ⟨ba, 6, none⟩ = some (.slice (some ⟨gh, 0, none⟩) d d) := HL6.out.ask.at' 6 (by omega)
          go_wp2_with fail
          refine (HFD.out W6 ba gl gh HL6.out).mono ?_
          rintro e w7 ⟨g, M, rfl, hT, hM, hD, hb7⟩
          have hb := bthen HL6.out.bel hb7
          have x1 := keepCell hb7 y1
          have x2 := keepCell hb7 y2
          have x3 := keepCell hb7 y3
          have HB7 := Lib.hid hb
          have HF7 := Lib.hid (HFM.out w7 g M hb hT hM hD)
          clear p0 p1 p2 p3 p4 p5 p6 q0 q1 q2 q3 q4 q5 q6 y1 y2 y3 HL6
          obtain ⟨p0, p1, p2, p3, p4, p5, p6⟩ := (HX.out.below hb).all7
          clear hb7 hb hT hM hD HM HFM HFD
          go_wp2_with fail
          refine HF7.out.mono ?_
          rintro e w8 ⟨rfl, hb8⟩
          have y1 := keepCell hb8 x1
          have y2 := keepCell hb8 x2
          have y3 := keepCell hb8 x3
          have l8 := cell?_lt y1
          simp only at l8
          have l9 : lb ≠ w8.heap.size := by omega
          have HFIN : Hid (∀ o, RetTrue w (.returned (.bool true)) (w8.alloc o)) := fun o => ⟨rfl, balloc (bthen HB.out (bthen HB7.out hb8)) o⟩
          clear p0 p1 p2 p3 p4 p5 p6 x1 x2 x3 hb8 HF7
          go_wp2
          go_ret
          exact HFIN.out _
end Go.Proofs.Ytiokmfmcmfbjoaa
