/-
  The walk of the machine's cycle. Own text.
-/
import Derived.Test.YtcpjpmijfjdifaaGreatDoorCycV
namespace Go.Proofs.YtcpjpmijfjdifaaGreatDoor
open Go.RowKit
set_option linter.unusedVariables false
theorem elemIntT : ElemType Tryz.prog 3 (.int .i64 0) 1 8 := ElemType.mk (by kernel_rfl) rfl (by decide)
theorem elemRowT : ElemType Tryz.prog 27 (.slice none 0 0) 1 24 := ElemType.mk (by kernel_rfl) rfl (by decide)
theorem wpList_appAt {α : Type} {P : Program} {w : World} {ops : Array Oper} {rest : List Oper} {o : Oper} {a : Act} {Q : Exit → Act → World → Prop} (hgd : o.guard = none) (s x : Operand) (t : TypeId)
    (ho : o.op = .call { callee := .builtin .append, args := #[s, x], argTypes := #[t, t] })
    {e : TypeId} {z : Value} {size bytes : Nat} (hE : ElemType P e z size bytes) (ht : P.underlying t = some (.slice e))
    (base : Nat) (v : Value) (xs : List α) (enc : α → List Value) (hs : a.eval s = v) (hown : Own w base e size enc v xs) (y : α)
    (ad : Addr) (c : Nat) (hx : a.eval x = .slice (some ad) 1 c) (hl : (enc y).length = size) (hnews : ∀ j u, (enc y)[j]? = some u → w.cell? (ad.add j) = some u) (h1 : ∀ u ∈ enc y, u.oneCell' = true)
    (hbytes : (xs.length + 1) * bytes ≤ 140737488355328) (h63 : xs.length + 1 ≤ maxLen) (hbase : base ≤ w.heap.size)
    (h : ∀ v' w', Own w' base e size enc v' (xs ++ [y]) → w.grownBy w' v.ownBlock → (v'.ownBlock = v.ownBlock ∨ v'.ownBlock = some w.heap.size) → wpList P ops Q rest (a.put o.dst v') w') : wpList P ops Q (o :: rest) a w := by
  obtain ⟨i, hi, hz, hsz, hby, hzs, h0⟩ := hE
  refine wpList_append_own_at w hgd s x t ho base e i z size bytes ht hi hz hsz hby hzs h0 v xs.length (xs.flatMap enc) hs hown ad 1 c (enc y) hx (by rw [hl, Nat.one_mul]) hnews h1 h63 hbytes hbase ?_
  intro v' w' hown' hg _ hat
  refine h v' w' ?_ hg hat
  unfold Own
  rw [List.length_append, List.flatMap_append]
  simpa using hown'
theorem FTab.calm {α : Type} {f : α → Value} {w w' : World} {g n Z : Nat} {t : Nat → α} (h : FTab f w g n t) (hc : Calm Z w w') (hz : Z ≤ g) (hl : g < w.heap.size) : FTab f w' g n t :=
  ⟨fun i hi => by
    have := h.at' i hi
    unfold World.cell? at this ⊢
    simp only at this ⊢
    rw [hc.blk g hz hl]
    exact this, fun o => by
    have := h.fz o
    unfold World.frozen? at this ⊢
    simp only at this ⊢
    rw [hc.blk g hz hl]
    exact this⟩
def RetCycle (w0 w : World) (Z : Nat) (fs : List (List Pt)) (so : Nat → Option Addr) (sc : Nat → Nat) (mb bf cf : Nat) (fb a' : Nat → Nat) (g' : List Int) (p' : List (List Int)) (c : Nat) (vg vp : Value) (e : Ending) (w' : World) : Prop :=
  ∃ vg' vp' rv', e = .returned (.tuple #[]) ∧ Mach w0 w' fs so sc mb bf cf fb a' (lessG a' g'.length) vg' vp' c ∧ Rep w' Z vg' vp' rv' g' p' ∧ w.heap.size ≤ w'.heap.size ∧ ∀ j, Z ≤ j → j < w.heap.size → vg.ownBlock ≠ some j → vp.ownBlock ≠ some j → w'.heap[j]? = w.heap[j]? ∧ vg'.ownBlock ≠ some j ∧ vp'.ownBlock ≠ some j
/-- What is known ahead of a cycle. -/
structure CycAt (w0 w : World) (Z : Nat) (fs : List (List Pt)) (so : Nat → Option Addr) (sc : Nat → Nat) (mb bf cf : Nat) (fb a : Nat → Nat) (g : List Int) (p : List (List Int)) (c : Nat) (vg vp : Value) (rv : List Value) (F pre : List Ft) : Prop where
  m : Mach w0 w fs so sc mb bf cf fb a (lessG a g.length) vg vp c
  r : Rep w Z vg vp rv g p
  zs : Z ≤ w.heap.size
  ne : hasEmpty fs a = false
  win : Within fs a
  used : ∀ k, k < fs.length → g.length ≤ a k
  gl : g.length ≤ 512
  pg : p.length = g.length
  pl : pre.length ≤ 512
  fed : ∀ k, k < fs.length → pre.filter (ofF k) = F.filter (hit c k)
set_option maxRecDepth 100000 in
set_option maxHeartbeats 8000000 in
theorem cycle_any {w0 w : World} {Z B : Nat} {fs : List (List Pt)} {so : Nat → Option Addr} {sc : Nat → Nat} {mb bf cf : Nat} {fb a : Nat → Nat} {g : List Int} {p : List (List Int)} {c : Nat} {vg vp : Value} {rv : List Value} {F pre : List Ft} (oF : Option Addr) (cF : Nat) (m : Int)
    (h : CycAt w0 w Z fs so sc mb bf cf fb a g p c vg vp rv F pre) (L : Lay fs.length mb bf fb B Z) (hB : w0.heap.size ≤ B) (hBZ : B ≤ Z) (hF : Flat w 3 encFt oF pre) (b : Bool) (hb : fineV fs F c a = b) :
    Calls Tryz.prog 24 #[.pointer (some ⟨mb, 0, none⟩), .int .i64 m, .slice oF pre.length cF] w (RetCycle w0 w Z fs so sc mb bf cf fb (goOn fs F c a) (addIf b g m) (addIf b p (usedV fs a)) c vg vp) := by
  have hfew := h.m.few
  have hpl := h.pl
  have H := Lib.hid h
  have HL := Lib.hid L
  have HB := Lib.hid hB
  have HBZ := Lib.hid hBZ
  have HF := Lib.hid hF
  have HFB := Lib.hid hb
  obtain ⟨n, hn⟩ : ∃ n, n = fs.length := ⟨_, rfl⟩
  rw [← hn] at hfew
  have HN := Lib.hid hn
  obtain ⟨P, hP⟩ : ∃ P, P = pre.length := ⟨_, rfl⟩
  rw [← hP] at hpl ⊢
  have HP := Lib.hid hP
  have mk := run_makeArr elemIntT Tryz.underlying27 (.int .i64 0) rfl n (by omega) (by omega)
  have c0 : w.cell? ⟨mb, 0, none⟩ = some (.slice (some ⟨bf, 0, none⟩) n cf) := by rw [hn]; exact h.m.tab.at' 0 (by omega)
  have hmb := h.m.lt
  have HT0 := Lib.hid (FTab.made (Value.int .i64) w n 0 3)
  clear h hn hP L hB hBZ hF hb
  go_enter Tryz.func24, Tryz.ntmps24
  go_wp2
  have HB1 := Lib.hid (balloc (Below.refl _ w) (.cells (madeArr (.int .i64 0) n) 3))
  generalize w.alloc (.cells (madeArr (.int .i64 0) n) 3) = w1 at *
  obtain ⟨gf, hgf⟩ : ∃ gf, gf = w.heap.size := ⟨_, rfl⟩
  rw [← hgf] at HT0
  rw [← hgf]
  have HGF := Lib.hid hgf
  clear hgf mk c0 hmb
  go_loopw [6, 26] (fun v i wr => ∃ k : Nat, k ≤ n ∧ i = .int .i64 k ∧ v = .bool (fineTo fs F c a k) ∧ Hid (FTab (Value.int .i64) wr gf n (fun j => if j < k then (fedV fs F c a j : Int) else 0) ∧ Below w.heap.size w wr)) (fun _ i _ => n - (intOf i).toNat)
  case atStart => exact ⟨0, by omega, rfl, rfl, HT0.out.congr fun j _ => by simp, HB1.out⟩
  case round =>
    clear HT0 HB1
    obtain ⟨k, hk, rfl, rfl, HX⟩ := hrel
    obtain ⟨w2, rfl⟩ : ∃ w2 : World, w2 = wr := ⟨_, rfl⟩
    have HM := Lib.hid (H.out.m.below HX.out.2)
    by_cases hlt : k < n
    · have hkx : k < fs.length := by have := HN.out; omega
      have p0 : w2.cell? ⟨bf, k, none⟩ = some (.pointer (some ⟨fb k, 0, none⟩)) := HM.out.ptr k hkx
      have t0 : w2.cell? ⟨gf, k, none⟩ = some (.int .i64 (if k < k then (fedV fs F c a k : Int) else 0)) := HX.out.1.at' k hlt
      have tf := HX.out.1.fz
      have kd : (k : Int) < (n : Int) := by omega
      have k0 : (0 : Int) ≤ (k : Int) := by omega
      obtain ⟨r, hr⟩ : ∃ r, r = ln fs k - a k := ⟨_, rfl⟩
      have HR := Lib.hid hr
      have HT1 : Hid (FTab (Value.int .i64) (w2.setCell ⟨gf, k, none⟩ (.int .i64 1)) gf n (upd (fun j => if j < k then (fedV fs F c a j : Int) else 0) k (fedTo r k pre 0 : Int))) := HX.out.1.set hlt 1
      have HB2 : Hid (Below w.heap.size w (w2.setCell ⟨gf, k, none⟩ (.int .i64 1))) := HX.out.2.setCell (p := ⟨gf, k, none⟩) (by show w.heap.size ≤ gf; rw [HGF.out]; exact Nat.le_refl _) _
      clear hr HX
      go_wp2
      generalize w2.setCell ⟨gf, k, none⟩ (.int .i64 1) = w3 at *
      clear p0 t0 tf HM
      go_loopw [36] (fun i wr => ∃ j : Nat, j ≤ P ∧ i = .int .i64 j ∧ Hid (FTab (Value.int .i64) wr gf n (upd (fun j => if j < k then (fedV fs F c a j : Int) else 0) k (fedTo r k pre j : Int)) ∧ Below w.heap.size w wr)) (fun i _ => P - (intOf i).toNat)
      case atStart => exact ⟨0, by omega, rfl, HT1.out, HB2.out⟩
      case round =>
        clear HT1 HB2
        obtain ⟨j, hj, rfl, HX⟩ := hrel
        obtain ⟨w4, rfl⟩ : ∃ w4 : World, w4 = wr := ⟨_, rfl⟩
        by_cases hjt : j < P
        · have hjx : j < pre.length := by have := HP.out; omega
          obtain ⟨bo, oo, rfl, i0, i1, i2⟩ := (HF.out.below HX.out.2).ft hjx
          have hfs := fedTo_succ r k pre j hjx
          obtain ⟨x, hx⟩ : ∃ x, x = pre[j] := ⟨_, rfl⟩
          rw [← hx] at i0 i1 i2 hfs
          obtain ⟨xc, xf, xd⟩ := x
          dsimp only at i0 i1 i2 hfs
          have HFS := Lib.hid hfs
          have jd : (j : Int) < (P : Int) := by omega
          have j0 : (0 : Int) ≤ (j : Int) := by omega
          have HX5 : Hid (FTab (Value.int .i64) (w4.alloc (.cells #[.int .i64 xc, .int .i64 xf, .bool xd] 55)) gf n (upd (fun j => if j < k then (fedV fs F c a j : Int) else 0) k (fedTo r k pre j : Int)) ∧ Below w.heap.size w (w4.alloc (.cells #[.int .i64 xc, .int .i64 xf, .bool xd] 55))) := ⟨HX.out.1.alloc (HX.out.1.lt (by omega)) _, HX.out.2.alloc HX.out.2.size _⟩
          clear hx hfs
          have HM5 := Lib.hid (H.out.m.below HX5.out.2)
          have HG5 : Hid (w.heap.size ≤ gf) := by show _ ≤ _; rw [HGF.out]; exact Nat.le_refl _
          clear HX
          by_cases hxk : xf = (k : Int)
          · subst hxk
            have hof : Hid (∀ d, ofF k ⟨xc, (k : Int), d⟩ = true) := fun d => by unfold ofF; simp
            cases xd with
            | true =>
              have HFT : Hid (fedTo r k pre (j + 1) = min 2 r) := by show _ = _; rw [HFS.out, hof.out]; rfl
              have HT6 : Hid (FTab (Value.int .i64) ((w4.alloc (.cells #[.int .i64 xc, .int .i64 k, .bool true] 55)).setCell ⟨gf, k, none⟩ (.int .i64 (min 2 r : Nat))) gf n (upd (fun j => if j < k then (fedV fs F c a j : Int) else 0) k (fedTo r k pre (j + 1) : Int)) ∧ Below w.heap.size w ((w4.alloc (.cells #[.int .i64 xc, .int .i64 k, .bool true] 55)).setCell ⟨gf, k, none⟩ (.int .i64 (min 2 r : Nat)))) := by
                refine ⟨(HX5.out.1.set hlt _).congr fun i hi => ?_, HX5.out.2.setCell (p := ⟨gf, k, none⟩) HG5.out _⟩
                rw [HFT.out]
                unfold upd
                by_cases e : i = k <;> simp [e]
              clear HFS hof
              have f0 : (w4.alloc (.cells #[.int .i64 xc, .int .i64 k, .bool true] 55)).cell? ⟨fb k, 0, none⟩ = some (.slice (so k) (ln fs k) (sc k)) := (HM5.out.fdr k hkx).at' 0 (by omega)
              have f1 : (w4.alloc (.cells #[.int .i64 xc, .int .i64 k, .bool true] 55)).cell? ⟨fb k, 1, none⟩ = some (.int .i64 (a k)) := (HM5.out.fdr k hkx).at' 1 (by omega)
              have t0 := HX5.out.1.at' k hlt
              have tf := HX5.out.1.fz
              have m0 : (w4.alloc (.cells #[.int .i64 xc, .int .i64 k, .bool true] 55)).cell? ⟨w4.heap.size, 1, none⟩ = some (.int .i64 k) := by rw [cell_of_row _ w4.heap.size 1 _ _ (0, 0) (heap_alloc_new w4 _)]; rfl
              have m1 : (w4.alloc (.cells #[.int .i64 xc, .int .i64 k, .bool true] 55)).cell? ⟨w4.heap.size, 2, none⟩ = some (.bool true) := by rw [cell_of_row _ w4.heap.size 2 _ _ (0, 0) (heap_alloc_new w4 _)]; rfl
              go_wp2
              have hne : gf ≠ fb k := by have := (H.out.m.fdr k hkx).lt (by omega); have := HGF.out; omega
              have hne2 : fb k ≠ gf := fun e => hne e.symm
              have x1 : IntKind.i64.wrap ((ln fs k : Int) - (a k : Int)) = (r : Int) := by
                have h1 := HR.out
                have h2 := H.out.win k hkx
                have h3 := HM5.out.low k
                rw [show (ln fs k : Int) - (a k : Int) = (r : Int) by omega]
                exact IntWalk.i64_in _ (by omega)
              have HIF : Hid ((if (r : Int) < 2 then (r : Int) else 2) = ((min 2 r : Nat) : Int)) := by show _ = _; split <;> omega
              generalize w4.alloc (.cells #[.int .i64 xc, .int .i64 k, .bool true] 55) = w5 at *
              clear HM5 HX5 i0 i1 i2 m0 m1 HFT
              go_region_held3 (fun w' => w'.cell? ⟨fb k, 0, none⟩ = some (.slice (so k) (ln fs k) (sc k)) ∧ w'.cell? ⟨fb k, 1, none⟩ = some (.int .i64 (a k))) (first | exact ⟨f0, f1⟩ | (refine ⟨?_, ?_⟩ <;> go_simp)) (fail)
              rw [HIF.out]
              have HT7 : Hid (FTab (Value.int .i64) (w5.setCell ⟨gf, k, none⟩ (.int .i64 (min 2 r : Nat))).drew gf n (upd (fun j => if j < k then (fedV fs F c a j : Int) else 0) k (fedTo r k pre (j + 1) : Int)) ∧ Below w.heap.size w (w5.setCell ⟨gf, k, none⟩ (.int .i64 (min 2 r : Nat))).drew) := ⟨HT6.out.1.drew, bdrewN HT6.out.2 1⟩
              clear HT6 HIF f0 f1 t0 tf x1
              generalize (w5.setCell ⟨gf, k, none⟩ (.int .i64 (min 2 r : Nat))).drew = w6 at *
              go_wp2
              go_roundw
              case rel => exact ⟨j + 1, by omega, by go_num, HT7⟩
              case measure => simp [intOf]; omega
            | false =>
              have HFT : Hid (fedTo r k pre (j + 1) = 0) := by show _ = _; rw [HFS.out, hof.out]; rfl
              have HT6 : Hid (FTab (Value.int .i64) ((w4.alloc (.cells #[.int .i64 xc, .int .i64 k, .bool false] 55)).setCell ⟨gf, k, none⟩ (.int .i64 0)) gf n (upd (fun j => if j < k then (fedV fs F c a j : Int) else 0) k (fedTo r k pre (j + 1) : Int)) ∧ Below w.heap.size w ((w4.alloc (.cells #[.int .i64 xc, .int .i64 k, .bool false] 55)).setCell ⟨gf, k, none⟩ (.int .i64 0))) := by
                refine ⟨(HX5.out.1.set hlt _).congr fun i hi => ?_, HX5.out.2.setCell (p := ⟨gf, k, none⟩) HG5.out _⟩
                rw [HFT.out]
                unfold upd
                by_cases e : i = k <;> simp [e]
              have t0 := HX5.out.1.at' k hlt
              have tf := HX5.out.1.fz
              clear HFS hof HM5 HX5 HFT
              go_wp2
              generalize (w4.alloc (.cells #[.int .i64 xc, .int .i64 k, .bool false] 55)).setCell ⟨gf, k, none⟩ (.int .i64 0) = w6 at *
              clear t0 tf
              go_wp2
              go_roundw
              case rel => exact ⟨j + 1, by omega, by go_num, HT6⟩
              case measure => simp [intOf]; omega
          · have hbe : (xf == (k : Int)) = false := by simpa using hxk
            have HFT : Hid (fedTo r k pre (j + 1) = fedTo r k pre j) := by
              show _ = _
              rw [HFS.out, show ofF k ⟨xc, xf, xd⟩ = false from hbe]
              rfl
            have HT6 : Hid (FTab (Value.int .i64) (w4.alloc (.cells #[.int .i64 xc, .int .i64 xf, .bool xd] 55)) gf n (upd (fun j => if j < k then (fedV fs F c a j : Int) else 0) k (fedTo r k pre (j + 1) : Int)) ∧ Below w.heap.size w (w4.alloc (.cells #[.int .i64 xc, .int .i64 xf, .bool xd] 55))) := by
              rw [HFT.out]
              exact HX5.out
            clear HFS HM5 HX5 HFT
            go_wp2
            generalize w4.alloc (.cells #[.int .i64 xc, .int .i64 xf, .bool xd] 55) = w6 at *
            go_roundw
            case rel => exact ⟨j + 1, by omega, by go_num, HT6⟩
            case measure => simp [intOf]; omega
        · obtain rfl : P = j := by omega
          have hfed : fedTo r k pre P = fedV fs F c a k := by
            unfold fedTo fedV
            rw [List.take_of_length_le (by have := HP.out; omega), H.out.fed k hkx, HR.out]
          have HTN : Hid (FTab (Value.int .i64) w4 gf n (fun j => if j < k + 1 then (fedV fs F c a j : Int) else 0)) := HX.out.1.congr fun i hi => by
            rw [hfed]
            unfold upd
            by_cases e : i = k
            · subst e; simp
            · by_cases e2 : i < k
              · have : i < k + 1 := by omega
                simp [e, e2, this]
              · have : ¬ i < k + 1 := by omega
                simp [e, e2, this]
          have HBN := Lib.hid HX.out.2
          have HM5 := Lib.hid (H.out.m.below HX.out.2)
          have t0 : w4.cell? ⟨gf, k, none⟩ = some (.int .i64 (fedV fs F c a k)) := by
            have h1 := HX.out.1.at' k hlt
            rw [hfed] at h1
            simp only [upd_same] at h1
            exact h1
          have hak : a k < fs[k].length := by rw [← ln_get fs k hkx]; exact hasEmpty_no H.out.ne H.out.win hkx
          obtain ⟨ba, ob, hso, -, q1⟩ := (HM5.out.fat hkx).row.pt hak
          have hsp : fs[k][a k].spoil = sp fs k (a k) := by unfold sp; rw [ptAt_get fs k (a k) hkx hak]
          rw [hsp] at q1
          have f0 : w4.cell? ⟨fb k, 0, none⟩ = some (.slice (some ⟨ba, ob, none⟩) (ln fs k) (sc k)) := by rw [← hso]; exact (HM5.out.fdr k hkx).at' 0 (by omega)
          have f1 : w4.cell? ⟨fb k, 1, none⟩ = some (.int .i64 (a k)) := (HM5.out.fdr k hkx).at' 1 (by omega)
          have hfs := fineTo_succ fs F c a k
          have x3 : (a k : Int) < (ln fs k : Int) := by have := hasEmpty_no H.out.ne H.out.win hkx; omega
          have x4 : (0 : Int) ≤ (a k : Int) := by omega
          obtain ⟨gN, hgN⟩ : ∃ gN, gN = fineTo fs F c a (k + 1) := ⟨_, rfl⟩
          rw [← hgN] at hfs
          have HGN := Lib.hid hgN
          clear hgN hsp hfed HX
          generalize fineTo fs F c a k = gk at *
          generalize sp fs k (a k) = sk at *
          generalize fedV fs F c a k = fk at *
          generalize ln fs k = lk at *
          generalize a k = ak at *
          clear HM5 hak HF H
          cases gk with
          | false =>
            have HV : Hid (gN = false) := by show _ = _; rw [hfs]; rfl
            clear hfs
            go_wp2
            go_quiet (fail)
            go_wp2
            go_roundw
            case rel => exact ⟨k + 1, by omega, by go_num, by rw [← HGN.out, HV.out], HTN.out.drewN nq, bdrewN HBN.out nq⟩
            case measure => simp [intOf]; omega
          | true =>
            by_cases hf1 : fk = 1
            · subst hf1
              cases sk with
              | false =>
                have HV : Hid (gN = true) := by show _ = _; rw [hfs]; rfl
                clear hfs
                go_wp2
                go_quiet (fail)
                go_wp2
                go_roundw
                case rel => exact ⟨k + 1, by omega, by go_num, by rw [← HGN.out, HV.out], HTN.out.drewN nq, bdrewN HBN.out nq⟩
                case measure => simp [intOf]; omega
              | true =>
                have HV : Hid (gN = false) := by show _ = _; rw [hfs]; rfl
                clear hfs
                go_wp2
                go_quiet (fail)
                go_wp2
                go_roundw
                case rel => exact ⟨k + 1, by omega, by go_num, by rw [← HGN.out, HV.out], HTN.out.drewN nq, bdrewN HBN.out nq⟩
                case measure => simp [intOf]; omega
            · have hbe : ((fk : Int) == 1) = false := by simp; omega
              have HV : Hid (gN = false) := by
                show _ = _
                rw [hfs, show (fk == 1) = false by simpa using hf1]
                simp
              clear hfs
              go_wp2
              go_quiet (fail)
              go_wp2
              go_roundw
              case rel => exact ⟨k + 1, by omega, by go_num, by rw [← HGN.out, HV.out], HTN.out.drewN nq, bdrewN HBN.out nq⟩
              case measure => simp [intOf]; omega
    · obtain rfl : n = k := by omega
      have hft : fineTo fs F c a n = b := by rw [HN.out]; exact HFB.out
      rw [hft]
      have HT := Lib.hid (HX.out.1.congr (t' := fun j => (fedV fs F c a j : Int)) fun i hi => by simp [hi])
      have HBw := Lib.hid HX.out.2
      have HR := Lib.hid (H.out.r.calm ((Calm.refl Z w).below HX.out.2))
      have hc0 : w2.cell? ⟨mb, 0, none⟩ = some (.slice (some ⟨bf, 0, none⟩) n cf) := by rw [HN.out]; exact HM.out.tab.at' 0 (by omega)
      have HZ2 : Hid (Z ≤ w2.heap.size) := Nat.le_trans H.out.zs HX.out.2.size
      clear HX hft
      cases b with
      | true =>
        clear HT
        go_wp2
        go_loopw [12, 98] (fun v i wr => ∃ k : Nat, k ≤ n ∧ i = .int .i64 k ∧ Hid (Mach w0 wr fs so sc mb bf cf fb (midS a (fun _ => 1) k) (lessG a g.length) vg vp c ∧ Own wr w2.heap.size 3 1 encInt v (usedTo a k) ∧ Calm Z w2 wr)) (fun _ i _ => n - (intOf i).toNat)
        case atStart => exact ⟨0, by omega, rfl, by rw [midS_zero]; exact HM.out, Own.nil _ _ _ _ _, Calm.refl _ _⟩
        case round =>
          clear HM hc0
          obtain ⟨k, hk, rfl, HX⟩ := hrel
          by_cases hlt : k < n
          · have hkx : k < fs.length := by have := HN.out; omega
            have p0 : wr.cell? ⟨bf, k, none⟩ = some (.pointer (some ⟨fb k, 0, none⟩)) := HX.out.1.ptr k hkx
            have f1 : wr.cell? ⟨fb k, 1, none⟩ = some (.int .i64 (a k)) := by
              have h1 := (HX.out.1.fdr k hkx).at' 1 (by omega)
              rw [midS_at] at h1
              exact h1
            have kd : (k : Int) < (n : Int) := by omega
            have k0 : (0 : Int) ≤ (k : Int) := by omega
            have hak : a k < 512 := by have := hasEmpty_no H.out.ne H.out.win hkx; have := HX.out.1.low k; omega
            have hul := usedTo_len a k
            obtain ⟨ou, cu, hvu, -, -⟩ := HX.out.2.1.flat (fun _ => rfl)
            have HSZ : Hid (w2.heap.size ≤ wr.heap.size) := HX.out.2.2.size
            have HO := Lib.hid (HX.out.2.1.alloc (.cells #[.int .i64 (a k)] 3))
            have HNEW : Hid (∀ (j : Nat) (u : Value), (encInt (a k : Int))[j]? = some u → (wr.alloc (.cells #[.int .i64 (a k)] 3)).cell? ((⟨wr.heap.size, 0, none⟩ : Addr).add j) = some u) := World.news_of_block (cs := #[.int .i64 (a k)]) (t := 3) (fr := (0, 0)) (heap_alloc_new wr _)
            have HUL := Lib.hid hul
            have HMX : Hid (Mach w0 (wr.alloc (.cells #[.int .i64 (a k)] 3)) fs so sc mb bf cf fb (midS a (fun _ => 1) k) (lessG a g.length) vg vp c) := HX.out.1.below (balloc (Below.refl _ wr) _)
            have HCX : Hid (Calm Z w2 (wr.alloc (.cells #[.int .i64 (a k)] 3))) := HX.out.2.2.below (balloc (Below.refl _ wr) _)
            have HLT : Hid (∀ j, u12.ownBlock = some j → w2.heap.size ≤ j) := fun j hj => (HX.out.2.1.lt hj).1
            clear HX hul hvu
            go_wp2_with (at_builtin; refine wpList_appAt rfl (.tmp 104) (.tmp 109) 27 rfl elemIntT Tryz.underlying27 w2.heap.size u12 _ encInt rfl HO.out (a k) ⟨wr.heap.size, 0, none⟩ 1 rfl rfl HNEW.out ?c1 ?c2 ?c3 ?c4 ?_)
            case c1 => simp [encInt, Value.oneCell']
            case c2 => rw [HUL.out]; omega
            case c3 => rw [HUL.out]; unfold maxLen; omega
            case c4 => have := HSZ.out; simp; omega
            intro v' w5 hown5 hg5 hat5
            have HM5 : Hid (Mach w0 w5 fs so sc mb bf cf fb (midS a (fun _ => 1) k) (lessG a g.length) vg vp c) := HMX.out.grown HL.out HB.out HBZ.out hg5 fun j hj => Nat.le_trans HZ2.out (HLT.out j hj)
            have HC5 : Hid (Calm Z w2 w5) := HCX.out.grown hg5 HLT.out
            have HO5 : Hid (Own w5 w2.heap.size 3 1 encInt v' (usedTo a (k + 1))) := by rw [usedTo_succ]; exact hown5
            have g1 : w5.cell? ⟨fb k, 1, none⟩ = some (.int .i64 (a k)) := by
              have h1 := (HM5.out.fdr k hkx).at' 1 (by omega)
              rw [midS_at] at h1
              exact h1
            have gf1 := (HM5.out.fdr k hkx).fz
            have HN6 : Hid (Mach w0 (w5.setCell ⟨fb k, 1, none⟩ (.int .i64 ((a k : Int) + 1))) fs so sc mb bf cf fb (midS a (fun _ => 1) (k + 1)) (lessG a g.length) vg vp c ∧ Own (w5.setCell ⟨fb k, 1, none⟩ (.int .i64 ((a k : Int) + 1))) w2.heap.size 3 1 encInt v' (usedTo a (k + 1)) ∧ Calm Z w2 (w5.setCell ⟨fb k, 1, none⟩ (.int .i64 ((a k : Int) + 1)))) := by
              refine ⟨?_, ?_, HC5.out.set (HL.out.hif k hkx) _ _⟩
              · rw [midS_next]
                exact HM5.out.setA HL.out HB.out hkx (a k + 1)
              · exact HO5.out.blocks fun j hj => Below.heap_setCell _ _ _ _ (fun e => by
                  have e' : j = fb k := e
                  have h1 := (HO5.out.lt hj).1
                  have h2 := HL.out.hif k hkx
                  have h3 := HZ2.out
                  omega)
            clear hown5 hg5 hat5 HMX HCX HO HNEW HM5 HC5 HO5 p0 f1
            go_wp2
            go_roundw
            case rel => exact ⟨k + 1, by omega, by go_num, HN6⟩
            case measure => simp [intOf]; omega
          · obtain rfl : n = k := by omega
            obtain ⟨w3, rfl⟩ : ∃ w3 : World, w3 = wr := ⟨_, rfl⟩
            obtain ⟨ou, cu, rfl, -, -⟩ := HX.out.2.1.flat (fun _ => rfl)
            have hone : ∀ i, i < fs.length → midS a (fun _ => 1) n i = goOn fs F c a i := fun i hi => by
              unfold midS goOn
              rw [if_pos (by have := HN.out; omega), (fed_one HFB.out hi).1]
            have HME : Hid (Mach w0 w3 fs so sc mb bf cf fb (goOn fs F c a) (lessG (goOn fs F c a) (addIf true g m).length) vg vp c) := HX.out.1.congr fun i hi => ⟨hone i hi, by
              show (a i : Int) - (g.length : Int) = ((a i + fedV fs F c a i : Nat) : Int) - ((g ++ [m]).length : Int)
              rw [(fed_one HFB.out hi).1, List.length_append]
              simp
              omega⟩
            have HRE : Hid (Rep w3 Z vg vp rv g p) := HR.out.calm HX.out.2.2
            have HUE : Hid (Own w3 Z 3 1 encInt (.slice ou (usedTo a n).length cu) (usedTo a n)) := HX.out.2.1.rebase HZ2.out
            have HNE : Hid (∀ j, (Value.slice ou (usedTo a n).length cu).ownBlock = some j → vg.ownBlock ≠ some j ∧ vp.ownBlock ≠ some j) := fun j hj => by
              have h1 := (HX.out.2.1.lt hj).1
              exact ⟨fun e => by have := (HR.out.og.lt e).2; omega, fun e => by have := (HR.out.op.lt e).2; omega⟩
            have HZ3 : Hid (Z ≤ w3.heap.size) := Nat.le_trans HZ2.out HX.out.2.2.size
            have HGL := Lib.hid H.out.gl
            have HPL : Hid (rv.length ≤ 512) := by have h1 := H.out.r.len; have h2 := H.out.pg; have h3 := H.out.gl; show rv.length ≤ 512; omega
            have HK3 : Hid (∀ j, Z ≤ j → j < w.heap.size → w3.heap[j]? = w.heap[j]?) := fun j hz hj => by rw [HX.out.2.2.blk j hz (Nat.lt_of_lt_of_le hj HBw.out.size)]; exact HBw.out.block j hj
            have HSW : Hid (w.heap.size ≤ w3.heap.size) := Nat.le_trans HBw.out.size HX.out.2.2.size
            clear HX hone
            generalize (usedTo a n).length = lu at *
            have m1 : w3.cell? ⟨mb, 1, none⟩ = some vg := HME.out.tab.at' 1 (by omega)
            have HM6 : Hid (Mach w0 (w3.alloc (.cells #[.int .i64 m] 3)) fs so sc mb bf cf fb (goOn fs F c a) (lessG (goOn fs F c a) (addIf true g m).length) vg vp c) := HME.out.below (balloc (Below.refl _ w3) _)
            have HR6 : Hid (Rep (w3.alloc (.cells #[.int .i64 m] 3)) Z vg vp rv g p) := HRE.out.calm ((Calm.refl Z w3).below (balloc (Below.refl _ w3) _))
            have HU6 : Hid (Own (w3.alloc (.cells #[.int .i64 m] 3)) Z 3 1 encInt (.slice ou lu cu) (usedTo a n)) := HUE.out.alloc _
            have HNEW : Hid (∀ (j : Nat) (u : Value), (encInt m)[j]? = some u → (w3.alloc (.cells #[.int .i64 m] 3)).cell? ((⟨w3.heap.size, 0, none⟩ : Addr).add j) = some u) := World.news_of_block (cs := #[.int .i64 m]) (t := 3) (fr := (0, 0)) (heap_alloc_new w3 _)
            clear HRE HUE
            go_wp2_with (at_builtin; refine wpList_appAt rfl (.tmp 131) (.tmp 133) 27 rfl elemIntT Tryz.underlying27 Z vg g encInt rfl HR6.out.og m ⟨w3.heap.size, 0, none⟩ 1 rfl rfl HNEW.out ?c1 ?c2 ?c3 ?c4 ?_)
            case c1 => simp [encInt, Value.oneCell']
            case c2 => have := HGL.out; omega
            case c3 => have := HGL.out; unfold maxLen; omega
            case c4 => have := HZ3.out; simp; omega
            intro vg7 w7 hown7 hg7 hat7
            obtain ⟨og7, cg7, rfl, -, -⟩ := hown7.flat (fun _ => rfl)
            generalize (g ++ [m]).length = lg at *
            have HM7 : Hid (Mach w0 w7 fs so sc mb bf cf fb (goOn fs F c a) (lessG (goOn fs F c a) (addIf true g m).length) vg vp c) := HM6.out.grown HL.out HB.out HBZ.out hg7 fun j hj => (HR6.out.og.lt hj).1
            have HR7 := Lib.hid (HR6.out.addG hown7 hg7 (by simpa using hat7))
            have HU7 : Hid (Own w7 Z 3 1 encInt (.slice ou lu cu) (usedTo a n)) := HU6.out.blocks fun j hj => hg7.block j (HU6.out.lt hj).2 fun e => (HNE.out j hj).1 e.symm
            have HN7 : Hid (∀ j, (Value.slice ou lu cu).ownBlock = some j → (Value.slice og7 lg cg7).ownBlock ≠ some j ∧ vp.ownBlock ≠ some j) := fun j hj => ⟨fun e => by
              rcases hat7 with e2 | e2
              · exact (HNE.out j hj).1 (e2 ▸ e)
              · rw [e2] at e
                cases e
                have h1 := (HU6.out.lt hj).2
                simp at h1, (HNE.out j hj).2⟩
            have m17 : w7.cell? ⟨mb, 1, none⟩ = some vg := HM7.out.tab.at' 1 (by omega)
            have mf7 := HM7.out.tab.fz
            have HS7 : Hid (w.heap.size ≤ w7.heap.size) := by
              have h1 := HSW.out
              have h2 := hg7.size
              simp at h2
              show _ ≤ _
              omega
            have HM8 : Hid (Mach w0 (w7.setCell ⟨mb, 1, none⟩ (.slice og7 lg cg7)) fs so sc mb bf cf fb (goOn fs F c a) (lessG (goOn fs F c a) (addIf true g m).length) (.slice og7 lg cg7) vp c) := HM7.out.setM HL.out HB.out (i := 1) (by omega) (.slice og7 lg cg7) (fun j hj => by
              match j, hj with
              | 0, _ => rfl
              | 1, _ => rfl
              | 2, _ => rfl
              | 3, _ => rfl
              | 4, _ => rfl
              | 5, _ => rfl
              | 6, _ => rfl
              | 7, _ => rfl)
            have HC8 : Hid (Calm Z w7 (w7.setCell ⟨mb, 1, none⟩ (.slice og7 lg cg7))) := (Calm.refl Z w7).set HL.out.him 1 (.slice og7 lg cg7)
            have HR8 := Lib.hid (HR7.out.calm HC8.out)
            have HU8 := Lib.hid (HU7.out.calm HC8.out)
            have HS8 : Hid (w.heap.size ≤ (w7.setCell ⟨mb, 1, none⟩ (.slice og7 lg cg7)).heap.size) := Nat.le_trans HS7.out HC8.out.size
            have HK7 : Hid (∀ j, Z ≤ j → j < w.heap.size → vg.ownBlock ≠ some j → w7.heap[j]? = w.heap[j]? ∧ (Value.slice og7 lg cg7).ownBlock ≠ some j) := fun j hz hj hn => by
              have h1 : j < w3.heap.size := Nat.lt_of_lt_of_le hj HSW.out
              refine ⟨?_, fun e => ?_⟩
              · rw [hg7.block j (by simp; omega) (fun e => hn e.symm), (balloc (Below.refl _ w3) (.cells #[.int .i64 m] 3)).block j h1]
                exact HK3.out j hz hj
              · rcases hat7 with e2 | e2
                · exact hn (e2 ▸ e)
                · rw [e2] at e
                  cases e
                  first | omega | (simp at h1; done) | (simp at h1; omega)
            clear hown7 hg7 hat7 HM6 HR6 HU6 HNEW HM7 HR7 HU7 HNE HC8 HME m1 HS7
            have hz8 : (w7.setCell ⟨mb, 1, none⟩ (.slice og7 lg cg7)).heap.size = w7.heap.size := by simp
            have HZ8 := Lib.hid hz8
            have HR9 : Hid (Rep ((w7.setCell ⟨mb, 1, none⟩ (.slice og7 lg cg7)).alloc (.cells #[.slice ou lu cu] 27)) Z (.slice og7 lg cg7) vp rv (g ++ [m]) p) := HR8.out.calm ((Calm.refl Z _).below (balloc (Below.refl _ _) _))
            have HU9 : Hid (Own ((w7.setCell ⟨mb, 1, none⟩ (.slice og7 lg cg7)).alloc (.cells #[.slice ou lu cu] 27)) Z 3 1 encInt (.slice ou lu cu) (usedTo a n)) := HU8.out.alloc _
            have HM9 : Hid (Mach w0 ((w7.setCell ⟨mb, 1, none⟩ (.slice og7 lg cg7)).alloc (.cells #[.slice ou lu cu] 27)) fs so sc mb bf cf fb (goOn fs F c a) (lessG (goOn fs F c a) (addIf true g m).length) (.slice og7 lg cg7) vp c) := HM8.out.below (balloc (Below.refl _ _) _)
            have HNEW : Hid (∀ (j : Nat) (u : Value), (encV (.slice ou lu cu))[j]? = some u → ((w7.setCell ⟨mb, 1, none⟩ (.slice og7 lg cg7)).alloc (.cells #[.slice ou lu cu] 27)).cell? ((⟨w7.heap.size, 0, none⟩ : Addr).add j) = some u) := by
              have h := World.news_of_block (cs := #[.slice ou lu cu]) (t := 27) (fr := (0, 0)) (heap_alloc_new (w7.setCell ⟨mb, 1, none⟩ (.slice og7 lg cg7)) _)
              rw [hz8] at h
              exact h
            have m28 : (w7.setCell ⟨mb, 1, none⟩ (.slice og7 lg cg7)).cell? ⟨mb, 2, none⟩ = some vp := HM8.out.tab.at' 2 (by omega)
            have HZ9 : Hid (Z ≤ ((w7.setCell ⟨mb, 1, none⟩ (.slice og7 lg cg7)).alloc (.cells #[.slice ou lu cu] 27)).heap.size) := by
              have h1 := HS8.out
              have h2 := HZ3.out
              have h3 := HSW.out
              have h4 := H.out.zs
              show Z ≤ _
              simp
              simp at h1
              omega
            clear hz8 HR8 HU8
            go_wp2_with (at_builtin; (refine wpList_appAt rfl (.tmp 143) (.tmp 145) 22 rfl elemRowT Tryz.underlying22 Z vp rv encV rfl HR9.out.op (.slice ou lu cu) ⟨w7.heap.size, 0, none⟩ 1 rfl rfl HNEW.out ?d1 ?d2 ?d3 ?d4 ?_))
            case d1 => simp [encV, Value.oneCell']
            case d2 => have := HPL.out; omega
            case d3 => have := HPL.out; unfold maxLen; omega
            case d4 => exact HZ9.out
            intro vp10 w10 hown10 hg10 hat10
            obtain ⟨op10, cp10, rfl, -, -⟩ := hown10.flat (fun _ => rfl)
            generalize (rv ++ [Value.slice ou lu cu]).length = lp at *
            have HM10 : Hid (Mach w0 w10 fs so sc mb bf cf fb (goOn fs F c a) (lessG (goOn fs F c a) (addIf true g m).length) (.slice og7 lg cg7) vp c) := HM9.out.grown HL.out HB.out HBZ.out hg10 fun j hj => (HR9.out.op.lt hj).1
            have HR10 := Lib.hid (HR9.out.addP HU9.out HN7.out hown10 hg10 (by simpa using hat10))
            have m210 : w10.cell? ⟨mb, 2, none⟩ = some vp := HM10.out.tab.at' 2 (by omega)
            have mf10 := HM10.out.tab.fz
            have HF11 : Hid (RetCycle w0 w Z fs so sc mb bf cf fb (goOn fs F c a) (addIf true g m) (addIf true p (usedV fs a)) c vg vp (.returned (.tuple #[])) (w10.setCell ⟨mb, 2, none⟩ (.slice op10 lp cp10))) := by
              refine ⟨(.slice og7 lg cg7), (.slice op10 lp cp10), rv ++ [.slice ou lu cu], rfl, HM10.out.setM HL.out HB.out (i := 2) (by omega) (.slice op10 lp cp10) (fun j hj => by
                match j, hj with
                | 0, _ => rfl
                | 1, _ => rfl
                | 2, _ => rfl
                | 3, _ => rfl
                | 4, _ => rfl
                | 5, _ => rfl
                | 6, _ => rfl
                | 7, _ => rfl), ?_, ?_⟩
              · have h1 := HR10.out.calm ((Calm.refl Z w10).set HL.out.him 2 (.slice op10 lp cp10))
                have e : usedTo a n = usedV fs a := by rw [HN.out]; rfl
                rw [e] at h1
                exact h1
              · have h1 := HS8.out
                have h2 := hg10.size
                refine ⟨by simp at h1 h2 ⊢; omega, fun j hz hj hn1 hn2 => ?_⟩
                have h3 := HK7.out j hz hj hn1
                have h4 : j < (w7.setCell ⟨mb, 1, none⟩ (.slice og7 lg cg7)).heap.size := Nat.lt_of_lt_of_le hj HS8.out
                have h5 : mb < Z := HL.out.him
                refine ⟨?_, h3.2, fun e => ?_⟩
                · rw [Below.heap_setCell _ _ _ _ (fun e => by have e' : j = mb := e; omega), hg10.block j (by simp at h4 ⊢; omega) (fun e => hn2 e.symm), (balloc (Below.refl _ _) _).block j h4, Below.heap_setCell _ _ _ _ (fun e => by have e' : j = mb := e; omega)]
                  exact h3.1
                · rcases hat10 with e2 | e2
                  · exact hn2 (e2 ▸ e)
                  · rw [e2] at e
                    cases e
                    first | omega | (simp at h4; done) | (simp at h4; omega)
            clear hown10 hg10 hat10 HM9 HR9 HU9 HNEW HM10 HR10 HN7 HM8 HS8 m28 m17 mf7
            go_wp2
            go_end0
            exact HF11.out
      | false =>
        have HGZ : Hid (Z ≤ gf ∧ gf < w2.heap.size ∨ n = 0) := by
          rcases Nat.eq_zero_or_pos n with e | e
          · exact .inr e
          · exact .inl ⟨by have h1 := H.out.zs; have h2 := HGF.out; omega, HT.out.lt e⟩
        go_wp2
        go_loopw [98] (fun i wr => ∃ k : Nat, k ≤ n ∧ i = .int .i64 k ∧ Hid (Mach w0 wr fs so sc mb bf cf fb (midS a (fedV fs F c a) k) (lessG (midS a (fedV fs F c a) k) g.length) vg vp c ∧ Calm Z w2 wr)) (fun i _ => n - (intOf i).toNat)
        case atStart => exact ⟨0, by omega, rfl, by rw [midS_zero]; exact HM.out, Calm.refl _ _⟩
        case round =>
          clear HM hc0
          obtain ⟨k, hk, rfl, HX⟩ := hrel
          by_cases hlt : k < n
          · have hkx : k < fs.length := by have := HN.out; omega
            have hgz : Z ≤ gf ∧ gf < w2.heap.size := by
              rcases HGZ.out with h1 | h1
              · exact h1
              · omega
            have p0 : wr.cell? ⟨bf, k, none⟩ = some (.pointer (some ⟨fb k, 0, none⟩)) := HX.out.1.ptr k hkx
            have t0 : wr.cell? ⟨gf, k, none⟩ = some (.int .i64 (fedV fs F c a k)) := (HT.out.calm HX.out.2 hgz.1 hgz.2).at' k hlt
            have kd : (k : Int) < (n : Int) := by omega
            have k0 : (0 : Int) ≤ (k : Int) := by omega
            have hle : a k + fedV fs F c a k ≤ ln fs k := goOn_within H.out.ne H.out.win k hkx
            have HWS := Lib.hid (waste_at HX.out.1 HL.out HB.out hkx (fedV fs F c a k) (by rw [midS_at]; exact hle) (by rw [midS_at]; exact H.out.used k hkx))
            have HCX := Lib.hid HX.out.2
            have HMN := Lib.hid (midS_next a (fedV fs F c a) k)
            have HMA := Lib.hid (midS_at a (fedV fs F c a) k)
            clear HX hgz hle
            generalize hfk : fedV fs F c a k = fk at *
            have HFK := Lib.hid hfk
            clear hfk
            go_wp2_with fail
            refine HWS.out.mono ?_
            rintro e w5 ⟨rfl, hm5, hc5⟩
            have HN6 : Hid (Mach w0 w5 fs so sc mb bf cf fb (midS a (fedV fs F c a) (k + 1)) (lessG (midS a (fedV fs F c a) (k + 1)) g.length) vg vp c ∧ Calm Z w2 w5) := by
              rw [HMA.out] at hm5
              rw [HMN.out]
              exact ⟨hm5, HCX.out.trans hc5⟩
            clear hm5 hc5 HWS HCX p0 t0
            go_wp2
            go_roundw
            case rel => exact ⟨k + 1, by omega, by go_num, HN6⟩
            case measure => simp [intOf]; omega
          · obtain rfl : n = k := by omega
            have hone : ∀ i, i < fs.length → midS a (fedV fs F c a) n i = goOn fs F c a i := fun i hi => by
              unfold midS goOn
              rw [if_pos (by have := HN.out; omega)]
            have HF11 : Hid (RetCycle w0 w Z fs so sc mb bf cf fb (goOn fs F c a) (addIf false g m) (addIf false p (usedV fs a)) c vg vp (.returned (.tuple #[])) wr) :=
              ⟨vg, vp, rv, rfl, HX.out.1.congr fun i hi => ⟨hone i hi, by unfold lessG; rw [hone i hi]; rfl⟩, HR.out.calm HX.out.2, Nat.le_trans HBw.out.size HX.out.2.size, fun j hz hj h1 h2 => ⟨by rw [HX.out.2.blk j hz (Nat.lt_of_lt_of_le hj HBw.out.size)]; exact HBw.out.block j hj, h1, h2⟩⟩
            clear HX hone
            go_wp2
            go_end0
            exact HF11.out
end Go.Proofs.YtcpjpmijfjdifaaGreatDoor
