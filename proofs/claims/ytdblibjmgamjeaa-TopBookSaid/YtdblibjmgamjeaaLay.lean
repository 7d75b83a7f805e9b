/-
  The walk of fold.Pages. The walks of impose's leaf, single, size, depth. Own text.
-/
import Derived.Test.YtdblibjmgamjeaaPlace
namespace Go.Proofs.Ytdblibjmgamjeaa
open Go.RowKit
set_option linter.unusedVariables false
theorem run_sides : ∀ (l : List Stp) (s x : Sht), runF s l = some x → ∀ f ∈ l, 0 ≤ f.side ∧ f.side ≤ 3
  | [], _, _, _, f, h => by cases h
  | g :: r, s, x, e, f, h => by
    simp only [runF] at e
    split at e
    · rename_i hs
      rcases List.mem_cons.1 h with rfl | h
      · exact ⟨hs.1, hs.2.1⟩
      · exact run_sides r _ _ e f h
    · cases e
theorem Folded.side {sc : Sch} {x : Sht} (h : Folded sc x) : 0 ≤ sideV sc ∧ sideV sc ≤ 3 := by
  unfold sideV
  cases e : sc.steps.getLast? with
  | none => exact ⟨Int.le_refl _, by decide⟩
  | some f => exact run_sides _ _ _ h.run f (List.mem_of_getLast? e)
def RetPages (sc : Sch) (w : World) (e : Ending) (w' : World) : Prop := Below w.heap.size w w' ∧
  ((∃ c : Int, c ≠ 0 ∧ (¬ ∃ x, Folded sc x) ∧ e = .returned (.tuple #[.slice none 0 0, .int .i64 c])) ∨
   ∃ x oa cap, Folded sc x ∧ e = .returned (.tuple #[.slice oa (pagesV sc x).length cap, .int .i64 0]) ∧ (pagesV sc x).length ≤ cap ∧ Flat w' 4 encPg oa (pagesV sc x))
theorem turn_cell (w : World) (s : Int) (h : 0 ≤ s ∧ s ≤ 3) : (w.alloc (.cells #[.int .i64 0, .int .i64 2, .int .i64 1, .int .i64 3] 3)).cell? ⟨w.heap.size, s.toNat, none⟩ = some (.int .i64 (turnV s)) := by
  rw [cell_of_row _ w.heap.size _ _ _ (0, 0) (heap_alloc_new w _)]
  have h4 : s = 0 ∨ s = 1 ∨ s = 2 ∨ s = 3 := by omega
  rcases h4 with rfl | rfl | rfl | rfl <;> rfl
theorem Own.cap {α : Type} {w : World} {base : Nat} {e : TypeId} {k : Nat} {enc : α → List Value} {v : Value} {xs : List α} (h : Own w base e k enc v xs) : ∃ oa cap, v = .slice oa xs.length cap ∧ xs.length ≤ cap := by
  rcases h.2 with ⟨rfl, hn⟩ | ⟨g, cap, cur, rfl, _, _, hc, _⟩
  · exact ⟨none, 0, by rw [hn], by omega⟩
  · exact ⟨_, cap, rfl, hc⟩
set_option maxRecDepth 100000 in
set_option maxHeartbeats 16000000 in
theorem pages_any (sc : Sch) (os : Option Addr) (cs : Nat) (w : World) (hf : Flat w 3 encStp os sc.steps) (hm : sc.steps.length ≤ maxLen) (hcs : sc.steps.length ≤ cs) :
    Calls Try.prog 20 #[.agg #[.int .i64 sc.cols, .int .i64 sc.rows, .slice os sc.steps.length cs]] w (RetPages sc w) := by
  have HFD : Hid (∀ W, Below w.heap.size w W → Calls Try.prog 39 #[.agg #[.int .i64 sc.cols, .int .i64 sc.rows, .slice os sc.steps.length cs]] W (RetFolded sc W)) := fun W hb => folded_any sc os cs W (hf.below hb) hm hcs
  obtain ⟨m, hmm⟩ : ∃ m, m = sc.steps.length := ⟨_, rfl⟩
  obtain ⟨W1, hW1⟩ : ∃ W1, W1 = w.alloc (.cells #[.int .i64 sc.cols, .int .i64 sc.rows, .slice os m cs] 24) := ⟨_, rfl⟩
  have hb1 : Below w.heap.size w W1 := by rw [hW1]; exact balloc (Below.refl _ w) _
  have ht1 : FTab (fun v : Value => v) W1 w.heap.size 3 (outF (.int .i64 sc.cols) (.int .i64 sc.rows) (.slice os m cs)) := by rw [hW1]; exact outF_new w _ _ _ _
  have hz1 : W1.heap.size = w.heap.size + 1 := by rw [hW1, World.size_alloc]
  have c0 : W1.cell? ⟨w.heap.size, 0, none⟩ = some (.int .i64 sc.cols) := ht1.at' 0 (by omega)
  have c1 : W1.cell? ⟨w.heap.size, 1, none⟩ = some (.int .i64 sc.rows) := ht1.at' 1 (by omega)
  have c2 : W1.cell? ⟨w.heap.size, 2, none⟩ = some (.slice os m cs) := ht1.at' 2 (by omega)
  have HB1 := Lib.hid hb1
  have HZ1 := Lib.hid hz1
  have HM := Lib.hid hmm
  rw [← hmm] at hm hcs HFD ⊢
  clear hb1 ht1 hmm hf hm hz1
  go_enter Try.func20, Try.ntmps20
  go_upto_region 1 with fail
  rw [← hW1]
  clear hW1
  have HA1 := Lib.hid (HFD.out W1 HB1.out)
  go_wp2_with fail
  refine HA1.out.mono ?_
  intro e w2 hret
  obtain ⟨hb2, (⟨c, hc, hno, rfl⟩ | ⟨x, oa, cap, hx, rfl, hfl⟩)⟩ := hret
  · have hne : (c != 0) = true := by simpa using hc
    have HR : Hid (RetPages sc w (.returned (.tuple #[.slice none 0 0, .int .i64 c])) w2) := ⟨bthen HB1.out hb2, .inl ⟨c, hc, hno, rfl⟩⟩
    clear hc hno hb2 HFD HA1
    go_wp2_with fail
    go_ret2
    exact HR.out
  · have hsd := hx.side
    have HLP : Hid (pagesV sc x = pagesOf sc.cols (turnV (sideV sc)) (lastP x)) := rfl
    obtain ⟨l, hl⟩ : ∃ l, l = lastP x := ⟨_, rfl⟩
    obtain ⟨L, hL⟩ : ∃ L, L = l.length := ⟨_, rfl⟩
    have hL32 : L ≤ 32 := by rw [hL, hl, hx.len]; exact (leaves_bd hx.inn).2.1
    have HLI : Hid (∀ y ∈ l, 0 ≤ y.col ∧ y.col < sc.cols ∧ 0 ≤ y.row ∧ y.row < sc.rows) := by rw [hl]; exact hx.kept.ins 0 0
    rw [← hl] at HLP hfl ⊢
    rw [← hL]
    obtain ⟨W5, hW5⟩ : ∃ W5, W5 = ((w2.alloc (.cells #[.int .i64 0, .int .i64 2, .int .i64 1, .int .i64 3] 3)).alloc (.cells #[.int .i64 (turnV (sideV sc))] 3)).alloc (.cells #[.slice none 0 0] 62) := ⟨_, rfl⟩
    have tc := turn_cell w2 (sideV sc) hsd
    obtain ⟨t, htt⟩ : ∃ t, t = turnV (sideV sc) := ⟨_, rfl⟩
    have ht4 : 0 ≤ t ∧ t < 4 := by rw [htt]; exact turnV_bd _
    rw [← htt] at tc hW5 HLP
    generalize sideV sc = sd at *
    have s0 : 0 ≤ sd := hsd.1
    have s4 : sd < 4 := by omega
    have hz5 : W5.heap.size = w2.heap.size + 1 + 1 + 1 := by rw [hW5, World.size_alloc, World.size_alloc, World.size_alloc]
    have hb5 : Below w2.heap.size w2 W5 := by rw [hW5]; exact (((Below.refl _ w2).alloc (Nat.le_refl _) _).alloc (by simp) _).alloc (by simp; omega) _
    have ct : W5.cell? ⟨w2.heap.size + 1, 0, none⟩ = some (.int .i64 t) := by
      have h := cell_of_row ((w2.alloc (.cells #[.int .i64 0, .int .i64 2, .int .i64 1, .int .i64 3] 3)).alloc (.cells #[.int .i64 t] 3)) (w2.heap.size + 1) 0 #[.int .i64 t] 3 (0, 0) (by have := heap_alloc_new (w2.alloc (.cells #[.int .i64 0, .int .i64 2, .int .i64 1, .int .i64 3] 3)) (.cells #[.int .i64 t] 3); rw [World.size_alloc] at this; exact this)
      rw [hW5]
      exact keepCell (balloc (Below.refl _ _) _) h
    have hto : FTab (fun v : Value => v) W5 (w2.heap.size + 1 + 1) 1 (fun _ => .slice none 0 0) := by
      have h := heap_alloc_new ((w2.alloc (.cells #[.int .i64 0, .int .i64 2, .int .i64 1, .int .i64 3] 3)).alloc (.cells #[.int .i64 t] 3)) (.cells #[.slice none 0 0] 62)
      rw [World.size_alloc, World.size_alloc, ← hW5] at h
      refine ⟨fun i hi => ?_, fun o => ?_⟩
      · obtain rfl : i = 0 := by omega
        rw [cell_of_row _ _ 0 _ _ (0, 0) h]; rfl
      · unfold World.frozen?
        rw [h]
        simp
    have HW5 : Hid (((w2.alloc (.cells #[.int .i64 0, .int .i64 2, .int .i64 1, .int .i64 3] 3)).alloc (.cells #[.int .i64 t] 3)).alloc (.cells #[.slice none 0 0] 62) = W5) := hW5.symm
    have HX := Lib.hid hx
    have c0 := keepCell hb5 (keepCell hb2 c0)
    have HBW : Hid (Below w.heap.size w W5) := bthen HB1.out (bthen hb2 hb5)
    have HFL := Lib.hid hfl
    have HB25 := Lib.hid hb5
    have HLL := Lib.hid hL
    have HVU : Hid (PgU W5 (w2.heap.size + 1 + 1) (.slice none 0 0) (pagesOf sc.cols t (l.take 0))) := ⟨hto, Own.nil _ _ _ _ _, by omega⟩
    obtain ⟨bo, hbo⟩ : ∃ bo, bo = w2.heap.size + 1 + 1 := ⟨_, rfl⟩
    have HBO : Hid (w2.heap.size + 1 + 1 = bo ∧ W5.heap.size = bo + 1 ∧ w.heap.size + 1 ≤ w2.heap.size) := ⟨hbo.symm, by omega, by have := hb2.size; rw [HZ1.out] at this; exact this⟩
    have hcc : 1 ≤ sc.cols ∧ sc.cols ≤ 8 := ⟨hx.inn.1, hx.inn.2.1⟩
    clear hb2 hb5 hz5 hW5 hto hfl hx hsd hL hl htt HA1 HFD c1 c2 hbo
    go_upto_region 6 with fail
    rw [HW5.out]
    rw [HBO.out.1]
    rw [HBO.out.1] at HVU
    clear HW5 tc s0 s4
    go_wp2_with fail
    go_loopw [28] (fun i wr => ∃ k : Nat, k ≤ L ∧ i = .int .i64 k ∧ Hid (∃ v, PgU wr bo v (pagesOf sc.cols t (l.take k)) ∧ Below bo W5 wr)) (fun i _ => L - (intOf i).toNat)
    case atStart => exact ⟨0, by omega, rfl, _, HVU.out, Below.refl _ _⟩
    case round =>
      clear HVU
      obtain ⟨k, hk, rfl, HY⟩ := hrel
      obtain ⟨wa, rfl⟩ : ∃ wa : World, wa = wr := ⟨_, rfl⟩
      obtain ⟨v, hv, hbv⟩ := HY.out
      have HV := Lib.hid hv
      have HB := Lib.hid hbv
      have ct : wa.cell? ⟨w2.heap.size + 1, 0, none⟩ = some (.int .i64 t) := by rw [hbv.cell (p := ⟨w2.heap.size + 1, 0, none⟩) (by have := HBO.out.1; show w2.heap.size + 1 < bo; omega)]; exact ct
      have c0 : wa.cell? ⟨w.heap.size, 0, none⟩ = some (.int .i64 sc.cols) := by rw [hbv.cell (p := ⟨w.heap.size, 0, none⟩) (by have := HBO.out; show w.heap.size < bo; omega)]; exact c0
      clear hv hbv HY
      by_cases hlt : k < L
      · have kd : (k : Int) < (L : Int) := by omega
        have hkl : k < l.length := by rw [← HLL.out]; exact hlt
        have hfa : Flat wa 4 encLeaf oa l := HFL.out.below (HB25.out.trans (HB.out.mono (by have := HBO.out.1; omega)))
        obtain ⟨lb, loff, rfl, l0, l1, l2, l3⟩ := hfa.leaf hkl
        obtain ⟨y, hy⟩ : ∃ y, y = l[k] := ⟨_, rfl⟩
        rw [← hy] at l0 l1 l2 l3
        have HYY := Lib.hid hy
        have hyr := HLI.out y (by rw [hy]; exact List.getElem_mem hkl)
        obtain ⟨W6, hW6⟩ : ∃ W6, W6 = wa.alloc (.cells #[.int .i64 y.col, .int .i64 y.row, .bool y.fx, .bool y.fy] 115) := ⟨_, rfl⟩
        have hb6 : Below wa.heap.size wa W6 := by rw [hW6]; exact balloc (Below.refl _ wa) _
        have hl6 : LeafAt W6 wa.heap.size y := by rw [hW6]; exact LeafAt.new wa y _
        have ct := keepCell hb6 ct
        have c0 := keepCell hb6 c0
        have q2 := hl6.c2
        have q3 := hl6.c3
        have HV6 := Lib.hid (HV.out.below hb6)
        have HL6 := Lib.hid hl6
        have HW6 : Hid (W6.heap.size = wa.heap.size + 1) := by show _ = _; rw [hW6, World.size_alloc]
        have HP1 := Lib.hid (place_any sc.cols t y (!(y.fx == y.fy)) y.fy wa.heap.size (w2.heap.size + 1) w.heap.size bo v (pagesOf sc.cols t (l.take k)) W6 hcc ht4 hl6 ⟨hyr.1, by omega⟩ ct c0 HV6.out (by rw [pagesOf_len, List.length_take]; omega))
        have HB6 := Lib.hid hb6
        clear hy hfa hb6 hl6
        go_upto_region 10 with fail
        rw [← hW6]
        clear l0 l1 l2 l3 hW6
        go_wp2_with fail
        with_reducible refine HP1.out.mono ?_
        intro e w7 hret
        obtain ⟨⟨u, rfl⟩, v7, hv7, hon7, hat7⟩ := hret
        have hbo := HBO.out
        have hvl := HV6.out.lt
        have hwx := HB.out.size
        have hvb : v.ownBlock ≠ some wa.heap.size := fun e => by have := (HV.out.op.blk e).2; omega
        have hkx : w7.heap[wa.heap.size]? = W6.heap[wa.heap.size]? := hon7.keep wa.heap.size (by have := HW6.out; omega) (by have := HV.out.lt; omega) hvb
        have hl7 : LeafAt w7 wa.heap.size y := by
          have h := HL6.out
          refine ⟨?_, ?_, ?_, ?_, fun o => ?_⟩
          · rw [World.cell?_of_block (w := W6) (a := ⟨wa.heap.size, 0, none⟩) hkx]; exact h.c0
          · rw [World.cell?_of_block (w := W6) (a := ⟨wa.heap.size, 1, none⟩) hkx]; exact h.c1
          · rw [World.cell?_of_block (w := W6) (a := ⟨wa.heap.size, 2, none⟩) hkx]; exact h.c2
          · rw [World.cell?_of_block (w := W6) (a := ⟨wa.heap.size, 3, none⟩) hkx]; exact h.c3
          · rw [World.frozen?_of_block (w := W6) (a := ⟨wa.heap.size, o, none⟩) hkx]; exact h.fz o
        have ct : w7.cell? ⟨w2.heap.size + 1, 0, none⟩ = some (.int .i64 t) := by rw [hon7.bel.cell (p := ⟨w2.heap.size + 1, 0, none⟩) (by show w2.heap.size + 1 < bo; omega)]; exact ct
        have c0 : w7.cell? ⟨w.heap.size, 0, none⟩ = some (.int .i64 sc.cols) := by rw [hon7.bel.cell (p := ⟨w.heap.size, 0, none⟩) (by show w.heap.size < bo; omega)]; exact c0
        have q2 := hl7.c2
        have q3 := hl7.c3
        have HP2 := Lib.hid (place_any sc.cols t y (y.fx == y.fy) (!(y.fy == (t % 2 == 1))) wa.heap.size (w2.heap.size + 1) w.heap.size bo v7 (pagesOf sc.cols t (l.take k) ++ [pg1 sc.cols t y (!(y.fx == y.fy)) y.fy]) w7 hcc ht4 hl7 ⟨hyr.1, by omega⟩ ct c0 hv7 (by rw [List.length_append, pagesOf_len, List.length_take]; simp; omega))
        have HON7 := Lib.hid hon7
        clear hbo hvl hwx hvb hkx hl7 hv7 hon7 hat7 HP1 HL6 HV
        go_wp2_with fail
        with_reducible refine HP2.out.mono ?_
        intro e w8 hret
        obtain ⟨⟨u, rfl⟩, v8, hv8, hon8, hat8⟩ := hret
        have HV8 : Hid (∃ v, PgU w8 bo v (pagesOf sc.cols t (l.take (k + 1))) ∧ Below bo W5 w8) := by
          refine ⟨v8, ?_, ?_⟩
          · have e : pgB sc.cols t y = pg1 sc.cols t y (y.fx == y.fy) (!(y.fy == (t % 2 == 1))) := by
              unfold pgB
              have e1 : (!(y.fx != y.fy)) = (y.fx == y.fy) := by cases y.fx <;> cases y.fy <;> rfl
              rw [e1]
              rfl
            rw [pages_snoc sc.cols t l k hkl, ← HYY.out, e]
            exact hv8
          · exact ((HB.out.trans (HB6.out.mono (by have h1 := HB.out.size; have h2 := HBO.out; omega))).trans HON7.out.bel).trans hon8.bel
        clear hv8 hon8 hat8 HP2
        go_wp2_with fail
        go_roundw
        case rel => exact ⟨k + 1, by omega, by go_num, HV8.out⟩
        case measure => simp [intOf]; omega
      · obtain rfl : L = k := by omega
        have HR : Hid (∃ oq cq, v = .slice oq (pagesV sc x).length cq ∧ RetPages sc w (.returned (.tuple #[.slice oq (pagesV sc x).length cq, .int .i64 0])) wa) := by
          have e1 : l.take L = l := by rw [HLL.out, List.take_length]
          have hv := HV.out
          rw [e1] at hv
          obtain ⟨oq, cq, e2, hcap⟩ := hv.op.cap
          obtain ⟨oq', cq', e3, -, hfl⟩ := hv.op.flat (fun _ => rfl)
          rw [e2] at e3
          simp only [Value.slice.injEq] at e3
          obtain ⟨rfl, -, rfl⟩ := e3
          rw [HLP.out]
          exact ⟨oq, cq, e2, HBW.out.trans (HB.out.mono (by have := HBO.out; have := HBW.out.size; omega)), .inr ⟨x, oq, cq, HX.out, by rw [HLP.out], by rw [HLP.out]; exact hcap, by rw [HLP.out]; exact hfl⟩⟩
        obtain ⟨oq, cq, hvq, hr⟩ := HR.out
        have HR2 := Lib.hid hr
        have g0 : wa.cell? ⟨bo, 0, none⟩ = some v := HV.out.tab.at' 0 (by omega)
        subst hvq
        clear hr HR
        generalize (pagesV sc x).length = PL at *
        go_wp2_with fail
        go_ret2
        exact HR2.out
end Go.Proofs.Ytdblibjmgamjeaa
namespace Go.Proofs.Ytdblibjmgamjeaa
open Go.RowKit
set_option linter.unusedVariables false
/-- A layout's numbers are in range. -/
structure Rng (l : Lay) : Prop where
  w : 1 ≤ l.w ∧ l.w ≤ 256
  h : 1 ≤ l.h ∧ l.h ≤ 256
  head : 0 ≤ l.head ∧ l.head ≤ 64
  fore : 0 ≤ l.fore ∧ l.fore ≤ 64
  spine : 0 ≤ l.spine ∧ l.spine ≤ 64
  margin : 0 ≤ l.margin ∧ l.margin ≤ 64
  creep : 0 ≤ l.creep ∧ l.creep ≤ 8
  style : 0 ≤ l.style ∧ l.style ≤ 2
def layF (l : Lay) (os : Option Addr) (n cs : Nat) : Nat → Value
  | 0 => .int .i64 l.sc.cols
  | 1 => .int .i64 l.sc.rows
  | 2 => .slice os n cs
  | 3 => .int .i64 l.w
  | 4 => .int .i64 l.h
  | 5 => .int .i64 l.head
  | 6 => .int .i64 l.fore
  | 7 => .int .i64 l.spine
  | 8 => .int .i64 l.margin
  | 9 => .int .i64 l.creep
  | _ => .int .i64 l.style
def layC (l : Lay) (os : Option Addr) (n cs : Nat) : Array Value := #[.int .i64 l.sc.cols, .int .i64 l.sc.rows, .slice os n cs, .int .i64 l.w, .int .i64 l.h, .int .i64 l.head, .int .i64 l.fore, .int .i64 l.spine, .int .i64 l.margin, .int .i64 l.creep, .int .i64 l.style]
theorem layF_new (w : World) (l : Lay) (os : Option Addr) (n cs : Nat) (t : TypeId) : FTab (fun v : Value => v) (w.alloc (.cells (layC l os n cs) t)) w.heap.size 11 (layF l os n cs) := by
  refine ⟨fun i hi => ?_, fun o => ?_⟩
  · rw [cell_of_row _ w.heap.size i _ _ (0, 0) (heap_alloc_new w _)]
    match i, hi with
    | 0, _ => rfl
    | 1, _ => rfl
    | 2, _ => rfl
    | 3, _ => rfl
    | 4, _ => rfl
    | 5, _ => rfl
    | 6, _ => rfl
    | 7, _ => rfl
    | 8, _ => rfl
    | 9, _ => rfl
    | 10, _ => rfl
  · unfold World.frozen?
    rw [heap_alloc_new]
    simp
/-- The steps of the scheme read in memory. -/
structure StpAt (w : World) (l : Lay) (os : Option Addr) (cs : Nat) : Prop where
  f : Flat w 3 encStp os l.sc.steps
  m : l.sc.steps.length ≤ maxLen
  c : l.sc.steps.length ≤ cs
theorem StpAt.below {w w' : World} {l : Lay} {os : Option Addr} {cs : Nat} (h : StpAt w l os cs) (hb : Below w.heap.size w w') : StpAt w' l os cs := ⟨h.f.below hb, h.m, h.c⟩
theorem Flat.pg {w : World} {oa : Option Addr} {l : List Pg} (h : Flat w 4 encPg oa l) {i : Nat} (hi : i < l.length) :
    ∃ b off, oa = some ⟨b, off, none⟩ ∧ w.cell? ⟨b, off + i * 4, none⟩ = some (.bool l[i].back) ∧ w.cell? ⟨b, off + i * 4 + 1, none⟩ = some (.int .i64 l[i].col) ∧ w.cell? ⟨b, off + i * 4 + 2, none⟩ = some (.int .i64 l[i].row) ∧ w.cell? ⟨b, off + i * 4 + 3, none⟩ = some (.int .i64 l[i].turn) := by
  obtain ⟨v0, h0, b, off, e0, c0⟩ := h i hi 0 (by omega)
  obtain ⟨v1, h1, b1, off1, e1, c1⟩ := h i hi 1 (by omega)
  obtain ⟨v2, h2, b2, off2, e2, c2⟩ := h i hi 2 (by omega)
  obtain ⟨v3, h3, b3, off3, e3, c3⟩ := h i hi 3 (by omega)
  rw [e0] at e1 e2 e3
  simp only [Option.some.injEq, Addr.mk.injEq, and_true] at e1 e2 e3
  obtain ⟨rfl, rfl⟩ := e1
  obtain ⟨rfl, rfl⟩ := e2
  obtain ⟨rfl, rfl⟩ := e3
  simp only [encPg, List.getElem?_cons_zero, List.getElem?_cons_succ, Option.some.injEq] at h0 h1 h2 h3
  subst h0 h1 h2 h3
  exact ⟨b, off, e0, c0, c1, c2, c3⟩
theorem RetPages.ok {sc : Sch} {x : Sht} {w w' : World} {e : Ending} (h : RetPages sc w e w') (hx : Folded sc x) : Below w.heap.size w w' ∧ ∃ oa cap, e = .returned (.tuple #[.slice oa (pagesV sc x).length cap, .int .i64 0]) ∧ (pagesV sc x).length ≤ cap ∧ Flat w' 4 encPg oa (pagesV sc x) := by
  obtain ⟨hb, (⟨c, hc, hno, -⟩ | ⟨y, oa, cap, hy, he, hcap, hf⟩)⟩ := h
  · exact absurd ⟨x, hx⟩ hno
  · have e1 := hy.endV
    rw [hx.endV] at e1
    cases e1
    exact ⟨hb, oa, cap, he, hcap, hf⟩
def RetII (a b : Int) (w : World) (e : Ending) (w' : World) : Prop := e = .returned (.tuple #[.int .i64 a, .int .i64 b]) ∧ Below w.heap.size w w'
set_option maxRecDepth 100000 in
set_option maxHeartbeats 8000000 in
theorem leaf_any (l : Lay) (x : Sht) (hx : Folded l.sc x) (hr : Rng l) (os : Option Addr) (cs : Nat) (w : World) (hs : StpAt w l os cs) :
    Calls Try.prog 47 #[.agg #[.int .i64 l.sc.cols, .int .i64 l.sc.rows, .slice os l.sc.steps.length cs, .int .i64 l.w, .int .i64 l.h, .int .i64 l.head, .int .i64 l.fore, .int .i64 l.spine, .int .i64 l.margin, .int .i64 l.creep, .int .i64 l.style]] w (RetII (leafW l) (leafH l) w) := by
  have HPG : Hid (∀ W, Below w.heap.size w W → Calls Try.prog 20 #[.agg #[.int .i64 l.sc.cols, .int .i64 l.sc.rows, .slice os l.sc.steps.length cs]] W (RetPages l.sc W)) := fun W hb => pages_any l.sc os cs W (hs.f.below hb) hs.m hs.c
  obtain ⟨m, hm⟩ : ∃ m, m = l.sc.steps.length := ⟨_, rfl⟩
  rw [← hm] at HPG ⊢
  obtain ⟨W1, hW1⟩ : ∃ W1, W1 = w.alloc (.cells #[.int .i64 l.sc.cols, .int .i64 l.sc.rows, .slice os m cs, .int .i64 l.w, .int .i64 l.h, .int .i64 l.head, .int .i64 l.fore, .int .i64 l.spine, .int .i64 l.margin, .int .i64 l.creep, .int .i64 l.style] 26) := ⟨_, rfl⟩
  have hb1 : Below w.heap.size w W1 := by rw [hW1]; exact balloc (Below.refl _ w) _
  have ht1 : FTab (fun v : Value => v) W1 w.heap.size 11 (layF l os m cs) := by rw [hW1]; exact layF_new w l os m cs _
  have c0 : W1.cell? ⟨w.heap.size, 0, none⟩ = some (.int .i64 l.sc.cols) := ht1.at' 0 (by omega)
  have c1 : W1.cell? ⟨w.heap.size, 1, none⟩ = some (.int .i64 l.sc.rows) := ht1.at' 1 (by omega)
  have c2 : W1.cell? ⟨w.heap.size, 2, none⟩ = some (.slice os m cs) := ht1.at' 2 (by omega)
  have c3 : W1.cell? ⟨w.heap.size, 3, none⟩ = some (.int .i64 l.w) := ht1.at' 3 (by omega)
  have c4 : W1.cell? ⟨w.heap.size, 4, none⟩ = some (.int .i64 l.h) := ht1.at' 4 (by omega)
  have c5 : W1.cell? ⟨w.heap.size, 5, none⟩ = some (.int .i64 l.head) := ht1.at' 5 (by omega)
  have c6 : W1.cell? ⟨w.heap.size, 6, none⟩ = some (.int .i64 l.fore) := ht1.at' 6 (by omega)
  have c7 : W1.cell? ⟨w.heap.size, 7, none⟩ = some (.int .i64 l.spine) := ht1.at' 7 (by omega)
  have b1 := hr.w; have b2 := hr.h; have b3 := hr.head; have b4 := hr.fore; have b5 := hr.spine
  have x1 : IntKind.i64.wrap (l.w + l.fore) = l.w + l.fore := IntWalk.i64_in _ (by omega)
  have x2 : IntKind.i64.wrap (l.w + l.fore + l.spine) = l.w + l.fore + l.spine := IntWalk.i64_in _ (by omega)
  have x3 : IntKind.i64.wrap (2 * l.head) = 2 * l.head := IntWalk.i64_in _ (by omega)
  have x4 : IntKind.i64.wrap (l.h + 2 * l.head) = l.h + 2 * l.head := IntWalk.i64_in _ (by omega)
  have HB1 := Lib.hid hb1
  obtain ⟨LW, hLW⟩ : ∃ LW, LW = leafW l := ⟨_, rfl⟩
  obtain ⟨LH, hLH⟩ : ∃ LH, LH = leafH l := ⟨_, rfl⟩
  have HLW : Hid (LW = if lies l = true then l.h + 2 * l.head else l.w + l.fore + l.spine) := hLW
  have HLH : Hid (LH = if lies l = true then l.w + l.fore + l.spine else l.h + 2 * l.head) := hLH
  have HLI : Hid (lies l = (turnV (sideV l.sc) % 2 == 1)) := rfl
  have HX := Lib.hid hx
  rw [← hLW, ← hLH]
  clear hb1 ht1 hm hs hx hLW hLH b1 b2 b3 b4 b5 hr
  go_enter Try.func47, Try.ntmps47
  go_upto_region 1 with fail
  rw [← hW1]
  clear hW1
  go_quiet (fail)
  have HB2 := Lib.hid (bdrewN HB1.out nq)
  have hb2 : Below W1.heap.size W1 (W1.drewN nq) := bdrewN (Below.refl _ W1) nq
  generalize W1.drewN nq = w2 at *
  have c0 := keepCell hb2 c0
  have c1 := keepCell hb2 c1
  have c2 := keepCell hb2 c2
  clear hb2 c3 c4 c5 c6 c7 x1 x2 x3 x4
  have HP := Lib.hid (HPG.out w2 HB2.out)
  go_wp2_with fail
  refine HP.out.mono ?_
  intro e w3 hret
  obtain ⟨hb3, oa, cap, rfl, hcap, hfl⟩ := hret.ok HX.out
  obtain ⟨h0, ht0⟩ := HX.out.first
  obtain ⟨pb, poff, rfl, p0, p1, p2, p3⟩ := hfl.pg h0
  have hpg := HX.out.pgin h0
  obtain ⟨p, hp⟩ : ∃ p, p = (pagesV l.sc x)[0] := ⟨_, rfl⟩
  rw [← hp] at p0 p1 p2 p3 ht0 hpg
  obtain ⟨PL, hPL⟩ : ∃ PL, PL = (pagesV l.sc x).length := ⟨_, rfl⟩
  have hpl0 : (0 : Int) < (PL : Int) := by omega
  rw [← hPL]
  have HB3 := Lib.hid (bthen HB2.out hb3)
  obtain ⟨tr0, tr4⟩ := hpg.t
  obtain ⟨t, htt⟩ : ∃ t, t = p.turn := ⟨_, rfl⟩
  rw [← htt] at p3 tr0 tr4 ht0
  simp only [Nat.zero_mul, Nat.add_zero] at p3
  have HT0 := Lib.hid ht0
  clear hcap hfl hp hPL p0 p1 p2 hpg hb3 hret h0 ht0 htt
  by_cases hl : t % 2 = 1
  · have t1 : (t % 2 == 1) = true := by simpa using hl
    have hli : lies l = true := by rw [HLI.out, ← HT0.out]; exact t1
    have HR : Hid (RetII LW LH w (.returned (.tuple #[.int .i64 (l.h + 2 * l.head), .int .i64 (l.w + l.fore + l.spine)])) w3) := ⟨by rw [HLW.out, HLH.out, if_pos hli, if_pos hli], HB3.out⟩
    clear hl hli
    go_wp2_with fail
    go_ret2
    exact HR.out
  · have t1 : (t % 2 == 1) = false := by simpa using hl
    have hli : ¬ lies l = true := by rw [HLI.out, ← HT0.out, t1]; decide
    have HR : Hid (RetII LW LH w (.returned (.tuple #[.int .i64 (l.w + l.fore + l.spine), .int .i64 (l.h + 2 * l.head)])) w3) := ⟨by rw [HLW.out, HLH.out, if_neg hli, if_neg hli], HB3.out⟩
    clear hl hli
    go_wp2_with fail
    go_ret2
    exact HR.out
theorem leaf_bd {l : Lay} (hr : Rng l) : 1 ≤ leafW l ∧ leafW l ≤ 384 ∧ 1 ≤ leafH l ∧ leafH l ≤ 384 := by
  have b1 := hr.w; have b2 := hr.h; have b3 := hr.head; have b4 := hr.fore; have b5 := hr.spine
  unfold leafW leafH
  split <;> omega
theorem one_bd {l : Lay} {x : Sht} (hx : Folded l.sc x) (hr : Rng l) : 1 ≤ oneW l ∧ oneW l ≤ 3200 ∧ 1 ≤ oneH l ∧ oneH l ≤ 3200 := by
  obtain ⟨a1, a2, a3, a4⟩ := leaf_bd hr
  have c := hx.inn
  have m1 := mul_bd l.sc.cols (leafW l) 8 384 (by have := c.1; omega) c.2.1 (by omega) a2
  have m2 := mul_bd l.sc.rows (leafH l) 8 384 (by have := c.2.2.1; omega) c.2.2.2.1 (by omega) a4
  have m3 : 1 * 1 ≤ l.sc.cols * leafW l := Int.mul_le_mul c.1 a1 (by omega) (by have := c.1; omega)
  have m4 : 1 * 1 ≤ l.sc.rows * leafH l := Int.mul_le_mul c.2.2.1 a3 (by omega) (by have := c.2.2.1; omega)
  have b := hr.margin
  unfold oneW oneH
  omega
set_option maxRecDepth 100000 in
set_option maxHeartbeats 8000000 in
theorem single_any (l : Lay) (x : Sht) (hx : Folded l.sc x) (hr : Rng l) (os : Option Addr) (cs : Nat) (w : World) (hs : StpAt w l os cs) :
    Calls Try.prog 41 #[.agg #[.int .i64 l.sc.cols, .int .i64 l.sc.rows, .slice os l.sc.steps.length cs, .int .i64 l.w, .int .i64 l.h, .int .i64 l.head, .int .i64 l.fore, .int .i64 l.spine, .int .i64 l.margin, .int .i64 l.creep, .int .i64 l.style]] w (RetII (oneW l) (oneH l) w) := by
  have HLF : Hid (∀ W, Below w.heap.size w W → Calls Try.prog 47 #[.agg #[.int .i64 l.sc.cols, .int .i64 l.sc.rows, .slice os l.sc.steps.length cs, .int .i64 l.w, .int .i64 l.h, .int .i64 l.head, .int .i64 l.fore, .int .i64 l.spine, .int .i64 l.margin, .int .i64 l.creep, .int .i64 l.style]] W (RetII (leafW l) (leafH l) W)) := fun W hb => leaf_any l x hx hr os cs W (hs.below hb)
  obtain ⟨m, hm⟩ : ∃ m, m = l.sc.steps.length := ⟨_, rfl⟩
  rw [← hm] at HLF ⊢
  obtain ⟨W1, hW1⟩ : ∃ W1, W1 = w.alloc (.cells #[.int .i64 l.sc.cols, .int .i64 l.sc.rows, .slice os m cs, .int .i64 l.w, .int .i64 l.h, .int .i64 l.head, .int .i64 l.fore, .int .i64 l.spine, .int .i64 l.margin, .int .i64 l.creep, .int .i64 l.style] 26) := ⟨_, rfl⟩
  have hb1 : Below w.heap.size w W1 := by rw [hW1]; exact balloc (Below.refl _ w) _
  have ht1 : FTab (fun v : Value => v) W1 w.heap.size 11 (layF l os m cs) := by rw [hW1]; exact layF_new w l os m cs _
  have c0 : W1.cell? ⟨w.heap.size, 0, none⟩ = some (.int .i64 l.sc.cols) := ht1.at' 0 (by omega)
  have c1 : W1.cell? ⟨w.heap.size, 1, none⟩ = some (.int .i64 l.sc.rows) := ht1.at' 1 (by omega)
  have c2 : W1.cell? ⟨w.heap.size, 2, none⟩ = some (.slice os m cs) := ht1.at' 2 (by omega)
  have c3 : W1.cell? ⟨w.heap.size, 3, none⟩ = some (.int .i64 l.w) := ht1.at' 3 (by omega)
  have c4 : W1.cell? ⟨w.heap.size, 4, none⟩ = some (.int .i64 l.h) := ht1.at' 4 (by omega)
  have c5 : W1.cell? ⟨w.heap.size, 5, none⟩ = some (.int .i64 l.head) := ht1.at' 5 (by omega)
  have c6 : W1.cell? ⟨w.heap.size, 6, none⟩ = some (.int .i64 l.fore) := ht1.at' 6 (by omega)
  have c7 : W1.cell? ⟨w.heap.size, 7, none⟩ = some (.int .i64 l.spine) := ht1.at' 7 (by omega)
  have c8 : W1.cell? ⟨w.heap.size, 8, none⟩ = some (.int .i64 l.margin) := ht1.at' 8 (by omega)
  have c9 : W1.cell? ⟨w.heap.size, 9, none⟩ = some (.int .i64 l.creep) := ht1.at' 9 (by omega)
  have c10 : W1.cell? ⟨w.heap.size, 10, none⟩ = some (.int .i64 l.style) := ht1.at' 10 (by omega)
  have HB1 := Lib.hid hb1
  have hlb := leaf_bd hr
  have hob := one_bd hx hr
  obtain ⟨LW, hLW⟩ : ∃ LW, LW = leafW l := ⟨_, rfl⟩
  obtain ⟨LH, hLH⟩ : ∃ LH, LH = leafH l := ⟨_, rfl⟩
  have h1 : oneW l = 2 * l.margin + l.sc.cols * LW := by rw [hLW]; rfl
  have h2 : oneH l = 2 * l.margin + l.sc.rows * LH := by rw [hLH]; rfl
  obtain ⟨c, hc⟩ : ∃ c, c = l.sc.cols * LW := ⟨_, rfl⟩
  obtain ⟨r, hr'⟩ : ∃ r, r = l.sc.rows * LH := ⟨_, rfl⟩
  have hmg := hr.margin
  rw [← hLW, ← hLH] at HLF hlb
  rw [h1, h2] at hob ⊢
  rw [← hc, ← hr'] at hob ⊢
  have x1 : IntKind.i64.wrap (2 * l.margin) = 2 * l.margin := IntWalk.i64_in _ (by omega)
  have x2 : IntKind.i64.wrap (l.sc.cols * LW) = c := by rw [← hc]; exact IntWalk.i64_in _ (by omega)
  have x3 : IntKind.i64.wrap (l.sc.rows * LH) = r := by rw [← hr']; exact IntWalk.i64_in _ (by omega)
  have x4 : IntKind.i64.wrap (2 * l.margin + c) = 2 * l.margin + c := IntWalk.i64_in _ (by omega)
  have x5 : IntKind.i64.wrap (2 * l.margin + r) = 2 * l.margin + r := IntWalk.i64_in _ (by omega)
  clear hb1 ht1 hm hs hx hr hLW hLH hlb hob h1 h2 hc hr' hmg
  go_enter Try.func41, Try.ntmps41
  go_upto_region 1 with fail
  rw [← hW1]
  clear hW1
  have HL := Lib.hid (HLF.out W1 HB1.out)
  go_wp2_with fail
  refine HL.out.mono ?_
  intro e w2 hret
  obtain ⟨rfl, hb2⟩ := hret
  have c0 := keepCell hb2 c0
  have c1 := keepCell hb2 c1
  have c8 := keepCell hb2 c8
  have HR : Hid (∀ nq, RetII (2 * l.margin + c) (2 * l.margin + r) w (.returned (.tuple #[.int .i64 (2 * l.margin + c), .int .i64 (2 * l.margin + r)])) (w2.drewN nq)) := fun nq => ⟨rfl, bdrewN (bthen HB1.out hb2) nq⟩
  clear hb2 HLF HL
  go_upto_region 2 with fail
  go_quiet (fail)
  go_wp2_with fail
  go_ret2
  exact HR.out _
set_option maxRecDepth 100000 in
set_option maxHeartbeats 8000000 in
theorem size_any (l : Lay) (x : Sht) (hx : Folded l.sc x) (hr : Rng l) (os : Option Addr) (cs : Nat) (w : World) (hs : StpAt w l os cs) :
    Calls Try.prog 21 #[.agg #[.int .i64 l.sc.cols, .int .i64 l.sc.rows, .slice os l.sc.steps.length cs, .int .i64 l.w, .int .i64 l.h, .int .i64 l.head, .int .i64 l.fore, .int .i64 l.spine, .int .i64 l.margin, .int .i64 l.creep, .int .i64 l.style]] w (RetII (fullW l) (fullH l) w) := by
  have HLF : Hid (∀ W, Below w.heap.size w W → Calls Try.prog 41 #[.agg #[.int .i64 l.sc.cols, .int .i64 l.sc.rows, .slice os l.sc.steps.length cs, .int .i64 l.w, .int .i64 l.h, .int .i64 l.head, .int .i64 l.fore, .int .i64 l.spine, .int .i64 l.margin, .int .i64 l.creep, .int .i64 l.style]] W (RetII (oneW l) (oneH l) W)) := fun W hb => single_any l x hx hr os cs W (hs.below hb)
  obtain ⟨m, hm⟩ : ∃ m, m = l.sc.steps.length := ⟨_, rfl⟩
  rw [← hm] at HLF ⊢
  obtain ⟨W1, hW1⟩ : ∃ W1, W1 = w.alloc (.cells #[.int .i64 l.sc.cols, .int .i64 l.sc.rows, .slice os m cs, .int .i64 l.w, .int .i64 l.h, .int .i64 l.head, .int .i64 l.fore, .int .i64 l.spine, .int .i64 l.margin, .int .i64 l.creep, .int .i64 l.style] 26) := ⟨_, rfl⟩
  have hb1 : Below w.heap.size w W1 := by rw [hW1]; exact balloc (Below.refl _ w) _
  have ht1 : FTab (fun v : Value => v) W1 w.heap.size 11 (layF l os m cs) := by rw [hW1]; exact layF_new w l os m cs _
  have c0 : W1.cell? ⟨w.heap.size, 0, none⟩ = some (.int .i64 l.sc.cols) := ht1.at' 0 (by omega)
  have c1 : W1.cell? ⟨w.heap.size, 1, none⟩ = some (.int .i64 l.sc.rows) := ht1.at' 1 (by omega)
  have c2 : W1.cell? ⟨w.heap.size, 2, none⟩ = some (.slice os m cs) := ht1.at' 2 (by omega)
  have c3 : W1.cell? ⟨w.heap.size, 3, none⟩ = some (.int .i64 l.w) := ht1.at' 3 (by omega)
  have c4 : W1.cell? ⟨w.heap.size, 4, none⟩ = some (.int .i64 l.h) := ht1.at' 4 (by omega)
  have c5 : W1.cell? ⟨w.heap.size, 5, none⟩ = some (.int .i64 l.head) := ht1.at' 5 (by omega)
  have c6 : W1.cell? ⟨w.heap.size, 6, none⟩ = some (.int .i64 l.fore) := ht1.at' 6 (by omega)
  have c7 : W1.cell? ⟨w.heap.size, 7, none⟩ = some (.int .i64 l.spine) := ht1.at' 7 (by omega)
  have c8 : W1.cell? ⟨w.heap.size, 8, none⟩ = some (.int .i64 l.margin) := ht1.at' 8 (by omega)
  have c9 : W1.cell? ⟨w.heap.size, 9, none⟩ = some (.int .i64 l.creep) := ht1.at' 9 (by omega)
  have c10 : W1.cell? ⟨w.heap.size, 10, none⟩ = some (.int .i64 l.style) := ht1.at' 10 (by omega)
  have HB1 := Lib.hid hb1
  have hob := one_bd hx hr
  have HFW : Hid (fullW l = if l.style = 1 then oneW l * 2 else oneW l) := rfl
  have HFH : Hid (fullH l = if l.style = 2 then oneH l * 2 else oneH l) := rfl
  obtain ⟨a, ha⟩ : ∃ a, a = oneW l := ⟨_, rfl⟩
  obtain ⟨b, hb⟩ : ∃ b, b = oneH l := ⟨_, rfl⟩
  rw [← ha] at HLF hob HFW
  rw [← hb] at HLF hob HFH
  have x1 : IntKind.i64.wrap (a * 2) = a * 2 := IntWalk.i64_in _ (by omega)
  have x2 : IntKind.i64.wrap (b * 2) = b * 2 := IntWalk.i64_in _ (by omega)
  have hst := hr.style
  obtain ⟨st, hsst⟩ : ∃ st, st = l.style := ⟨_, rfl⟩
  rw [← hsst] at HFW HFH hst
  generalize fullW l = FW at *
  generalize fullH l = FH at *
  have HL := Lib.hid (HLF.out W1 HB1.out)
  have HSS := Lib.hid hsst
  clear hb1 ht1 hm hs hx hr hob ha hb HLF
  have hst3 : st = 0 ∨ st = 1 ∨ st = 2 := by omega
  go_enter Try.func21, Try.ntmps21
  go_upto_region 1 with fail
  rw [← hW1]
  clear hW1
  go_wp2_with fail
  refine HL.out.mono ?_
  intro e w2 hret
  obtain ⟨rfl, hb2⟩ := hret
  have c10 := keepCell hb2 c10
  rw [← hsst] at c10
  have HB2 := Lib.hid (bthen HB1.out hb2)
  clear hb2 HL hsst
  rcases hst3 with rfl | rfl | rfl
  · have HR : Hid (RetII FW FH w (.returned (.tuple #[.int .i64 a, .int .i64 b])) w2) := ⟨by rw [HFW.out, HFH.out]; rfl, HB2.out⟩
    go_wp2_with fail
    go_ret2
    exact HR.out
  · have HR : Hid (RetII FW FH w (.returned (.tuple #[.int .i64 (a * 2), .int .i64 b])) w2) := ⟨by rw [HFW.out, HFH.out]; rfl, HB2.out⟩
    go_wp2_with fail
    go_ret2
    exact HR.out
  · have HR : Hid (RetII FW FH w (.returned (.tuple #[.int .i64 a, .int .i64 (b * 2)])) w2) := ⟨by rw [HFW.out, HFH.out]; rfl, HB2.out⟩
    go_wp2_with fail
    go_ret2
    exact HR.out
set_option maxHeartbeats 4000000 in
theorem depth_any (a n : Int) (w : World) (ha : 0 ≤ a ∧ a ≤ 1000) (hn : 0 ≤ n ∧ n ≤ 1000) : Calls Try.prog 60 #[.int .i64 a, .int .i64 n] w fun e w' => e = .returned (.int .i64 (depthV a n)) ∧ w = w' := by
  have x1 : IntKind.i64.wrap (n - 1) = n - 1 := IntWalk.i64_in _ (by omega)
  have x2 : IntKind.i64.wrap (n - 1 - a) = n - 1 - a := IntWalk.i64_in _ (by omega)
  by_cases h : n - 1 - a < a
  · have HD : Hid (depthV a n = n - 1 - a) := by show _ = _; unfold depthV; omega
    go_enter Try.func60, Try.ntmps60
    go_wp2
    go_ret
    exact ⟨by rw [HD.out]; rfl, rfl⟩
  · have HD : Hid (depthV a n = a) := by show _ = _; unfold depthV; omega
    go_enter Try.func60, Try.ntmps60
    go_wp2
    go_ret
    exact ⟨by rw [HD.out]; rfl, rfl⟩
end Go.Proofs.Ytdblibjmgamjeaa
