/-
  The walk of fold's flat. slices.Backward over leaves: the iterator's contract, for every loop body that keeps what lay. Own text, after the guide's text for slices.All. The walk of fold's flipped. slices.Grow at a nil slice, slices.Concat: element type Leaf. Written by concat.py. Own text.
-/
import Derived.Test.YtdblibjmgamjeaaFoldA
import Derived.RangeFuncNested
import Derived.RangeFuncBound
import Derived.RangeFuncCalls
import Derived.RangeFuncLeaves
import Derived.RangeFuncBox
import Derived.Shelf.Abstract
import Derived.Shelf.RegionOpen
import Derived.OwnWalkIn
import Derived.TacticsInMore
import Derived.LoopNIn
import Derived.LoopIn
import Derived.Maps.AppendAt
namespace Go.Proofs.Ytdblibjmgamjeaa
open Go.RowKit
set_option linter.unusedVariables false
theorem elemLeaf : ElemType Try.prog 115 (.agg #[.int .i64 0, .int .i64 0, .bool false, .bool false]) 4 24 := ElemType.mk (by kernel_rfl) rfl (by decide)
theorem elemPile : ElemType Try.prog 111 (.slice none 0 0) 1 24 := ElemType.mk (by kernel_rfl) rfl (by decide)
abbrev PileR (w : World) (v : Value) (xs : List Leaf) : Prop := IsSlice w 4 encLeaf v xs
abbrev PilesU (w : World) (B : Nat) (v : Value) (us : List Value) (ps : List (List Leaf)) : Prop := RowsU encV blkV PileR 111 1 w B v us ps
theorem stabP : Stab PileR blkV := stab_slice 4 encLeaf
/-- Piles that lie, with all their leaves, from block B on. -/
def PilesN (B : Nat) (w : World) (oa : Option Addr) (ps : List (List Leaf)) : Prop := ∃ us, RowsV encV blkV PileR 1 w oa us ps ∧ (∀ a, oa = some a → B ≤ a.block) ∧ ∀ u ∈ us, ∀ b, u.ownBlock = some b → B ≤ b
theorem PilesN.rows1 {B : Nat} {w : World} {oa : Option Addr} {ps : List (List Leaf)} (h : PilesN B w oa ps) : Rows1 w 4 encLeaf oa ps := by
  obtain ⟨us, h1, -, -⟩ := h
  exact h1.rows1
theorem PilesN.below {B : Nat} {w w' : World} {oa : Option Addr} {ps : List (List Leaf)} (h : PilesN B w oa ps) (hb : Below w.heap.size w w') : PilesN B w' oa ps := by
  obtain ⟨us, h1, h2, h3⟩ := h
  exact ⟨us, h1.below stabP hb, h2, h3⟩
/-- Blocks below B may turn. -/
theorem PilesN.heap {B : Nat} {w w' : World} {oa : Option Addr} {ps : List (List Leaf)} (h : PilesN B w oa ps) (hz : w.heap.size ≤ w'.heap.size) (hb : ∀ g, B ≤ g → w'.heap[g]? = w.heap[g]?) : PilesN B w' oa ps := by
  obtain ⟨us, h1, h2, h3⟩ := h
  refine ⟨us, h1.heap stabP hz fun g hg => hb g ?_, h2, h3⟩
  rcases hg with ⟨a, e, rfl⟩ | ⟨u, hu, hg⟩
  · exact h2 a e
  · exact h3 u hu g hg
theorem PilesN.mono {B B' : Nat} {w : World} {oa : Option Addr} {ps : List (List Leaf)} (h : PilesN B w oa ps) (hb : B' ≤ B) : PilesN B' w oa ps := by
  obtain ⟨us, h1, h2, h3⟩ := h
  exact ⟨us, h1, fun a e => Nat.le_trans hb (h2 a e), fun u hu b e => Nat.le_trans hb (h3 u hu b e)⟩
/-- A sheet that is returned. -/
def RetSht (s : Sht) (w : World) (e : Ending) (w' : World) : Prop := ∃ oa cap, e = .returned (.agg #[.int .i64 s.cols, .int .i64 s.rows, .slice oa s.piles.length cap]) ∧ PilesN w.heap.size w' oa s.piles ∧ Below w.heap.size w w'
/-- The sheet under way: its block, and its piles. -/
def outF (x y z : Value) : Nat → Value
  | 0 => x
  | 1 => y
  | _ => z
theorem outF_set (x y z u : Value) : ∀ i, i < 3 → (fun j => if j = 2 then u else outF x y z j) i = outF x y u i := fun i hi => by
  match i, hi with
  | 0, _ => rfl
  | 1, _ => rfl
  | 2, _ => rfl
structure ShtU (w : World) (g : Nat) (wr : World) (x y : Value) (v : Value) (us : List Value) (ps : List (List Leaf)) : Prop where
  bel : Below g w wr
  tab : FTab (fun v : Value => v) wr g 3 (outF x y v)
  ps : PilesU wr (g + 1) v us ps
  lo : ∀ u ∈ us, ∀ b, u.ownBlock = some b → g < b
  lt : g < wr.heap.size
section
variable {w wr w' : World} {g : Nat} {x y v v' u : Value} {us : List Value} {ps : List (List Leaf)}
theorem ShtU.below (h : ShtU w g wr x y v us ps) (hb : Below wr.heap.size wr w') : ShtU w g w' x y v us ps :=
  ⟨h.bel.trans (hb.mono (by have := h.lt; omega)), h.tab.below hb h.lt, h.ps.below stabP hb, h.lo, Nat.lt_of_lt_of_le h.lt hb.size⟩
theorem ShtU.mid (h : ShtU w g wr x y v us ps) (hgr : wr.grownBy w' v.ownBlock) : FTab (fun v : Value => v) w' g 3 (outF x y v) :=
  h.tab.heap (hgr.block g h.lt fun e => by have := (h.ps.op.blk e.symm).1; omega)
/-- A pile is appended, and the slice is stored. -/
theorem ShtU.add (h : ShtU w g wr x y v us ps) {p : List Leaf} (hu : PileR wr u p) (hg : ∀ b, u.ownBlock = some b → b < wr.heap.size ∧ v.ownBlock ≠ some b ∧ g < b) (hown : Own w' (g + 1) 111 1 encV v' (us ++ [u])) (hgr : wr.grownBy w' v.ownBlock) (hat : v'.ownBlock = v.ownBlock ∨ v'.ownBlock = some wr.heap.size) :
    ShtU w g (w'.setCell ⟨g, 2, none⟩ v') x y v' (us ++ [u]) (ps ++ [p]) := by
  have hvg : v.ownBlock ≠ some g := fun e => by have := (h.ps.op.blk e).1; omega
  have htab := h.mid hgr
  have hps := h.ps.add stabP hu (fun b hb => ⟨(hg b hb).1, (hg b hb).2.1⟩) hown hgr hat
  have hv'g : v'.ownBlock ≠ some g := fun e => by
    rcases hat with e2 | e2
    · exact hvg (e2 ▸ e)
    · rw [e2] at e; cases e; exact Nat.lt_irrefl _ h.lt
  have hlo : ∀ y ∈ us ++ [u], ∀ b, y.ownBlock = some b → g < b := fun y hy b hb => by
    rcases List.mem_append.1 hy with h1 | h1
    · exact h.lo y h1 b hb
    · rw [List.mem_singleton.1 h1] at hb; exact (hg b hb).2.2
  have hz := hgr.size
  have hl := h.lt
  refine ⟨?_, ?_, hps.other stabP (a := ⟨g, 2, none⟩) hv'g (fun y hy (e : y.ownBlock = some g) => Nat.lt_irrefl _ (hlo y hy g e)) v', hlo, ?_⟩
  · exact (h.bel.grown hgr (by omega) (fun j hj => by have := (h.ps.op.blk hj).1; omega)).setCell (p := ⟨g, 2, none⟩) (Nat.le_refl _) v'
  · exact (htab.set (i := 2) (by omega) v').congr (outF_set x y v v')
  · simp; omega
/-- The piles, read. -/
theorem ShtU.rows (h : ShtU w g wr x y v us ps) : ∃ oa cap, v = .slice oa ps.length cap ∧ Rows1 wr 4 encLeaf oa ps := by
  obtain ⟨oa, cap, e, -, -, hv⟩ := h.ps.view (fun _ => rfl)
  exact ⟨oa, cap, e, hv.rows1⟩
end
theorem outF_new (w : World) (x y z : Value) (t : TypeId) : FTab (fun v : Value => v) (w.alloc (.cells #[x, y, z] t)) w.heap.size 3 (outF x y z) := by
  refine ⟨fun i hi => ?_, fun o => ?_⟩
  · rw [cell_of_row _ w.heap.size i _ _ (0, 0) (heap_alloc_new w _)]
    match i, hi with
    | 0, _ => rfl
    | 1, _ => rfl
    | 2, _ => rfl
  · unfold World.frozen?
    rw [heap_alloc_new]
    simp
/-- Three cells of a result are stored. -/
def resW (W : World) (t : Nat) (x y z : Value) : World := ((W.setCell ⟨t, 0, none⟩ x).setCell ⟨t, 1, none⟩ y).setCell ⟨t, 2, none⟩ z
structure ResAt (W W' : World) (t : Nat) (x y z : Value) : Prop where
  hp : ∀ k, k ≠ t → W'.heap[k]? = W.heap[k]?
  sz : W'.heap.size = W.heap.size
  bel : ∀ {B : Nat} {w : World}, Below B w W → B ≤ t → Below B w W'
  c0 : W'.cell? ⟨t, 0, none⟩ = some x
  c1 : W'.cell? ⟨t, 1, none⟩ = some y
  c2 : W'.cell? ⟨t, 2, none⟩ = some z
theorem res_set {W : World} {t : Nat} {x y z x0 y0 z0 : Value} (h : FTab (fun v : Value => v) W t 3 (outF x0 y0 z0)) : ResAt W (resW W t x y z) t x y z := by
  have t3 := ((h.set (i := 0) (by omega) x).set (i := 1) (by omega) y).set (i := 2) (by omega) z
  refine ⟨fun k hk => ?_, by unfold resW; simp, fun hb hl => ?_, t3.at' 0 (by omega), t3.at' 1 (by omega), t3.at' 2 (by omega)⟩
  · unfold resW
    rw [Below.heap_setCell _ _ _ _ hk, Below.heap_setCell _ _ _ _ hk, Below.heap_setCell _ _ _ _ hk]
  · exact ((hb.setCell (p := ⟨t, 0, none⟩) hl _).setCell (p := ⟨t, 1, none⟩) hl _).setCell (p := ⟨t, 2, none⟩) hl _
theorem ShtU.done {w wr W' : World} {g t : Nat} {x y v a b c : Value} {us : List Value} {ps : List (List Leaf)} (h : ShtU w g wr x y v us ps) (hR : ResAt wr W' t a b c) (ht : t < g) : ∃ oa cap, v = .slice oa ps.length cap ∧ PilesN g W' oa ps := by
  obtain ⟨oa, cap, e, -, -, hv⟩ := h.ps.view (fun _ => rfl)
  have hk : ∀ ad, oa = some ad → g < ad.block := fun ad e2 => by
    have := (h.ps.op.blk (g := ad.block) (by rw [e, e2]; rfl)).1
    omega
  refine ⟨oa, cap, e, us, hv.heap stabP (by rw [hR.sz]; exact Nat.le_refl _) fun k hk' => hR.hp k ?_, fun ad e2 => Nat.le_of_lt (hk ad e2), fun u hu b' hb => Nat.le_of_lt (h.lo u hu b' hb)⟩
  rcases hk' with ⟨ad, e2, rfl⟩ | ⟨u, hu, hb⟩
  · have := hk ad e2
    omega
  · have := h.lo u hu k hb
    omega
theorem flatRes : Try.f36.results = #[.cell 2 105] := rfl
def preV (C : Nat) (F : Int → Int → List Leaf) (n : Nat) : List (List Leaf) := (List.range n).map fun k => F ((k % C : Nat) : Int) ((k / C : Nat) : Int)
theorem preV_len (C : Nat) (F : Int → Int → List Leaf) (n : Nat) : (preV C F n).length = n := by simp [preV]
set_option maxHeartbeats 4000000 in
theorem flat_any (sc : Sch) (hc : 1 ≤ sc.cols ∧ sc.cols ≤ 8) (hr : 1 ≤ sc.rows ∧ sc.rows ≤ 8) (os : Option Addr) (ns cs : Nat) (w : World) :
    Calls Try.prog 36 #[.agg #[.int .i64 sc.cols, .int .i64 sc.rows, .slice os ns cs]] w (RetSht (flatV sc) w) := by
  obtain ⟨C, hC⟩ : ∃ C : Nat, sc.cols = C := ⟨sc.cols.toNat, by omega⟩
  obtain ⟨R, hR⟩ : ∃ R : Nat, sc.rows = R := ⟨sc.rows.toNat, by omega⟩
  obtain ⟨F, hF⟩ : ∃ F : Int → Int → List Leaf, F = fun c r => [⟨c, r, false, false⟩] := ⟨_, rfl⟩
  have HFV : Hid (flatV sc = ⟨C, R, preV C F (R * C)⟩) := by
    show flatV sc = _
    unfold flatV gridV preV
    rw [hC, hR, hF]
    rfl
  have HF1 : Hid (∀ c r : Int, F c r = [⟨c, r, false, false⟩]) := fun c r => by rw [hF]
  rw [HFV.out, hC, hR]
  have hC8 : C ≤ 8 := by omega
  have hR8 : R ≤ 8 := by omega
  clear hF hC hR hc hr HFV
  obtain ⟨W2, hW2⟩ : ∃ W2, W2 = (w.alloc (.cells #[.int .i64 C, .int .i64 R, .slice os ns cs] 24)).alloc (.cells #[.int .i64 0, .int .i64 0, .slice none 0 0] 105) := ⟨_, rfl⟩
  obtain ⟨W3, hW3⟩ : ∃ W3, W3 = W2.alloc (.cells #[.int .i64 C, .int .i64 R, .slice none 0 0] 105) := ⟨_, rfl⟩
  have hz2 : W2.heap.size = w.heap.size + 1 + 1 := by rw [hW2, World.size_alloc, World.size_alloc]
  have hz3 : W3.heap.size = w.heap.size + 1 + 1 + 1 := by rw [hW3, World.size_alloc, hz2]
  have hb2 : Below w.heap.size w W2 := by rw [hW2]; exact ((Below.refl _ w).alloc (Nat.le_refl _) _).alloc (by simp) _
  have hb3 : Below W2.heap.size W2 W3 := by rw [hW3]; exact balloc (Below.refl _ W2) _
  have ht1 : FTab (fun v : Value => v) W3 w.heap.size 3 (outF (.int .i64 C) (.int .i64 R) (.slice os ns cs)) := by
    have h1 := outF_new w (.int .i64 C) (.int .i64 R) (.slice os ns cs) 24
    have h2 : FTab (fun v : Value => v) W2 w.heap.size 3 (outF (.int .i64 C) (.int .i64 R) (.slice os ns cs)) := by rw [hW2]; exact h1.below (balloc (Below.refl _ _) _) (by simp)
    exact h2.below hb3 (by omega)
  have ht2 : FTab (fun v : Value => v) W3 (w.heap.size + 1) 3 (outF (.int .i64 0) (.int .i64 0) (.slice none 0 0)) := by
    have h1 := outF_new (w.alloc (.cells #[.int .i64 C, .int .i64 R, .slice os ns cs] 24)) (.int .i64 0) (.int .i64 0) (.slice none 0 0) 105
    rw [← hW2, World.size_alloc] at h1
    exact h1.below hb3 (by omega)
  have ht3 : FTab (fun v : Value => v) W3 (w.heap.size + 1 + 1) 3 (outF (.int .i64 C) (.int .i64 R) (.slice none 0 0)) := by
    have h1 := outF_new W2 (.int .i64 C) (.int .i64 R) (.slice none 0 0) 105
    rw [← hW3, hz2] at h1
    exact h1
  have HT1 := Lib.hid ht1
  have HT2 := Lib.hid ht2
  have HB3 : Hid (Below w.heap.size w W3) := bthen hb2 hb3
  have HS : Hid (ShtU W3 (w.heap.size + 1 + 1) W3 (.int .i64 C) (.int .i64 R) (.slice none 0 0) [] (preV C F 0)) := ⟨Below.refl _ _, ht3, RowsU.nil _ _, fun u hu => (by cases hu), by omega⟩
  have HZ3 := Lib.hid hz3
  have HW : Hid (((w.alloc (.cells #[.int .i64 C, .int .i64 R, .slice os ns cs] 24)).alloc (.cells #[.int .i64 0, .int .i64 0, .slice none 0 0] 105)).alloc (.cells #[.int .i64 C, .int .i64 R, .slice none 0 0] 105) = W3) := by show _ = W3; rw [hW3, hW2]
  clear hW2 hW3 hz2 hz3 hb2 hb3 ht1 ht2 ht3 W2
  go_enter Try.func36, Try.ntmps36
  go_upto_region 2 with fail
  rw [HW.out]
  have c0 : W3.cell? ⟨w.heap.size, 0, none⟩ = some (.int .i64 C) := HT1.out.at' 0 (by omega)
  have c1 : W3.cell? ⟨w.heap.size, 1, none⟩ = some (.int .i64 R) := HT1.out.at' 1 (by omega)
  go_wp2_with fail
  go_loopw [13] (fun i wr => ∃ r : Nat, r ≤ R ∧ i = .int .i64 r ∧ Hid (∃ v us, ShtU W3 (w.heap.size + 1 + 1) wr (.int .i64 C) (.int .i64 R) v us (preV C F (r * C)))) (fun i _ => R - (intOf i).toNat)
  case atStart => exact ⟨0, by omega, rfl, _, _, by rw [Nat.zero_mul]; exact HS.out⟩
  case round =>
    clear HS
    obtain ⟨r, hr, rfl, HX⟩ := hrel
    obtain ⟨w4, rfl⟩ : ∃ w4 : World, w4 = wr := ⟨_, rfl⟩
    obtain ⟨v0, us0, hx⟩ := HX.out
    have d0 : w4.cell? ⟨w.heap.size, 0, none⟩ = some (.int .i64 C) := by rw [hx.bel.cell (p := ⟨w.heap.size, 0, none⟩) (by show w.heap.size < _; omega)]; exact c0
    have HX := Lib.hid hx
    clear hx
    by_cases hlt : r < R
    · have kd : (r : Int) < (R : Int) := by omega
      go_wp2_with fail
      go_loopw [18] (fun j wr => ∃ c : Nat, c ≤ C ∧ j = .int .i64 c ∧ Hid (∃ v us, ShtU W3 (w.heap.size + 1 + 1) wr (.int .i64 C) (.int .i64 R) v us (preV C F (r * C + c)))) (fun j _ => C - (intOf j).toNat)
      case atStart => exact ⟨0, by omega, rfl, _, _, HX.out⟩
      case round =>
        clear HX d0
        obtain ⟨c, hc, rfl, HY⟩ := hrel
        obtain ⟨w5, rfl⟩ : ∃ w5 : World, w5 = wr := ⟨_, rfl⟩
        by_cases hct : c < C
        · have cd : (c : Int) < (C : Int) := by omega
          obtain ⟨v, us, hy⟩ := HY.out
          clear HY
          obtain ⟨oa, cap, hv, -⟩ := hy.ps.op.isSlc
          have hlen : us.length = r * C + c := by rw [hy.ps.len, preV_len]
          have hrc : r * C ≤ 8 * 8 := Nat.mul_le_mul (by omega) hC8
          obtain ⟨n, hn⟩ : ∃ n, n = us.length := ⟨_, rfl⟩
          rw [← hn] at hv hlen
          subst hv
          have g2 : w5.cell? ⟨w.heap.size + 1 + 1, 2, none⟩ = some (.slice oa n cap) := hy.tab.at' 2 (by omega)
          have hnb : n ≤ 1000 := by omega
          have HSN : Hid (preV C F (r * C + (c + 1)) = preV C F (r * C + c) ++ [[⟨c, r, false, false⟩]]) := by
            show preV C F (r * C + c + 1) = _
            unfold preV
            rw [grid_snoc (R := 0) F hct, HF1.out]
          have HA := Lib.hid (hy.below (balloc (balloc (Below.refl _ w5) (.cells #[.int .i64 c, .int .i64 r, .bool false, .bool false] 115)) (.cells #[.slice (some ⟨w5.heap.size, 0, none⟩) 1 1] 111)))
          have HP : Hid (PileR ((w5.alloc (.cells #[.int .i64 c, .int .i64 r, .bool false, .bool false] 115)).alloc (.cells #[.slice (some ⟨w5.heap.size, 0, none⟩) 1 1] 111)) (.slice (some ⟨w5.heap.size, 0, none⟩) 1 1) [⟨c, r, false, false⟩]) :=
            (IsSlice.litN w5 4 encLeaf [⟨c, r, false, false⟩] 115 (fun _ => rfl) (by unfold maxLen; simp) 1).below (balloc (Below.refl _ _) _)
          have HNEW : Hid (∀ (j : Nat) (x : Value), (encV (.slice (some ⟨w5.heap.size, 0, none⟩) 1 1))[j]? = some x → ((w5.alloc (.cells #[.int .i64 c, .int .i64 r, .bool false, .bool false] 115)).alloc (.cells #[.slice (some ⟨w5.heap.size, 0, none⟩) 1 1] 111)).cell? ((⟨w5.heap.size + 1, 0, none⟩ : Addr).add j) = some x) := by
            have h := World.news1 (w5.alloc (.cells #[.int .i64 c, .int .i64 r, .bool false, .bool false] 115)) (.slice (some ⟨w5.heap.size, 0, none⟩) 1 1) 111
            rw [World.size_alloc] at h
            exact h
          have HNU := Lib.hid hn
          have HL5 := Lib.hid hy.lt
          have HBEL : Hid (∀ b, (Value.slice oa n cap).ownBlock = some b → b < w5.heap.size) := fun b hb => (hy.ps.op.blk hb).2
          clear hy hlen hrc hn
          go_wp2_with (at_builtin; refine wpList_app1L rfl (.tmp 22) (.tmp 27) 103 rfl elemPile Try.underlying103 (w.heap.size + 1 + 1 + 1) (.slice oa n cap) us encV rfl HA.out.ps.op (.slice (some ⟨w5.heap.size, 0, none⟩) 1 1) ⟨w5.heap.size + 1, 0, none⟩ 1 rfl rfl HNEW.out ?c1 ?c2 ?c3 ?c4 ?_)
          case c1 => simp [encV, Value.oneCell']
          case c2 => have := HNU.out; omega
          case c3 => have := HNU.out; unfold maxLen; omega
          case c4 => have := HL5.out; simp; omega
          intro g' cap' w6 hown hgr hat
          rw [← HNU.out] at hown ⊢
          have HNX : Hid (ShtU W3 (w.heap.size + 1 + 1) (w6.setCell ⟨w.heap.size + 1 + 1, 2, none⟩ (.slice (some ⟨g', 0, none⟩) (n + 1) cap')) (.int .i64 C) (.int .i64 R) (.slice (some ⟨g', 0, none⟩) (n + 1) cap') (us ++ [.slice (some ⟨w5.heap.size, 0, none⟩) 1 1]) (preV C F (r * C + (c + 1)))) := by
            show ShtU _ _ _ _ _ _ _ _
            rw [HSN.out]
            refine HA.out.add HP.out (fun b hb => ?_) hown hgr ?_
            · obtain rfl : w5.heap.size = b := Option.some.inj hb
              refine ⟨by simp; omega, fun e => ?_, HL5.out⟩
              exact absurd (HBEL.out _ e) (Nat.lt_irrefl _)
            · rcases hat with e | e
              · exact .inl e.symm
              · exact .inr (by rw [e]; simp [Value.ownBlock])
          have hmid := HA.out.mid hgr
          have m2 : w6.cell? ⟨w.heap.size + 1 + 1, 2, none⟩ = some (.slice oa n cap) := hmid.at' 2 (by omega)
          have mf := hmid.fz 2
          clear hown hgr hat hmid HA HP HNEW HBEL HSN g2
          go_wp2
          go_roundw
          case rel => exact ⟨c + 1, by omega, by go_num, _, _, HNX.out⟩
          case measure => simp [intOf]; omega
        · obtain rfl : C = c := by omega
          obtain ⟨v, us, hy⟩ := HY.out
          have HY := Lib.hid hy
          clear hy
          go_wp2_with fail
          go_roundw
          case rel => exact ⟨r + 1, by omega, by go_num, v, us, by rw [Nat.add_mul, Nat.one_mul]; exact HY.out⟩
          case measure => simp [intOf]; omega
    · obtain rfl : R = r := by omega
      have hx := HX.out
      have hr2 : FTab (fun v : Value => v) w4 (w.heap.size + 1) 3 (outF (.int .i64 0) (.int .i64 0) (.slice none 0 0)) := HT2.out.below hx.bel (by omega)
      obtain ⟨oa, cap, hv, -⟩ := hx.rows
      rw [preV_len] at hv
      subst hv
      have hrs := res_set (x := .int .i64 C) (y := .int .i64 R) (z := .slice oa (R * C) cap) hr2
      have hbw := hrs.bel (HB3.out.trans (hx.bel.mono (by omega))) (by omega)
      obtain ⟨oa', cap', hv', hrows⟩ := hx.done hrs (by omega)
      rw [preV_len] at hv'
      simp only [Value.slice.injEq] at hv'
      obtain ⟨rfl, -, rfl⟩ := hv'
      have HF : Hid (RetSht ⟨C, R, preV C F (R * C)⟩ w (.returned (.agg #[.int .i64 C, .int .i64 R, .slice oa (R * C) cap])) (resW w4 (w.heap.size + 1) (.int .i64 C) (.int .i64 R) (.slice oa (R * C) cap))) :=
        ⟨oa, cap, by rw [preV_len], hrows.mono (by omega), hbw⟩
      have z0 : w4.cell? ⟨w.heap.size + 1 + 1, 0, none⟩ = some (.int .i64 C) := hx.tab.at' 0 (by omega)
      have z1 : w4.cell? ⟨w.heap.size + 1 + 1, 1, none⟩ = some (.int .i64 R) := hx.tab.at' 1 (by omega)
      have z2 : w4.cell? ⟨w.heap.size + 1 + 1, 2, none⟩ = some (.slice oa (R * C) cap) := hx.tab.at' 2 (by omega)
      have r0 : w4.cell? ⟨w.heap.size + 1, 0, none⟩ = some (.int .i64 0) := hr2.at' 0 (by omega)
      have r1 : w4.cell? ⟨w.heap.size + 1, 1, none⟩ = some (.int .i64 0) := hr2.at' 1 (by omega)
      have r2 : w4.cell? ⟨w.heap.size + 1, 2, none⟩ = some (.slice none 0 0) := hr2.at' 2 (by omega)
      have rf := hr2.fz
      obtain ⟨n, hn⟩ : ∃ n, n = R * C := ⟨_, rfl⟩
      have HRS := Lib.hid hrs
      have HN := Lib.hid hn
      rw [← hn] at z2 HF HRS
      clear hx hr2 hn d0 HX hrs hbw hrows
      repeat (first | go_values | go_skip | go_guarded | go_step | go_upon)
      obtain ⟨W9, hW9⟩ : ∃ W9, W9 = resW w4 (w.heap.size + 1) (.int .i64 C) (.int .i64 R) (.slice oa n cap) := ⟨_, rfl⟩
      rw [← hW9] at HF HRS
      unfold resW at hW9
      rw [← hW9]
      have e0 := HRS.out.c0
      have e1 := HRS.out.c1
      have e2 := HRS.out.c2
      clear hW9
      refine bodyPost_ret (v := .agg #[.int .i64 C, .int .i64 R, .slice oa n cap]) (by simp only [results, flatRes]; go_simp) rfl ?_
      rw [← HN.out]
      exact HF.out
end Go.Proofs.Ytdblibjmgamjeaa
namespace Go.Proofs.Ytdblibjmgamjeaa
open Go.RowKit Go.Shelf
set_option linter.unusedVariables false
attribute [local go_sem] Oper.semAt_some
/-- What has come when k rounds are over: the last k elements, from the end on. -/
def backL (l : List Leaf) (k : Nat) : List (Nat × Leaf) := (List.range k).map fun j => (l.length - 1 - j, l.getD (l.length - 1 - j) ⟨0, 0, false, false⟩)
theorem backL_succ (l : List Leaf) (k : Nat) : backL l (k + 1) = backL l k ++ [(l.length - 1 - k, l.getD (l.length - 1 - k) ⟨0, 0, false, false⟩)] := by
  unfold backL
  rw [List.range_succ, List.map_append]
  rfl
theorem backL_len (l : List Leaf) (k : Nat) : (backL l k).length = k := by simp [backL]
theorem backL_all (l : List Leaf) : (backL l l.length).map Prod.snd = l.reverse := by
  apply List.ext_getElem
  · simp [backL]
  · intro i h1 h2
    have hi : i < l.length := by simpa [backL] using h1
    simp only [backL, List.map_map, List.getElem_map, List.getElem_range, Function.comp]
    rw [List.getElem_reverse, List.getD_eq_getElem?_getD, List.getElem?_eq_getElem (by omega)]
    rfl
def encBk (x : Nat × Leaf) : Array Value := #[.int .i64 (x.1 : Int), .agg #[.int .i64 x.2.col, .int .i64 x.2.row, .bool x.2.fx, .bool x.2.fy]]
theorem Flat.leaf {w : World} {oa : Option Addr} {l : List Leaf} (h : Flat w 4 encLeaf oa l) {i : Nat} (hi : i < l.length) :
    ∃ b off, oa = some ⟨b, off, none⟩ ∧ w.cell? ⟨b, off + i * 4, none⟩ = some (.int .i64 l[i].col) ∧ w.cell? ⟨b, off + i * 4 + 1, none⟩ = some (.int .i64 l[i].row) ∧ w.cell? ⟨b, off + i * 4 + 2, none⟩ = some (.bool l[i].fx) ∧ w.cell? ⟨b, off + i * 4 + 3, none⟩ = some (.bool l[i].fy) := by
  obtain ⟨v0, h0, b, off, e0, c0⟩ := h i hi 0 (by omega)
  obtain ⟨v1, h1, b1, off1, e1, c1⟩ := h i hi 1 (by omega)
  obtain ⟨v2, h2, b2, off2, e2, c2⟩ := h i hi 2 (by omega)
  obtain ⟨v3, h3, b3, off3, e3, c3⟩ := h i hi 3 (by omega)
  rw [e0] at e1 e2 e3
  simp only [Option.some.injEq, Addr.mk.injEq, and_true] at e1 e2 e3
  obtain ⟨rfl, rfl⟩ := e1
  obtain ⟨rfl, rfl⟩ := e2
  obtain ⟨rfl, rfl⟩ := e3
  simp only [encLeaf, List.getElem?_cons_zero, List.getElem?_cons_succ, Option.some.injEq] at h0 h1 h2 h3
  subst h0 h1 h2 h3
  exact ⟨b, off, e0, c0, c1, c2, c3⟩
/-- What a round keeps: whatever lies below n₀, and the box that the iterator reads. -/
def KpB (n₀ Bs : Nat) (W W' : World) : Prop := Below n₀ W W' ∧ ∀ v, W.cell? ⟨Bs, 0, none⟩ = some v → W'.cell? ⟨Bs, 0, none⟩ = some v
theorem kpB_t {n₀ Bs : Nat} {A B C : World} (h : KpB n₀ Bs A B) (k : KpB n₀ Bs B C) : KpB n₀ Bs A C := ⟨h.1.trans k.1, fun v e => k.2 v (h.2 v e)⟩
theorem kpB_b {n₀ Bs : Nat} {w : World} (hn : n₀ ≤ w.heap.size) (W : World) (l : Nat) (o o' : Obj) (hl : w.heap.size ≤ l) (h : W.heap[l]? = some o) (hc : o.isCells = false) (hw : o.isWalk = false) : KpB n₀ Bs W (W.putObj l o') := by
  refine ⟨belowK_b hn W l o o' hl h hc hw, fun v e => ?_⟩
  rw [World.cell?_of_block (w := W) (a := ⟨Bs, 0, none⟩)]
  · exact e
  · refine World.putObj_heap_other fun e2 => ?_
    unfold World.cell? at e
    simp only at e
    have e3 : Bs = l := e2
    rw [e3, h] at e
    cases o <;> simp [Obj.isCells] at hc e
set_option maxRecDepth 100000 in
set_option maxHeartbeats 4000000 in
theorem back1_in (F : Fence) (n : Nat) (hf : F.fn 64) (hro : F.round = none) (hn : 1 ≤ n) (l Bs n₀ : Nat) (oa : Option Addr) (cap : Nat) (xs : List Leaf) (hm : xs.length ≤ 100000) (J Jx : List (Nat × Leaf) → World → Prop)
    (hY : ∀ pre x W, J pre W → pre.length < xs.length → YieldAt F (n - 1) Try.prog l (encBk x) W fun e W' =>
      (e = .returned (.bool true) ∧ J (pre ++ [x]) W' ∧ KpB n₀ Bs W W') ∨ (e = .returned (.bool false) ∧ Jx (pre ++ [x]) W'))
    (W : World) (hBs : W.cell? ⟨Bs, 0, none⟩ = some (.slice oa xs.length cap)) (hfl : ∀ W', Below n₀ W W' → Flat W' 4 encLeaf oa xs) (h0 : J [] W) :
    CallsIn F n Try.prog 64 #[.func (.yield l) #[] #[], .pointer (some ⟨Bs, 0, none⟩)] W fun e W' => (∃ v, e = .returned v) ∧
      ((∃ ys, ys = backL xs xs.length ∧ J ys W') ∨ (∃ pre, True ∧ Jx pre W')) := by
  obtain ⟨m, hmm⟩ : ∃ m, m = xs.length := ⟨_, rfl⟩
  have hm9 : m ≤ 100000 := by omega
  have e1 : IntKind.i64.wrap ((m : Int) - 1) = (m : Int) - 1 := IntWalk.i64_in _ (by omega)
  rw [← hmm] at hBs hY
  have HM := Lib.hid hmm
  clear hm hmm
  refine callsIn_of_wp Try.func64 rfl hf ?_ hro
  simp only [Try.ntmps64, List.size_toArray, List.length_cons, List.length_nil, Nat.reduceAdd, Nat.reduceSub, Array.replicate_succ, Array.replicate_zero, List.push_toArray, List.append_toArray, List.nil_append, List.cons_append]
  gi_wp2
  gi_loopw [3] (fun i wr => ∃ k : Nat, k ≤ m ∧ i = .int .i64 ((m : Int) - 1 - k) ∧ J (backL xs k) wr ∧ KpB n₀ Bs W wr) (fun i _ => (intOf i + 1).toNat)
  case atStart => exact ⟨0, Nat.zero_le _, by simp, h0, Below.refl _ _, fun v e => e⟩
  case round =>
    obtain ⟨k, hk, rfl, hJs, hnx⟩ := hrel
    by_cases hlt : k < m
    · have hx : m - 1 - k < xs.length := by rw [← HM.out]; omega
      obtain ⟨b, off, rfl, c0, c1, c2, c3⟩ := (hfl wr hnx.1).leaf hx
      have hBs' : wr.cell? ⟨Bs, 0, none⟩ = some (.slice (some ⟨b, off, none⟩) m cap) := hnx.2 _ hBs
      have hgd : xs.getD (xs.length - 1 - k) ⟨0, 0, false, false⟩ = xs[m - 1 - k] := by
        rw [← HM.out, List.getD_eq_getElem?_getD, List.getElem?_eq_getElem hx]
        rfl
      obtain ⟨x, hxx⟩ : ∃ x, x = xs[m - 1 - k] := ⟨_, rfl⟩
      rw [← hxx] at c0 c1 c2 c3 hgd
      have hBL : Hid (backL xs (k + 1) = backL xs k ++ [(m - 1 - k, x)]) := by
        show _ = _
        rw [backL_succ, hgd, ← HM.out]
      obtain ⟨q, hq⟩ : ∃ q : Nat, q = m - 1 - k := ⟨_, rfl⟩
      rw [← hq] at c0 c1 c2 c3 hBL
      have eq : (m : Int) - 1 - k = (q : Int) := by omega
      have hq9 : q < m := by omega
      obtain ⟨fn, tmps, assign, body, hy, hR⟩ := hY _ (q, x) wr hJs (by rw [backL_len]; exact hlt)
      dsimp only [encBk] at hy
      have hm8 : k + 1 ≤ m ∧ (q : Int) = (m : Int) - 1 - k := by omega
      have HQ := Lib.hid hm8
      have hb0 : (0 : Int) ≤ (q : Int) := by omega
      rw [eq]
      have ew : IntKind.i64.wrap ((q : Int) - 1) = (q : Int) - 1 := IntWalk.i64_in _ (by omega)
      clear hq eq hm8 hx hgd hxx hlt
      gi_wp2
      refine hR.mono ?_
      rintro e W3 (⟨rfl, hJ3, hk3⟩ | ⟨rfl, hJx3⟩)
      · rw [← hBL.out] at hJ3
        gi_wp2
        go_roundw
        case rel => exact ⟨k + 1, by have := HQ.out; omega, (by have h7 := HQ.out; first | (congr 1; omega) | (simp; omega)), hJ3, kpB_t hnx hk3⟩
        case measure => simp [intOf]
      · gi_wp2
        refine bodyPost_ret (results_none rfl _ _ _) rfl ?_
        exact ⟨⟨_, rfl⟩, .inr ⟨_, trivial, hJx3⟩⟩
    · obtain rfl : k = m := by omega
      have hneg : ¬ (0 : Int) ≤ (k : Int) - 1 - k := by omega
      gi_wp2
      go_end0
      have HJ : J (backL xs xs.length) wr := by rw [← HM.out]; exact hJs
      exact ⟨⟨_, rfl⟩, .inl HJ⟩
set_option maxHeartbeats 1000000 in
theorem backward_in (F : Fence) (n : Nat) (hf : F.fn 62) (hro : F.round = none) (a : Option Addr) (len cap : Nat) (w : World) :
    CallsIn F n Try.prog 62 #[.slice a len cap] w fun e w' => e = .returned (.func (.func 64) #[] #[.pointer (some ⟨w.heap.size, 0, none⟩)]) ∧ w' = w.alloc (.cells #[.slice a len cap] 111) := by
  refine callsIn_of_wp Try.func62 rfl hf ?_ hro
  simp only [Try.ntmps62, List.size_toArray, List.length_cons, List.length_nil, Nat.reduceAdd, Nat.reduceSub, Array.replicate_succ, Array.replicate_zero, List.push_toArray, List.append_toArray, List.nil_append, List.cons_append]
  gi_wp2
  go_ret
  exact ⟨rfl, rfl⟩
/-- slices.Backward hands back a value with the iterator's contract. -/
theorem back_stops (F : Fence) (n : Nat) (hf : F.fn 64) (hro : F.round = none) (hn : 1 ≤ n) (Bs n₀ : Nat) (oa : Option Addr) (cap : Nat) (xs : List Leaf) (hm : xs.length ≤ 100000) (w : World) (hs : Bs < w.heap.size) (hn₀ : n₀ ≤ w.heap.size)
    (hc : w.cell? ⟨Bs, 0, none⟩ = some (.slice oa xs.length cap)) (hfl : ∀ W', Below n₀ w W' → Flat W' 4 encLeaf oa xs) :
    SeqStopsK F n Try.prog 64 #[.pointer (some ⟨Bs, 0, none⟩)] encBk (KpB n₀ Bs) (fun ys => ys = backL xs xs.length) (fun _ => True) xs.length w := fun l J Jx W hW _ _ hY h0 =>
  back1_in F n hf hro hn l Bs n₀ oa cap xs hm J Jx hY W ((hW.cell (p := ⟨Bs, 0, none⟩) hs).trans hc) (fun W' hb => hfl W' ((hW.mono hn₀).trans hb)) h0
end Go.Proofs.Ytdblibjmgamjeaa
namespace Go.Proofs.Ytdblibjmgamjeaa
open Go.RowKit Go.Shelf
set_option linter.unusedVariables false
attribute [local go_sem] Oper.semAt_some
theorem cellD_setCell_same {w : World} {b o : Nat} {v u : Value} (h : w.cell? ⟨b, o, none⟩ = some u) : (w.setCell ⟨b, o, none⟩ v).cell? ⟨b, o, none⟩ = some v := World.cell?_setCell_same' _ _ _ (by rw [h]; rfl)
/-- A leaf in a block of its own. -/
structure LeafAt (W : World) (B : Nat) (x : Leaf) : Prop where
  c0 : W.cell? ⟨B, 0, none⟩ = some (.int .i64 x.col)
  c1 : W.cell? ⟨B, 1, none⟩ = some (.int .i64 x.row)
  c2 : W.cell? ⟨B, 2, none⟩ = some (.bool x.fx)
  c3 : W.cell? ⟨B, 3, none⟩ = some (.bool x.fy)
  fz : ∀ o, W.frozen? ⟨B, o, none⟩ = false
theorem LeafAt.new (w : World) (x : Leaf) (t : TypeId) : LeafAt (w.alloc (.cells #[.int .i64 x.col, .int .i64 x.row, .bool x.fx, .bool x.fy] t)) w.heap.size x := by
  refine ⟨?_, ?_, ?_, ?_, fun o => ?_⟩
  iterate 4 (rw [cell_of_row _ w.heap.size _ _ _ (0, 0) (heap_alloc_new w _)]; rfl)
  unfold World.frozen?
  rw [heap_alloc_new]
  simp
theorem LeafAt.own (B : Nat) (x : Leaf) : ∀ (X Y : World) (row : Option Nat), LeafAt X B x → X.grownBy Y row → (∀ r, row = some r → ∃ o : Obj, X.heap[r]? = some o ∧ o.isCells = false) → LeafAt Y B x := fun X Y row h hg hr =>
  ⟨cell_kept h.c0 hg hr, cell_kept h.c1 hg hr, cell_kept h.c2 hg hr, cell_kept h.c3 hg hr, fun o => by
    have hne : some B ≠ row := fun e => by
      obtain ⟨ob, ho, hc⟩ := hr B e.symm
      have h0 := h.c0
      unfold World.cell? at h0
      simp only at h0
      rw [ho] at h0
      cases ob <;> simp [Obj.isCells] at hc h0
    rw [World.frozen?_of_block (w := X) (a := ⟨B, o, none⟩) (hg.block B (cell?_lt h.c0) hne)]
    exact h.fz o⟩
theorem flipV_snoc (s : Bool) (pre : List (Nat × Leaf)) (x : Nat × Leaf) : ((pre ++ [x]).map Prod.snd).map (flip1 s) = (pre.map Prod.snd).map (flip1 s) ++ [flip1 s x.2] := by simp
def outL (s : Bool) (pre : List (Nat × Leaf)) : List Leaf := (pre.map Prod.snd).map (flip1 s)
theorem outL_len (s : Bool) (pre : List (Nat × Leaf)) : (outL s pre).length = pre.length := by simp [outL]
theorem outL_all (s : Bool) (l : List Leaf) : outL s (backL l l.length) = flipV s l := by
  unfold outL flipV
  rw [backL_all]
theorem grownBy_setCellO (W : World) (b o : Nat) (v : Value) : W.grownBy (W.setCell ⟨b, o, none⟩ v) (some b) :=
  ⟨rfl, rfl, rfl, (KeepsWalks.setCell W _ v).size, fun k _ hk => Below.heap_setCell _ _ _ k (fun e => hk (by rw [e]))⟩
theorem cellO_ne {w : World} {g o o' : Nat} {v : Value} (h : o ≠ o') : (w.setCell ⟨g, o', none⟩ v).cell? ⟨g, o, none⟩ = w.cell? ⟨g, o, none⟩ := fcell_ne h
theorem LeafAt.flipX {W : World} {B : Nat} {x : Leaf} (h : LeafAt W B x) : LeafAt (W.setCell ⟨B, 2, none⟩ (.bool (!x.fx))) B ⟨x.col, x.row, !x.fx, x.fy⟩ :=
  ⟨by rw [cellO_ne (by decide)]; exact h.c0, by rw [cellO_ne (by decide)]; exact h.c1, cellD_setCell_same h.c2, by rw [cellO_ne (by decide)]; exact h.c3, fun o => by rw [World.frozen?_setCell]; exact h.fz o⟩
theorem LeafAt.flipY {W : World} {B : Nat} {x : Leaf} (h : LeafAt W B x) : LeafAt (W.setCell ⟨B, 3, none⟩ (.bool (!x.fy))) B ⟨x.col, x.row, x.fx, !x.fy⟩ :=
  ⟨by rw [cellO_ne (by decide)]; exact h.c0, by rw [cellO_ne (by decide)]; exact h.c1, by rw [cellO_ne (by decide)]; exact h.c2, cellD_setCell_same h.c3, fun o => by rw [World.frozen?_setCell]; exact h.fz o⟩
/-- Behind the store into the round's own leaf. -/
structure MidF (W W' : World) (s : Bool) (Bo Bs Bn Bx n₀ : Nat) (v sv : Value) (T : Nat) (k : Nat) (zs : List Value) (y : Leaf) : Prop where
  o : Boxed W' Bo 111 v
  r : W'.ownsRow n₀ 115 4 v k zs
  s : Boxed W' Bs 4 (.bool s)
  n : Boxed W' Bn 111 sv
  b : Below n₀ W W'
  k : KeepsOthers W W'
  x : LeafAt W' Bx y
theorem midF {W : World} {s : Bool} {Bo Bs Bn Bx n₀ : Nat} {v sv : Value} {T k : Nat} {zs : List Value} {y y' : Leaf} {o : Nat} {u : Value} (ho : Boxed W Bo 111 v) (hr : W.ownsRow n₀ 115 4 v k zs) (hs : Boxed W Bs 4 (.bool s)) (hn : Boxed W Bn 111 sv)
    (h1 : Bo < Bx) (h2 : Bs < Bx) (h3 : Bn < Bx) (h4 : n₀ ≤ Bx) (hg : v.ownBlock ≠ some Bx) (hx : LeafAt (W.setCell ⟨Bx, o, none⟩ u) Bx y') : MidF W (W.setCell ⟨Bx, o, none⟩ u) s Bo Bs Bn Bx n₀ v sv T k zs y' := by
  have hgr := grownBy_setCellO W Bx o u
  refine ⟨ho.kept hgr (fun e => by cases e; omega), hr.kept hgr (.inr hg), hs.kept hgr (fun e => by cases e; omega), hn.kept hgr (fun e => by cases e; omega), (Below.refl _ W).setCell (p := ⟨Bx, o, none⟩) h4 _, KeepsOthers.setCell _ _ _, hx⟩
/-- A slice of the call's own that reads as xs. -/
def RetLeaves (xs : List Leaf) (w : World) (e : Ending) (w' : World) : Prop := ∃ v, e = .returned v ∧ Own w' w.heap.size 115 4 encLeaf v xs ∧ Below w.heap.size w w'
set_option maxRecDepth 100000 in
set_option maxHeartbeats 8000000 in
theorem flipped_in (F : Fence) (n : Nat) (h1 : F.fn 57) (h2 : F.fn 62) (h3 : F.fn 64) (hro : F.round = none) (hn : 3 ≤ n) (s : Bool) (oa : Option Addr) (cap : Nat) (xs : List Leaf) (hm : xs.length ≤ 100000) (w : World) (hfl : Flat w 4 encLeaf oa xs) :
    CallsIn F n Try.prog 57 #[.slice oa xs.length cap, .bool s] w (RetLeaves (flipV s xs) w) := by
  have hn1 : 1 ≤ n := by omega
  obtain ⟨m, hmm⟩ : ∃ m, m = xs.length := ⟨_, rfl⟩
  obtain ⟨W1, hW1⟩ : ∃ W1, W1 = (w.alloc (.cells #[.bool s] 4)).alloc (.cells #[.slice none 0 0] 111) := ⟨_, rfl⟩
  obtain ⟨W2, hW2⟩ : ∃ W2, W2 = W1.alloc (.cells #[.slice oa m cap] 111) := ⟨_, rfl⟩
  have bS : Boxed W2 w.heap.size 4 (.bool s) := by rw [hW2, hW1]; exact ((Boxed.new w _ _).alloc _).alloc _
  have bO : Boxed W2 (w.heap.size + 1) 111 (.slice none 0 0) := by
    have h := (Boxed.new (w.alloc (.cells #[.bool s] 4)) 111 (.slice none 0 0)).alloc (.cells #[.slice oa m cap] 111)
    rw [World.size_alloc] at h
    rw [hW2, hW1]; exact h
  have hz1 : W1.heap.size = w.heap.size + 1 + 1 := by rw [hW1, World.size_alloc, World.size_alloc]
  have hz2 : W2.heap.size = w.heap.size + 3 := by rw [hW2, World.size_alloc, hz1]
  have bN : Boxed W2 (w.heap.size + 1 + 1) 111 (.slice oa m cap) := by
    have h := Boxed.new W1 111 (.slice oa m cap)
    rw [← hW2, hz1] at h
    exact h
  have hB0 : Below w.heap.size w W2 := by rw [hW2, hW1]; exact (((Below.refl _ w).alloc (Nat.le_refl _) _).alloc (by simp) _).alloc (by simp; omega) _
  rw [← hmm]
  have HW1 : Hid ((w.alloc (.cells #[.bool s] 4)).alloc (.cells #[.slice none 0 0] 111) = W1) := hW1.symm
  have HW2 : Hid (W1.alloc (.cells #[.slice oa m cap] 111) = W2) := hW2.symm
  have HM := Lib.hid hmm
  have HFL := Lib.hid hfl
  clear hW1 hW2 hmm hfl
  refine callsIn_of_wp_marks Try.func57 rfl h1 ?_ hro
  simp only [Try.ntmps57, List.size_toArray, List.length_cons, List.length_nil, Nat.reduceAdd, Nat.reduceSub, Array.replicate_succ, Array.replicate_zero, List.push_toArray, List.append_toArray, List.nil_append, List.cons_append]
  gi_wp2_with (rw [HW1.out]; gi_at_call 62; refine (backward_in F (n - 1) h2 hro _ _ _ _).mono ?_; rintro e w' ⟨rfl, rfl⟩)
  rw [HW2.out]
  have HRW : Hid (∀ W', Below w.heap.size W2 W' → Flat W' 4 encLeaf oa xs) := fun W' hb => HFL.out.below (hB0.trans hb)
  have HC : Hid (W2.cell? ⟨w.heap.size + 1 + 1, 0, none⟩ = some (.slice oa xs.length cap)) := by
    show _ = _
    rw [← HM.out]; exact bN.cell
  obtain ⟨i0, hi, hz0, hz1', hz2', hz3, hz4⟩ := elemLeaf
  refine wpIn_rangeFunc_ownH hro hn1 (gf := 64) (lb := #[.pointer (some ⟨w.heap.size + 1 + 1, 0, none⟩)]) rfl h3 (enters_of Try.func64 (by kernel_rfl) rfl)
    (back_stops F (n - 1) h3 hro (by omega) (w.heap.size + 1 + 1) w.heap.size oa cap xs hm W2 (by omega) (by omega) HC.out HRW.out) kpB_t (kpB_b (by omega)) (Below.refl _ _) (fun _ => rfl)
    (fun pre W => (((∃ v, Boxed W (w.heap.size + 1) 111 v ∧ W.ownsRow w.heap.size 115 4 v (outL s pre).length ((outL s pre).flatMap encLeaf) ∧ True) ∧ Boxed W w.heap.size 4 (.bool s)) ∧ Boxed W (w.heap.size + 1 + 1) 111 (.slice oa m cap)) ∧ Below w.heap.size w W)
    (fun _ _ _ => False)
    (OwnFrom.and (OwnFrom.and (OwnFrom.and (Own.from (holdsRow_own w.heap.size (w.heap.size + 1) 111 115 4 (fun pre => (outL s pre).length) (fun pre => (outL s pre).flatMap encLeaf) (fun _ _ => True)) _) (Own.from (boxed_own _ _ _) _)) (Own.from (boxed_own _ _ _) _)) (ownFrom_below (Nat.le_refl _) (by omega)))
    (fun _ _ _ _ _ hs _ _ => hs)
    ⟨⟨⟨⟨_, bO, World.ownsRow_nil _ _ _ _, trivial⟩, bS⟩, bN⟩, hB0⟩
    (fun x a' W => ∃ Bx v, w.heap.size + 1 + 1 < Bx ∧ (LeafAt W Bx x.2 ∧ Boxed W (w.heap.size + 1) 111 v ∧ v.ownBlock ≠ some Bx) ∧ a' = { tmps := #[.slice oa m cap, .bool s, undef, .pointer (some ⟨w.heap.size, 0, none⟩), .slice none 0 0, .pointer (some ⟨w.heap.size + 1, 0, none⟩), undef, .pointer (some ⟨Bx, 0, none⟩), .slice oa m cap, .func (.func 64) #[] #[.pointer (some ⟨w.heap.size + 1 + 1, 0, none⟩)], .int .i64 (x.1 : Int), .agg #[.int .i64 x.2.col, .int .i64 x.2.row, .bool x.2.fx, .bool x.2.fy], undef, undef, undef, undef, undef, undef, undef, undef, undef, undef, undef, undef, undef, undef], defers := [] })
    (fun x a' _ X Y row hs hg hr => by obtain ⟨Bx, v, g1, ⟨g2, g3, g4⟩, g5⟩ := hs; exact ⟨Bx, v, g1, ⟨LeafAt.own Bx x.2 X Y row g2 hg (fun r e => (hr r e).2), boxed_own (w.heap.size + 1) _ (fun (_ : Unit) => v) () X Y row g3 hg (fun r e => (hr r e).2), g4⟩, g5⟩)
    ?assign ?body ?done ?stop
  case assign =>
    rintro l pre x W K ⟨⟨⟨⟨v, bO1, hr1, -⟩, bS1⟩, bN1⟩, hB1⟩ hK
    obtain ⟨xi, xl⟩ := x
    dsimp only [encBk]
    gi_wp2
    exact hK _ _ ((KeepsOthers.alloc _ _).from _) ⟨(Below.refl _ W).alloc hB1.size _, fun v e => by rw [World.cell?_of_block (w := W) (a := ⟨_, 0, none⟩) (Below.heap_alloc W _ _ (cell?_lt e))]; exact e⟩ ⟨⟨⟨⟨v, bO1.alloc _, hr1.alloc _, trivial⟩, bS1.alloc _⟩, bN1.alloc _⟩, hB1.alloc hB1.size _⟩ ⟨W.heap.size, v, bN1.lt, ⟨LeafAt.new W xl _, bO1.alloc _, fun e => Nat.lt_irrefl _ (World.ownsRow.lt hr1 _ e).2⟩, rfl⟩
  case body =>
    rintro l pre x a' W hl ⟨r, hr⟩ ⟨⟨⟨⟨v, bO1, hr1, -⟩, bS1⟩, bN1⟩, hB1⟩ ⟨Bx, v2, hBx, ⟨bX, bO2, hvx⟩, rfl⟩ hlt
    have hcO := bO1.cell
    have hcS := bS1.cell
    obtain ⟨xi, x⟩ := x
    simp only at bX
    have hlen : (outL s pre).length ≤ 100000 := by rw [outL_len]; omega
    obtain ⟨k, hk⟩ : ∃ k, k = (outL s pre).length := ⟨_, rfl⟩
    obtain ⟨oa2, cap2, hv, -⟩ := Own.isSlc (xs := outL s pre) (enc := encLeaf) (show Go.Proofs.Ytdblibjmgamjeaa.Own W w.heap.size 115 4 encLeaf v (outL s pre) from hr1)
    rw [← hk] at hv hr1 hlen
    have HK := Lib.hid hk
    clear hk
    obtain rfl : v = v2 := by
      have h5 := bO1.cell
      rw [bO2.cell] at h5
      exact (Option.some.inj h5).symm
    subst hv
    clear bO2
    cases s with
    | true =>
      have hm2 : MidF W (W.setCell ⟨Bx, 2, none⟩ (.bool (!x.fx))) true (w.heap.size + 1) w.heap.size (w.heap.size + 1 + 1) Bx w.heap.size (.slice oa2 k cap2) (.slice oa m cap) 0 k ((outL true pre).flatMap encLeaf) ⟨x.col, x.row, !x.fx, x.fy⟩ :=
        midF (y := x) bO1 hr1 bS1 bN1 (by omega) (by omega) (by omega) (by omega) hvx bX.flipX
      have q2 := bX.c2
      have qf := bX.fz
      have p0 := hm2.x.c0
      have p1 := hm2.x.c1
      have p2 := hm2.x.c2
      have p3 := hm2.x.c3
      have po := hm2.o.cell
      have HM2 := Lib.hid hm2
      have HB1 := Lib.hid hB1
      have HN1 := Lib.hid bN1
      have hnew : Hid (∀ (j : Nat) (u : Value), (encLeaf ⟨x.col, x.row, !x.fx, x.fy⟩)[j]? = some u → ((W.setCell ⟨Bx, 2, none⟩ (.bool (!x.fx))).alloc (.cells #[.int .i64 x.col, .int .i64 x.row, .bool (!x.fx), .bool x.fy] 115)).cell? ((⟨W.heap.size, 0, none⟩ : Addr).add j) = some u) := by
        have h := World.news_of_block (cs := #[.int .i64 x.col, .int .i64 x.row, .bool (!x.fx), .bool x.fy]) (t := 115) (fr := (0, 0)) (heap_alloc_new (W.setCell ⟨Bx, 2, none⟩ (.bool (!x.fx))) _)
        rw [World.size_setCell] at h
        exact h
      clear hm2 hB1 bO1 hr1 bS1 bN1 bX
      gi_wp2_with (gi_at_builtin; refine wpListIn_append_own _ rfl _ _ 111 rfl w.heap.size 115 i0 (.agg #[.int .i64 0, .int .i64 0, .bool false, .bool false]) 4 24 Try.underlying111 hi hz0 hz1' hz2' rfl (by decide) _ _ _ rfl (HM2.out.r.alloc _) ⟨W.heap.size, 0, none⟩ 1 1 (encLeaf ⟨x.col, x.row, !x.fx, x.fy⟩) rfl rfl hnew.out ?c1 ?c2 ?c3 ?c4 ?_)
      case c1 => simp [encLeaf, Value.oneCell']
      case c2 => unfold maxLen; omega
      case c3 => omega
      case c4 => have := HB1.out.size; simp; omega
      intro v' w1 hown' hgrow _
      obtain ⟨g', cap', rfl⟩ := ownsRow_succ hown'
      obtain ⟨hv1, hv2, hr2, hk2, hb2⟩ := HM2.out.o.appended (by decide) HM2.out.r (by have := HB1.out.size; simp; omega) (by omega) hown' hgrow
      have hs2 := ((HM2.out.s.alloc _).kept hgrow (HM2.out.s.not_row (by decide) HM2.out.r)).other (show w.heap.size ≠ w.heap.size + 1 by omega) (.slice (some ⟨g', 0, none⟩) (k + 1) cap')
      have hn2 := ((HM2.out.n.alloc _).kept hgrow (HM2.out.n.not_row (by decide) HM2.out.r)).other (show w.heap.size + 1 + 1 ≠ w.heap.size + 1 by omega) (.slice (some ⟨g', 0, none⟩) (k + 1) cap')
      have hc1 := hv1.cell
      have hf1 := hv1.frozen
      have HK1 := Lib.hid (HM2.out.k.trans hk2)
      have HB2 := Lib.hid (HM2.out.b.trans hb2)
      have HO : Hid (∃ v, Boxed (w1.setCell ⟨w.heap.size + 1, 0, none⟩ (.slice (some ⟨g', 0, none⟩) (k + 1) cap')) (w.heap.size + 1) 111 v ∧ (w1.setCell ⟨w.heap.size + 1, 0, none⟩ (.slice (some ⟨g', 0, none⟩) (k + 1) cap')).ownsRow w.heap.size 115 4 v (outL true (pre ++ [(xi, x)])).length ((outL true (pre ++ [(xi, x)])).flatMap encLeaf) ∧ True) := by
        refine ⟨_, hv2, ?_, trivial⟩
        have e : outL true (pre ++ [(xi, x)]) = outL true pre ++ [⟨x.col, x.row, !x.fx, x.fy⟩] := flipV_snoc true pre (xi, x)
        rw [e, List.length_append, List.flatMap_append, ← HK.out]
        simpa using hr2
      have HS2 := Lib.hid hs2
      have HN2 := Lib.hid hn2
      clear hv1 hv2 hr2 hk2 hb2 hs2 hn2 hown' hgrow hnew
      gi_wp2
      exact ⟨HK1.out.from _, ⟨HB2.out, fun u e => by rw [HN1.out.cell] at e; cases e; exact HN2.out.cell⟩, ⟨⟨HO.out, HS2.out⟩, HN2.out⟩, HB1.out.trans HB2.out⟩
    | false =>
      have hm2 : MidF W (W.setCell ⟨Bx, 3, none⟩ (.bool (!x.fy))) false (w.heap.size + 1) w.heap.size (w.heap.size + 1 + 1) Bx w.heap.size (.slice oa2 k cap2) (.slice oa m cap) 0 k ((outL false pre).flatMap encLeaf) ⟨x.col, x.row, x.fx, !x.fy⟩ :=
        midF (y := x) bO1 hr1 bS1 bN1 (by omega) (by omega) (by omega) (by omega) hvx bX.flipY
      have q2 := bX.c3
      have qf := bX.fz
      have p0 := hm2.x.c0
      have p1 := hm2.x.c1
      have p2 := hm2.x.c2
      have p3 := hm2.x.c3
      have po := hm2.o.cell
      have HM2 := Lib.hid hm2
      have HB1 := Lib.hid hB1
      have HN1 := Lib.hid bN1
      have hnew : Hid (∀ (j : Nat) (u : Value), (encLeaf ⟨x.col, x.row, x.fx, !x.fy⟩)[j]? = some u → ((W.setCell ⟨Bx, 3, none⟩ (.bool (!x.fy))).alloc (.cells #[.int .i64 x.col, .int .i64 x.row, .bool x.fx, .bool (!x.fy)] 115)).cell? ((⟨W.heap.size, 0, none⟩ : Addr).add j) = some u) := by
        have h := World.news_of_block (cs := #[.int .i64 x.col, .int .i64 x.row, .bool x.fx, .bool (!x.fy)]) (t := 115) (fr := (0, 0)) (heap_alloc_new (W.setCell ⟨Bx, 3, none⟩ (.bool (!x.fy))) _)
        rw [World.size_setCell] at h
        exact h
      clear hm2 hB1 bO1 hr1 bS1 bN1 bX
      gi_wp2_with (gi_at_builtin; refine wpListIn_append_own _ rfl _ _ 111 rfl w.heap.size 115 i0 (.agg #[.int .i64 0, .int .i64 0, .bool false, .bool false]) 4 24 Try.underlying111 hi hz0 hz1' hz2' rfl (by decide) _ _ _ rfl (HM2.out.r.alloc _) ⟨W.heap.size, 0, none⟩ 1 1 (encLeaf ⟨x.col, x.row, x.fx, !x.fy⟩) rfl rfl hnew.out ?c1 ?c2 ?c3 ?c4 ?_)
      case c1 => simp [encLeaf, Value.oneCell']
      case c2 => unfold maxLen; omega
      case c3 => omega
      case c4 => have := HB1.out.size; simp; omega
      intro v' w1 hown' hgrow _
      obtain ⟨g', cap', rfl⟩ := ownsRow_succ hown'
      obtain ⟨hv1, hv2, hr2, hk2, hb2⟩ := HM2.out.o.appended (by decide) HM2.out.r (by have := HB1.out.size; simp; omega) (by omega) hown' hgrow
      have hs2 := ((HM2.out.s.alloc _).kept hgrow (HM2.out.s.not_row (by decide) HM2.out.r)).other (show w.heap.size ≠ w.heap.size + 1 by omega) (.slice (some ⟨g', 0, none⟩) (k + 1) cap')
      have hn2 := ((HM2.out.n.alloc _).kept hgrow (HM2.out.n.not_row (by decide) HM2.out.r)).other (show w.heap.size + 1 + 1 ≠ w.heap.size + 1 by omega) (.slice (some ⟨g', 0, none⟩) (k + 1) cap')
      have hc1 := hv1.cell
      have hf1 := hv1.frozen
      have HK1 := Lib.hid (HM2.out.k.trans hk2)
      have HB2 := Lib.hid (HM2.out.b.trans hb2)
      have HO : Hid (∃ v, Boxed (w1.setCell ⟨w.heap.size + 1, 0, none⟩ (.slice (some ⟨g', 0, none⟩) (k + 1) cap')) (w.heap.size + 1) 111 v ∧ (w1.setCell ⟨w.heap.size + 1, 0, none⟩ (.slice (some ⟨g', 0, none⟩) (k + 1) cap')).ownsRow w.heap.size 115 4 v (outL false (pre ++ [(xi, x)])).length ((outL false (pre ++ [(xi, x)])).flatMap encLeaf) ∧ True) := by
        refine ⟨_, hv2, ?_, trivial⟩
        have e : outL false (pre ++ [(xi, x)]) = outL false pre ++ [⟨x.col, x.row, x.fx, !x.fy⟩] := flipV_snoc false pre (xi, x)
        rw [e, List.length_append, List.flatMap_append, ← HK.out]
        simpa using hr2
      have HS2 := Lib.hid hs2
      have HN2 := Lib.hid hn2
      clear hv1 hv2 hr2 hk2 hb2 hs2 hn2 hown' hgrow hnew
      gi_wp2
      exact ⟨HK1.out.from _, ⟨HB2.out, fun u e => by rw [HN1.out.cell] at e; cases e; exact HN2.out.cell⟩, ⟨⟨HO.out, HS2.out⟩, HN2.out⟩, HB1.out.trans HB2.out⟩
  case done =>
    rintro D ys W hD rfl ⟨⟨⟨⟨v, bO1, hr1, -⟩, bS1⟩, bN1⟩, hB1⟩ hK
    obtain ⟨k, hk⟩ : ∃ k, k = (outL s (backL xs xs.length)).length := ⟨_, rfl⟩
    obtain ⟨oa2, cap2, hv, -⟩ := Own.isSlc (xs := outL s (backL xs xs.length)) (enc := encLeaf) (show Go.Proofs.Ytdblibjmgamjeaa.Own W w.heap.size 115 4 encLeaf v (outL s (backL xs xs.length)) from hr1)
    rw [← hk] at hv
    subst hv
    have cO := bO1.cell
    have HF : Hid (RetLeaves (flipV s xs) w (.returned (.slice oa2 k cap2)) (W.putObj D (.deferred none))) := by
      refine ⟨_, rfl, ?_, hB1.trans (belowK_b (w := W2) (by omega) W D _ _ hD hK rfl rfl)⟩
      rw [outL_all] at hr1
      exact ownsRow_putObj hr1 _ hK rfl
    clear hr1 bO1 bS1 bN1 hB1 hk
    gi_wp2
    refine ⟨by simp, .inl ⟨_, _, rfl, run_takeDeferred hK, ?_⟩⟩
    refine ⟨_, results_tmp (show Try.f57.results = #[.tmp 4] from rfl) _ _ _, ?_⟩
    exact HF.out
  case stop =>
    rintro D c pre W _ _ h _
    exact h.elim
theorem flipped_any (s : Bool) (oa : Option Addr) (cap : Nat) (xs : List Leaf) (hm : xs.length ≤ 100000) (w : World) (hfl : Flat w 4 encLeaf oa xs) :
    Calls Try.prog 57 #[.slice oa xs.length cap, .bool s] w (RetLeaves (flipV s xs) w) :=
  (callsIn_wide (n := 3)).1 (flipped_in Fence.wide 3 trivial trivial trivial rfl (Nat.le_refl _) s oa cap xs hm w hfl)
end Go.Proofs.Ytdblibjmgamjeaa
namespace Go.Proofs.Ytdblibjmgamjeaa
open Go.RowKit
set_option linter.unusedVariables false
/-- Returns a slice of its own, with nothing in it. -/
def RetOwnLeaf (w : World) (e : Ending) (w' : World) : Prop := ∃ v, e = .returned v ∧ Own w' w.heap.size 115 4 encLeaf v ([] : List Leaf) ∧ Below w.heap.size w w'
set_option maxRecDepth 100000 in
set_option maxHeartbeats 1000000 in
theorem growLeaf (n : Nat) (w : World) (hn : n * 24 ≤ 281474976710656) (h63 : n ≤ maxLen) :
    Calls Try.prog 63 #[.slice none 0 0, .int .i64 n] w (RetOwnLeaf w) := by
  have hn63 : (n : Int) ≤ 9223372036854775807 := by unfold maxLen at h63; omega
  cases Nat.eq_zero_or_pos n with
  | inl h =>
    subst h
    have HF := Lib.hid (show RetOwnLeaf w (.returned (.slice none 0 0)) w from ⟨_, rfl, Own.nil _ _ _ _ _, Below.refl _ _⟩)
    go_enter Try.func63, Try.ntmps63
    go_wp2
    go_ret
    exact HF.out
  | inr h =>
    obtain ⟨i0, hi, hz, hsz, hby, hzs, h0⟩ := elemLeaf
    have hr := Lib.run_append_nil_zeros (P := Try.prog) w 111 3 111 115 i0 _ .i64 .i64 Try.underlying111 Try.underlying3 hi hz n h (by omega) hn63 (by rw [hby]; exact hn)
    have hcap := grownCap_ge w n 0 115
    have hcap2 := grownCap_le_maxLen w n 0 115 h63
    generalize grownCap w n 0 115 = cc at *
    generalize hcur : (Builtin.zeroCells _ n ++ Builtin.zeroCells _ (cc - n)) = cur at hr
    have hcs : cur.size = cc * 4 := by
      rw [← hcur, Array.size_append, size_zeroCells, size_zeroCells, hzs, ← Nat.add_mul]
      congr 1
      omega
    clear hcur
    have HR := Lib.hid hr; clear hr
    have hcc9 : (cc : Int) ≤ 9223372036854775807 := by unfold maxLen at hcap2; omega
    have hown : Own (w.alloc (.cells cur 115)) w.heap.size 115 4 encLeaf (.slice (some ⟨w.heap.size, 0, none⟩) 0 cc) ([] : List Leaf) :=
      World.ownsRow_made w cur cc (Nat.le_refl _) hcap2 hcs
    have HF := Lib.hid (show RetOwnLeaf w (.returned (.slice (some ⟨w.heap.size, 0, none⟩) 0 cc)) (w.alloc (.cells cur 115)).drew from ⟨_, rfl, hown.drew, ((Below.refl _ _).alloc (Nat.le_refl _) _).drew⟩)
    clear hown hcs
    go_enter Try.func63, Try.ntmps63
    go_wp2_with (at_builtin; go_must (refine Lib.wpList_append_run _ rfl _ _ 111 3 rfl _ _ rfl rfl _ _ HR.out ?_))
    go_ret
    exact HF.out
/-- Returns a new slice of the call's own that reads as xs. -/
def RetSliceLeaf (xs : List Leaf) (w : World) (e : Ending) (w' : World) : Prop := ∃ v, e = .returned v ∧ Own w' w.heap.size 115 4 encLeaf v xs ∧ Below w.heap.size w w'
set_option maxRecDepth 100000 in
set_option maxHeartbeats 2000000 in
theorem concatLeaf (oa : Option Addr) (rows : List (List Leaf)) (cap : Nat) (w : World) (hm : rows.length ≤ 1000000) (hx : Rows1 w 4 encLeaf oa rows) (ht : total rows * 24 ≤ 140737488355328) :
    Calls Try.prog 58 #[.slice oa rows.length cap] w (RetSliceLeaf rows.flatten w) := by
  have ht63 : total rows ≤ maxLen := by unfold maxLen; omega
  have HT := Lib.hid ht63
  have ht9 : (total rows : Int) ≤ 9223372036854775807 := by omega
  go_enter Try.func58, Try.ntmps58
  go_wp2_with fail
  go_loop [3, 11] (fun n i => ∃ k : Nat, k ≤ rows.length ∧ i = .int .i64 k ∧ n = .int .i64 (total (rows.take k))) (fun _ i => rows.length - (intOf i).toNat)
  case atStart => exact ⟨0, by omega, rfl, rfl⟩
  case round =>
    obtain ⟨k, hk, rfl, rfl⟩ := hrel
    by_cases hlt : k < rows.length
    · obtain ⟨b, off, v, rfl, hc, oai, capi, rfl, _, _, _⟩ := hx k hlt
      have hs := total_take rows k hlt
      have hl := total_le rows (k + 1)
      have E : Hid (((total (rows.take (k + 1)) : Nat) : Int) = (total (rows.take k) : Int) + (rows[k].length : Int)) := by show _ = _; omega
      have hb1 : (0 : Int) ≤ (total (rows.take k) : Int) + (rows[k].length : Int) := by omega
      have hb2 : (total (rows.take k) : Int) + (rows[k].length : Int) ≤ 9223372036854775807 := by omega
      clear hs hl
      go_wp2
      go_round
      case rel => exact ⟨k + 1, by omega, by go_num, by rw [E.out]⟩
      case measure => simp [intOf]; omega
    · have E := Lib.hid (show rows.take k = rows from List.take_of_length_le (by omega))
      rw [E.out]
      go_wp2_with fail
      refine (growLeaf _ _ (by omega) ht63).mono ?_
      rintro e w1 ⟨v0, rfl, hown0, hb0⟩
      go_wp2_with fail
      go_loopw [6, 27] (fun out i wr => ∃ k : Nat, k ≤ rows.length ∧ i = .int .i64 k ∧ Own wr w.heap.size 115 4 encLeaf out (rows.take k).flatten ∧ Below w.heap.size w wr) (fun _ i _ => rows.length - (intOf i).toNat)
      case atStart => exact ⟨0, by omega, rfl, hown0, hb0⟩
      case round =>
        obtain ⟨k2, hk2, rfl, hown, hb⟩ := hrel
        by_cases hlt2 : k2 < rows.length
        · obtain ⟨b, off, v, rfl, hc, hsl⟩ := (hx.below hb) k2 hlt2
          have HS := Lib.hid hsl
          obtain ⟨oai, capi, rfl, _, _, _⟩ := hsl
          have hs := total_take rows k2 hlt2
          have hl := total_le rows (k2 + 1)
          have htk := total_flatten (rows.take k2)
          have HE2 := Lib.hid (flatten_take rows k2 hlt2)
          have hlen1 : (rows.take k2).flatten.length + rows[k2].length ≤ total rows := by omega
          clear hs hl htk
          go_wp2_with (at_builtin; go_must (refine wpList_appRow rfl (.tmp 31) (.tmp 32) 111 rfl elemLeaf Try.underlying111 w.heap.size _ _ encLeaf rfl hown rows[k2] _ rfl HS.out (fun _ => rfl) ?c1 ?c2 ?c3 ?c4 ?_))
          case c1 => intro y; simp [encLeaf, Value.oneCell']
          case c2 => exact Nat.le_trans (Nat.mul_le_mul_right _ hlen1) ht
          case c3 => exact Nat.le_trans hlen1 HT.out
          case c4 => exact hb.size
          intro v' w3 hown3 hg3
          have hb5 := hown.grown hb (Nat.le_refl _) hg3
          rw [← HE2.out] at hown3
          clear hg3 hown
          go_wp2
          go_roundw
          case rel => exact ⟨k2 + 1, by omega, by go_num, hown3, hb5⟩
          case measure => simp [intOf]; omega
        · have E2 := Lib.hid (show rows.take k2 = rows from List.take_of_length_le (by omega))
          rw [E2.out] at hown
          have HF := Lib.hid (show RetSliceLeaf rows.flatten w (.returned _) wr from ⟨_, rfl, hown, hb⟩)
          clear hown
          go_wp2
          go_ret
          exact HF.out
end Go.Proofs.Ytdblibjmgamjeaa
