/-
  TopBook: the rows in memory. Own text.
-/
import Derived.Test.YtdblibjmgamjeaaBookV
import Derived.Test.YtdblibjmgamjeaaTurnsR
import Derived.Test.YtdblibjmgamjeaaRowL
import Derived.Test.YtdblibjmgamjeaaBRead
import Derived.Test.YtdblibjmgamjeaaCut2
namespace Go.Proofs.Ytdblibjmgamjeaa
open Go.RowKit
set_option linter.unusedVariables false
/-- The blocks of a row and of its elements. -/
def InR {β : Type} (v : Value) (us : List β) (blks : β → Nat → Prop) (g : Nat) : Prop := v.ownBlock = some g ∨ ∃ u ∈ us, blks u g
section
variable {α β : Type} {enc : β → List Value} {blks : β → Nat → Prop} {R : World → β → α → Prop} {e : TypeId} {k : Nat} {w w' : World} {B : Nat} {v v' : Value} {us vs : List β} {xs ys : List α} {row : Option Nat}
theorem RowsU.inlt (h : RowsU enc blks R e k w B v us xs) {g : Nat} (hg : InR v us blks g) : g < w.heap.size := by
  rcases hg with hg | ⟨u, hu, hg⟩
  · exact (h.op.blk hg).2
  · exact (h.lo u hu g hg).1
theorem RowsU.far (hs : Stab R blks) (h : RowsU enc blks R e k w B v us xs) (hg : w.grownBy w' row) (hne : ∀ g, InR v us blks g → row ≠ some g) : RowsU enc blks R e k w' B v us xs :=
  h.heap hs hg.size fun g hin => hg.block g (h.inlt hin) fun e => hne g hin e.symm
theorem Own.far {enc : α → List Value} (h : Own w B e k enc v xs) (hg : w.grownBy w' row) (hne : ∀ g, v.ownBlock = some g → row ≠ some g) : Own w' B e k enc v xs :=
  h.heap fun g hin => hg.block g (h.blk hin).2 fun e => hne g hin e.symm
theorem InR.grow {H g : Nat} (h : InR v' (us ++ vs) blks g) (hat : v'.ownBlock = v.ownBlock ∨ v'.ownBlock = some H) : InR v us blks g ∨ g = H ∨ ∃ u ∈ vs, blks u g := by
  rcases h with h | ⟨u, hu, h⟩
  · rcases hat with e | e
    · exact .inl (.inl (e ▸ h))
    · rw [e] at h; cases h; exact .inr (.inl rfl)
  · rcases List.mem_append.1 hu with hu | hu
    · exact .inl (.inr ⟨u, hu, h⟩)
    · exact .inr (.inr ⟨u, hu, h⟩)
end
abbrev PU2 (w : World) (B : Nat) (v : Value) (us : List RawP) (gs : List Img) : Prop := RowsU encRp blkP RelP 37 3 w B v us gs
abbrev SU2 (w : World) (B : Nat) (v : Value) (us : List Value) (ys : List (List Int)) : Prop := RowsU encV blkV SecC 51 1 w B v us ys
/-- The pages, the places and the order, and that they share no block. -/
structure BKS (Z : Nat) (w : World) (vA : Value) (uA : List RawP) (gs : List Img) (vB : Value) (uB : List Value) (ys : List (List Int)) (vC : Value) (ks : List Int) : Prop where
  A : PU2 w Z vA uA gs
  B : SU2 w Z vB uB ys
  C : OwnI w Z vC ks
  AB : ∀ g, InR vA uA blkP g → ¬ InR vB uB blkV g
  AC : ∀ g, InR vA uA blkP g → vC.ownBlock ≠ some g
  BC : ∀ g, InR vB uB blkV g → vC.ownBlock ≠ some g
section
variable {Z : Nat} {w w' : World} {vA vA' vB vB' vC vC' : Value} {uA vs : List RawP} {gs hs : List Img} {uB : List Value} {ys : List (List Int)} {ks : List Int}
theorem BKS.nil (Z : Nat) (w : World) : BKS Z w (.slice none 0 0) [] [] (.slice none 0 0) [] [] (.slice none 0 0) [] :=
  ⟨RowsU.nil _ _, RowsU.nil _ _, Own.nil _ _ _ _ _, fun g h => by rcases h with h | ⟨u, hu, -⟩ <;> (first | cases h | cases hu), fun g h => (fun e => by cases e), fun g h => (fun e => by cases e)⟩
theorem BKS.below (h : BKS Z w vA uA gs vB uB ys vC ks) (hb : Below w.heap.size w w') : BKS Z w' vA uA gs vB uB ys vC ks :=
  ⟨h.A.below stabPl hb, h.B.below stabC hb, Own.below h.C hb, h.AB, h.AC, h.BC⟩
theorem BKS.lt (h : BKS Z w vA uA gs vB uB ys vC ks) {g : Nat} (hg : InR vA uA blkP g ∨ InR vB uB blkV g ∨ vC.ownBlock = some g) : g < w.heap.size := by
  rcases hg with hg | hg | hg
  · exact h.A.inlt hg
  · exact h.B.inlt hg
  · exact (Own.blk h.C hg).2
theorem BKS.extA (h : BKS Z w vA uA gs vB uB ys vC ks) (hl : vs.length = hs.length) (hr : ∀ i (h1 : i < vs.length) (h2 : i < hs.length), RelP w vs[i] hs[i])
    (hg : ∀ u ∈ vs, ∀ g, blkP u g → g < w.heap.size ∧ ¬ (InR vA uA blkP g ∨ InR vB uB blkV g ∨ vC.ownBlock = some g))
    (hown : Own w' Z 37 3 encRp vA' (uA ++ vs)) (hgr : w.grownBy w' vA.ownBlock) (hat : vA'.ownBlock = vA.ownBlock ∨ vA'.ownBlock = some w.heap.size) : BKS Z w' vA' (uA ++ vs) (gs ++ hs) vB uB ys vC ks := by
  refine ⟨h.A.addN stabPl hl hr (fun u hu g hgg => ⟨(hg u hu g hgg).1, fun e => (hg u hu g hgg).2 (.inl (.inl e))⟩) hown hgr hat, h.B.far stabC hgr fun g hin e => h.AB g (.inl e) hin, Own.far h.C hgr fun g hin e => h.AC g (.inl e) hin, fun g hin hB => ?_, fun g hin hC => ?_, h.BC⟩
  · rcases hin.grow hat with h1 | h1 | ⟨u, hu, h1⟩
    · exact h.AB g h1 hB
    · have := h.lt (.inr (.inl hB)); omega
    · exact (hg u hu g h1).2 (.inr (.inl hB))
  · rcases hin.grow hat with h1 | h1 | ⟨u, hu, h1⟩
    · exact h.AC g h1 hC
    · have := h.lt (.inr (.inr hC)); omega
    · exact (hg u hu g h1).2 (.inr (.inr hC))
theorem BKS.extB (h : BKS Z w vA uA gs vB uB ys vC ks) {vN : Value} {ns : List Int} (hr : SecC w vN ns)
    (hg : ∀ g, blkV vN g → g < w.heap.size ∧ ¬ (InR vA uA blkP g ∨ InR vB uB blkV g ∨ vC.ownBlock = some g))
    (hown : Own w' Z 51 1 encV vB' (uB ++ [vN])) (hgr : w.grownBy w' vB.ownBlock) (hat : vB'.ownBlock = vB.ownBlock ∨ vB'.ownBlock = some w.heap.size) : BKS Z w' vA uA gs vB' (uB ++ [vN]) (ys ++ [ns]) vC ks := by
  refine ⟨h.A.far stabPl hgr fun g hin e => h.AB g hin (.inl e), h.B.add stabC hr (fun g hgg => ⟨(hg g hgg).1, fun e => (hg g hgg).2 (.inr (.inl (.inl e)))⟩) hown hgr hat, Own.far h.C hgr fun g hin e => h.BC g (.inl e) hin, fun g hA hin => ?_, h.AC, fun g hin hC => ?_⟩
  · rcases hin.grow hat with h1 | h1 | ⟨u, hu, h1⟩
    · exact h.AB g hA h1
    · have := h.lt (.inl hA); omega
    · rw [List.mem_singleton.1 hu] at h1
      exact (hg g h1).2 (.inl hA)
  · rcases hin.grow hat with h1 | h1 | ⟨u, hu, h1⟩
    · exact h.BC g h1 hC
    · have := h.lt (.inr (.inr hC)); omega
    · rw [List.mem_singleton.1 hu] at h1
      exact (hg g h1).2 (.inr (.inr hC))
theorem BKS.extC (h : BKS Z w vA uA gs vB uB ys vC ks) {k : Int}
    (hown : OwnI w' Z vC' (ks ++ [k])) (hgr : w.grownBy w' vC.ownBlock) (hat : vC'.ownBlock = vC.ownBlock ∨ vC'.ownBlock = some w.heap.size) : BKS Z w' vA uA gs vB uB ys vC' (ks ++ [k]) := by
  refine ⟨h.A.far stabPl hgr fun g hin e => h.AC g hin e, h.B.far stabC hgr fun g hin e => h.BC g hin e, hown, h.AB, fun g hin e => ?_, fun g hin e => ?_⟩
  · rcases hat with h1 | h1
    · exact h.AC g hin (h1 ▸ e)
    · rw [h1] at e; cases e
      have := h.lt (.inl hin); omega
  · rcases hat with h1 | h1
    · exact h.BC g hin (h1 ▸ e)
    · rw [h1] at e; cases e
      have := h.lt (.inr (.inl hin)); omega
end
/-- A section's pages and their numbers. -/
structure INS (Z : Nat) (w : World) (vI : Value) (uI : List RawP) (gs : List Img) (vN : Value) (ns : List Int) : Prop where
  I : PU2 w Z vI uI gs
  N : OwnI w Z vN ns
  ap : ∀ g, InR vI uI blkP g → vN.ownBlock ≠ some g
section
variable {Z : Nat} {w w' : World} {vI vI' vN vN' : Value} {uI : List RawP} {gs : List Img} {ns : List Int}
theorem INS.nil (Z : Nat) (w : World) : INS Z w (.slice none 0 0) [] [] (.slice none 0 0) [] := ⟨RowsU.nil _ _, Own.nil _ _ _ _ _, fun g h => (fun e => by cases e)⟩
theorem INS.below (h : INS Z w vI uI gs vN ns) (hb : Below w.heap.size w w') : INS Z w' vI uI gs vN ns := ⟨h.I.below stabPl hb, Own.below h.N hb, h.ap⟩
theorem INS.extN (h : INS Z w vI uI gs vN ns) {k : Int} (hown : OwnI w' Z vN' (ns ++ [k])) (hgr : w.grownBy w' vN.ownBlock) (hat : vN'.ownBlock = vN.ownBlock ∨ vN'.ownBlock = some w.heap.size) : INS Z w' vI uI gs vN' (ns ++ [k]) := by
  refine ⟨h.I.far stabPl hgr fun g hin e => h.ap g hin e, hown, fun g hin e => ?_⟩
  rcases hat with h1 | h1
  · exact h.ap g hin (h1 ▸ e)
  · rw [h1] at e; cases e
    have := h.I.inlt hin; omega
theorem INS.extI (h : INS Z w vI uI gs vN ns) {u : RawP} {G : Img} (hr : RelP w u G) (hg : ∀ g, blkP u g → g < w.heap.size ∧ vI.ownBlock ≠ some g ∧ vN.ownBlock ≠ some g)
    (hown : Own w' Z 37 3 encRp vI' (uI ++ [u])) (hgr : w.grownBy w' vI.ownBlock) (hat : vI'.ownBlock = vI.ownBlock ∨ vI'.ownBlock = some w.heap.size) : INS Z w' vI' (uI ++ [u]) (gs ++ [G]) vN ns := by
  refine ⟨h.I.add stabPl hr (fun g hgg => ⟨(hg g hgg).1, (hg g hgg).2.1⟩) hown hgr hat, Own.far h.N hgr fun g hin e => h.ap g (.inl e) hin, fun g hin e => ?_⟩
  rcases hin.grow hat with h1 | h1 | ⟨u', hu, h1⟩
  · exact h.ap g h1 e
  · have := (Own.blk h.N e).2; omega
  · rw [List.mem_singleton.1 hu] at h1
    exact (hg g h1).2.2 e
end
theorem plcs_snoc (per k : Nat) : plcsV per (k + 1) = plcsV per k ++ [plcV per k] := by
  unfold plcsV
  rw [List.range_succ, List.map_append, List.map_singleton]
theorem range_snoc (k : Nat) : ((List.range (k + 1)).map fun (i : Nat) => (i : Int)) = ((List.range k).map fun (i : Nat) => (i : Int)) ++ [(k : Int)] := by
  rw [List.range_succ, List.map_append, List.map_singleton]
/-- The empty page in memory. -/
structure EmpAt (wb wq : World) (g nE : Nat) (o : Option Addr) (a b : Int) (xs : List Int) : Prop where
  bel : Below wb.heap.size wb wq
  ge : wb.heap.size ≤ g
  tab : FTab (fun v : Value => v) wq g 3 (outF (.int .i64 a) (.int .i64 b) (.slice o nE nE))
  px : PxAt wq o nE nE xs
  lt : g < wq.heap.size
theorem fill_list (a b : Nat) : listI (fillI a b 0) = List.replicate (a * b) 0 := by
  have h : listI (fillI a b 0) = (List.range (a * b)).map (fun _ => (0 : Int)) := rfl
  rw [h, List.map_const', List.length_range]
theorem made_px (w : World) (n : Nat) (hn : n ≤ maxLen) : PxAt (w.alloc (.cells (madeArr (.int .u8 0) n) 5)) (some ⟨w.heap.size, 0, none⟩) n n (List.replicate n 0) := by
  have h := FTab.made (fun v : Value => v) w n (.int .u8 0) 5
  refine ⟨_, n, by rw [List.length_replicate], fun e => (by cases e), by rw [List.length_replicate]; exact hn, fun i hi j hj => ?_⟩
  rw [List.length_replicate] at hi
  obtain rfl : j = 0 := by omega
  rw [List.getElem_replicate]
  exact ⟨.int .u8 0, rfl, w.heap.size, 0, rfl, by rw [show 0 + (i * 1 + 0) = i by omega]; exact h.at' i hi⟩
theorem EmpAt.one (w : World) (aN bN nE : Nat) (a b : Int) (he : nE = aN * bN) (hn : nE ≤ maxLen) :
    EmpAt w ((w.alloc (.cells (madeArr (.int .u8 0) nE) 5)).alloc (.cells #[.int .i64 a, .int .i64 b, .slice (some ⟨w.heap.size, 0, none⟩) nE nE] 37)).drew (w.heap.size + 1) nE (some ⟨w.heap.size, 0, none⟩) a b (listI (fillI aN bN 0)) := by
  have hb := balloc (Below.refl _ (w.alloc (.cells (madeArr (.int .u8 0) nE) 5))) (.cells #[.int .i64 a, .int .i64 b, .slice (some ⟨w.heap.size, 0, none⟩) nE nE] 37)
  have ht := outF_new (w.alloc (.cells (madeArr (.int .u8 0) nE) 5)) (.int .i64 a) (.int .i64 b) (.slice (some ⟨w.heap.size, 0, none⟩) nE nE) 37
  simp only [World.size_alloc] at ht
  refine ⟨(balloc (balloc (Below.refl _ w) _) _).drew, by omega, ht.drew, ?_, by simp⟩
  rw [fill_list, ← he]
  exact (made_px w nE hn).below hb.drew
theorem EmpAt.two (w : World) (aN bN nE : Nat) (a b : Int) (he : nE = aN * bN) (hn : nE ≤ maxLen) :
    EmpAt w ((w.alloc (.cells #[.int .i64 a, .int .i64 b, .slice (some ⟨w.heap.size + 1, 0, none⟩) nE nE] 37)).alloc (.cells (madeArr (.int .u8 0) nE) 5)).drew w.heap.size nE (some ⟨w.heap.size + 1, 0, none⟩) a b (listI (fillI aN bN 0)) := by
  have ht := outF_new w (.int .i64 a) (.int .i64 b) (.slice (some ⟨w.heap.size + 1, 0, none⟩) nE nE) 37
  have hp := made_px (w.alloc (.cells #[.int .i64 a, .int .i64 b, .slice (some ⟨w.heap.size + 1, 0, none⟩) nE nE] 37)) nE hn
  simp only [World.size_alloc] at hp
  refine ⟨(balloc (balloc (Below.refl _ w) _) _).drew, Nat.le_refl _, (ht.alloc (by simp) _).drew, ?_, by simp; omega⟩
  rw [fill_list, ← he]
  exact hp.below (Below.refl _ _).drew
/-- bindery.Cut at any style: the last copy. -/
theorem cutl_any (l : Lay) (s : Int) (hs : l.style = s ∧ 0 ≤ s ∧ s ≤ 2) (M P : Img) (hM : Sized M) (hW : P.W = M.W) (hH : P.H = M.H) (h1 : s = 1 → 1 ≤ oW l ∧ M.W = 2 * oW l) (h2 : s = 2 → 1 ≤ oH l ∧ M.H = 2 * oH l) (om op : Option Addr) (km kp : Nat) (w : World) (hpm : PxAt w om (listI M).length km (listI M)) (hpp : PxAt w op (listI P).length kp (listI P)) :
    Calls Try.prog 11 #[.agg #[.int .i64 M.W, .int .i64 M.H, .slice om (listI M).length km], .agg #[.int .i64 P.W, .int .i64 P.H, .slice op (listI P).length kp], .int .i64 s] w fun e w' => ∃ (n c : Nat) (us : List RawB) (ss : List (Img × Img)) (oa : Option Addr), 1 ≤ n ∧ n ≤ 2 ∧ e = .returned (.tuple #[.slice oa n c, .int .i64 0]) ∧ n = ss.length ∧ RowB w' oa us ss ∧ ss[n - 1]? = some (lastS l M P) ∧ Below w.heap.size w w' := by
  obtain ⟨hs0, hs1, hs2⟩ := hs
  have h3 : s = 0 ∨ s = 1 ∨ s = 2 := by omega
  rcases h3 with rfl | rfl | rfl
  · refine (cut0_any M P hM hW hH om op km kp w hpm hpp).mono ?_
    rintro e w' ⟨us, oa, c, rfl, hr, -, hb, -⟩
    refine ⟨1, c, us, _, oa, by omega, by omega, rfl, rfl, hr, ?_, hb⟩
    unfold lastS
    rw [if_neg (by omega), if_neg (by omega)]; rfl
  · obtain ⟨a1, a2⟩ := h1 rfl
    refine (cut1_any M P hM hW hH (oW l) a1 a2 om op km kp w hpm hpp).mono ?_
    rintro e w' ⟨us, oa, c, rfl, hr, -, hb, -⟩
    refine ⟨2, c, us, _, oa, by omega, by omega, rfl, rfl, hr, ?_, hb⟩
    unfold lastS
    rw [if_pos hs0]; rfl
  · obtain ⟨a1, a2⟩ := h2 rfl
    refine (cut2_any M P hM hW hH (oH l) a1 a2 om op km kp w hpm hpp).mono ?_
    rintro e w' ⟨us, oa, c, rfl, hr, -, hb, -⟩
    refine ⟨2, c, us, _, oa, by omega, by omega, rfl, rfl, hr, ?_, hb⟩
    unfold lastS
    rw [if_neg (by omega), if_pos hs0]; rfl
/-- bind.Plan, stacked or nested. -/
theorem plan_any (ne : Bool) (sv : Int) (hsv : sv = if ne then 1 else 0) (pg per : Nat) (h1 : 1 ≤ pg ∧ pg ≤ 512) (h2 : 2 ≤ per ∧ per ≤ 64) (h3 : per % 2 = 0) (h4 : ne = true → per % 4 = 0) (h5 : manyV pg per ≤ 64) (w : World) :
    Calls Try.prog 14 #[.int .i64 pg, .int .i64 per, .int .i64 sv] w (RetPlan (planV pg per ne) w) := by
  subst hsv
  cases ne with
  | false => exact plan0_any pg per h1 h2 h3 h5 w
  | true => exact plan1_any pg per h1 h2 h3 (h4 rfl) h5 w
/-- bind.Read, stacked or nested. -/
theorem bread_any (ne : Bool) (sv : Int) (hsv : sv = if ne then 1 else 0) (ys : List (List Int)) (ks : List Nat) (hl : ys.length ≤ 64) (hk : ks.length ≤ 64) (hin : ∀ k ∈ ks, k < ys.length) (hs : ∀ s ∈ ys, 2 ≤ s.length ∧ s.length ≤ 64 ∧ s.length % 2 = 0) (oa ob : Option Addr) (ca cb : Nat) (us : List Value) (w : World)
    (ha : SecW w oa us ys) (hb : IsSlice w 1 encInt (.slice ob ks.length cb) (ks.map fun (k : Nat) => (k : Int))) :
    Calls Try.prog 17 #[.slice oa ys.length ca, .slice ob ks.length cb, .int .i64 sv] w (RetRead (readV ne ys ks) w) := by
  subst hsv
  cases ne with
  | false => exact bread0_any ys ks hl hk hin hs oa ob ca cb us w ha hb
  | true => exact bread1_any ys ks hl hk hin hs oa ob ca cb us w ha hb
end Go.Proofs.Ytdblibjmgamjeaa
