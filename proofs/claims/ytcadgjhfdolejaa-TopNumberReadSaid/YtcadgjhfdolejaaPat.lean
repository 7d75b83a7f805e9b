/-
  linear's patterns: plain, and the walk of patterns with its closure. Own text.
-/
import Derived.Test.YtcadgjhfdolejaaSplit
import Derived.Deep.AppendLies
namespace Go.Proofs.Ytcadgjhfdolejaa
open Go.RowKit
set_option linter.unusedVariables false
section
variable {P : Program} {w : World} {ops : Array Oper} {rest : List Oper} {o : Oper} {a : Act} {Q : Exit → Act → World → Prop}
/-- 'append(s, y)', s the call's own: the walk's step, with where the new slice lies. -/
theorem wpList_app1L {α : Type} (hgd : o.guard = none) (s x : Operand) (t : TypeId)
    (ho : o.op = .call { callee := .builtin .append, args := #[s, x], argTypes := #[t, t] })
    {e : TypeId} {z : Value} {size bytes : Nat} (hE : ElemType P e z size bytes) (ht : P.underlying t = some (.slice e))
    (base : Nat) (v : Value) (xs : List α) (enc : α → List Value) (hs : a.eval s = v) (hown : Own w base e size enc v xs) (y : α)
    (ad : Addr) (c : Nat) (hx : a.eval x = .slice (some ad) 1 c) (hl : (enc y).length = size) (hnews : ∀ j u, (enc y)[j]? = some u → w.cell? (ad.add j) = some u) (h1 : ∀ u ∈ enc y, u.oneCell' = true)
    (hbytes : (xs.length + 1) * bytes ≤ 140737488355328) (h63 : xs.length + 1 ≤ maxLen) (hbase : base ≤ w.heap.size)
    (h : ∀ g cap w', Own w' base e size enc (.slice (some ⟨g, 0, none⟩) (xs.length + 1) cap) (xs ++ [y]) → w.grownBy w' v.ownBlock → (v.ownBlock = some g ∨ g = w.heap.size) → wpList P ops Q rest (a.put o.dst (.slice (some ⟨g, 0, none⟩) (xs.length + 1) cap)) w') : wpList P ops Q (o :: rest) a w := by
  obtain ⟨i, hi, hz, hsz, hby, hzs, h0⟩ := hE
  refine wpList_append_lies w hgd s x t ho base e i z size bytes ht hi hz hsz hby hzs h0 v xs.length (xs.flatMap enc) hs hown ad 1 c (enc y) hx (by rw [hl, Nat.one_mul]) hnews h1 (by omega) h63 hbytes hbase w.heap.size rfl ?_
  intro g cap w' hown' hg hat _
  refine h g cap w' ?_ hg hat
  unfold Own
  rw [List.length_append, List.flatMap_append]
  simpa using hown'
end
/-- A symbol's six widths. -/
structure Pt where
  a : Int
  b : Int
  c : Int
  d : Int
  e : Int
  f : Int
def encPt (p : Pt) : List Value := [.int .i64 p.a, .int .i64 p.b, .int .i64 p.c, .int .i64 p.d, .int .i64 p.e, .int .i64 p.f]
/-- The patterns that begin so; n places follow, and behind them the last. -/
def genV : Nat → List Nat → Nat → List Pt
  | 0, pre, left => if left ≤ 4 ∧ (pre.getD 0 0 + pre.getD 2 0 + pre.getD 4 0) % 2 = 0 then [⟨pre.getD 0 0, pre.getD 1 0, pre.getD 2 0, pre.getD 3 0, pre.getD 4 0, left⟩] else []
  | n + 1, pre, left => (List.range (min 4 (left - 1))).flatMap fun v => genV n (pre ++ [v + 1]) (left - (v + 1))
theorem flatMap_le {α β : Type} (f : α → List β) (m : Nat) : ∀ xs : List α, (∀ x, (f x).length ≤ m) → (xs.flatMap f).length ≤ xs.length * m
  | [], _ => by simp
  | x :: xs, h => by
    have h1 := flatMap_le f m xs h
    have h2 := h x
    rw [List.flatMap_cons, List.length_append, List.length_cons, Nat.succ_mul]
    omega
theorem genV_len : ∀ (n : Nat) (pre : List Nat) (left : Nat), (genV n pre left).length ≤ 4 ^ n
  | 0, pre, left => by
    unfold genV
    split <;> simp
  | n + 1, pre, left => by
    unfold genV
    have h := flatMap_le (fun v => genV n (pre ++ [v + 1]) (left - (v + 1))) (4 ^ n) (List.range (min 4 (left - 1))) (fun v => genV_len n _ _)
    rw [List.length_range] at h
    refine Nat.le_trans h ?_
    rw [Nat.pow_succ, Nat.mul_comm]
    exact Nat.mul_le_mul_left _ (Nat.min_le_left _ _)
theorem elemPt : ElemType Try.prog 77 (.agg #[.int .i64 0, .int .i64 0, .int .i64 0, .int .i64 0, .int .i64 0, .int .i64 0]) 6 48 := ElemType.mk (by kernel_rfl) rfl (by decide)
def patF (b1 b2 b3 : Nat) : Value := .func (.func 42) #[] #[.pointer (some ⟨b2, 0, none⟩), .pointer (some ⟨b1, 0, none⟩), .pointer (some ⟨b3, 0, none⟩)]
/-- The three variables of patterns, and its table. -/
structure PatM (B0 B b1 b2 b3 : Nat) (w0 w : World) (pre : List Nat) (L : List Pt) : Prop where
  bel : Below B0 w0 w
  tab : ∃ v, Boxed w b1 75 v ∧ Own w B 77 6 encPt v L
  arr : ∃ f, FTab (Value.int .i64) w b2 6 f ∧ ∀ i, i < pre.length → f i = (pre.getD i 0 : Nat)
  fn : Boxed w b3 85 (patF b1 b2 b3)
  sz : B ≤ w.heap.size
structure PatC (B0 B b1 b2 b3 : Nat) : Prop where
  l1 : B0 ≤ b1 ∧ b1 < B
  l2 : B0 ≤ b2 ∧ b2 < B
  l3 : B0 ≤ b3 ∧ b3 < B
  n1 : b1 ≠ b2
  n2 : b1 ≠ b3
  n3 : b2 ≠ b3
section
variable {B0 B b1 b2 b3 : Nat} {w0 w w' : World} {pre : List Nat} {L : List Pt}
theorem FTab.kept {α : Type} {f : α → Value} {g n : Nat} {t : Nat → α} (h : FTab f w g n t) (hl : g < w.heap.size) {row : Option Nat} (hg : w.grownBy w' row) (hne : some g ≠ row) : FTab f w' g n t := h.heap (hg.block g hl hne)
theorem grownBy_setCellAt (W : World) (b o : Nat) (v : Value) : W.grownBy (W.setCell ⟨b, o, none⟩ v) (some b) :=
  ⟨rfl, rfl, rfl, (KeepsWalks.setCell W _ v).size, fun k _ hk => Below.heap_setCell _ _ _ k (fun e => hk (by rw [e]))⟩
/-- A place of the array is set. -/
theorem PatM.put (hc : PatC B0 B b1 b2 b3) (h : PatM B0 B b1 b2 b3 w0 w pre L) (hp : pre.length < 6) (x : Nat) : PatM B0 B b1 b2 b3 w0 (w.setCell ⟨b2, pre.length, none⟩ (.int .i64 x)) (pre ++ [x]) L := by
  obtain ⟨v, hb, ho⟩ := h.tab
  obtain ⟨f, hf, hp2⟩ := h.arr
  refine ⟨h.bel.trans ((Below.refl _ w).setCell (p := ⟨b2, pre.length, none⟩) hc.l2.1 _), ⟨v, hb.kept (grownBy_setCellAt w b2 _ _) (fun e => hc.n1 (by cases e; rfl)), ?_⟩, ⟨_, hf.set hp (x : Int), ?_⟩, h.fn.kept (grownBy_setCellAt w b2 _ _) (fun e => hc.n3 (by cases e; rfl)), by rw [World.size_setCell]; exact h.sz⟩
  · exact World.ownsRow.kept ho (grownBy_setCellAt w b2 _ _) (.inr fun e => by have := ownsRow_ge ho e; have := hc.l2; omega)
  · intro i hi
    rw [List.length_append, List.length_singleton] at hi
    show (if i = pre.length then (x : Int) else f i) = _
    by_cases e : i = pre.length
    · rw [if_pos e, e, List.getD_eq_getElem?_getD, List.getElem?_append_right (by omega)]
      simp
    · rw [if_neg e, hp2 i (by omega), List.getD_eq_getElem?_getD, List.getD_eq_getElem?_getD, List.getElem?_append_left (by omega)]
theorem PatM.shorter (h : PatM B0 B b1 b2 b3 w0 w pre L) (n : Nat) : PatM B0 B b1 b2 b3 w0 w (pre.take n) L := by
  obtain ⟨f, hf, hp2⟩ := h.arr
  refine ⟨h.bel, h.tab, ⟨f, hf, fun i hi => ?_⟩, h.fn, h.sz⟩
  rw [List.length_take] at hi
  rw [hp2 i (by omega), List.getD_eq_getElem?_getD, List.getD_eq_getElem?_getD, List.getElem?_take_of_lt (by omega)]
/-- A pattern is appended. -/
theorem PatM.app (hc : PatC B0 B b1 b2 b3) (h : PatM B0 B b1 b2 b3 w0 w pre L) {v v' : Value} {w1 : World} {tmp : Obj} {y : Pt} (hb1 : Boxed w b1 75 v) (hvo : Own w B 77 6 encPt v L) (ho : Own w1 B 77 6 encPt v' (L ++ [y])) (hg : (w.alloc tmp).grownBy w1 v.ownBlock) :
    PatM B0 B b1 b2 b3 w0 (w1.setCell ⟨b1, 0, none⟩ v') pre (L ++ [y]) ∧ Boxed w1 b1 75 v := by
  obtain ⟨f, hf, hp2⟩ := h.arr
  have hne : ∀ b, b < B → some b ≠ v.ownBlock := fun b hb e => by have := ownsRow_ge hvo e.symm; omega
  have hl2 : b2 < w.heap.size := hf.lt (by omega)
  have hset := grownBy_setCell' w1 b1 v'
  have hbx : Boxed w1 b1 75 v := (hb1.alloc tmp).kept hg (hne _ hc.l1.2)
  have hzs := hg.size
  rw [World.size_alloc] at hzs
  have hsz := h.sz
  have hB : Below B0 w0 w1 := (h.bel.alloc (by have := h.bel.size; have := hc.l1; omega) tmp).grown hg (by simp; have := hc.l1; omega) fun k e => by have := ownsRow_ge hvo e; have := hc.l1; omega
  refine ⟨⟨hB.trans ((Below.refl _ w1).setCell (p := ⟨b1, 0, none⟩) hc.l1.1 _), ⟨v', hbx.set v', ?_⟩, ⟨f, ?_, hp2⟩, ?_, by rw [World.size_setCell]; omega⟩, hbx⟩
  · exact World.ownsRow.kept ho hset (.inr fun e => by have := ownsRow_ge ho e; have := hc.l1; omega)
  · refine ((hf.alloc hl2 tmp).kept (by simp; omega) hg (hne _ hc.l2.2)).kept (by omega) hset (fun e => hc.n1 (by cases e; rfl))
  · exact ((h.fn.alloc tmp).kept hg (hne _ hc.l3.2)).kept hset (fun e => hc.n2 (by cases e; rfl))
end
def RetPat (B0 B b1 b2 b3 : Nat) (w0 : World) (pre : List Nat) (L : List Pt) (e : Ending) (w' : World) : Prop := e = .returned (.tuple #[]) ∧ PatM B0 B b1 b2 b3 w0 w' pre L
set_option maxRecDepth 100000 in
set_option maxHeartbeats 8000000 in
theorem pat5_any (B0 B b1 b2 b3 : Nat) (w0 : World) (hc : PatC B0 B b1 b2 b3) (p0 p1 p2 p3 p4 left : Nat) (hp : p0 ≤ 4 ∧ p1 ≤ 4 ∧ p2 ≤ 4 ∧ p3 ≤ 4 ∧ p4 ≤ 4) (hl : left ≤ 11) (L : List Pt) (hL : L.length ≤ 2000) (w : World) (h : PatM B0 B b1 b2 b3 w0 w [p0, p1, p2, p3, p4] L) :
    Calls Try.prog 42 #[.int .i64 5, .int .i64 left, .pointer (some ⟨b2, 0, none⟩), .pointer (some ⟨b1, 0, none⟩), .pointer (some ⟨b3, 0, none⟩)] w (RetPat B0 B b1 b2 b3 w0 [p0, p1, p2, p3, p4] (L ++ genV 0 [p0, p1, p2, p3, p4] left)) := by
  obtain ⟨h0, h1, h2, h3, h4⟩ := hp
  have hm := h.put hc (by simp) left
  obtain ⟨f0, hf0, -⟩ := h.arr
  have hfz := hf0.fz 5
  have hc5 := hf0.at' 5 (by decide)
  have hg : genV 0 [p0, p1, p2, p3, p4] left = if left ≤ 4 ∧ (p0 + p2 + p4) % 2 = 0 then [⟨p0, p1, p2, p3, p4, left⟩] else [] := rfl
  obtain ⟨w1, hw1⟩ : ∃ w1, w1 = w.setCell ⟨b2, 5, none⟩ (.int .i64 left) := ⟨_, rfl⟩
  have HW1 : Hid (w.setCell ⟨b2, 5, none⟩ (.int .i64 left) = w1) := hw1.symm
  have hm1 : PatM B0 B b1 b2 b3 w0 w1 [p0, p1, p2, p3, p4, left] L := by rw [hw1]; exact hm
  obtain ⟨f, hf, hfp⟩ := hm1.arr
  have q0 : w1.cell? ⟨b2, 0, none⟩ = some (.int .i64 p0) := by have e := hf.at' 0 (by decide); rw [hfp 0 (by simp)] at e; exact e
  have q1 : w1.cell? ⟨b2, 1, none⟩ = some (.int .i64 p1) := by have e := hf.at' 1 (by decide); rw [hfp 1 (by simp)] at e; exact e
  have q2 : w1.cell? ⟨b2, 2, none⟩ = some (.int .i64 p2) := by have e := hf.at' 2 (by decide); rw [hfp 2 (by simp)] at e; exact e
  have q3 : w1.cell? ⟨b2, 3, none⟩ = some (.int .i64 p3) := by have e := hf.at' 3 (by decide); rw [hfp 3 (by simp)] at e; exact e
  have q4 : w1.cell? ⟨b2, 4, none⟩ = some (.int .i64 p4) := by have e := hf.at' 4 (by decide); rw [hfp 4 (by simp)] at e; exact e
  have q5 : w1.cell? ⟨b2, 5, none⟩ = some (.int .i64 left) := by have e := hf.at' 5 (by decide); rw [hfp 5 (by simp)] at e; exact e
  obtain ⟨v, hbv, hov⟩ := hm1.tab
  have hcv := hbv.cell
  have HM1 := Lib.hid hm1
  have HBV := Lib.hid hbv
  have HOV := Lib.hid hov
  have HC := Lib.hid hc
  have HG := Lib.hid hg
  have HL := Lib.hid hL
  have x1 : IntKind.i64.wrap ((p0 : Int) + (p2 : Int)) = (p0 : Int) + (p2 : Int) := IntWalk.i64_in _ (by omega)
  have x2 : IntKind.i64.wrap ((p0 : Int) + (p2 : Int) + (p4 : Int)) = (p0 : Int) + (p2 : Int) + (p4 : Int) := IntWalk.i64_in _ (by omega)
  obtain ⟨r, hr⟩ : ∃ r, r = (p0 + p2 + p4) % 2 := ⟨_, rfl⟩
  have hr2 : r < 2 := by omega
  have x3 : ((p0 : Int) + (p2 : Int) + (p4 : Int)).tmod 2 = (r : Int) := by rw [Int.tmod_eq_emod_of_nonneg (by omega)]; omega
  have x4 : ((p0 : Int) + (p2 : Int) + (p4 : Int)) % 2 = (r : Int) := by omega
  rw [← hr] at HG
  clear hm hf0 hf hfp hm1 hbv hov hc hg hL hw1 h hr
  have hz := HM1.out.sz
  obtain ⟨oa, cap, hv, -⟩ := Own.isSlc HOV.out
  by_cases c4 : left ≤ 4
  · have d4 : decide ((left : Int) ≤ 4) = true := decide_eq_true (by omega)
    have d4' : decide (left ≤ 4) = true := decide_eq_true (by omega)
    by_cases cr : r = 0
    · have HNX : Hid (genV 0 [p0, p1, p2, p3, p4] left = [⟨p0, p1, p2, p3, p4, left⟩]) := by show _ = _; rw [HG.out, if_pos ⟨c4, cr⟩]
      subst cr
      have hnew : Hid (∀ (j : Nat) (u : Value), (encPt ⟨p0, p1, p2, p3, p4, left⟩)[j]? = some u → (w1.alloc (.cells (encPt ⟨p0, p1, p2, p3, p4, left⟩).toArray 77)).cell? ((⟨w1.heap.size, 0, none⟩ : Addr).add j) = some u) :=
        World.news_of_block (cs := (encPt ⟨p0, p1, p2, p3, p4, left⟩).toArray) (t := 77) (fr := (0, 0)) (heap_alloc_new w1 _)
      have HOA := Lib.hid (Own.alloc HOV.out (.cells (encPt ⟨p0, p1, p2, p3, p4, left⟩).toArray 77))
      obtain ⟨k, hk⟩ : ∃ k, k = L.length := ⟨_, rfl⟩
      have HK : Hid (L.length = k) := hk.symm
      rw [← hk] at hv
      subst hv
      clear hk
      go_enter Try.func42, Try.ntmps42
      go_upto_region 2 with fail
      rw [HW1.out]
      clear HW1
      go_wp2_with (at_builtin; refine wpList_app1L rfl (.tmp 26) (.tmp 28) 75 rfl elemPt Try.underlying75 B (.slice oa k cap) L encPt rfl HOA.out ⟨p0, p1, p2, p3, p4, left⟩ ⟨w1.heap.size, 0, none⟩ 1 rfl rfl hnew.out ?c1 ?c2 ?c3 ?c4 ?_)
      case c1 => simp [encPt, Value.oneCell']
      case c2 => have := HL.out; omega
      case c3 => have := HL.out; unfold maxLen; omega
      case c4 => (first | omega | (rw [World.size_alloc]; omega))
      rw [HK.out]
      intro g3 cap3 w3 hown3 hgr3 _
      obtain ⟨hm3, hb3⟩ := HM1.out.app HC.out HBV.out HOV.out hown3 hgr3
      have hcv3 := hb3.cell
      have hfv3 := hb3.frozen
      have HM3 := Lib.hid hm3
      clear hown3 hgr3 hm3 hb3 hnew HOA
      go_wp2
      go_end0
      refine ⟨rfl, ?_⟩
      rw [HNX.out]
      exact HM3.out.shorter 5
    · have HNX : Hid (genV 0 [p0, p1, p2, p3, p4] left = []) := by show _ = _; rw [HG.out, if_neg (fun e => cr e.2)]
      obtain rfl : r = 1 := by omega
      go_enter Try.func42, Try.ntmps42
      go_upto_region 2 with fail
      rw [HW1.out]
      clear HW1
      go_wp2
      go_end0
      refine ⟨rfl, ?_⟩
      rw [HNX.out, List.append_nil]
      exact HM1.out.shorter 5
  · have d4 : decide ((left : Int) ≤ 4) = false := decide_eq_false (by omega)
    have d4' : decide (left ≤ 4) = false := decide_eq_false (by omega)
    have HNX : Hid (genV 0 [p0, p1, p2, p3, p4] left = []) := by show _ = _; rw [HG.out, if_neg (fun e => c4 e.1)]
    go_enter Try.func42, Try.ntmps42
    go_upto_region 2 with fail
    rw [HW1.out]
    clear HW1
    go_wp2
    go_end0
    refine ⟨rfl, ?_⟩
    rw [HNX.out, List.append_nil]
    exact HM1.out.shorter 5
/-- What the first k numbers at a place give. -/
def genK (n : Nat) (pre : List Nat) (left k : Nat) : List Pt := (List.range k).flatMap fun v => genV n (pre ++ [v + 1]) (left - (v + 1))
theorem genK_succ (n : Nat) (pre : List Nat) (left k : Nat) : genK n pre left (k + 1) = genK n pre left k ++ genV n (pre ++ [k + 1]) (left - (k + 1)) := by
  unfold genK
  rw [List.range_succ, List.flatMap_append]
  simp
theorem genK_len (n : Nat) (pre : List Nat) (left k : Nat) : (genK n pre left k).length ≤ k * 4 ^ n := by
  have h := flatMap_le (fun v => genV n (pre ++ [v + 1]) (left - (v + 1))) (4 ^ n) (List.range k) (fun v => genV_len n _ _)
  rw [List.length_range] at h
  exact h
set_option maxRecDepth 100000 in
set_option maxHeartbeats 8000000 in
theorem pat_any (B0 B b1 b2 b3 : Nat) (w0 : World) (hc : PatC B0 B b1 b2 b3) : ∀ (n : Nat) (pre : List Nat) (left : Nat), pre.length + n = 5 → (∀ x ∈ pre, x ≤ 4) → left ≤ 11 → ∀ (L : List Pt), L.length + 4 ^ n ≤ 2000 → ∀ (w : World), PatM B0 B b1 b2 b3 w0 w pre L →
    Calls Try.prog 42 #[.int .i64 (pre.length : Nat), .int .i64 left, .pointer (some ⟨b2, 0, none⟩), .pointer (some ⟨b1, 0, none⟩), .pointer (some ⟨b3, 0, none⟩)] w (RetPat B0 B b1 b2 b3 w0 pre (L ++ genV n pre left))
  | 0, [p0, p1, p2, p3, p4], left, _, hp, hl, L, hL, w, h => pat5_any B0 B b1 b2 b3 w0 hc p0 p1 p2 p3 p4 left (by simp at hp; omega) hl L (by omega) w h
  | n + 1, pre, left, hn, hp, hl, L, hL, w, h => by
    have ih := fun (k : Nat) (hk : k + 1 ≤ 4) (L' : List Pt) (hL' : L'.length + 4 ^ n ≤ 2000) (w' : World) (h' : PatM B0 B b1 b2 b3 w0 w' (pre ++ [k + 1]) L') => pat_any B0 B b1 b2 b3 w0 hc n (pre ++ [k + 1]) (left - (k + 1)) (by simp; omega) (by intro x hx; rw [List.mem_append, List.mem_singleton] at hx; rcases hx with hx | hx; exact hp x hx; omega) (by omega) L' hL' w' h'
    obtain ⟨p, hpl⟩ : ∃ p, p = pre.length := ⟨_, rfl⟩
    have e1 : ∀ k, ((pre ++ [k + 1]).length : Nat) = p + 1 := fun k => by rw [hpl]; simp
    have HIH : Hid (∀ (k : Nat) (hk : k + 1 ≤ 4) (L' : List Pt) (hL' : L'.length + 4 ^ n ≤ 2000) (w' : World) (h' : PatM B0 B b1 b2 b3 w0 w' (pre ++ [k + 1]) L'), Calls Try.prog 42 #[.int .i64 (p + 1 : Nat), .int .i64 (left - (k + 1) : Nat), .pointer (some ⟨b2, 0, none⟩), .pointer (some ⟨b1, 0, none⟩), .pointer (some ⟨b3, 0, none⟩)] w' (RetPat B0 B b1 b2 b3 w0 (pre ++ [k + 1]) (L' ++ genV n (pre ++ [k + 1]) (left - (k + 1))))) := fun k hk L' hL' w' h' => by
      have e := ih k hk L' hL' w' h'
      rw [e1] at e
      exact e
    obtain ⟨m, hm⟩ : ∃ m, m = min 4 (left - 1) := ⟨_, rfl⟩
    have hm1 : m ≤ 4 ∧ m ≤ left - 1 ∧ (m = 4 ∨ m = left - 1) := by omega
    have HM1 := Lib.hid hm1
    have HGM : Hid (genV (n + 1) pre left = genK n pre left m) := by rw [hm]; rfl
    have HLL : Hid (∀ k, k ≤ m → (L ++ genK n pre left k).length + (m - k) * 4 ^ n ≤ 2000) := fun k hk => by
      have h1 := genK_len n pre left k
      rw [List.length_append]
      have h2 : k * 4 ^ n + (m - k) * 4 ^ n ≤ 4 ^ (n + 1) := by
        rw [← Nat.add_mul, Nat.pow_succ, Nat.mul_comm]
        exact Nat.mul_le_mul_left _ (by omega)
      omega
    have HPL : Hid (pre.length = p) := hpl.symm
    have HTK : Hid (∀ (L' : List Pt) (w' : World) (k : Nat), PatM B0 B b1 b2 b3 w0 w' (pre ++ [k + 1]) L' → PatM B0 B b1 b2 b3 w0 w' pre L') := fun L' w' k h' => by
      have e := h'.shorter pre.length
      rw [List.take_left] at e
      exact e
    have np : ¬ (p : Int) = 5 := by omega
    have np2 : ((p : Int) == 5) = false := by rw [beq_eq_false_iff_ne]; omega
    have np' : ¬ p = 5 := by omega
    have p6 : (p : Int) < 6 := by omega
    have p6' : p < 6 := by omega
    obtain ⟨q, hq⟩ : ∃ q, q = p + 1 := ⟨_, rfl⟩
    have pp : IntKind.i64.wrap ((p : Int) + 1) = (q : Int) := by rw [hq, Int.natCast_add]; exact IntWalk.i64_in _ (by omega)
    rw [← hq] at HIH
    have HC := Lib.hid hc
    have HX0 : Hid (PatM B0 B b1 b2 b3 w0 w pre (L ++ genK n pre left 0)) := by
      show PatM _ _ _ _ _ _ _ _ (L ++ [])
      rw [List.append_nil]; exact h
    rw [← hpl, HGM.out]
    clear hc ih hpl e1 h hp hn HGM hq hm hm1
    go_enter Try.func42, Try.ntmps42
    go_wp2_with fail
    go_loopw [7] (fun i wr => ∃ j : Nat, 1 ≤ j ∧ j ≤ m + 1 ∧ i = .int .i64 j ∧ Hid (PatM B0 B b1 b2 b3 w0 wr pre (L ++ genK n pre left (j - 1)))) (fun i _ => 10 - (intOf i).toNat)
    case atStart => exact ⟨1, by omega, by omega, rfl, HX0⟩
    case round =>
      clear HX0
      obtain ⟨j, hj1, hj2, rfl, HX⟩ := hrel
      obtain ⟨wb, rfl⟩ : ∃ wb : World, wb = wr := ⟨_, rfl⟩
      obtain ⟨k, hk⟩ : ∃ k, j = k + 1 := ⟨j - 1, by omega⟩
      have hjk : j - 1 = k := by omega
      rw [hjk] at HX
      have hm1 := HM1.out
      by_cases hlt : k < m
      · have k1 : (j : Int) ≤ 4 := by omega
        have k1' : j ≤ 4 := by omega
        have k2 : (j : Int) < (left : Int) := by omega
        have k2' : j < left := by omega
        have kk : IntKind.i64.wrap ((j : Int) + 1) = (j : Int) + 1 := IntWalk.i64_in _ (by omega)
        obtain ⟨l2, hl2⟩ : ∃ l2, l2 = left - j := ⟨_, rfl⟩
        have kl : IntKind.i64.wrap ((left : Int) - (j : Int)) = (l2 : Int) := by rw [hl2, Int.ofNat_sub (by omega)]; exact IntWalk.i64_in _ (by omega)
        obtain ⟨f, hf, -⟩ := HX.out.arr
        have hcp := hf.at' p p6'
        have hfz := hf.fz p
        have hput := HX.out.put HC.out (by rw [HPL.out]; exact p6') (k + 1)
        rw [HPL.out, ← hk] at hput
        obtain ⟨w1, hw1⟩ : ∃ w1, w1 = wb.setCell ⟨b2, p, none⟩ (.int .i64 j) := ⟨_, rfl⟩
        have HW1 : Hid (wb.setCell ⟨b2, p, none⟩ (.int .i64 j) = w1) := hw1.symm
        rw [← hw1] at hput
        have hfn := hput.fn.cell
        unfold patF at hfn
        have HCL : Hid (Calls Try.prog 42 #[.int .i64 q, .int .i64 l2, .pointer (some ⟨b2, 0, none⟩), .pointer (some ⟨b1, 0, none⟩), .pointer (some ⟨b3, 0, none⟩)] w1 (RetPat B0 B b1 b2 b3 w0 (pre ++ [k + 1]) (L ++ genK n pre left (k + 1)))) := by
          have e := HLL.out k (by omega)
          have e2 : 1 * 4 ^ n ≤ (m - k) * 4 ^ n := Nat.mul_le_mul_right _ (by omega)
          rw [genK_succ, ← List.append_assoc, hl2, hk]
          exact HIH.out k (by omega) _ (by omega) w1 (by rw [← hk]; exact hput)
        have HK := Lib.hid hk
        have HLT := Lib.hid hlt
        clear hw1 hput hf hl2 hk hjk hlt hm1
        go_upto_region 8 with fail
        rw [HW1.out]
        clear HW1
        go_wp2_with fail
        refine HCL.out.mono ?_
        rintro e w2 ⟨rfl, hm2⟩
        have HNX : Hid (PatM B0 B b1 b2 b3 w0 w2 pre (L ++ genK n pre left (j + 1 - 1))) := by
          have e : j + 1 - 1 = k + 1 := by have := HK.out; omega
          rw [e]
          exact HTK.out _ _ _ hm2
        clear HX HCL hm2 hfn hcp hfz
        go_wp2_with fail
        go_roundw
        case rel => exact ⟨j + 1, by omega, by have := HK.out; have := HLT.out; omega, by go_num, HNX⟩
        case measure => simp [intOf]; omega
      · obtain rfl : k = m := by omega
        have HM2 := Lib.hid hm1
        clear HIH HLL HTK
        by_cases h4 : j ≤ 4
        · have k1 : (j : Int) ≤ 4 := by omega
          have k2 : ¬ (j : Int) < (left : Int) := by omega
          have k2' : ¬ j < left := by omega
          clear hk hjk hlt hm1
          go_wp2
          go_end0
          exact ⟨rfl, HX.out⟩
        · have k1 : ¬ (j : Int) ≤ 4 := by omega
          clear hk hjk hlt hm1
          go_wp2
          go_end0
          exact ⟨rfl, HX.out⟩
end Go.Proofs.Ytcadgjhfdolejaa
