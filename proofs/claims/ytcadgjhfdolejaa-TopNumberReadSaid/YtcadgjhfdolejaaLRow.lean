/-
  The walk of linear.Row. Own text.
-/
import Derived.Test.YtcadgjhfdolejaaRow1
namespace Go.Proofs.Ytcadgjhfdolejaa
open Go.RowKit Go.Shelf
set_option linter.unusedVariables false
attribute [local go_sem] Oper.semAt_some
/-- The widths of runs and of what lies between them, and where the last one ends. -/
def stepW (s : List Int × Int) (z : Nat × Nat) : List Int × Int := ((if 0 ≤ s.2 then s.1 ++ [IntKind.i64.wrap ((z.1 : Int) - s.2)] else s.1) ++ [IntKind.i64.wrap ((z.2 : Int) - (z.1 : Int))], (z.2 : Int))
def stW (zs : List (Nat × Nat)) : List Int × Int := zs.foldl stepW ([], -1)
theorem stW_snoc (zs : List (Nat × Nat)) (z : Nat × Nat) : stW (zs ++ [z]) = stepW (stW zs) z := by simp [stW]
theorem stW_len : ∀ zs : List (Nat × Nat), (stW zs).1.length ≤ 2 * zs.length := by
  have key : ∀ (zs : List (Nat × Nat)) (s : List Int × Int), (zs.foldl stepW s).1.length ≤ s.1.length + 2 * zs.length := by
    intro zs
    induction zs with
    | nil => intro s; simp
    | cons z zs ih =>
      intro s
      have h := ih (stepW s z)
      have h2 : (stepW s z).1.length ≤ s.1.length + 2 := by
        unfold stepW
        dsimp only
        split <;> simp <;> omega
      rw [List.foldl_cons, List.length_cons]
      omega
  intro zs
  have h := key zs ([], -1)
  simp only [List.length_nil] at h
  unfold stW
  omega
theorem elemI : ElemType Try.prog 3 (.int .i64 0) 1 8 := ElemType.mk (by kernel_rfl) rfl (by decide)
theorem Own.isSlc {α : Type} {w : World} {base : Nat} {e : TypeId} {k : Nat} {enc : α → List Value} {v : Value} {xs : List α} (h : Own w base e k enc v xs) : ∃ oa cap, v = .slice oa xs.length cap ∧ (oa = none → xs = []) := by
  rcases h.2 with ⟨rfl, hn⟩ | ⟨g, cap, cur, rfl, _⟩
  · exact ⟨none, 0, by rw [hn], fun _ => List.eq_nil_of_length_eq_zero hn⟩
  · exact ⟨_, cap, rfl, fun h => by cases h⟩
theorem ownsRow_mono {w : World} {base base' : Nat} {e : TypeId} {size n : Nat} {v : Value} {xs : List Value} (h : w.ownsRow base e size v n xs) (hb : base' ≤ base) : w.ownsRow base' e size v n xs := by
  refine ⟨h.1, ?_⟩
  rcases h.2 with hv | ⟨g, cap, cur, rfl, hbg, rest⟩
  · exact .inl hv
  · exact .inr ⟨g, cap, cur, rfl, Nat.le_trans hb hbg, rest⟩
theorem ownsRow_ge {w : World} {base : Nat} {e : TypeId} {size n : Nat} {v : Value} {xs : List Value} (h : w.ownsRow base e size v n xs) {g : Nat} (hg : v.ownBlock = some g) : base ≤ g := by
  rcases h.2 with ⟨rfl, _⟩ | ⟨g', cap, cur, rfl, hbg, rest⟩
  · cases hg
  · cases hg; exact hbg
theorem typed_not_row {W : World} {B : Nat} {cs : Array Value} {t e : TypeId} {fr : Nat × Nat} (h : W.heap[B]? = some (.cells cs t fr)) (hte : t ≠ e) {base size k : Nat} {v : Value} {xs : List Value} (hr : W.ownsRow base e size v k xs) : some B ≠ v.ownBlock := by
  rcases hr.2 with ⟨rfl, _⟩ | ⟨g, cap, cur, rfl, _, hgb, _⟩
  · simp [Value.ownBlock]
  · intro e'
    obtain rfl : B = g := by simpa [Value.ownBlock] using e'
    rw [h] at hgb
    cases hgb
    exact hte rfl
/-- A run in a block of its own. -/
def RunB (W : World) (B : Nat) (y : Int) (x : Nat × Nat) : Prop := W.heap[B]? = some (.cells #[.int .i64 y, .int .i64 x.1, .int .i64 x.2] 37 (0, 0))
theorem RunB.new (W : World) (y : Int) (x : Nat × Nat) : RunB (W.alloc (.cells #[.int .i64 y, .int .i64 x.1, .int .i64 x.2] 37)) W.heap.size y x := World.alloc_heap_new W _
theorem RunB.c {W : World} {B : Nat} {y : Int} {x : Nat × Nat} (h : RunB W B y x) : W.cell? ⟨B, 0, none⟩ = some (.int .i64 y) ∧ W.cell? ⟨B, 1, none⟩ = some (.int .i64 x.1) ∧ W.cell? ⟨B, 2, none⟩ = some (.int .i64 x.2) := by
  refine ⟨?_, ?_, ?_⟩ <;> (rw [cell_of_row W B _ _ _ (0, 0) h]; rfl)
theorem RunB.lt {W : World} {B : Nat} {y : Int} {x : Nat × Nat} (h : RunB W B y x) : B < W.heap.size := (Array.getElem?_eq_some_iff.1 h).1
theorem RunB.kept {W W' : World} {row : Option Nat} {B : Nat} {y : Int} {x : Nat × Nat} (h : RunB W B y x) (hg : W.grownBy W' row) (hne : some B ≠ row) : RunB W' B y x := (hg.block B h.lt hne).trans h
theorem RunB.own (B : Nat) (y : Int) (x : Nat × Nat) {X Y : World} {row : Option Nat} (h : RunB X B y x) (hg : X.grownBy Y row) (hr : ∀ r, row = some r → ∃ o : Obj, X.heap[r]? = some o ∧ o.isCells = false) : RunB Y B y x :=
  h.kept hg fun e => by
    obtain ⟨o, ho, hc⟩ := hr B e.symm
    rw [show X.heap[B]? = _ from h] at ho
    cases ho; cases hc
/-- linear.Row's state between two runs. -/
structure RwI (w : World) (b5 b6 B1 B2 n₁ : Nat) (ptr yv : Value) (W : World) (L : List Int) (last : Int) (v : Value) : Prop where
  o : Boxed W b5 22 v
  r : W.ownsRow n₁ 3 1 v L.length (L.flatMap encInt)
  l : Boxed W b6 3 (.int .i64 last)
  p1 : Boxed W B1 59 ptr
  p2 : Boxed W B2 3 yv
  b : Below w.heap.size w W
  sz : n₁ ≤ W.heap.size
structure RwC (w : World) (b5 b6 B1 B2 n₁ : Nat) : Prop where
  a : w.heap.size ≤ b5 ∧ w.heap.size ≤ b6 ∧ b5 < n₁ ∧ b6 < n₁ ∧ B1 < n₁ ∧ B2 < n₁
  b : b5 ≠ b6 ∧ b5 ≠ B1 ∧ b5 ≠ B2 ∧ b6 ≠ B1 ∧ b6 ≠ B2
section
variable {w W W' : World} {b5 b6 B1 B2 n₁ : Nat} {ptr yv : Value} {L : List Int} {last : Int} {v v' : Value}
theorem RwI.own (hc : RwC w b5 b6 B1 B2 n₁) (h : RwI w b5 b6 B1 B2 n₁ ptr yv W L last v) {row : Option Nat} (hg : W.grownBy W' row) (hr : ∀ r, row = some r → n₁ ≤ r ∧ ∃ o : Obj, W.heap[r]? = some o ∧ o.isCells = false) : RwI w b5 b6 B1 B2 n₁ ptr yv W' L last v := by
  have hb : ∀ B t u, Boxed W B t u → some B ≠ row := fun B t u hB e => by
    obtain ⟨-, o, ho, hc⟩ := hr B e.symm
    rw [show W.heap[B]? = _ from hB] at ho
    cases ho; cases hc
  refine ⟨h.o.kept hg (hb _ _ _ h.o), h.r.kept hg ?_, h.l.kept hg (hb _ _ _ h.l), h.p1.kept hg (hb _ _ _ h.p1), h.p2.kept hg (hb _ _ _ h.p2), h.b.grown hg h.b.size fun k e => by have := (hr k e).1; have := hc.a; omega, Nat.le_trans h.sz hg.size⟩
  rcases h.r.2 with ⟨rfl, _⟩ | ⟨g, cap, cur, rfl, _, hgb, _⟩
  · exact .inl rfl
  · refine .inr fun e => ?_
    obtain ⟨-, o, ho, hc⟩ := hr g e.symm
    rw [hgb] at ho
    cases ho; cases hc
/-- A width is appended. -/
theorem RwI.app (hc : RwC w b5 b6 B1 B2 n₁) (h : RwI w b5 b6 B1 B2 n₁ ptr yv W L last v) {w1 : World} {tmp : Obj} {x : Int} {k : Nat} (hk : L.length = k)
    (hown : w1.ownsRow n₁ 3 1 v' (k + 1) (L.flatMap encInt ++ encInt x)) (hg : (W.alloc tmp).grownBy w1 v.ownBlock) :
    Boxed w1 b5 22 v ∧ RwI w b5 b6 B1 B2 n₁ ptr yv (w1.setCell ⟨b5, 0, none⟩ v') (L ++ [x]) last v' ∧ KeepsOthers W (w1.setCell ⟨b5, 0, none⟩ v') ∧ KpC w.heap.size B1 B2 W (w1.setCell ⟨b5, 0, none⟩ v') ∧ ∀ B y z, RunB W B y z → RunB (w1.setCell ⟨b5, 0, none⟩ v') B y z := by
  subst hk
  have hn := h.sz
  have hgs := hg.size
  rw [World.size_alloc] at hgs
  obtain ⟨a1, a2, a3, a4, a5, a6⟩ := hc.a
  obtain ⟨d1, d2, d3, d4, d5⟩ := hc.b
  obtain ⟨hv1, hv2, hr2, hk2, hb2⟩ := h.o.appended (by decide) (ownsRow_mono h.r (by omega : w.heap.size ≤ n₁)) (by omega) (by omega) (ownsRow_mono hown (by omega : w.heap.size ≤ n₁)) hg
  have hne : ∀ B, B < n₁ → some B ≠ v.ownBlock := fun B hB e => by have := ownsRow_ge h.r e.symm; omega
  have hset := grownBy_setCell' w1 b5 v'
  have k6 := ((h.l.alloc tmp).kept hg (hne _ a4)).kept hset (fun e => d1 (by cases e; rfl))
  have k1 := ((h.p1.alloc tmp).kept hg (hne _ a5)).kept hset (fun e => d2 (by cases e; rfl))
  have k2 := ((h.p2.alloc tmp).kept hg (hne _ a6)).kept hset (fun e => d3 (by cases e; rfl))
  refine ⟨hv1, ⟨hv2, ?_, k6, k1, k2, h.b.trans (hb2.mono (Nat.le_refl _)), by rw [World.size_setCell]; omega⟩, hk2, ⟨hb2, fun u e => ?_, fun u e => ?_⟩, fun B y z hB => ?_⟩
  · have h3 := hown.kept hset (.inr (hv1.not_row (by decide) hown).symm)
    rw [List.length_append, List.flatMap_append]
    simpa using h3
  · rw [h.p1.cell] at e; cases e; exact k1.cell
  · rw [h.p2.cell] at e; cases e; exact k2.cell
  · have hB1 : RunB (W.alloc tmp) B y z := hB.kept (World.grownBy_alloc W tmp none) (by simp)
    refine (hB1.kept hg (typed_not_row hB (by decide) h.r)).kept hset fun e => ?_
    have e2 : B = b5 := by cases e; rfl
    have h9 := h.o
    unfold Boxed at h9
    rw [← e2, show W.heap[B]? = _ from hB] at h9
    cases h9
/-- The last run's end is stored. -/
theorem RwI.put (hc : RwC w b5 b6 B1 B2 n₁) (h : RwI w b5 b6 B1 B2 n₁ ptr yv W L last v) (z : Int) :
    RwI w b5 b6 B1 B2 n₁ ptr yv (W.setCell ⟨b6, 0, none⟩ (.int .i64 z)) L z v ∧ KeepsOthers W (W.setCell ⟨b6, 0, none⟩ (.int .i64 z)) ∧ KpC w.heap.size B1 B2 W (W.setCell ⟨b6, 0, none⟩ (.int .i64 z)) := by
  obtain ⟨a1, a2, a3, a4, a5, a6⟩ := hc.a
  obtain ⟨d1, d2, d3, d4, d5⟩ := hc.b
  have hset := grownBy_setCell' W b6 (.int .i64 z)
  have k5 := h.o.kept hset (fun e => d1 (by cases e; rfl))
  have k1 := h.p1.kept hset (fun e => d4 (by cases e; rfl))
  have k2 := h.p2.kept hset (fun e => d5 (by cases e; rfl))
  have hb : Below w.heap.size W (W.setCell ⟨b6, 0, none⟩ (.int .i64 z)) := (Below.refl _ W).setCell (p := ⟨b6, 0, none⟩) a2 _
  refine ⟨⟨k5, h.r.kept hset (.inr fun e => ?_), h.l.set _, k1, k2, h.b.trans hb, by rw [World.size_setCell]; exact h.sz⟩, KeepsOthers.setCell _ _ _, hb, fun u e => ?_, fun u e => ?_⟩
  · have := ownsRow_ge h.r e; omega
  · rw [h.p1.cell] at e; cases e; exact k1.cell
  · rw [h.p2.cell] at e; cases e; exact k2.cell
end
/-- A row of numbers of the call's own is returned. -/
def RetInts (xs : List Int) (w : World) (e : Ending) (w' : World) : Prop := ∃ v, e = .returned v ∧ Own w' w.heap.size 3 1 encInt v xs ∧ Below w.heap.size w w'
set_option maxRecDepth 100000 in
set_option maxHeartbeats 8000000 in
theorem lrow_in (n : Nat) (hn : 3 ≤ n) (g d c W H y : Nat) (p : Plane) (hW : 1 ≤ W ∧ W ≤ 1024) (hH : 1 ≤ H ∧ H ≤ 1024) (zs : List (Nat × Nat)) (hz : Runs (rowP p y) W 0 zs) (w : World) (hb : BitsAt w g d c W H p) :
    CallsIn Fence.wide n Try.prog 41 #[.pointer (some ⟨g, 0, none⟩), .int .i64 y] w (RetInts (stW zs).1 w) := by
  have hn1 : 1 ≤ n := by omega
  have hzl := hz.length
  obtain ⟨W1, hW1⟩ : ∃ W1, W1 = (w.alloc (.cells #[.slice none 0 0] 22)).alloc (.cells #[.int .i64 (-1)] 3) := ⟨_, rfl⟩
  obtain ⟨W2, hW2⟩ : ∃ W2, W2 = (W1.alloc (.cells #[.pointer (some ⟨g, 0, none⟩)] 59)).alloc (.cells #[.int .i64 y] 3) := ⟨_, rfl⟩
  have hz1 : W1.heap.size = w.heap.size + 1 + 1 := by rw [hW1, World.size_alloc, World.size_alloc]
  have hz2 : W2.heap.size = w.heap.size + 4 := by rw [hW2, World.size_alloc, World.size_alloc, hz1]
  have b5 : Boxed W2 w.heap.size 22 (.slice none 0 0) := by rw [hW2, hW1]; exact (((Boxed.new w _ _).alloc _).alloc _).alloc _
  have b6 : Boxed W2 (w.heap.size + 1) 3 (.int .i64 (-1)) := by
    have h := ((Boxed.new (w.alloc (.cells #[.slice none 0 0] 22)) 3 (.int .i64 (-1))).alloc (.cells #[.pointer (some ⟨g, 0, none⟩)] 59)).alloc (.cells #[.int .i64 y] 3)
    rw [World.size_alloc] at h
    rw [hW2, hW1]; exact h
  have q1 : Boxed W2 (w.heap.size + 1 + 1) 59 (.pointer (some ⟨g, 0, none⟩)) := by
    have h := (Boxed.new W1 59 (.pointer (some ⟨g, 0, none⟩))).alloc (.cells #[.int .i64 y] 3)
    rw [hz1] at h
    rw [hW2]; exact h
  have q2 : Boxed W2 (w.heap.size + 1 + 1 + 1) 3 (.int .i64 y) := by
    have h := Boxed.new (W1.alloc (.cells #[.pointer (some ⟨g, 0, none⟩)] 59)) 3 (.int .i64 y)
    rw [World.size_alloc, hz1] at h
    rw [hW2]; exact h
  have hB0 : Below w.heap.size w W2 := by rw [hW2, hW1]; exact balloc (balloc (balloc (balloc (Below.refl _ w) _) _) _) _
  have HRC : Hid (RwC w w.heap.size (w.heap.size + 1) (w.heap.size + 1 + 1) (w.heap.size + 1 + 1 + 1) W2.heap.size) := ⟨by rw [hz2]; omega, by omega⟩
  have hI0 : RwI w w.heap.size (w.heap.size + 1) (w.heap.size + 1 + 1) (w.heap.size + 1 + 1 + 1) W2.heap.size (.pointer (some ⟨g, 0, none⟩)) (.int .i64 y) W2 (stW []).1 (stW []).2 (.slice none 0 0) := ⟨b5, World.ownsRow_nil _ _ _ _, b6, q1, q2, hB0, Nat.le_refl _⟩
  have HW1 : Hid ((w.alloc (.cells #[.slice none 0 0] 22)).alloc (.cells #[.int .i64 (-1)] 3) = W1) := hW1.symm
  have HW2 : Hid ((W1.alloc (.cells #[.pointer (some ⟨g, 0, none⟩)] 59)).alloc (.cells #[.int .i64 y] 3) = W2) := hW2.symm
  have HZ1 := Lib.hid hz1
  have HZ2 := Lib.hid hz2
  have HI0 := Lib.hid hI0
  have HST := row_stops (n - 1) (by omega) (w.heap.size + 1 + 1) (w.heap.size + 1 + 1 + 1) w.heap.size g d c W H y p hW.2 hH.2 zs hz W2 (by omega) (by omega) (by omega) q1.cell q2.cell fun W' hb' => hb.below (hB0.trans hb') (by omega) (by omega)
  clear hW1 hW2 b5 b6 q1 q2 hB0 hI0 hz1 hz2
  refine callsIn_of_wp_marks Try.func41 rfl trivial ?_ rfl
  simp only [Try.ntmps41, List.size_toArray, List.length_cons, List.length_nil, Nat.reduceAdd, Nat.reduceSub, Array.replicate_succ, Array.replicate_zero, List.push_toArray, List.append_toArray, List.nil_append, List.cons_append]
  gi_wp2_with (rw [HW1.out]; refine ⟨trivial, ?_⟩; gi_at_call 18; refine (row_in _ _ _ _).mono ?_; rintro e w' ⟨rfl, rfl⟩)
  rw [HW2.out, HZ1.out]
  clear HW1 HW2
  obtain ⟨i0, hi, hz0, hz1', hz2', hz3, hz4⟩ := elemI
  refine wpIn_rangeFunc_ownH rfl hn1 (gf := 36) (lb := #[.pointer (some ⟨w.heap.size + 1 + 1, 0, none⟩), .pointer (some ⟨w.heap.size + 1 + 1 + 1, 0, none⟩)]) rfl trivial (enters_of Try.func36 (by kernel_rfl) rfl)
    HST kpC_t (kpC_b (by have := HZ2.out; omega)) (Below.refl _ _) (fun _ => rfl)
    (fun pre W => ∃ v, RwI w w.heap.size (w.heap.size + 1) (w.heap.size + 1 + 1) (w.heap.size + 1 + 1 + 1) W2.heap.size (.pointer (some ⟨g, 0, none⟩)) (.int .i64 y) W (stW pre).1 (stW pre).2 v)
    (fun _ _ _ => False)
    (fun pre X Y row hs hg hr => by obtain ⟨v, hv⟩ := hs; exact ⟨v, hv.own HRC.out hg hr⟩)
    (fun _ _ _ _ _ hs _ _ => hs)
    ⟨_, HI0.out⟩
    (fun x a' W => ∃ Bx, W2.heap.size ≤ Bx ∧ RunB W Bx y x ∧ a' = { tmps := #[.pointer (some ⟨g, 0, none⟩), .int .i64 y, undef, undef, .slice none 0 0, .pointer (some ⟨w.heap.size, 0, none⟩), .pointer (some ⟨w.heap.size + 1, 0, none⟩), .pointer (some ⟨Bx, 0, none⟩), .pointer (some ⟨g, 0, none⟩), .int .i64 y, .func (.func 36) #[] #[.pointer (some ⟨w.heap.size + 1 + 1, 0, none⟩), .pointer (some ⟨w.heap.size + 1 + 1 + 1, 0, none⟩)], .agg #[.int .i64 y, .int .i64 x.1, .int .i64 x.2], undef, undef, undef, undef, undef, undef, undef, undef, undef, undef, undef, undef, undef, undef, undef, undef, undef, undef, undef, undef], defers := [] })
    (fun x a' _ X Y row hs hg hr => by obtain ⟨Bx, g1, g2, g3⟩ := hs; exact ⟨Bx, g1, g2.own Bx y x hg (fun r e => (hr r e).2), g3⟩)
    ?assign ?body ?done ?stop
  case assign =>
    rintro l pre x W K ⟨v, hI⟩ hK
    obtain ⟨xa, xb⟩ := x
    dsimp only [encR]
    have hs2 := hI.sz
    gi_wp2
    exact hK _ _ ((KeepsOthers.alloc _ _).from _) ⟨(Below.refl _ W).alloc hI.b.size _, fun u e => keepCell (balloc (Below.refl _ W) _) e, fun u e => keepCell (balloc (Below.refl _ W) _) e⟩ ⟨v, hI.own HRC.out (World.grownBy_alloc W _ none) (fun r e => by cases e)⟩ ⟨W.heap.size, hs2, RunB.new W y (xa, xb), rfl⟩
  case body =>
    rintro l pre x a' W hl ⟨r, hr⟩ ⟨v, hI⟩ ⟨Bx, hBx, hX, rfl⟩ hlt
    obtain ⟨xa, xb⟩ := x
    have hpl := stW_len pre
    have hsn := stW_snoc pre (xa, xb)
    obtain ⟨L, last, hL⟩ : ∃ L last, stW pre = (L, last) := ⟨_, _, rfl⟩
    rw [hL] at hI hpl hsn
    simp only at hI hpl
    obtain ⟨k, hk⟩ : ∃ k, k = L.length := ⟨_, rfl⟩
    have HK1 : Hid (k ≤ 2050) := by show _ ≤ _; omega
    have HKE1 : Hid (L.length = k) := hk.symm
    have HSZ1 : Hid (W2.heap.size ≤ W.heap.size) := hI.sz
    obtain ⟨oa2, cap2, hv, -⟩ := Own.isSlc (xs := L) (enc := encInt) (show Go.Proofs.Ytcadgjhfdolejaa.Own W W2.heap.size 3 1 encInt v L from hI.r)
    rw [← hk] at hv
    subst hv
    have hcO := hI.o.cell
    have hcL := hI.l.cell
    obtain ⟨x0, x1, x2⟩ := hX.c
    simp only at x1 x2
    have HI := Lib.hid hI
    have HX := Lib.hid hX
    have HSN := Lib.hid hsn
    clear hI hX hsn hpl hL hk hlt
    by_cases h0 : 0 ≤ last
    · obtain ⟨d1, hd1⟩ : ∃ d, d = IntKind.i64.wrap ((xa : Int) - last) := ⟨_, rfl⟩
      obtain ⟨d2, hd2⟩ : ∃ d, d = IntKind.i64.wrap ((xb : Int) - (xa : Int)) := ⟨_, rfl⟩
      have w1' : IntKind.i64.wrap ((xa : Int) - last) = d1 := hd1.symm
      have w2' : IntKind.i64.wrap ((xb : Int) - (xa : Int)) = d2 := hd2.symm
      have HSN2 : Hid (stW (pre ++ [(xa, xb)]) = (L ++ [d1] ++ [d2], (xb : Int))) := by show _ = _; rw [HSN.out]; unfold stepW; dsimp only; rw [if_pos h0, w1', w2']
      have h0' : decide (0 ≤ last) = true := decide_eq_true h0
      clear hd1 hd2 HSN
      have hnew3 : Hid (∀ (j : Nat) (u : Value), (encInt (d1))[j]? = some u → ((W).alloc (.cells #[.int .i64 (d1)] 3)).cell? ((⟨W.heap.size, 0, none⟩ : Addr).add j) = some u) := by
        have h := World.news_of_block (cs := #[.int .i64 (d1)]) (t := 3) (fr := (0, 0)) (heap_alloc_new (W) _)
        first | exact h | (rw [World.size_setCell] at h; exact h)
      gi_wp2_with (gi_at_builtin; refine wpListIn_append_own _ rfl _ _ 22 rfl W2.heap.size 3 i0 (.int .i64 0) 1 8 Try.underlying22 hi hz0 hz1' hz2' rfl (by decide) _ _ _ rfl (by have h := HI.out.r; rw [HKE1.out] at h; exact h.alloc _) ⟨W.heap.size, 0, none⟩ 1 1 (encInt (d1)) rfl rfl hnew3.out ?c1 ?c2 ?c3 ?c4 ?_)
      case c1 => simp [encInt, Value.oneCell']
      case c2 => have := HK1.out; unfold maxLen; omega
      case c3 => have := HK1.out; omega
      case c4 => have := HSZ1.out; simp; omega
      intro v3 w3 hown3 hgrow3 _
      obtain ⟨g3, cap3, rfl⟩ := ownsRow_succ hown3
      have hst3 := HI.out.app HRC.out HKE1.out hown3 hgrow3
      clear hown3 hgrow3 hnew3
      obtain ⟨hv1, hI1, hk1, hkp1, hrb1⟩ := hst3
      have hc1 := hv1.cell
      have hf1 := hv1.frozen
      have HX1 := Lib.hid (hrb1 Bx y (xa, xb) HX.out)
      obtain ⟨y0, y1, y2⟩ := HX1.out.c
      simp only at y1 y2
      have hcO1 := hI1.o.cell
      obtain ⟨L1, hL1⟩ : ∃ L1, L1 = L ++ [d1] := ⟨_, rfl⟩
      rw [← hL1] at hI1 HSN2
      have HI1 := Lib.hid hI1
      have HKP1 := Lib.hid hkp1
      have HKO1 := Lib.hid hk1
      have HK4 : Hid (k + 1 ≤ 2051) := by have := HK1.out; show _ ≤ _; omega
      have HKE4 : Hid (L1.length = k + 1) := by show _ = _; rw [hL1, List.length_append, HKE1.out]; rfl
      have HSZ4 : Hid (W2.heap.size ≤ w3.heap.size) := by have h := hI1.sz; rw [World.size_setCell] at h; exact h
      clear hv1 hI1 hk1 hkp1 hrb1 hL1
      have hnew4 : Hid (∀ (j : Nat) (u : Value), (encInt (d2))[j]? = some u → ((w3.setCell ⟨w.heap.size, 0, none⟩ (.slice (some ⟨g3, 0, none⟩) (k + 1) cap3)).alloc (.cells #[.int .i64 (d2)] 3)).cell? ((⟨w3.heap.size, 0, none⟩ : Addr).add j) = some u) := by
        have h := World.news_of_block (cs := #[.int .i64 (d2)]) (t := 3) (fr := (0, 0)) (heap_alloc_new (w3.setCell ⟨w.heap.size, 0, none⟩ (.slice (some ⟨g3, 0, none⟩) (k + 1) cap3)) _)
        first | exact h | (rw [World.size_setCell] at h; exact h)
      gi_wp2_with (gi_at_builtin; refine wpListIn_append_own _ rfl _ _ 22 rfl W2.heap.size 3 i0 (.int .i64 0) 1 8 Try.underlying22 hi hz0 hz1' hz2' rfl (by decide) _ _ _ rfl (by have h := HI1.out.r; rw [HKE4.out] at h; exact h.alloc _) ⟨w3.heap.size, 0, none⟩ 1 1 (encInt (d2)) rfl rfl hnew4.out ?c1 ?c2 ?c3 ?c4 ?_)
      case c1 => simp [encInt, Value.oneCell']
      case c2 => have := HK4.out; unfold maxLen; omega
      case c3 => have := HK4.out; omega
      case c4 => have := HSZ4.out; simp; omega
      intro v4 w4 hown4 hgrow4 _
      obtain ⟨g4, cap4, rfl⟩ := ownsRow_succ hown4
      have hst4 := HI1.out.app HRC.out HKE4.out hown4 hgrow4
      clear hown4 hgrow4 hnew4
      obtain ⟨hv2, hI2, hk2, hkp2, hrb2⟩ := hst4
      have hc2 := hv2.cell
      have hf2 := hv2.frozen
      have HX2 := Lib.hid (hrb2 Bx y (xa, xb) HX1.out)
      obtain ⟨u0, u1, u2⟩ := HX2.out.c
      simp only at u1 u2
      have hl2 := hI2.l.cell
      have hlf := hI2.l.frozen
      obtain ⟨hI3, hk3, hkp3⟩ := hI2.put HRC.out (xb : Int)
      have HF : Hid (KeepsOthers W (((w4.setCell ⟨w.heap.size, 0, none⟩ (.slice (some ⟨g4, 0, none⟩) (k + 1 + 1) cap4))).setCell ⟨w.heap.size + 1, 0, none⟩ (.int .i64 xb)) ∧ KpC w.heap.size (w.heap.size + 1 + 1) (w.heap.size + 1 + 1 + 1) W (((w4.setCell ⟨w.heap.size, 0, none⟩ (.slice (some ⟨g4, 0, none⟩) (k + 1 + 1) cap4))).setCell ⟨w.heap.size + 1, 0, none⟩ (.int .i64 xb))) := ⟨(HKO1.out.trans hk2).trans hk3, kpC_t (kpC_t HKP1.out hkp2) hkp3⟩
      have HI3 := Lib.hid hI3
      clear hv2 hI2 hk2 hkp2 hrb2 hI3 hk3 hkp3
      gi_wp2
      refine ⟨HF.out.1.from _, HF.out.2, ⟨.slice (some ⟨g4, 0, none⟩) (k + 1 + 1) cap4, ?_⟩⟩
      rw [HSN2.out]
      exact HI3.out
    · obtain ⟨d2, hd2⟩ : ∃ d, d = IntKind.i64.wrap ((xb : Int) - (xa : Int)) := ⟨_, rfl⟩
      have w2' : IntKind.i64.wrap ((xb : Int) - (xa : Int)) = d2 := hd2.symm
      have HSN2 : Hid (stW (pre ++ [(xa, xb)]) = (L ++ [d2], (xb : Int))) := by show _ = _; rw [HSN.out]; unfold stepW; dsimp only; rw [if_neg h0, w2']
      have h0' : decide (0 ≤ last) = false := decide_eq_false h0
      clear hd2 HSN
      have hnew3 : Hid (∀ (j : Nat) (u : Value), (encInt (d2))[j]? = some u → ((W).alloc (.cells #[.int .i64 (d2)] 3)).cell? ((⟨W.heap.size, 0, none⟩ : Addr).add j) = some u) := by
        have h := World.news_of_block (cs := #[.int .i64 (d2)]) (t := 3) (fr := (0, 0)) (heap_alloc_new (W) _)
        first | exact h | (rw [World.size_setCell] at h; exact h)
      gi_wp2_with (gi_at_builtin; refine wpListIn_append_own _ rfl _ _ 22 rfl W2.heap.size 3 i0 (.int .i64 0) 1 8 Try.underlying22 hi hz0 hz1' hz2' rfl (by decide) _ _ _ rfl (by have h := HI.out.r; rw [HKE1.out] at h; exact h.alloc _) ⟨W.heap.size, 0, none⟩ 1 1 (encInt (d2)) rfl rfl hnew3.out ?c1 ?c2 ?c3 ?c4 ?_)
      case c1 => simp [encInt, Value.oneCell']
      case c2 => have := HK1.out; unfold maxLen; omega
      case c3 => have := HK1.out; omega
      case c4 => have := HSZ1.out; simp; omega
      intro v3 w3 hown3 hgrow3 _
      obtain ⟨g3, cap3, rfl⟩ := ownsRow_succ hown3
      have hst3 := HI.out.app HRC.out HKE1.out hown3 hgrow3
      clear hown3 hgrow3 hnew3
      obtain ⟨hv2, hI2, hk2, hkp2, hrb2⟩ := hst3
      have hc2 := hv2.cell
      have hf2 := hv2.frozen
      have HX2 := Lib.hid (hrb2 Bx y (xa, xb) HX.out)
      obtain ⟨u0, u1, u2⟩ := HX2.out.c
      simp only at u1 u2
      have hl2 := hI2.l.cell
      have hlf := hI2.l.frozen
      obtain ⟨hI3, hk3, hkp3⟩ := hI2.put HRC.out (xb : Int)
      have HF : Hid (KeepsOthers W (((w3.setCell ⟨w.heap.size, 0, none⟩ (.slice (some ⟨g3, 0, none⟩) (k + 1) cap3))).setCell ⟨w.heap.size + 1, 0, none⟩ (.int .i64 xb)) ∧ KpC w.heap.size (w.heap.size + 1 + 1) (w.heap.size + 1 + 1 + 1) W (((w3.setCell ⟨w.heap.size, 0, none⟩ (.slice (some ⟨g3, 0, none⟩) (k + 1) cap3))).setCell ⟨w.heap.size + 1, 0, none⟩ (.int .i64 xb))) := ⟨hk2.trans hk3, kpC_t hkp2 hkp3⟩
      have HI3 := Lib.hid hI3
      clear hv2 hI2 hk2 hkp2 hrb2 hI3 hk3 hkp3
      gi_wp2
      refine ⟨HF.out.1.from _, HF.out.2, ⟨.slice (some ⟨g3, 0, none⟩) (k + 1) cap3, ?_⟩⟩
      rw [HSN2.out]
      exact HI3.out
  case done =>
    rintro D ys W hD rfl ⟨v, hI⟩ hK
    obtain ⟨k, hk⟩ : ∃ k, k = (stW ys).1.length := ⟨_, rfl⟩
    obtain ⟨oa2, cap2, hv, -⟩ := Own.isSlc (xs := (stW ys).1) (enc := encInt) (show Go.Proofs.Ytcadgjhfdolejaa.Own W W2.heap.size 3 1 encInt v (stW ys).1 from hI.r)
    rw [← hk] at hv
    subst hv
    have cO := hI.o.cell
    have HF : Hid (RetInts (stW ys).1 w (.returned (.slice oa2 k cap2)) (W.putObj D (.deferred none))) :=
      ⟨_, rfl, ownsRow_putObj (ownsRow_mono hI.r (by have := HZ2.out; omega)) _ hK rfl, hI.b.trans (belowK_b (w := W2) (by have := HZ2.out; omega) W D _ _ hD hK rfl rfl)⟩
    clear hI hk
    gi_wp2
    refine ⟨by simp, .inl ⟨_, _, rfl, run_takeDeferred hK, ?_⟩⟩
    refine ⟨_, results_tmp (show Try.f41.results = #[.tmp 4] from rfl) _ _ _, ?_⟩
    exact HF.out
  case stop =>
    rintro D c pre W _ _ h _
    exact h.elim
theorem lrow_any (g d c W H y : Nat) (p : Plane) (hW : 1 ≤ W ∧ W ≤ 1024) (hH : 1 ≤ H ∧ H ≤ 1024) (zs : List (Nat × Nat)) (hz : Runs (rowP p y) W 0 zs) (w : World) (hb : BitsAt w g d c W H p) :
    Calls Try.prog 41 #[.pointer (some ⟨g, 0, none⟩), .int .i64 y] w (RetInts (stW zs).1 w) :=
  (callsIn_wide (n := 3)).1 (lrow_in 3 (Nat.le_refl _) g d c W H y p hW hH zs hz w hb)
end Go.Proofs.Ytcadgjhfdolejaa
