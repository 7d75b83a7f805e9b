/-
  The walk of bitmap.Runs. Own text.
-/
import Derived.Test.YtcadgjhfdolejaaLRow
import Derived.Test.YtcadgjhfdolejaaChk
namespace Go.Proofs.Ytcadgjhfdolejaa
open Go.RowKit Go.Shelf
set_option linter.unusedVariables false
attribute [local go_sem] Oper.semAt_some
/-! ### Marks among the deferred calls -/
def marks (Ds : List Nat) : List Deferred := Ds.map fun D => { target := .collected D, args := #[] }
def MarksOk (B : Nat) (Ds : List Nat) (W : World) : Prop := Ds.Nodup ∧ ∀ D ∈ Ds, B ≤ D ∧ W.heap[D]? = some (.deferred (some []))
theorem leaves_marks {P : Program} {n : Nat} {fn : Func} {tmps : Array Value} {R : Ending → World → Prop} {B : Nat} {Φ : World → Prop}
    (hΦ : ∀ W D, Φ W → B ≤ D → W.heap[D]? = some (.deferred (some [])) → Φ (W.putObj D (.deferred none)))
    (hR : ∀ W, Φ W → ∃ v, (results fn tmps).run P W = .ok v W ∧ R (.returned v) W) : ∀ (Ds : List Nat) (W : World), MarksOk B Ds W → Φ W → LeavesInM Fence.wide n P fn tmps R (marks Ds) .returning W
  | [], W, _, h => hR W h
  | D :: Ds, W, ⟨hn, hm⟩, h => by
    obtain ⟨hb, hh⟩ := hm D (List.mem_cons_self ..)
    rw [List.nodup_cons] at hn
    refine ⟨by simp, .inl ⟨D, _, rfl, run_takeDeferred hh, ?_⟩⟩
    refine leaves_marks hΦ hR Ds _ ⟨hn.2, fun E hE => ?_⟩ (hΦ W D h hb hh)
    obtain ⟨e1, e2⟩ := hm E (List.mem_cons_of_mem _ hE)
    refine ⟨e1, ?_⟩
    rw [World.putObj_heap_other (fun e => hn.1 (by rw [← e]; exact hE))]
    exact e2
theorem MarksOk.kept {B : Nat} {Ds : List Nat} {W W' : World} (h : MarksOk B Ds W) (hk : ∀ D ∈ Ds, W.heap[D]? = some (.deferred (some [])) → W'.heap[D]? = some (.deferred (some []))) : MarksOk B Ds W' :=
  ⟨h.1, fun D hD => ⟨(h.2 D hD).1, hk D hD (h.2 D hD).2⟩⟩
theorem MarksOk.keeps {B : Nat} {Ds : List Nat} {W W' : World} (h : MarksOk B Ds W) (hk : KeepsOthers W W') : MarksOk B Ds W' :=
  h.kept fun D hD e => hk.same D _ e rfl
theorem MarksOk.lt {B : Nat} {Ds : List Nat} {W : World} (h : MarksOk B Ds W) {D : Nat} (hD : D ∈ Ds) : D < W.heap.size := (Array.getElem?_eq_some_iff.1 (h.2 D hD).2).1
/-! ### Runs of rows -/
def encRun (x : Nat × Nat × Nat) : List Value := [.int .i64 x.1, .int .i64 x.2.1, .int .i64 x.2.2]
theorem elemRun : ElemType Try.prog 37 (.agg #[.int .i64 0, .int .i64 0, .int .i64 0]) 3 24 := ElemType.mk (by kernel_rfl) rfl (by decide)
def rowsTo (z : Nat → List (Nat × Nat)) (n : Nat) : List (Nat × Nat × Nat) := (List.range n).flatMap fun y => (z y).map fun x => (y, x)
theorem rowsTo_succ (z : Nat → List (Nat × Nat)) (n : Nat) : rowsTo z (n + 1) = rowsTo z n ++ (z n).map fun x => (n, x) := by
  unfold rowsTo
  rw [List.range_succ, List.flatMap_append]
  simp
theorem rowsTo_len (z : Nat → List (Nat × Nat)) (m : Nat) : ∀ n, (∀ y, y < n → (z y).length ≤ m) → (rowsTo z n).length ≤ n * m
  | 0, _ => by simp [rowsTo]
  | n + 1, h => by
    have h1 := rowsTo_len z m n fun y hy => h y (by omega)
    have h2 := h n (by omega)
    rw [rowsTo_succ, List.length_append, List.length_map, Nat.succ_mul]
    omega
/-- The state between two runs of row y. -/
structure RsI (w1 : World) (b5 B1 B2 : Nat) (ptr yv : Value) (Ds : List Nat) (B : Nat) (W : World) (L : List (Nat × Nat × Nat)) (v : Value) : Prop where
  o : Boxed W b5 33 v
  r : W.ownsRow w1.heap.size 37 3 v L.length (L.flatMap encRun)
  p1 : Boxed W B1 59 ptr
  p2 : Boxed W B2 3 yv
  b : Below w1.heap.size w1 W
  m : MarksOk w1.heap.size Ds W
  sz : B ≤ W.heap.size
structure RsC (w1 : World) (b5 B1 B2 : Nat) (Ds : List Nat) (B : Nat) : Prop where
  a : w1.heap.size ≤ b5 ∧ b5 ≠ B1 ∧ b5 ≠ B2 ∧ w1.heap.size ≤ B
  d : ∀ D ∈ Ds, D < B
section
variable {w1 W W' : World} {b5 B1 B2 B : Nat} {ptr yv : Value} {Ds : List Nat} {L : List (Nat × Nat × Nat)} {v v' : Value}
theorem RsI.own (hc : RsC w1 b5 B1 B2 Ds B) (h : RsI w1 b5 B1 B2 ptr yv Ds B W L v) {row : Option Nat} (hg : W.grownBy W' row) (hr : ∀ r, row = some r → B ≤ r ∧ ∃ o : Obj, W.heap[r]? = some o ∧ o.isCells = false) : RsI w1 b5 B1 B2 ptr yv Ds B W' L v := by
  have hb : ∀ B t u, Boxed W B t u → some B ≠ row := fun B t u hB e => by
    obtain ⟨-, o, ho, hc⟩ := hr B e.symm
    rw [show W.heap[B]? = _ from hB] at ho
    cases ho; cases hc
  refine ⟨h.o.kept hg (hb _ _ _ h.o), h.r.kept hg ?_, h.p1.kept hg (hb _ _ _ h.p1), h.p2.kept hg (hb _ _ _ h.p2), h.b.grown hg h.b.size fun k e => by have := (hr k e).1; have := hc.a; omega, h.m.kept fun D hD e => ?_, Nat.le_trans h.sz hg.size⟩
  · rcases h.r.2 with ⟨rfl, _⟩ | ⟨g, cap, cur, rfl, _, hgb, _⟩
    · exact .inl rfl
    · refine .inr fun e => ?_
      obtain ⟨-, o, ho, hc⟩ := hr g e.symm
      rw [hgb] at ho
      cases ho; cases hc
  · rw [hg.block D (h.m.lt hD) fun e2 => ?_]
    · exact e
    · have := (hr D e2.symm).1
      have := hc.d D hD
      omega
/-- A run is appended. -/
theorem RsI.app (hc : RsC w1 b5 B1 B2 Ds B) (h : RsI w1 b5 B1 B2 ptr yv Ds B W L v) {w3 : World} {tmp : Obj} {x : Nat × Nat × Nat} {k : Nat} (hk : L.length = k)
    (hown : w3.ownsRow w1.heap.size 37 3 v' (k + 1) (L.flatMap encRun ++ encRun x)) (hg : (W.alloc tmp).grownBy w3 v.ownBlock) :
    Boxed w3 b5 33 v ∧ RsI w1 b5 B1 B2 ptr yv Ds B (w3.setCell ⟨b5, 0, none⟩ v') (L ++ [x]) v' ∧ KeepsOthers W (w3.setCell ⟨b5, 0, none⟩ v') ∧ KpC w1.heap.size B1 B2 W (w3.setCell ⟨b5, 0, none⟩ v') := by
  subst hk
  obtain ⟨a1, a2, a3, a4⟩ := hc.a
  have hsz := h.sz
  have hgs := hg.size
  rw [World.size_alloc] at hgs
  obtain ⟨hv1, hv2, hr2, hk2, hb2⟩ := h.o.appended (by decide) h.r (by omega) a1 hown hg
  have hset := grownBy_setCell' w3 b5 v'
  have k1 := ((h.p1.alloc tmp).kept hg (typed_not_row h.p1 (by decide) h.r)).kept hset (fun e => a2 (by cases e; rfl))
  have k2 := ((h.p2.alloc tmp).kept hg (typed_not_row h.p2 (by decide) h.r)).kept hset (fun e => a3 (by cases e; rfl))
  refine ⟨hv1, ⟨hv2, ?_, k1, k2, h.b.trans hb2, h.m.keeps hk2, by rw [World.size_setCell]; omega⟩, hk2, hb2, fun u e => ?_, fun u e => ?_⟩
  · rw [List.length_append, List.flatMap_append]
    simpa using hr2
  · rw [h.p1.cell] at e; cases e; exact k1.cell
  · rw [h.p2.cell] at e; cases e; exact k2.cell
end
/-- The state between two rows. -/
structure OutI (w1 : World) (b5 : Nat) (Ds : List Nat) (W : World) (L : List (Nat × Nat × Nat)) (v : Value) : Prop where
  o : Boxed W b5 33 v
  r : W.ownsRow w1.heap.size 37 3 v L.length (L.flatMap encRun)
  b : Below w1.heap.size w1 W
  m : MarksOk w1.heap.size Ds W
/-- Runs of the call's own are returned, and 0. -/
def RetRuns (xs : List (Nat × Nat × Nat)) (w : World) (e : Ending) (w' : World) : Prop := ∃ v, e = .returned (.tuple #[v, .int .i64 0]) ∧ Own w' w.heap.size 37 3 encRun v xs ∧ Below w.heap.size w w'
set_option maxRecDepth 100000 in
set_option maxHeartbeats 8000000 in
theorem runs_in (n : Nat) (hn : 3 ≤ n) (d c W H : Nat) (p : Plane) (hW : 1 ≤ W ∧ W ≤ 1024) (hH : 1 ≤ H ∧ H ≤ 1024) (z : Nat → List (Nat × Nat)) (hz : ∀ y, y < H → Runs (rowP p y) W 0 (z y)) (w : World) (hd : Dat w d W H p) :
    CallsIn Fence.wide n Try.prog 7 #[.agg #[.int .i64 W, .int .i64 H, .slice (some ⟨d, 0, none⟩) (strV W * H) c]] w (RetRuns (rowsTo z H) w) := by
  have hn1 : 1 ≤ n := by omega
  obtain ⟨W1, hW1⟩ : ∃ W1, W1 = w.alloc (.cells #[.int .i64 W, .int .i64 H, .slice (some ⟨d, 0, none⟩) (strV W * H) c] 29) := ⟨_, rfl⟩
  have hz1 : W1.heap.size = w.heap.size + 1 := by rw [hW1]; simp
  have hb1 : Below w.heap.size w W1 := by rw [hW1]; exact balloc (Below.refl _ _) _
  have ht1 : T3 W1 w.heap.size (.int .i64 W) (.int .i64 H) (.slice (some ⟨d, 0, none⟩) (strV W * H) c) := by rw [hW1]; exact T3.new w _ _ _ _
  have HBT : Hid (BitsAt W1 w.heap.size d c W H p) := ⟨ht1.c0, ht1.c1, ht1.c2, hd.below hb1 (hd.lt (by omega) (by omega))⟩
  have HCK : Hid (Calls Try.prog 17 #[.agg #[.int .i64 W, .int .i64 H, .slice (some ⟨d, 0, none⟩) (strV W * H) c]] W1 fun e w' => e = .returned (.int .i64 0) ∧ Below W1.heap.size W1 w') := check_any d c W H p hW hH W1 HBT.out.dat
  obtain ⟨m, hm⟩ : ∃ m, m = strV W * H := ⟨_, rfl⟩
  have HM := Lib.hid hm
  rw [← hm] at ht1 hW1 HCK ⊢
  have HW1 : Hid (w.alloc (.cells #[.int .i64 W, .int .i64 H, .slice (some ⟨d, 0, none⟩) m c] 29) = W1) := hW1.symm
  have HZ1 := Lib.hid hz1
  have HB1 := Lib.hid hb1
  have HT1 := Lib.hid ht1
  have HZ := Lib.hid hz
  clear hW1 hz1 hb1 ht1 hm hz hd
  refine callsIn_of_wp_marks Try.func7 rfl trivial ?_ rfl
  simp only [Try.ntmps7, List.size_toArray, List.length_cons, List.length_nil, Nat.reduceAdd, Nat.reduceSub, Array.replicate_succ, Array.replicate_zero, List.push_toArray, List.append_toArray, List.nil_append, List.cons_append]
  have c0 := HT1.out.c0
  have c1 := HT1.out.c1
  have c2 := HT1.out.c2
  gi_wp2_with (rw [HW1.out]; refine ⟨trivial, ?_⟩; refine (callsIn_wide.2 HCK.out).mono ?_; rintro e w2 ⟨rfl, hb2⟩; have HB2 := Lib.hid hb2; have d1 : w2.cell? ⟨w.heap.size, 1, none⟩ = some (.int .i64 H) := keepCell hb2 c1; have d1' : (w2.alloc (.cells #[.slice none 0 0] 33)).cell? ⟨w.heap.size, 1, none⟩ = some (.int .i64 H) := keepCell (balloc (Below.refl _ _) _) d1; clear c0 c1 c2 hb2)
  obtain ⟨W5, hW5⟩ : ∃ W5, W5 = w2.alloc (.cells #[.slice none 0 0] 33) := ⟨_, rfl⟩
  obtain ⟨b5, hb5⟩ : ∃ b, b = w2.heap.size := ⟨_, rfl⟩
  have HOI : Hid (OutI W1 b5 [] W5 (rowsTo z 0) (.slice none 0 0)) := by
    refine ⟨by rw [hW5, hb5]; exact Boxed.new _ _ _, World.ownsRow_nil _ _ _ _, by rw [hW5]; exact balloc HB2.out _, List.nodup_nil, fun D hD => by cases hD⟩
  have HB5 : Hid (W1.heap.size ≤ b5) := by have := HB2.out.size; show _ ≤ _; omega
  rw [← hW5, ← hb5]
  clear hW5 hb5 d1 d1' HCK HW1
  refine wpIn_loop (fun a wr => ∃ y : Nat, ∃ u6 u16 u17 u18 u19 u25 : Value, ∃ (Ds : List Nat) (v : Value), y ≤ H ∧ a = { tmps := #[.agg #[.int .i64 W, .int .i64 H, .slice (some ⟨d, 0, none⟩) m c], .pointer (some ⟨w.heap.size, 0, none⟩), .slice none 0 0, .int .i64 0, .int .i64 0, .pointer (some ⟨b5, 0, none⟩), u6, undef, .agg #[.int .i64 W, .int .i64 H, .slice (some ⟨d, 0, none⟩) m c], .int .i64 0, .int .i64 0, .bool false, undef, .pointer (some ⟨w.heap.size, 1, none⟩), .int .i64 H, .int .i64 (y : Int), u16, u17, u18, u19, undef, undef, undef, undef, undef, u25, undef], defers := marks Ds } ∧ Hid (OutI W1 b5 Ds wr (rowsTo z y) v)) (fun a _ => H - (intOf (a.tmps.getD 15 undef)).toNat) ?atStart ?round
  case atStart => exact ⟨0, undef, undef, undef, undef, undef, undef, [], _, by omega, rfl, HOI⟩
  case round =>
    clear HOI
    rintro a wr ⟨y, u6, u16, u17, u18, u19, u25, Ds, v, hy, rfl, HO⟩
    have hbt : BitsAt wr w.heap.size d c W H p := by
      have h := HBT.out.below HO.out.b (by omega) (by omega)
      exact h
    by_cases hlt : y < H
    · have kd : (y : Int) < (H : Int) := by omega
      have hx1 : IntKind.i64.wrap ((y : Int) + 1) = (y : Int) + 1 := IntWalk.i64_in _ (by omega)
      gi_wp2_with (refine ⟨trivial, ?_⟩; gi_at_call 18; refine (row_in _ _ _ _).mono ?_; rintro e w' ⟨rfl, rfl⟩)
      obtain ⟨W6, hW6⟩ : ∃ W6, W6 = (wr.alloc (.cells #[.pointer (some ⟨w.heap.size, 0, none⟩)] 59)).alloc (.cells #[.int .i64 y] 3) := ⟨_, rfl⟩
      have hz6 : W6.heap.size = wr.heap.size + 2 := by rw [hW6, World.size_alloc, World.size_alloc]
      have q1 : Boxed W6 wr.heap.size 59 (.pointer (some ⟨w.heap.size, 0, none⟩)) := by rw [hW6]; exact (Boxed.new wr _ _).alloc _
      have q2 : Boxed W6 (wr.heap.size + 1) 3 (.int .i64 y) := by
        have h := Boxed.new (wr.alloc (.cells #[.pointer (some ⟨w.heap.size, 0, none⟩)] 59)) 3 (.int .i64 y)
        rw [World.size_alloc] at h
        rw [hW6]; exact h
      have hb6 : Below wr.heap.size wr W6 := by rw [hW6]; exact balloc (balloc (Below.refl _ wr) _) _
      have hb16 : Below W1.heap.size W1 W6 := bthen HO.out.b hb6
      have hko : KeepsOthers wr W6 := by rw [hW6]; exact (KeepsOthers.alloc _ _).trans (KeepsOthers.alloc _ _)
      have HRC : Hid (RsC W1 b5 wr.heap.size (wr.heap.size + 1) Ds W6.heap.size) := ⟨⟨HB5.out, by have := HO.out.o.lt; omega, by have := HO.out.o.lt; omega, by have := HO.out.b.size; omega⟩, fun D hD => by have := HO.out.m.lt hD; omega⟩
      have HI0 : Hid (RsI W1 b5 wr.heap.size (wr.heap.size + 1) (.pointer (some ⟨w.heap.size, 0, none⟩)) (.int .i64 y) Ds W6.heap.size W6 (rowsTo z y ++ ([] : List (Nat × Nat)).map fun x => (y, x)) v) := by
        rw [List.map_nil, List.append_nil]
        exact ⟨by rw [hW6]; exact (HO.out.o.alloc _).alloc _, by rw [hW6]; exact World.ownsRow.alloc (World.ownsRow.alloc HO.out.r _) _, q1, q2, hb16, HO.out.m.keeps hko, Nat.le_refl _⟩
      have hzy := (HZ.out y hlt)
      have hzl := hzy.length
      have hrl := rowsTo_len z 1024 y fun q hq => by have := (HZ.out q (by omega)).length; omega
      have HRL : Hid ((rowsTo z y).length ≤ 1024 * 1024 ∧ (z y).length ≤ 1024) := ⟨Nat.le_trans hrl (Nat.mul_le_mul (by omega) (Nat.le_refl _)), by omega⟩
      have HSTP := row_stops (n - 1) (by omega) wr.heap.size (wr.heap.size + 1) W1.heap.size w.heap.size d c W H y p hW.2 hH.2 (z y) hzy W6 (by omega) (by omega) hb16.size q1.cell q2.cell fun W' hb' => HBT.out.below (hb16.trans hb') (by omega) (by omega)
      have HZ6 := Lib.hid hz6
      have HB16 := Lib.hid hb16
      rw [← hW6]
      clear hW6 hz6 q1 q2 hb6 hb16 hko hzy hzl hrl hbt
      obtain ⟨i0, hi, hz0, hz1', hz2', hz3, hz4⟩ := elemRun
      refine wpIn_rangeFunc_ownH rfl hn1 (gf := 36) (lb := #[.pointer (some ⟨wr.heap.size, 0, none⟩), .pointer (some ⟨wr.heap.size + 1, 0, none⟩)]) rfl trivial (enters_of Try.func36 (by kernel_rfl) rfl)
        HSTP kpC_t (kpC_b HB16.out.size) (Below.refl _ _) (fun _ => rfl)
        (fun pre W => ∃ v, RsI W1 b5 wr.heap.size (wr.heap.size + 1) (.pointer (some ⟨w.heap.size, 0, none⟩)) (.int .i64 y) Ds W6.heap.size W (rowsTo z y ++ pre.map fun x => (y, x)) v)
        (fun _ _ _ => False)
        (fun pre X Y row hs hg hr => by obtain ⟨v, hv⟩ := hs; exact ⟨v, hv.own HRC.out hg hr⟩)
        (fun _ _ _ _ _ hs _ _ => hs)
        ⟨_, HI0.out⟩
        (fun x a' Wq => ∃ Bx vx, W6.heap.size ≤ Bx ∧ (RunB Wq Bx y x ∧ Boxed Wq b5 33 vx ∧ vx.ownBlock ≠ some Bx) ∧ a' = { tmps := #[.agg #[.int .i64 W, .int .i64 H, .slice (some ⟨d, 0, none⟩) m c], .pointer (some ⟨w.heap.size, 0, none⟩), .slice none 0 0, .int .i64 0, .int .i64 0, .pointer (some ⟨b5, 0, none⟩), .int .i64 (y : Int), .pointer (some ⟨Bx, 0, none⟩), .agg #[.int .i64 W, .int .i64 H, .slice (some ⟨d, 0, none⟩) m c], .int .i64 0, .int .i64 0, .bool false, undef, .pointer (some ⟨w.heap.size, 1, none⟩), .int .i64 H, .int .i64 (y : Int), .bool true, .int .i64 (y : Int), .int .i64 (y : Int), .func (.func 36) #[] #[.pointer (some ⟨wr.heap.size, 0, none⟩), .pointer (some ⟨wr.heap.size + 1, 0, none⟩)], .agg #[.int .i64 y, .int .i64 x.1, .int .i64 x.2], undef, undef, undef, undef, u25, undef], defers := [] })
        (fun x a' _ X Y row hs hg hr => by obtain ⟨Bx, vx, g1, ⟨g2, g3, g4⟩, g5⟩ := hs; exact ⟨Bx, vx, g1, ⟨g2.own Bx y x hg (fun r e => (hr r e).2), boxed_own b5 _ (fun (_ : Unit) => vx) () X Y row g3 hg (fun r e => (hr r e).2), g4⟩, g5⟩)
        ?assign ?body ?done ?stop
      case assign =>
        rintro l pre x Wq K ⟨vx, hI⟩ hK
        obtain ⟨xa, xb⟩ := x
        dsimp only [encR]
        have hs2 := hI.sz
        gi_wp2
        exact hK _ _ ((KeepsOthers.alloc _ _).from _) ⟨(Below.refl _ Wq).alloc hI.b.size _, fun u e => keepCell (balloc (Below.refl _ Wq) _) e, fun u e => keepCell (balloc (Below.refl _ Wq) _) e⟩ ⟨vx, hI.own HRC.out (World.grownBy_alloc Wq _ none) (fun r e => by cases e)⟩ ⟨Wq.heap.size, vx, hs2, ⟨RunB.new Wq y (xa, xb), hI.o.alloc _, fun e => Nat.lt_irrefl _ (World.ownsRow.lt hI.r _ e).2⟩, rfl⟩
      case body =>
        rintro l pre x a' Wq hl ⟨r, hr⟩ ⟨vq, hI⟩ ⟨Bx, vx, hBx, ⟨hX, hO, hvx⟩, rfl⟩ hpl
        obtain ⟨xa, xb⟩ := x
        obtain rfl : vq = vx := by
          have h5 := hI.o.cell
          rw [hO.cell] at h5
          exact (Option.some.inj h5).symm
        clear hO
        obtain ⟨L, hL⟩ : ∃ L, L = rowsTo z y ++ pre.map fun x => (y, x) := ⟨_, rfl⟩
        have hsn : (rowsTo z y ++ (pre ++ [(xa, xb)]).map fun x => (y, x)) = L ++ [(y, xa, xb)] := by rw [hL]; simp
        rw [← hL] at hI
        obtain ⟨k, hk⟩ : ∃ k, k = L.length := ⟨_, rfl⟩
        have HK1 : Hid (k ≤ 2000000) := by
          have := HRL.out
          rw [hk, hL, List.length_append, List.length_map]
          show _ ≤ _; omega
        have HKE1 : Hid (L.length = k) := hk.symm
        obtain ⟨oa2, cap2, hv, -⟩ := Own.isSlc (xs := L) (enc := encRun) (show Go.Proofs.Ytcadgjhfdolejaa.Own Wq W1.heap.size 37 3 encRun vq L from hI.r)
        rw [← hk] at hv
        subst hv
        have hcO := hI.o.cell
        obtain ⟨x0, x1, x2⟩ := hX.c
        simp only at x1 x2
        have HI := Lib.hid hI
        have HSN := Lib.hid hsn
        have hnew : Hid (∀ (j : Nat) (u : Value), (encRun (y, xa, xb))[j]? = some u → (Wq.alloc (.cells #[.int .i64 y, .int .i64 xa, .int .i64 xb] 37)).cell? ((⟨Wq.heap.size, 0, none⟩ : Addr).add j) = some u) := World.news_of_block (cs := #[.int .i64 y, .int .i64 xa, .int .i64 xb]) (t := 37) (fr := (0, 0)) (heap_alloc_new Wq _)
        clear hI hX hsn hL hk hpl hvx
        gi_wp2_with (gi_at_builtin; refine wpListIn_append_own _ rfl _ _ 33 rfl W1.heap.size 37 i0 (.agg #[.int .i64 0, .int .i64 0, .int .i64 0]) 3 24 Try.underlying33 hi hz0 hz1' hz2' rfl (by decide) _ _ _ rfl (by have h := HI.out.r; rw [HKE1.out] at h; exact h.alloc _) ⟨Wq.heap.size, 0, none⟩ 1 1 (encRun (y, xa, xb)) rfl rfl hnew.out ?c1 ?c2 ?c3 ?c4 ?_)
        case c1 => simp [encRun, Value.oneCell']
        case c2 => have := HK1.out; unfold maxLen; omega
        case c3 => have := HK1.out; omega
        case c4 => have := HI.out.b.size; simp; omega
        intro v3 w3 hown3 hgrow3 _
        obtain ⟨g3, cap3, rfl⟩ := ownsRow_succ hown3
        obtain ⟨hv1, hI1, hk1, hkp1⟩ := HI.out.app HRC.out HKE1.out hown3 hgrow3
        have hc1 := hv1.cell
        have hf1 := hv1.frozen
        have HI1 := Lib.hid hI1
        have HKP1 := Lib.hid hkp1
        have HKO1 := Lib.hid hk1
        clear hv1 hI1 hk1 hkp1 hown3 hgrow3 hnew
        gi_wp2
        refine ⟨HKO1.out.from _, HKP1.out, ⟨.slice (some ⟨g3, 0, none⟩) (k + 1) cap3, ?_⟩⟩
        rw [HSN.out]
        exact HI1.out
      case done =>
        rintro D ys Wq hD rfl ⟨vq, hI⟩ hK
        rw [← rowsTo_succ] at hI
        have HNX : Hid (OutI W1 b5 (D :: Ds) Wq (rowsTo z (y + 1)) vq) := ⟨hI.o, hI.r, hI.b, List.nodup_cons.2 ⟨fun h => by have := HRC.out.d D h; omega, hI.m.1⟩, fun E hE => by
          rcases List.mem_cons.1 hE with rfl | hE
          · exact ⟨by have := HB16.out.size; omega, hK⟩
          · exact hI.m.2 E hE⟩
        clear hI hK
        gi_wp2
        refine ⟨⟨y + 1, .int .i64 y, .bool true, .int .i64 y, .int .i64 y, .func (.func 36) #[] #[.pointer (some ⟨wr.heap.size, 0, none⟩), .pointer (some ⟨wr.heap.size + 1, 0, none⟩)], .int .i64 ((y : Int) + 1), D :: Ds, vq, by omega, rfl, HNX⟩, ?_⟩
        show H - (((y : Int) + 1)).toNat < H - ((y : Nat) : Int).toNat
        omega
      case stop =>
        rintro D c pre W _ _ h _
        exact h.elim
    · obtain rfl : H = y := by omega
      obtain ⟨k, hk⟩ : ∃ k, k = (rowsTo z H).length := ⟨_, rfl⟩
      obtain ⟨oa2, cap2, hv, -⟩ := Own.isSlc (xs := rowsTo z H) (enc := encRun) (show Go.Proofs.Ytcadgjhfdolejaa.Own wr W1.heap.size 37 3 encRun v (rowsTo z H) from HO.out.r)
      rw [← hk] at hv
      subst hv
      have cO := HO.out.o.cell
      have HK := Lib.hid hk
      clear hk hbt
      gi_wp2
      have hown : Go.Proofs.Ytcadgjhfdolejaa.Own wr W1.heap.size 37 3 encRun (.slice oa2 k cap2) (rowsTo z H) := HO.out.r
      exact leaves_marks (P := Try.prog) (n := n) (fn := Try.f7) (R := RetRuns (rowsTo z H) w) (B := W1.heap.size)
        (Φ := fun W => Go.Proofs.Ytcadgjhfdolejaa.Own W W1.heap.size 37 3 encRun (.slice oa2 k cap2) (rowsTo z H) ∧ Below W1.heap.size W1 W)
        (fun W D h hB hh => ⟨ownsRow_putObj h.1 _ hh rfl, h.2.trans (belowK_b (w := W1) (Nat.le_refl _) W D _ _ hB hh rfl rfl)⟩)
        (fun W h => ⟨_, results_tmp2 (show Try.f7.results = #[.tmp 2, .tmp 3] from rfl) _ _ _, ⟨_, rfl, ownsRow_mono h.1 HB1.out.size, bthen HB1.out h.2⟩⟩) Ds wr HO.out.m ⟨hown, HO.out.b⟩
theorem runs_any (d c W H : Nat) (p : Plane) (hW : 1 ≤ W ∧ W ≤ 1024) (hH : 1 ≤ H ∧ H ≤ 1024) (z : Nat → List (Nat × Nat)) (hz : ∀ y, y < H → Runs (rowP p y) W 0 (z y)) (w : World) (hd : Dat w d W H p) :
    Calls Try.prog 7 #[.agg #[.int .i64 W, .int .i64 H, .slice (some ⟨d, 0, none⟩) (strV W * H) c]] w (RetRuns (rowsTo z H) w) :=
  (callsIn_wide (n := 3)).1 (runs_in 3 (Nat.le_refl _) d c W H p hW hH z hz w hd)
end Go.Proofs.Ytcadgjhfdolejaa
