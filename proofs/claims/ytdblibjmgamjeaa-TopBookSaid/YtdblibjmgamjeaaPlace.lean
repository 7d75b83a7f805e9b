/-
  The walk of the closure in fold.Pages. Own text.
-/
import Derived.Test.YtdblibjmgamjeaaFolded
namespace Go.Proofs.Ytdblibjmgamjeaa
open Go.RowKit
set_option linter.unusedVariables false
def encPg (p : Pg) : List Value := [.bool p.back, .int .i64 p.col, .int .i64 p.row, .int .i64 p.turn]
theorem elemPg : ElemType Try.prog 99 (.agg #[.bool false, .int .i64 0, .int .i64 0, .int .i64 0]) 4 32 := ElemType.mk (by kernel_rfl) rfl (by decide)
def pgF (a b c d : Value) : Nat → Value
  | 0 => a
  | 1 => b
  | 2 => c
  | _ => d
theorem pgF_new (w : World) (a b c d : Value) (t : TypeId) : FTab (fun v : Value => v) (w.alloc (.cells #[a, b, c, d] t)) w.heap.size 4 (pgF a b c d) := by
  refine ⟨fun i hi => ?_, fun o => ?_⟩
  · rw [cell_of_row _ w.heap.size i _ _ (0, 0) (heap_alloc_new w _)]
    match i, hi with
    | 0, _ => rfl
    | 1, _ => rfl
    | 2, _ => rfl
    | 3, _ => rfl
  · unfold World.frozen?
    rw [heap_alloc_new]
    simp
/-- A variable that holds a slice of the call's own: in block bo. -/
structure VarU {α : Type} (enc : α → List Value) (T : TypeId) (k : Nat) (w : World) (bo : Nat) (v : Value) (xs : List α) : Prop where
  tab : FTab (fun v : Value => v) w bo 1 (fun _ => v)
  op : Go.Proofs.Ytdblibjmgamjeaa.Own w (bo + 1) T k enc v xs
  lt : bo < w.heap.size
/-- What an append to the variable leaves as it was. -/
structure Only (bo : Nat) (v : Value) (w w' : World) : Prop where
  bel : Below bo w w'
  keep : ∀ g, g < w.heap.size → g ≠ bo → v.ownBlock ≠ some g → w'.heap[g]? = w.heap[g]?
section
variable {α : Type} {enc : α → List Value} {T : TypeId} {k bo : Nat} {w w' w2 : World} {v v' : Value} {xs : List α}
theorem VarU.below (h : VarU enc T k w bo v xs) (hb : Below w.heap.size w w') : VarU enc T k w' bo v xs :=
  ⟨h.tab.below hb h.lt, h.op.below hb, Nat.lt_of_lt_of_le h.lt hb.size⟩
theorem VarU.mid (h : VarU enc T k w bo v xs) (hg : w.grownBy w' v.ownBlock) : FTab (fun v : Value => v) w' bo 1 (fun _ => v) :=
  h.tab.heap (hg.block bo h.lt fun e => by have := (h.op.blk e.symm).1; omega)
theorem VarU.add (h : VarU enc T k w bo v xs) {y : α} (hown : Go.Proofs.Ytdblibjmgamjeaa.Own w' (bo + 1) T k enc v' (xs ++ [y])) (hg : w.grownBy w' v.ownBlock) (hat : v'.ownBlock = v.ownBlock ∨ v'.ownBlock = some w.heap.size) :
    VarU enc T k (w'.setCell ⟨bo, 0, none⟩ v') bo v' (xs ++ [y]) ∧ Only bo v w (w'.setCell ⟨bo, 0, none⟩ v') := by
  have hz := hg.size
  have hl := h.lt
  have hv' : v'.ownBlock ≠ some bo := fun e => by have := (hown.blk e).1; omega
  refine ⟨⟨?_, hown.heap fun g e => Below.heap_setCell _ _ _ g (fun e2 => hv' (by rw [e, show g = bo from e2])), by simp; omega⟩, ?_, fun g h1 h2 h3 => ?_⟩
  · exact ((h.mid hg).set (i := 0) (by omega) v').congr (fun i hi => by rw [if_pos (by omega)])
  · exact ((Below.refl bo w).grown hg (by omega) (fun j e => by have := (h.op.blk e).1; omega)).setCell (p := ⟨bo, 0, none⟩) (Nat.le_refl _) v'
  · rw [Below.heap_setCell _ _ _ g h2]
    exact hg.block g h1 fun e => h3 e.symm
theorem Only.trans (h1 : Below w.heap.size w w') (h2 : Only bo v w' w2) (hl : bo ≤ w.heap.size) : Only bo v w w2 :=
  ⟨(h1.mono hl).trans h2.bel, fun g a b c => by rw [h2.keep g (Nat.lt_of_lt_of_le a h1.size) b c, h1.block g a]⟩
end
abbrev PgU (w : World) (bo : Nat) (v : Value) (xs : List Pg) : Prop := VarU encPg 99 4 w bo v xs
def RetPlace (bo : Nat) (v : Value) (xs : List Pg) (p : Pg) (w : World) (e : Ending) (w' : World) : Prop := (∃ u, e = .returned u) ∧ ∃ v', PgU w' bo v' (xs ++ [p]) ∧ Only bo v w w' ∧ (v'.ownBlock = v.ownBlock ∨ ∃ g, v'.ownBlock = some g ∧ w.heap.size ≤ g)
set_option maxRecDepth 100000 in
set_option maxHeartbeats 16000000 in
theorem place_any (C : Int) (t : Int) (x : Leaf) (back half : Bool) (bx bt bs bo : Nat) (v : Value) (xs : List Pg) (w : World) (hC : 1 ≤ C ∧ C ≤ 8) (ht : 0 ≤ t ∧ t < 4) (hx : LeafAt w bx x) (hc : 0 ≤ x.col ∧ x.col ≤ 8) (ht1 : w.cell? ⟨bt, 0, none⟩ = some (.int .i64 t)) (hs1 : w.cell? ⟨bs, 0, none⟩ = some (.int .i64 C)) (ho : PgU w bo v xs) (hl : xs.length ≤ 1000) :
    Calls Try.prog 40 #[.bool back, .bool half, .pointer (some ⟨bx, 0, none⟩), .pointer (some ⟨bt, 0, none⟩), .pointer (some ⟨bs, 0, none⟩), .pointer (some ⟨bo, 0, none⟩)] w (RetPlace bo v xs (pg1 C t x back half) w) := by
  obtain ⟨ov, kv, hv, -⟩ := ho.op.isSlc
  obtain ⟨n, hn⟩ : ∃ n, n = xs.length := ⟨_, rfl⟩
  rw [← hn] at hv hl
  subst hv
  have HNU := Lib.hid hn
  clear hn
  have x0 := hx.c0
  have x1 := hx.c1
  have g0 : w.cell? ⟨bo, 0, none⟩ = some (.slice ov n kv) := ho.tab.at' 0 (by omega)
  have hlx := cell?_lt x0
  have hlt := cell?_lt ht1
  have hls := cell?_lt hs1
  have hlo := ho.lt
  simp only at hlx hlt hls
  have w1 : IntKind.i64.wrap (C - 1) = C - 1 := IntWalk.i64_in _ (by omega)
  have w2 : IntKind.i64.wrap (C - 1 - x.col) = C - 1 - x.col := IntWalk.i64_in _ (by omega)
  have w3 : IntKind.i64.wrap (t + 2) = t + 2 := IntWalk.i64_in _ (by omega)
  have HO := Lib.hid ho
  have HX4 : Hid (∀ (p : Pg) (B : Bool) (c r u : Int), p = ⟨B, c, r, u⟩ → ∃ W, W = w.alloc (.cells #[.bool B, .int .i64 c, .int .i64 r, .int .i64 u] 99) ∧ Below w.heap.size w W ∧ FTab (fun v : Value => v) W w.heap.size 4 (pgF (.bool B) (.int .i64 c) (.int .i64 r) (.int .i64 u)) ∧ W.heap.size = w.heap.size + 1) := fun p B c r u _ =>
    ⟨_, rfl, balloc (Below.refl _ w) _, pgF_new w _ _ _ _ _, World.size_alloc _ _⟩
  obtain ⟨P, hP⟩ : ∃ P, P = pg1 C t x back half := ⟨_, rfl⟩
  rw [← hP]
  have HPP := Lib.hid hP
  clear ho hP
  cases back with
  | false =>
    cases half with
    | false =>
      obtain ⟨W4, hW4, hb4, hp4, hz4⟩ := HX4.out ⟨false, x.col, x.row, t⟩ false (x.col) x.row (t) rfl
      have p0 : W4.cell? ⟨w.heap.size, 0, none⟩ = some (.bool false) := hp4.at' 0 (by omega)
      have p1 : W4.cell? ⟨w.heap.size, 1, none⟩ = some (.int .i64 (x.col)) := hp4.at' 1 (by omega)
      have p2 : W4.cell? ⟨w.heap.size, 2, none⟩ = some (.int .i64 x.row) := hp4.at' 2 (by omega)
      have p3 : W4.cell? ⟨w.heap.size, 3, none⟩ = some (.int .i64 (t)) := hp4.at' 3 (by omega)
      have HO4 := Lib.hid (HO.out.below hb4)
      have g4 := keepCell hb4 g0
      have HB4 := Lib.hid hb4
      have HZ4 := Lib.hid hz4
      go_enter Try.func40, Try.ntmps40
      go_upto_region 5 with fail
      rw [← hW4]
      clear hb4 hp4 hW4 x0 x1 w1 w2 w3 HX4 hz4
      generalize hcv : (x.col) = cv at *
      generalize huv : (t) = uv at *
      have HCV := Lib.hid hcv
      have HUV := Lib.hid huv
      clear hcv huv
      have HO5 := Lib.hid (HO4.out.below (balloc (Below.refl _ W4) (.cells #[.bool false, .int .i64 cv, .int .i64 x.row, .int .i64 uv] 99)))
      have HNEW : Hid (∀ (j : Nat) (u : Value), (encPg ⟨false, cv, x.row, uv⟩)[j]? = some u → (W4.alloc (.cells #[.bool false, .int .i64 cv, .int .i64 x.row, .int .i64 uv] 99)).cell? ((⟨W4.heap.size, 0, none⟩ : Addr).add j) = some u) := World.news_of_block (cs := #[.bool false, .int .i64 cv, .int .i64 x.row, .int .i64 uv]) (t := 99) (fr := (0, 0)) (heap_alloc_new W4 _)
      go_wp2_with (at_builtin; refine wpList_app1L rfl (.tmp 29) (.tmp 31) 62 rfl elemPg Try.underlying62 (bo + 1) (.slice ov n kv) xs encPg rfl HO5.out.op ⟨false, cv, x.row, uv⟩ ⟨W4.heap.size, 0, none⟩ 1 rfl rfl HNEW.out ?c1 ?c2 ?c3 ?c4 ?_)
      case c1 => simp [encPg, Value.oneCell']
      case c2 => have := HNU.out; omega
      case c3 => have := HNU.out; unfold maxLen; omega
      case c4 => have := HO5.out.lt; omega
      rw [← HNU.out]
      intro g5 cap5 w6 hown6 hgr6 hat6
      have hat : (Value.slice (some ⟨g5, 0, none⟩) (n + 1) cap5).ownBlock = (Value.slice ov n kv).ownBlock ∨ (Value.slice (some ⟨g5, 0, none⟩) (n + 1) cap5).ownBlock = some (W4.alloc (.cells #[.bool false, .int .i64 cv, .int .i64 x.row, .int .i64 uv] 99)).heap.size := by
        rcases hat6 with e | e
        · exact .inl e.symm
        · exact .inr (by rw [e]; simp [Value.ownBlock])
      have hmid := HO5.out.mid hgr6
      have m0 : w6.cell? ⟨bo, 0, none⟩ = some (.slice ov n kv) := hmid.at' 0 (by omega)
      have mf := hmid.fz 0
      have HF : Hid (RetPlace bo (.slice ov n kv) xs P w (.returned (.tuple #[])) (w6.setCell ⟨bo, 0, none⟩ (.slice (some ⟨g5, 0, none⟩) (n + 1) cap5))) := by
        obtain ⟨h1, h2⟩ := HO5.out.add hown6 hgr6 hat
        have e : P = ⟨false, cv, x.row, uv⟩ := by first | (rw [HPP.out, ← HCV.out, ← HUV.out]; rfl) | (rw [HPP.out, ← HCV.out]; rfl) | (rw [HPP.out, ← HUV.out]; rfl) | (rw [HPP.out]; rfl)
        refine ⟨⟨_, rfl⟩, _, by rw [e]; exact h1, Only.trans (bthen HB4.out (balloc (Below.refl _ W4) _)) h2 (Nat.le_of_lt HO.out.lt), ?_⟩
        rcases hat with h | h
        · exact .inl h
        · exact .inr ⟨_, h, by have := HZ4.out; simp; omega⟩
      clear hown6 hgr6 hat6 hat hmid HO4 HO5 HNEW p0 p1 p2 p3 g4 g0
      go_wp2
      go_end0
      exact HF.out
    | true =>
      obtain ⟨W4, hW4, hb4, hp4, hz4⟩ := HX4.out ⟨false, x.col, x.row, (t + 2) % 4⟩ false (x.col) x.row ((t + 2) % 4) rfl
      have p0 : W4.cell? ⟨w.heap.size, 0, none⟩ = some (.bool false) := hp4.at' 0 (by omega)
      have p1 : W4.cell? ⟨w.heap.size, 1, none⟩ = some (.int .i64 (x.col)) := hp4.at' 1 (by omega)
      have p2 : W4.cell? ⟨w.heap.size, 2, none⟩ = some (.int .i64 x.row) := hp4.at' 2 (by omega)
      have p3 : W4.cell? ⟨w.heap.size, 3, none⟩ = some (.int .i64 ((t + 2) % 4)) := hp4.at' 3 (by omega)
      have HO4 := Lib.hid (HO.out.below hb4)
      have g4 := keepCell hb4 g0
      have HB4 := Lib.hid hb4
      have HZ4 := Lib.hid hz4
      go_enter Try.func40, Try.ntmps40
      go_upto_region 5 with fail
      rw [← hW4]
      clear hb4 hp4 hW4 x0 x1 w1 w2 w3 HX4 hz4
      generalize hcv : (x.col) = cv at *
      generalize huv : ((t + 2) % 4) = uv at *
      have HCV := Lib.hid hcv
      have HUV := Lib.hid huv
      clear hcv huv
      have HO5 := Lib.hid (HO4.out.below (balloc (Below.refl _ W4) (.cells #[.bool false, .int .i64 cv, .int .i64 x.row, .int .i64 uv] 99)))
      have HNEW : Hid (∀ (j : Nat) (u : Value), (encPg ⟨false, cv, x.row, uv⟩)[j]? = some u → (W4.alloc (.cells #[.bool false, .int .i64 cv, .int .i64 x.row, .int .i64 uv] 99)).cell? ((⟨W4.heap.size, 0, none⟩ : Addr).add j) = some u) := World.news_of_block (cs := #[.bool false, .int .i64 cv, .int .i64 x.row, .int .i64 uv]) (t := 99) (fr := (0, 0)) (heap_alloc_new W4 _)
      go_wp2_with (at_builtin; refine wpList_app1L rfl (.tmp 29) (.tmp 31) 62 rfl elemPg Try.underlying62 (bo + 1) (.slice ov n kv) xs encPg rfl HO5.out.op ⟨false, cv, x.row, uv⟩ ⟨W4.heap.size, 0, none⟩ 1 rfl rfl HNEW.out ?c1 ?c2 ?c3 ?c4 ?_)
      case c1 => simp [encPg, Value.oneCell']
      case c2 => have := HNU.out; omega
      case c3 => have := HNU.out; unfold maxLen; omega
      case c4 => have := HO5.out.lt; omega
      rw [← HNU.out]
      intro g5 cap5 w6 hown6 hgr6 hat6
      have hat : (Value.slice (some ⟨g5, 0, none⟩) (n + 1) cap5).ownBlock = (Value.slice ov n kv).ownBlock ∨ (Value.slice (some ⟨g5, 0, none⟩) (n + 1) cap5).ownBlock = some (W4.alloc (.cells #[.bool false, .int .i64 cv, .int .i64 x.row, .int .i64 uv] 99)).heap.size := by
        rcases hat6 with e | e
        · exact .inl e.symm
        · exact .inr (by rw [e]; simp [Value.ownBlock])
      have hmid := HO5.out.mid hgr6
      have m0 : w6.cell? ⟨bo, 0, none⟩ = some (.slice ov n kv) := hmid.at' 0 (by omega)
      have mf := hmid.fz 0
      have HF : Hid (RetPlace bo (.slice ov n kv) xs P w (.returned (.tuple #[])) (w6.setCell ⟨bo, 0, none⟩ (.slice (some ⟨g5, 0, none⟩) (n + 1) cap5))) := by
        obtain ⟨h1, h2⟩ := HO5.out.add hown6 hgr6 hat
        have e : P = ⟨false, cv, x.row, uv⟩ := by first | (rw [HPP.out, ← HCV.out, ← HUV.out]; rfl) | (rw [HPP.out, ← HCV.out]; rfl) | (rw [HPP.out, ← HUV.out]; rfl) | (rw [HPP.out]; rfl)
        refine ⟨⟨_, rfl⟩, _, by rw [e]; exact h1, Only.trans (bthen HB4.out (balloc (Below.refl _ W4) _)) h2 (Nat.le_of_lt HO.out.lt), ?_⟩
        rcases hat with h | h
        · exact .inl h
        · exact .inr ⟨_, h, by have := HZ4.out; simp; omega⟩
      clear hown6 hgr6 hat6 hat hmid HO4 HO5 HNEW p0 p1 p2 p3 g4 g0
      go_wp2
      go_end0
      exact HF.out
  | true =>
    cases half with
    | false =>
      obtain ⟨W4, hW4, hb4, hp4, hz4⟩ := HX4.out ⟨true, C - 1 - x.col, x.row, t⟩ true (C - 1 - x.col) x.row (t) rfl
      have p0 : W4.cell? ⟨w.heap.size, 0, none⟩ = some (.bool true) := hp4.at' 0 (by omega)
      have p1 : W4.cell? ⟨w.heap.size, 1, none⟩ = some (.int .i64 (C - 1 - x.col)) := hp4.at' 1 (by omega)
      have p2 : W4.cell? ⟨w.heap.size, 2, none⟩ = some (.int .i64 x.row) := hp4.at' 2 (by omega)
      have p3 : W4.cell? ⟨w.heap.size, 3, none⟩ = some (.int .i64 (t)) := hp4.at' 3 (by omega)
      have HO4 := Lib.hid (HO.out.below hb4)
      have g4 := keepCell hb4 g0
      have HB4 := Lib.hid hb4
      have HZ4 := Lib.hid hz4
      go_enter Try.func40, Try.ntmps40
      go_upto_region 5 with fail
      rw [← hW4]
      clear hb4 hp4 hW4 x0 x1 w1 w2 w3 HX4 hz4
      generalize hcv : (C - 1 - x.col) = cv at *
      generalize huv : (t) = uv at *
      have HCV := Lib.hid hcv
      have HUV := Lib.hid huv
      clear hcv huv
      have HO5 := Lib.hid (HO4.out.below (balloc (Below.refl _ W4) (.cells #[.bool true, .int .i64 cv, .int .i64 x.row, .int .i64 uv] 99)))
      have HNEW : Hid (∀ (j : Nat) (u : Value), (encPg ⟨true, cv, x.row, uv⟩)[j]? = some u → (W4.alloc (.cells #[.bool true, .int .i64 cv, .int .i64 x.row, .int .i64 uv] 99)).cell? ((⟨W4.heap.size, 0, none⟩ : Addr).add j) = some u) := World.news_of_block (cs := #[.bool true, .int .i64 cv, .int .i64 x.row, .int .i64 uv]) (t := 99) (fr := (0, 0)) (heap_alloc_new W4 _)
      go_wp2_with (at_builtin; refine wpList_app1L rfl (.tmp 29) (.tmp 31) 62 rfl elemPg Try.underlying62 (bo + 1) (.slice ov n kv) xs encPg rfl HO5.out.op ⟨true, cv, x.row, uv⟩ ⟨W4.heap.size, 0, none⟩ 1 rfl rfl HNEW.out ?c1 ?c2 ?c3 ?c4 ?_)
      case c1 => simp [encPg, Value.oneCell']
      case c2 => have := HNU.out; omega
      case c3 => have := HNU.out; unfold maxLen; omega
      case c4 => have := HO5.out.lt; omega
      rw [← HNU.out]
      intro g5 cap5 w6 hown6 hgr6 hat6
      have hat : (Value.slice (some ⟨g5, 0, none⟩) (n + 1) cap5).ownBlock = (Value.slice ov n kv).ownBlock ∨ (Value.slice (some ⟨g5, 0, none⟩) (n + 1) cap5).ownBlock = some (W4.alloc (.cells #[.bool true, .int .i64 cv, .int .i64 x.row, .int .i64 uv] 99)).heap.size := by
        rcases hat6 with e | e
        · exact .inl e.symm
        · exact .inr (by rw [e]; simp [Value.ownBlock])
      have hmid := HO5.out.mid hgr6
      have m0 : w6.cell? ⟨bo, 0, none⟩ = some (.slice ov n kv) := hmid.at' 0 (by omega)
      have mf := hmid.fz 0
      have HF : Hid (RetPlace bo (.slice ov n kv) xs P w (.returned (.tuple #[])) (w6.setCell ⟨bo, 0, none⟩ (.slice (some ⟨g5, 0, none⟩) (n + 1) cap5))) := by
        obtain ⟨h1, h2⟩ := HO5.out.add hown6 hgr6 hat
        have e : P = ⟨true, cv, x.row, uv⟩ := by first | (rw [HPP.out, ← HCV.out, ← HUV.out]; rfl) | (rw [HPP.out, ← HCV.out]; rfl) | (rw [HPP.out, ← HUV.out]; rfl) | (rw [HPP.out]; rfl)
        refine ⟨⟨_, rfl⟩, _, by rw [e]; exact h1, Only.trans (bthen HB4.out (balloc (Below.refl _ W4) _)) h2 (Nat.le_of_lt HO.out.lt), ?_⟩
        rcases hat with h | h
        · exact .inl h
        · exact .inr ⟨_, h, by have := HZ4.out; simp; omega⟩
      clear hown6 hgr6 hat6 hat hmid HO4 HO5 HNEW p0 p1 p2 p3 g4 g0
      go_wp2
      go_end0
      exact HF.out
    | true =>
      obtain ⟨W4, hW4, hb4, hp4, hz4⟩ := HX4.out ⟨true, C - 1 - x.col, x.row, (t + 2) % 4⟩ true (C - 1 - x.col) x.row ((t + 2) % 4) rfl
      have p0 : W4.cell? ⟨w.heap.size, 0, none⟩ = some (.bool true) := hp4.at' 0 (by omega)
      have p1 : W4.cell? ⟨w.heap.size, 1, none⟩ = some (.int .i64 (C - 1 - x.col)) := hp4.at' 1 (by omega)
      have p2 : W4.cell? ⟨w.heap.size, 2, none⟩ = some (.int .i64 x.row) := hp4.at' 2 (by omega)
      have p3 : W4.cell? ⟨w.heap.size, 3, none⟩ = some (.int .i64 ((t + 2) % 4)) := hp4.at' 3 (by omega)
      have HO4 := Lib.hid (HO.out.below hb4)
      have g4 := keepCell hb4 g0
      have HB4 := Lib.hid hb4
      have HZ4 := Lib.hid hz4
      go_enter Try.func40, Try.ntmps40
      go_upto_region 5 with fail
      rw [← hW4]
      clear hb4 hp4 hW4 x0 x1 w1 w2 w3 HX4 hz4
      generalize hcv : (C - 1 - x.col) = cv at *
      generalize huv : ((t + 2) % 4) = uv at *
      have HCV := Lib.hid hcv
      have HUV := Lib.hid huv
      clear hcv huv
      have HO5 := Lib.hid (HO4.out.below (balloc (Below.refl _ W4) (.cells #[.bool true, .int .i64 cv, .int .i64 x.row, .int .i64 uv] 99)))
      have HNEW : Hid (∀ (j : Nat) (u : Value), (encPg ⟨true, cv, x.row, uv⟩)[j]? = some u → (W4.alloc (.cells #[.bool true, .int .i64 cv, .int .i64 x.row, .int .i64 uv] 99)).cell? ((⟨W4.heap.size, 0, none⟩ : Addr).add j) = some u) := World.news_of_block (cs := #[.bool true, .int .i64 cv, .int .i64 x.row, .int .i64 uv]) (t := 99) (fr := (0, 0)) (heap_alloc_new W4 _)
      go_wp2_with (at_builtin; refine wpList_app1L rfl (.tmp 29) (.tmp 31) 62 rfl elemPg Try.underlying62 (bo + 1) (.slice ov n kv) xs encPg rfl HO5.out.op ⟨true, cv, x.row, uv⟩ ⟨W4.heap.size, 0, none⟩ 1 rfl rfl HNEW.out ?c1 ?c2 ?c3 ?c4 ?_)
      case c1 => simp [encPg, Value.oneCell']
      case c2 => have := HNU.out; omega
      case c3 => have := HNU.out; unfold maxLen; omega
      case c4 => have := HO5.out.lt; omega
      rw [← HNU.out]
      intro g5 cap5 w6 hown6 hgr6 hat6
      have hat : (Value.slice (some ⟨g5, 0, none⟩) (n + 1) cap5).ownBlock = (Value.slice ov n kv).ownBlock ∨ (Value.slice (some ⟨g5, 0, none⟩) (n + 1) cap5).ownBlock = some (W4.alloc (.cells #[.bool true, .int .i64 cv, .int .i64 x.row, .int .i64 uv] 99)).heap.size := by
        rcases hat6 with e | e
        · exact .inl e.symm
        · exact .inr (by rw [e]; simp [Value.ownBlock])
      have hmid := HO5.out.mid hgr6
      have m0 : w6.cell? ⟨bo, 0, none⟩ = some (.slice ov n kv) := hmid.at' 0 (by omega)
      have mf := hmid.fz 0
      have HF : Hid (RetPlace bo (.slice ov n kv) xs P w (.returned (.tuple #[])) (w6.setCell ⟨bo, 0, none⟩ (.slice (some ⟨g5, 0, none⟩) (n + 1) cap5))) := by
        obtain ⟨h1, h2⟩ := HO5.out.add hown6 hgr6 hat
        have e : P = ⟨true, cv, x.row, uv⟩ := by first | (rw [HPP.out, ← HCV.out, ← HUV.out]; rfl) | (rw [HPP.out, ← HCV.out]; rfl) | (rw [HPP.out, ← HUV.out]; rfl) | (rw [HPP.out]; rfl)
        refine ⟨⟨_, rfl⟩, _, by rw [e]; exact h1, Only.trans (bthen HB4.out (balloc (Below.refl _ W4) _)) h2 (Nat.le_of_lt HO.out.lt), ?_⟩
        rcases hat with h | h
        · exact .inl h
        · exact .inr ⟨_, h, by have := HZ4.out; simp; omega⟩
      clear hown6 hgr6 hat6 hat hmid HO4 HO5 HNEW p0 p1 p2 p3 g4 g0
      go_wp2
      go_end0
      exact HF.out
end Go.Proofs.Ytdblibjmgamjeaa
