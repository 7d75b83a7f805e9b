/-
  A step that sets the time: the walk. Own text.
-/
import Derived.Test.YtnnnihjagjfkdaaDoorRows
import Derived.WalkKit
import Derived.WalkSpells
import Derived.WalkLawsBesides
import Derived.Test.YtnnnihjagjfkdaaDoorNum
import Derived.Test.YtnnnihjagjfkdaaDoorRead
import Derived.Test.YtnnnihjagjfkdaaDoorModF
import Derived.Test.YtnnnihjagjfkdaaDoorStepT
namespace Go.Proofs.YtnnnihjagjfkdaaDoor
open Go.RowKit
set_option linter.unusedVariables false
set_option maxHeartbeats 400000 in
theorem sameInts_any (oa ob : Option Addr) (xs ys : List Int) (ca cb : Nat) (w : World) (hm : xs.length ≤ maxLen) (hm2 : ys.length ≤ maxLen) (hx : Flat w 1 encInt oa xs) (hy : Flat w 1 encInt ob ys) :
    Calls Tryd.prog 32 #[.slice oa xs.length ca, .slice ob ys.length cb] w fun e w' => e = .returned (.bool (sameB xs ys)) ∧ Below w.heap.size w w' := by
  have hm : xs.length ≤ 9223372036854775807 := by unfold maxLen at hm; omega
  have hm2 : ys.length ≤ 9223372036854775807 := by unfold maxLen at hm2; omega
  by_cases hl : xs.length = ys.length
  · have HL := Lib.hid hl
    have hl1 : xs.length ≤ ys.length := by omega
    have hl2 : ys.length ≤ xs.length := by omega
    have hn : ((xs.length : Int) != (ys.length : Int)) = false := by simp [hl]
    clear hl
    go_enter Tryd.func32, Tryd.ntmps32
    go_wp2
    go_loopw [13] (fun i wr => ∃ k : Nat, k ≤ xs.length ∧ i = .int .i64 k ∧ SameTo xs ys k ∧ Below w.heap.size w wr) (fun i _ => xs.length - (intOf i).toNat)
    case atStart => exact ⟨0, by omega, rfl, SameTo.zero _ _, Below.refl _ _⟩
    case round =>
      obtain ⟨k, hk, rfl, hs, hb⟩ := hrel
      by_cases hlt : k < xs.length
      · have hlt2 : k < ys.length := by omega
        obtain ⟨b, off, rfl, hc1⟩ := (hx.below hb).int hlt
        obtain ⟨b', off', rfl, hc2⟩ := (hy.below hb).int hlt2
        by_cases he : xs[k] = ys[k]
        · have hs' := hs.succ hlt hlt2 he
          have he2 : (xs[k] != ys[k]) = false := by simp [he]
          clear he
          go_wp2
          go_quiet (fail)
          go_wp2
          go_roundw
          case rel => exact ⟨k + 1, by omega, by go_num, hs', bdrewN hb _⟩
          case measure => simp [intOf]; omega
        · have he2 : (xs[k] != ys[k]) = true := by simp [he]
          have E := Lib.hid (sameB_at hlt hlt2 he)
          clear he
          go_wp2
          go_quiet (fail)
          go_wp2
          go_ret
          exact ⟨by rw [E.out]; rfl, bdrewN hb _⟩
      · have E := Lib.hid (hs.all HL.out (by omega))
        go_wp2
        go_ret
        exact ⟨by rw [E.out]; rfl, hb⟩
  · have E := Lib.hid (sameB_len hl)
    have hn : ((xs.length : Int) != (ys.length : Int)) = true := by simp; omega
    clear hl
    go_enter Tryd.func32, Tryd.ntmps32
    go_wp2
    go_ret
    exact ⟨by rw [E.out]; rfl, Below.refl _ _⟩
end Go.Proofs.YtnnnihjagjfkdaaDoor
namespace Go.Proofs.YtnnnihjagjfkdaaDoor
open Go.RowKit
set_option linter.unusedVariables false
def wantTo (xs : List Jb) (u : Int) (k : Nat) : List Int := ((xs.take k).filter (expM u)).map Jb.id
theorem wantTo_next (xs : List Jb) (u : Int) (k : Nat) (h : k < xs.length) : wantTo xs u (k + 1) = wantTo xs u k ++ (if expM u xs[k] then [xs[k].id] else []) := by
  unfold wantTo
  rw [List.take_succ_eq_append_getElem h, List.filter_append, List.map_append]
  congr 1
  by_cases hx : expM u xs[k] = true
  · simp [hx]
  · simp [hx]
theorem wantTo_len (xs : List Jb) (u : Int) (k : Nat) : (wantTo xs u k).length ≤ xs.length := by
  unfold wantTo
  rw [List.length_map]
  have h1 := List.length_filter_le (expM u) (xs.take k)
  rw [List.length_take] at h1
  omega
def tickMid (m : Mod) (u : Int) (k : Nat) : Mod := { m with now := u, jobs := midJ (mtickJ u) m.jobs k }
theorem tickMid_end (m : Mod) (u : Int) : tickMid m u m.jobs.length = tickM m u := by
  unfold tickMid tickM midJ
  simp
structure TickAt (w0 wr : World) (B b bm G : Nat) (q : Que) (m : Mod) (u : Int) (vj vw vm v lv : Value) (ids : List Int) (k : Nat) : Prop where
  two : Two wr B b bm q (tickMid m u k) vj vw vm
  bel : Below B w0 wr
  own : Own wr G 3 1 encInt v (wantTo m.jobs u k)
  ids : Own wr G 3 1 encInt lv ids
  ap : ∀ g, v.ownBlock = some g → lv.ownBlock ≠ some g
  gq : ∀ g, InQ b vj vw g → g < G
  gm : ∀ g, InM bm vm g → g < G
  bg : B ≤ G
  gs : G ≤ wr.heap.size
theorem TickAt.drewN {w0 wr : World} {B b bm G : Nat} {q : Que} {m : Mod} {u : Int} {vj vw vm v lv : Value} {ids : List Int} {k : Nat} (h : TickAt w0 wr B b bm G q m u vj vw vm v lv ids k) (n : Nat) : TickAt w0 (wr.drewN n) B b bm G q m u vj vw vm v lv ids k :=
  ⟨h.two.drewN n, bdrewN h.bel n, h.own.drewN n, h.ids.drewN n, h.ap, h.gq, h.gm, h.bg, h.gs⟩
theorem TickAt.keep {w0 wr : World} {B b bm G : Nat} {q : Que} {m : Mod} {u : Int} {vj vw vm v lv : Value} {ids : List Int} {k : Nat} (h : TickAt w0 wr B b bm G q m u vj vw vm v lv ids k) (hk : k < m.jobs.length) (he : expM u m.jobs[k] = false) : TickAt w0 wr B b bm G q m u vj vw vm v lv ids (k + 1) := by
  have e1 : midJ (mtickJ u) m.jobs (k + 1) = midJ (mtickJ u) m.jobs k := midJ_keep _ _ _ hk (by unfold mtickJ; rw [he]; rfl)
  have e2 : tickMid m u (k + 1) = tickMid m u k := by unfold tickMid; rw [e1]
  have e3 : wantTo m.jobs u (k + 1) = wantTo m.jobs u k := by rw [wantTo_next _ _ _ hk, he]; simp
  exact ⟨by rw [e2]; exact h.two, h.bel, by rw [e3]; exact h.own, h.ids, h.ap, h.gq, h.gm, h.bg, h.gs⟩
theorem TickAt.hit {w0 wr w' : World} {B b bm G g cap n : Nat} {q : Que} {m : Mod} {u : Int} {vj vw v lv v' : Value} {ids : List Int} {k : Nat} (h : TickAt w0 wr B b bm G q m u vj vw (.slice (some ⟨g, 0, none⟩) n cap) v lv ids k) (hk : k < m.jobs.length) (he : expM u m.jobs[k] = true) (o : Obj)
    (hown : Own w' G 3 1 encInt v' (wantTo m.jobs u k ++ [m.jobs[k].id])) (hg : ((wr.setCell ⟨g, k * 4 + 2, none⟩ (.int .i64 0)).alloc o).grownBy w' v.ownBlock) (hat : v'.ownBlock = v.ownBlock ∨ v'.ownBlock = some ((wr.setCell ⟨g, k * 4 + 2, none⟩ (.int .i64 0)).alloc o).heap.size) : TickAt w0 w' B b bm G q m u vj vw (.slice (some ⟨g, 0, none⟩) n cap) v' lv ids (k + 1) := by
  have hkm : k < (midJ (mtickJ u) m.jobs k).length := by rw [midJ_len _ _ _ (by omega)]; exact hk
  have hgw : g < G := h.gm g (.inr rfl)
  have hget := midJ_get (mtickJ u) m.jobs k hk hkm
  have hset := midJ_set (mtickJ u) m.jobs k hk
  have h1 : MAt (wr.setCell ⟨g, k * 4 + 2, none⟩ (.int .i64 0)) B bm (tickMid m u (k + 1)) (.slice (some ⟨g, 0, none⟩) n cap) := by
    have q2 := h.two.m.setJob (i := k) hkm (j := 2) (by omega) (v := .int .i64 0) (y := { m.jobs[k] with lease := 0 }) (by show _ = (encJb ((midJ (mtickJ u) m.jobs k)[k]'hkm)).set 2 _; rw [hget]; rfl)
    have e4 : ({ m.jobs[k] with lease := 0 } : Jb) = mtickJ u m.jobs[k] := by unfold mtickJ; rw [he]; rfl
    have e5 : (tickMid m u k).jobs.set k { m.jobs[k] with lease := 0 } = midJ (mtickJ u) m.jobs (k + 1) := by rw [e4]; exact hset
    rw [e5] at q2
    exact q2
  have hT := h.two.mturn h1 ((MTurn.refl bm (.slice (some ⟨g, 0, none⟩) n cap) wr).setJ _ _)
  have hB := h.two.mbase ((MTurn.refl bm (.slice (some ⟨g, 0, none⟩) n cap) wr).setJ (k * 4 + 2) (.int .i64 0)) (Nat.le_trans h.bg h.gs)
  have hvg : v.ownBlock ≠ some g := fun e => by have := (h.own.blk e).1; omega
  have hlg : lv.ownBlock ≠ some g := fun e => by have := (h.ids.blk e).1; omega
  have hT2 := hT.below (balloc (Below.refl _ _) o)
  have hO2 := (own_other h.ids hlg (.int .i64 0) (i := k * 4 + 2)).alloc o
  have hV2 := (own_other h.own hvg (.int .i64 0) (i := k * 4 + 2)).alloc o
  have hsz : ((wr.setCell ⟨g, k * 4 + 2, none⟩ (.int .i64 0)).alloc o).heap.size = wr.heap.size + 1 := by simp
  have hgs := h.gs
  have hvb : ∀ j, v.ownBlock = some j → G ≤ j := fun j e => (h.own.blk e).1
  have e3 : wantTo m.jobs u (k + 1) = wantTo m.jobs u k ++ [m.jobs[k].id] := by rw [wantTo_next _ _ _ hk, he]; simp
  refine ⟨⟨hT2.q.beside hg fun j hj e => by have h1 := h.gq j hj; have h2 := hvb j e; omega, ?_, hT2.ap⟩, ?_, by rw [e3]; exact hown, hO2.ofBlocks fun j hj => hg.block j (hO2.blk hj).2 fun e2 => h.ap j e2.symm hj, fun j e e2 => ?_, h.gq, h.gm, h.bg, ?_⟩
  · exact ⟨hT2.m.tab.ofBlock (grown_block hg hT2.m.lt fun e => by have h1 := h.gm bm (.inl rfl); have h2 := hvb bm e; omega), hT2.m.jobs.ofBlocks fun j hj => grown_block hg (hT2.m.jobs.blk hj).2 fun e => by have h1 := h.gm j (.inr hj); have h2 := hvb j e; omega, hT2.m.bb, hT2.m.nj⟩
  · refine h.bel.trans ⟨hg.os.trans hB.os, hg.tape.trans hB.tape, hg.output.trans hB.output, by have := hg.size; omega, fun j hj => ?_⟩
    have hbb := h.bg
    rw [hg.block j (by omega) (fun e => by have h2 := hvb j e.symm; omega)]
    have hB2 := hB.alloc (o := o) (by have := hB.size; omega)
    exact hB2.block j hj
  · rcases hat with e3 | e3
    · exact h.ap j (by rw [← e3]; exact e) e2
    · rw [e3] at e
      cases e
      have := (h.ids.blk e2).2
      omega
  · have := hg.size; omega
end Go.Proofs.YtnnnihjagjfkdaaDoor
namespace Go.Proofs.YtnnnihjagjfkdaaDoor
open Go.RowKit
set_option linter.unusedVariables false
section
variable {P : Program} {w : World} {ops : Array Oper} {rest : List Oper} {o : Oper} {a : Act} {Q : Exit → Act → World → Prop}
theorem wpList_appAtM {α : Type} (hgd : o.guard = none) (s x : Operand) (t : TypeId)
    (ho : o.op = .call { callee := .builtin .append, args := #[s, x], argTypes := #[t, t] })
    {e : TypeId} {z : Value} {size bytes : Nat} (hE : ElemType P e z size bytes) (ht : P.underlying t = some (.slice e))
    (base : Nat) (v : Value) (xs : List α) (enc : α → List Value) (hs : a.eval s = v) (hown : Own w base e size enc v xs) (y : α)
    (ad : Addr) (c : Nat) (hx : a.eval x = .slice (some ad) 1 c) (hl : (enc y).length = size) (hnews : ∀ j u, (enc y)[j]? = some u → w.cell? (ad.add j) = some u) (h1 : ∀ u ∈ enc y, u.oneCell' = true)
    (hbytes : (xs.length + 1) * bytes ≤ 140737488355328) (h63 : xs.length + 1 ≤ maxLen) (hbase : base ≤ w.heap.size)
    (h : ∀ v' w', Own w' base e size enc v' (xs ++ [y]) → w.grownBy w' v.ownBlock → (v'.ownBlock = v.ownBlock ∨ v'.ownBlock = some w.heap.size) → wpList P ops Q rest (a.put o.dst v') w') : wpList P ops Q (o :: rest) a w := by
  obtain ⟨i, hi, hz, hsz, hby, hzs, h0⟩ := hE
  refine wpList_append_own_at w hgd s x t ho base e i z size bytes ht hi hz hsz hby hzs h0 v xs.length (xs.flatMap enc) hs hown ad 1 c (enc y) hx (by rw [hl, Nat.one_mul]) hnews h1 h63 hbytes hbase ?_
  intro v' w' hown' hg _ hat
  refine h v' w' ?_ hg hat
  unfold Own
  rw [List.length_append, List.flatMap_append]
  simpa using hown'
end
set_option maxRecDepth 100000 in
set_option maxHeartbeats 4000000 in
theorem step_tick0 (s : ByteArray) (a : Int) (ha : 0 ≤ a) (ha2 : a ≤ 2000) (h2 : a % 20 < 2) (w : World) (B b bm t : Nat) (q : Que) (m : Mod) (vj vw vm : Value) (h : StepIn w B b bm t q m vj vw vm) :
    Calls Tryd.prog 20 #[.pointer (some ⟨bm, 0, none⟩), .pointer (some ⟨b, 0, none⟩), .string s, .int .i64 5, .int .i64 a] w (RetStep B b bm t w) := by
  have hr0 : 0 ≤ a % 20 := by omega
  have hnw := h.inv.nw
  have ht := h.tt
  have hnw2 : 0 ≤ m.now ∧ m.now ≤ 4000 := by omega
  have HT := Lib.hid (tick_range B b q vj vw (m.now + a % 20 - 2) w h.two.q (by rw [h.inv.now]; omega))
  have c3 : w.cell? ⟨bm, 3, none⟩ = some (.int .i64 m.now) := h.two.m.tab.at' 3 (by omega)
  have HF : Hid (RetStep B b bm t w (.returned (.bool true)) w) := ⟨q, m, vj, vw, vm, rfl, h.two, Below.refl _ _, h.inv.next' (by omega)⟩
  clear h hnw ht
  go_enter Tryd.func20, Tryd.ntmps20
  go_wp2_with fail
  refine HT.out.mono ?_
  rintro e w2 ⟨rfl, rfl⟩
  clear HT
  go_wp2
  go_ret
  exact HF.out
set_option maxRecDepth 100000 in
set_option maxHeartbeats 4000000 in
theorem step_tickN (s : ByteArray) (a : Int) (ha : 0 ≤ a) (ha2 : a ≤ 2000) (h2 : 2 ≤ a % 20) (w : World) (B b bm t : Nat) (q : Que) (m : Mod) (vj vw vm : Value) (h : StepIn w B b bm t q m vj vw vm) :
    Calls Tryd.prog 20 #[.pointer (some ⟨bm, 0, none⟩), .pointer (some ⟨b, 0, none⟩), .string s, .int .i64 5, .int .i64 a] w (RetStep B b bm t w) := by
  have H := Lib.hid h
  have hr0 : a % 20 < 20 := by omega
  have hn2 : ¬ a % 20 < 2 := by omega
  have hi := h.inv
  have hnw := hi.nw
  have ht := h.tt
  have hl := hi.jlq
  have hjl := hi.jl
  have hnw2 : 0 ≤ m.now ∧ m.now ≤ 4000 := by omega
  obtain ⟨u, hu⟩ : ∃ u, u = m.now + a % 20 - 2 := ⟨_, rfl⟩
  have HT := Lib.hid (tick_any B b q vj vw u w h.two.q (by rw [hi.now]; omega) (by omega) (by omega))
  have HI := Lib.hid (hi.tick u (by omega) (by omega))
  have HID : Hid (tickIds q.jobs u = (m.jobs.filter (expM u)).map Jb.id) := by
    show _ = _
    rw [hi.jobs]
    exact tickIds_norm m.jobs u fun j hj => (hi.ids j hj).2.2
  rw [HID.out] at HT
  have HGQ : Hid (∀ g, InQ b vj vw g → g < w.heap.size) := fun g hg => (H.out.two.q.inq hg).2
  have HGM : Hid (∀ g, InM bm vm g → g < w.heap.size) := fun g hg => (H.out.two.m.inm hg).2
  have c3 : w.cell? ⟨bm, 3, none⟩ = some (.int .i64 m.now) := h.two.m.tab.at' 3 (by omega)
  obtain ⟨ids, hids⟩ : ∃ ids, ids = (m.jobs.filter (expM u)).map Jb.id := ⟨_, rfl⟩
  have HIDS := Lib.hid hids
  rw [← hids] at HT
  have HMN : Hid (m.jobs.length ≤ 60) := by show _ ≤ _; omega
  have HPOS : Hid (∀ j ∈ m.jobs, 0 ≤ j.lease) := fun j hj => (hi.ids j hj).2.2
  obtain ⟨n, hn⟩ : ∃ n, n = m.jobs.length := ⟨_, rfl⟩
  have HN := Lib.hid hn
  have hml : n ≤ 60 := by omega
  have hu1 : m.now + (a % 20 - 2) = u := by omega
  have HU := Lib.hid hu
  have hu2 : m.now + a % 20 - 2 = u := hu.symm
  have x1 : 0 ≤ u ∧ u ≤ 5000 := by omega
  generalize tickQ q u = q' at *
  clear h hi ht hl hjl hnw hids hn hu
  go_enter Tryd.func20, Tryd.ntmps20
  go_wp2_with fail
  refine HT.out.mono ?_
  rintro e w2 ⟨lv, rfl, hq2, ht2, hids2⟩
  have HT2 := Lib.hid (H.out.two.turn hq2 ht2)
  have HB2 := Lib.hid (H.out.two.base ht2 H.out.hB)
  have HS2 := Lib.hid ht2.size
  have HI2 := Lib.hid hids2
  have d3 : w2.cell? ⟨bm, 3, none⟩ = some (.int .i64 m.now) := HT2.out.m.tab.at' 3 (by omega)
  have df := HT2.out.m.tab.fz
  clear hq2 ht2 hids2 HT c3
  have hq3 : TickAt w (w2.setCell ⟨bm, 3, none⟩ (.int .i64 u)) B b bm w.heap.size q' m u vj vw vm (.slice none 0 0) lv ids 0 := by
    have h1 : MAt (w2.setCell ⟨bm, 3, none⟩ (.int .i64 u)) B bm (tickMid m u 0) vm := MAt.put (m' := tickMid m u 0) HT2.out.m (i := 3) (by omega) (.int .i64 u) (by simp [tickMid, midJ]) (fun j hj => by
      match j, hj with
      | 0, _ => rfl
      | 1, _ => rfl
      | 2, _ => rfl
      | 3, _ => rfl)
    have h2 := (MTurn.refl bm vm w2).set 3 (.int .i64 u)
    have hne : ∀ g, lv.ownBlock = some g → w.heap.size ≤ g := fun g e => (HI2.out.blk e).1
    exact ⟨HT2.out.mturn h1 h2, HB2.out.trans (HT2.out.mbase h2 (Nat.le_trans H.out.hB HS2.out)), Own.nil _ _ _ _ _, own_other HI2.out (fun e => by have h3 := hne bm e; have h4 := HGM.out bm (.inl rfl); omega) _, fun g e => by simp [Value.ownBlock] at e, HGQ.out, HGM.out, H.out.hB, by simpa using HS2.out⟩
  have HQ3 := Lib.hid hq3
  obtain ⟨om, cm, rfl, -, -⟩ := HQ3.out.two.m.jobs.flat (fun _ => rfl)
  have hmid0 : (tickMid m u 0).jobs.length = n := by rw [HN.out]; exact midJ_len _ _ _ (by omega)
  rw [hmid0] at HQ3 HGM H HT2
  have c0 : w2.cell? ⟨bm, 0, none⟩ = some (.slice om n cm) := HT2.out.m.tab.at' 0 (by omega)
  clear hq3 hmid0 HB2 HS2 HI2
  go_upto_region 63 with fail
  go_loopw [29, 426] (fun v i wr => ∃ k : Nat, k ≤ n ∧ i = .int .i64 k ∧ Hid (TickAt w wr B b bm w.heap.size q' m u vj vw (.slice om n cm) v lv ids k)) (fun _ i _ => n - (intOf i).toNat)
  case atStart => exact ⟨0, by omega, rfl, HQ3.out⟩
  case round =>
    clear HQ3 c0 d3 df HT2 H
    obtain ⟨k, hk, rfl, HR⟩ := hrel
    by_cases hlt : k < n
    · have hkx : k < m.jobs.length := by have := HN.out; omega
      have kd : (k : Int) < (n : Int) := by omega
      have k0 : (0 : Int) ≤ (k : Int) := by omega
      have hkm : k < (tickMid m u k).jobs.length := by have h := midJ_len (mtickJ u) m.jobs k (by omega); show k < (midJ (mtickJ u) m.jobs k).length; omega
      obtain ⟨g, cap, hvm, hgb, hgl, gf, hrow⟩ := HR.out.two.m.rowOf (by omega)
      simp only [Value.slice.injEq] at hvm
      obtain ⟨rfl, -, rfl⟩ := hvm
      obtain ⟨i0, i1, i2, i3⟩ := hrow k hkm
      have hget : (tickMid m u k).jobs[k] = m.jobs[k] := midJ_get (mtickJ u) m.jobs k hkx hkm
      rw [hget] at i0 i1 i2 i3
      have c0 : wr.cell? ⟨bm, 0, none⟩ = some (.slice (some ⟨g, 0, none⟩) n cm) := HR.out.two.m.tab.at' 0 (by omega)
      have c3 : wr.cell? ⟨bm, 3, none⟩ = some (.int .i64 u) := HR.out.two.m.tab.at' 3 (by omega)
      obtain ⟨x, hx⟩ : ∃ x, x = m.jobs[k] := ⟨_, rfl⟩
      rw [← hx] at i0 i1 i2 i3
      have hxl : 0 ≤ x.lease := by rw [hx]; exact HPOS.out _ (List.getElem_mem hkx)
      have HX := Lib.hid hx
      clear hx hrow hget i1
      by_cases hz : 0 < x.lease
      · by_cases ht : x.till ≤ u
        · have he : expM u m.jobs[k] = true := by rw [← HX.out]; unfold expM; simp [hz, ht]
          have HE := Lib.hid he
          clear he
          go_wp2
          go_quiet (fail)
          go_upto_region 67 with fail
          have HD := Lib.hid (HR.out.drewN nq)
          have hwz : wr.heap.size < wr.heap.size + 1 := by omega
          have HO2 : Hid (Own (((wr.drewN nq).setCell ⟨g, k * 4 + 2, none⟩ (.int .i64 0)).alloc (.cells #[.int .i64 x.id] 3)) w.heap.size 3 1 encInt u29 (wantTo m.jobs u k)) := (own_other HD.out.own (fun e => by have h1 := (HD.out.own.blk e).1; have h2 := HD.out.gm g (.inr rfl); omega) _).alloc _
          have HNEW : Hid (∀ j y, (encInt x.id)[j]? = some y → (((wr.drewN nq).setCell ⟨g, k * 4 + 2, none⟩ (.int .i64 0)).alloc (.cells #[.int .i64 x.id] 3)).cell? ((⟨wr.heap.size, 0, none⟩ : Addr).add j) = some y) := by
            have h := World.news_of_block (cs := #[.int .i64 x.id]) (t := 3) (fr := (0, 0)) (heap_alloc_new ((wr.drewN nq).setCell ⟨g, k * 4 + 2, none⟩ (.int .i64 0)) _)
            have hz : ((wr.drewN nq).setCell ⟨g, k * 4 + 2, none⟩ (.int .i64 0)).heap.size = wr.heap.size := by simp
            rw [hz] at h
            exact h
          have hwl : (wantTo m.jobs u k).length ≤ 60 := Nat.le_trans (wantTo_len m.jobs u k) HMN.out
          have HWL := Lib.hid hwl
          have HGS := Lib.hid HR.out.gs
          clear hwl
          go_wp2_with (at_builtin; refine wpList_appAtM rfl (.tmp 460) (.tmp 470) 37 rfl elemIntT Tryd.underlying37 w.heap.size u29 _ encInt rfl HO2.out x.id ⟨wr.heap.size, 0, none⟩ 1 rfl rfl HNEW.out ?c1 ?c2 ?c3 ?c4 ?_)
          case c1 => simp [encInt, Value.oneCell']
          case c2 => have := HWL.out; omega
          case c3 => have := HWL.out; unfold maxLen; omega
          case c4 => have := HGS.out; simp; omega
          intro v' w5 hown5 hg5 hat5
          have HN5 : Hid (TickAt w w5 B b bm w.heap.size q' m u vj vw (.slice (some ⟨g, 0, none⟩) n cm) v' lv ids (k + 1)) := TickAt.hit HD.out hkx HE.out (.cells #[.int .i64 x.id] 3) (by rw [← HX.out]; exact hown5) hg5 (by rw [World.size_alloc, World.size_setCell]; exact hat5)
          clear hown5 hg5 hat5 HD HO2 HNEW HR
          go_wp2
          go_roundw
          case rel => exact ⟨k + 1, by omega, by go_num, HN5⟩
          case measure => simp [intOf]; omega
        · have he : expM u m.jobs[k] = false := by rw [← HX.out]; unfold expM; simp; omega
          have HK := Lib.hid (HR.out.keep hkx he)
          clear he HR
          go_wp2
          go_quiet (fail)
          go_wp2
          go_roundw
          case rel => exact ⟨k + 1, by omega, by go_num, HK.out.drewN _⟩
          case measure => simp [intOf]; omega
      · have he : expM u m.jobs[k] = false := by rw [← HX.out]; unfold expM; simp; omega
        have HK := Lib.hid (HR.out.keep hkx he)
        have hz0 : x.lease = 0 := by omega
        rw [hz0] at i2
        clear he HR hz0 hz
        go_wp2
        go_quiet (fail)
        go_wp2
        go_roundw
        case rel => exact ⟨k + 1, by omega, by go_num, HK.out.drewN _⟩
        case measure => simp [intOf]; omega
    · obtain rfl : n = k := by omega
      have hwe : wantTo m.jobs u n = ids := by rw [HIDS.out]; unfold wantTo; rw [HN.out, List.take_length]
      have htm : tickMid m u n = tickM m u := by rw [HN.out]; exact tickMid_end m u
      have HO1 := HR.out.own
      have HT1 := HR.out.two
      rw [hwe] at HO1
      rw [htm] at HT1
      have HI1 := HR.out.ids
      have hidl : ids.length ≤ 60 := by rw [← hwe]; exact Nat.le_trans (wantTo_len m.jobs u n) HMN.out
      obtain ⟨o1, c1, rfl, -, hf1⟩ := HO1.flat (fun _ => rfl)
      obtain ⟨o2, c2, rfl, -, hf2⟩ := HI1.flat (fun _ => rfl)
      have HSI := Lib.hid (sameInts_any o2 o1 ids ids c2 c1 wr (by unfold maxLen; omega) (by unfold maxLen; omega) hf2 hf1)
      have HSB := Lib.hid (sameB_self ids)
      have HTW := Lib.hid HT1
      have HBW := Lib.hid HR.out.bel
      have HBS := Lib.hid (Nat.le_trans HR.out.bg HR.out.gs)
      clear HO1 HT1 HI1 hf1 hf2 HR hwe htm
      go_wp2_with fail
      refine HSI.out.mono ?_
      rintro e w6 ⟨rfl, hb6⟩
      rw [HSB.out]
      have HF : Hid (RetStep B b bm t w (.returned (.bool true)) w6) := ⟨q', tickM m u, vj, vw, _, rfl, HTW.out.below hb6, HBW.out.trans (hb6.mono HBS.out), HI.out⟩
      clear hb6 HSI
      go_wp2
      go_ret
      exact HF.out
end Go.Proofs.YtnnnihjagjfkdaaDoor
