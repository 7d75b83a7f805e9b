/-
  bind.Plan, plain. The walks of bind.Plan's closure and of slices.Equal over equal numbers. bind.Plan's sections in memory. Printed by gen_bind.py. The walk of bind.Plan, stacked. Printed by gen_bind.py. The walk of bind.Plan, nested. Printed by gen_bind.py. Own text.
-/
import Derived.Test.YtdblibjmgamjeaaBase
import Derived.Test.YtdblibjmgamjeaaFoldA
import Derived.Deep.AppendLies
import Derived.Deep.QuietTactic
import Derived.BigQuiet
namespace Go.Proofs.Ytdblibjmgamjeaa
set_option linter.unusedVariables false
/-- n pages from a first one; behind the last page of the book: none. -/
def addV (pg fr : Int) (n : Nat) : List Int := (List.range n).map fun (i : Nat) => if fr + (i : Int) ≤ pg then fr + (i : Int) else 0
theorem addV_len (pg fr : Int) (n : Nat) : (addV pg fr n).length = n := by simp [addV]
theorem addV_snoc (pg fr : Int) (n : Nat) : addV pg fr (n + 1) = addV pg fr n ++ [if fr + (n : Int) ≤ pg then fr + (n : Int) else 0] := by
  unfold addV
  rw [List.range_succ, List.map_append]; rfl
/-- Section k of a book: stacked, or nested with all of them. -/
def secV (pg : Int) (per many : Nat) (nest : Bool) (k : Nat) : List Int :=
  if nest then addV pg ((k * (per / 2) : Nat) + 1) (per / 2) ++ addV pg (((many * per : Nat) : Int) - (((k + 1) * (per / 2) : Nat) : Int) + 1) (per / 2) else addV pg ((k * per : Nat) + 1) per
def manyV (pg per : Nat) : Nat := (pg + per - 1) / per
def planV (pg per : Nat) (nest : Bool) : List (List Int) := (List.range (manyV pg per)).map (secV pg per (manyV pg per) nest)
end Go.Proofs.Ytdblibjmgamjeaa
namespace Go.Proofs.Ytdblibjmgamjeaa
open Go.RowKit
set_option linter.unusedVariables false
theorem elemI64 : ElemType Try.prog 3 (.int .i64 0) 1 8 := ElemType.mk (by kernel_rfl) rfl (by decide)
abbrev OwnI (w : World) (B : Nat) (v : Value) (xs : List Int) : Prop := Go.Proofs.Ytdblibjmgamjeaa.Own w B 3 1 encInt v xs
def RetAdd (B : Nat) (ys : List Int) (w : World) (e : Ending) (w' : World) : Prop := ∃ o c, e = .returned (.slice o ys.length c) ∧ OwnI w' B (.slice o ys.length c) ys ∧ Below B w w'
set_option maxHeartbeats 8000000 in
theorem add_any (B : Nat) (pg fr : Int) (hf : 0 ≤ fr ∧ fr ≤ 100000) (n : Nat) (hn : n ≤ 1000) (p : Nat) (v : Value) (xs : List Int) (hxl : xs.length ≤ 1000) (w : World) (hB : B ≤ w.heap.size) (hp : p < B) (hc : w.cell? ⟨p, 0, none⟩ = some (.int .i64 pg)) (hown : OwnI w B v xs) :
    Calls Try.prog 33 #[v, .int .i64 fr, .int .i64 n, .pointer (some ⟨p, 0, none⟩)] w (RetAdd B (xs ++ addV pg fr n) w) := by
  obtain ⟨ov, kv, rfl, -⟩ := hown.isSlc
  obtain ⟨N, hN⟩ : ∃ N, N = xs.length := ⟨_, rfl⟩
  rw [← hN] at hown hxl ⊢
  have HL : Hid (∀ k, (xs ++ addV pg fr k).length = N + k) := fun k => by rw [List.length_append, addV_len, hN]
  have HOWN := Lib.hid hown
  have HC := Lib.hid hc
  have HP := Lib.hid (And.intro hp hB)
  clear hown hN hc hp hB
  have kn : fr + (n : Int) ≤ 101000 := by omega
  go_enter Try.func33, Try.ntmps33
  go_wp2_with fail
  go_loopw [0, 8] (fun l i wr => ∃ k : Nat, k ≤ n ∧ i = .int .i64 (fr + (k : Int)) ∧ ∃ o c, l = .slice o (N + k) c ∧ Hid (Below B w wr ∧ OwnI wr B (.slice o (N + k) c) (xs ++ addV pg fr k))) (fun _ i _ => (fr + (n : Int) - intOf i).toNat)
  case atStart => exact ⟨0, by omega, by go_num, ov, kv, rfl, Below.refl _ _, by show OwnI w B (.slice ov N kv) (xs ++ []); rw [List.append_nil]; exact HOWN.out⟩
  case round =>
    obtain ⟨k, hk, rfl, o, c, rfl, HY⟩ := hrel
    obtain ⟨wa, rfl⟩ : ∃ wa : World, wa = wr := ⟨_, rfl⟩
    by_cases hlt : k < n
    · have kd : fr + (k : Int) < fr + (n : Int) := by omega
      obtain ⟨hb, ho⟩ := HY.out
      have hz := hb.size
      have hcc : wa.cell? ⟨p, 0, none⟩ = some (.int .i64 pg) := (hb.cell (p := ⟨p, 0, none⟩) HP.out.1).trans HC.out
      obtain ⟨D, hD⟩ : ∃ D, D = if fr + (k : Int) ≤ pg then fr + (k : Int) else 0 := ⟨_, rfl⟩
      have HSN : Hid (xs ++ addV pg fr (k + 1) = (xs ++ addV pg fr k) ++ [D]) := by
        show _ = _
        rw [addV_snoc, ← List.append_assoc, hD]
      obtain ⟨ys, hys⟩ : ∃ ys, ys = xs ++ addV pg fr k := ⟨_, rfl⟩
      have hyl : ys.length = N + k := by rw [hys]; exact HL.out k
      rw [← hys] at ho HSN
      have HA := Lib.hid (Own.below ho (balloc (Below.refl _ wa) (.cells #[.int .i64 D] 3)))
      have HBA : Hid (Below B w (wa.alloc (.cells #[.int .i64 D] 3))) := hb.alloc (by have := HP.out.2; omega) _
      have HNEW : Hid (∀ (j : Nat) (u : Value), (encInt D)[j]? = some u → (wa.alloc (.cells #[.int .i64 D] 3)).cell? ((⟨wa.heap.size, 0, none⟩ : Addr).add j) = some u) := World.news_of_block (cs := #[.int .i64 D]) (t := 3) (fr := (0, 0)) (heap_alloc_new wa _)
      have HYL := Lib.hid hyl
      have HZ : Hid (B ≤ wa.heap.size + 1) := by have := HP.out.2; show B ≤ _; omega
      have HNX : Hid (∀ g cap w', OwnI w' B (.slice (some ⟨g, 0, none⟩) (N + k + 1) cap) (ys ++ [D]) → (wa.alloc (.cells #[.int .i64 D] 3)).grownBy w' (Value.slice o (N + k) c).ownBlock → Hid (Below B w w' ∧ OwnI w' B (.slice (some ⟨g, 0, none⟩) (N + (k + 1)) cap) (xs ++ addV pg fr (k + 1)))) := fun g cap w' h1 h2 => by
        refine ⟨HBA.out.grown h2 (by simp; exact HZ.out) (fun j hj => (HA.out.blk hj).1), ?_⟩
        rw [HSN.out]
        exact h1
      clear hb ho hys hyl HY hz
      by_cases hle : fr + (k : Int) ≤ pg
      · rw [if_pos hle] at hD
        subst hD
        go_wp2_with (at_builtin; refine wpList_app1L rfl (.tmp 20) (.tmp 22) 51 rfl elemI64 Try.underlying51 B (.slice o (N + k) c) ys encInt rfl HA.out (fr + (k : Int)) ⟨wa.heap.size, 0, none⟩ 1 rfl rfl HNEW.out ?c1 ?c2 ?c3 ?c4 ?_)
        case c1 => simp [encInt, Value.oneCell']
        case c2 => have := HYL.out; omega
        case c3 => have := HYL.out; unfold maxLen; omega
        case c4 => have := HZ.out; simp; omega
        rw [HYL.out]
        intro g5 cap5 w6 hown6 hgr6 hat6
        have HNXX := HNX.out g5 cap5 w6 hown6 hgr6
        clear hown6 hgr6 hat6 HNEW HA HBA HNX hcc
        go_wp2_with fail
        go_roundw
        case rel => exact ⟨k + 1, by omega, by go_num, _, _, rfl, HNXX⟩
        case measure => simp [intOf]; omega
      · rw [if_neg hle] at hD
        subst hD
        go_wp2_with (at_builtin; refine wpList_app1L rfl (.tmp 24) (.tmp 25) 51 rfl elemI64 Try.underlying51 B (.slice o (N + k) c) ys encInt rfl HA.out 0 ⟨wa.heap.size, 0, none⟩ 1 rfl rfl HNEW.out ?c1 ?c2 ?c3 ?c4 ?_)
        case c1 => simp [encInt, Value.oneCell']
        case c2 => have := HYL.out; omega
        case c3 => have := HYL.out; unfold maxLen; omega
        case c4 => have := HZ.out; simp; omega
        rw [HYL.out]
        intro g5 cap5 w6 hown6 hgr6 hat6
        have HNXX := HNX.out g5 cap5 w6 hown6 hgr6
        clear hown6 hgr6 hat6 HNEW HA HBA HNX hcc
        go_wp2_with fail
        go_roundw
        case rel => exact ⟨k + 1, by omega, by go_num, _, _, rfl, HNXX⟩
        case measure => simp [intOf]; omega
    · obtain rfl : n = k := by omega
      have HF : Hid (RetAdd B (xs ++ addV pg fr n) w (.returned (.slice o (N + n) c)) wa) := by
        have hl := HL.out n
        exact ⟨o, c, by rw [hl], by rw [hl]; exact HY.out.2, HY.out.1⟩
      clear HY
      go_wp2_with fail
      go_ret
      exact HF.out
theorem IsSlice.getI {W : World} {oc : Option Addr} {n cc : Nat} {xs : List Int} (h : IsSlice W 1 encInt (.slice oc n cc) xs) {k : Nat} (hk : k < xs.length) : ∃ b off, oc = some ⟨b, off, none⟩ ∧ W.cell? ⟨b, off + k, none⟩ = some (.int .i64 xs[k]) := by
  obtain ⟨oa', c', e, -, -, hf⟩ := h
  simp only [Value.slice.injEq] at e
  obtain ⟨rfl, -, -⟩ := e
  obtain ⟨v, hv, b, off, e2, hc⟩ := hf k hk 0 (by omega)
  simp only [encInt, List.getElem?_cons_zero, Option.some.injEq] at hv
  subst hv
  exact ⟨b, off, e2, by simpa using hc⟩
set_option maxRecDepth 100000 in
set_option maxHeartbeats 4000000 in
theorem equalI_any (oa ob : Option Addr) (xs : List Int) (ca cb : Nat) (w : World) (hx : IsSlice w 1 encInt (.slice oa xs.length ca) xs) (hy : IsSlice w 1 encInt (.slice ob xs.length cb) xs) (hm : xs.length ≤ 2000000) :
    Calls Try.prog 18 #[.slice oa xs.length ca, .slice ob xs.length cb] w fun e w' => e = .returned (.bool true) ∧ Below w.heap.size w w' := by
  have HX := Lib.hid hx
  have HY := Lib.hid hy
  clear hx hy
  obtain ⟨n, hn⟩ : ∃ n, n = xs.length := ⟨_, rfl⟩
  rw [← hn] at hm
  have HXX : Hid (∀ W, Below w.heap.size w W → IsSlice W 1 encInt (.slice oa xs.length ca) xs ∧ IsSlice W 1 encInt (.slice ob xs.length cb) xs) := fun W hb => ⟨HX.out.below hb, HY.out.below hb⟩
  rw [← hn]
  have HL := Lib.hid hn
  clear hn HX HY
  go_enter Try.func18, Try.ntmps18
  go_wp2
  go_loopw [13] (fun i wr => ∃ k : Nat, k ≤ n ∧ i = .int .i64 k ∧ Hid (Below w.heap.size w wr)) (fun i _ => n - (intOf i).toNat)
  case atStart => exact ⟨0, by omega, rfl, Below.refl _ _⟩
  case round =>
    obtain ⟨k, hk, rfl, HR⟩ := hrel
    by_cases hlt : k < n
    · have hkx : k < xs.length := by have := HL.out; omega
      obtain ⟨b1, off1, rfl, i0⟩ := (HXX.out wr HR.out).1.getI hkx
      obtain ⟨b2, off2, rfl, j0⟩ := (HXX.out wr HR.out).2.getI hkx
      have kd : (k : Int) < (n : Int) := by omega
      have HN : Hid (∀ N, Below w.heap.size w (wr.drewN N)) := fun N => bdrewN HR.out N
      generalize xs[k] = x at *
      clear hkx HR
      go_upto_region 6 with fail
      go_quiet (fail)
      go_wp2
      go_roundw
      case rel => exact ⟨k + 1, by omega, by go_num, HN.out _⟩
      case measure => simp [intOf]; omega
    · obtain rfl : n = k := by omega
      clear HXX
      go_wp2
      go_ret
      exact ⟨rfl, HR.out⟩
end Go.Proofs.Ytdblibjmgamjeaa
namespace Go.Proofs.Ytdblibjmgamjeaa
open Go.RowKit
set_option linter.unusedVariables false
theorem elemSec : ElemType Try.prog 51 (.slice none 0 0) 1 24 := ElemType.mk (by kernel_rfl) rfl (by decide)
abbrev SecR (w : World) (v : Value) (xs : List Int) : Prop := IsSlice w 1 encInt v xs
abbrev SecU (w : World) (B : Nat) (v : Value) (us : List Value) (xs : List (List Int)) : Prop := RowsU encV blkV SecR 51 1 w B v us xs
abbrev SecV (w : World) (oa : Option Addr) (us : List Value) (xs : List (List Int)) : Prop := RowsV encV blkV SecR 1 w oa us xs
def RetPlan (ys : List (List Int)) (w : World) (e : Ending) (w' : World) : Prop := ∃ us oa c, e = .returned (.tuple #[.slice oa ys.length c, .int .i64 0]) ∧ SecV w' oa us ys ∧ Below w.heap.size w w'
theorem bthen' {B : Nat} {w w1 w2 : World} (h1 : Below B w w1) (h2 : Below B w1 w2) : Below B w w2 := h1.trans h2
end Go.Proofs.Ytdblibjmgamjeaa
namespace Go.Proofs.Ytdblibjmgamjeaa
open Go.RowKit
set_option linter.unusedVariables false
set_option maxRecDepth 100000 in
set_option maxHeartbeats 16000000 in
theorem plan0_any (pg per : Nat) (h1 : 1 ≤ pg ∧ pg ≤ 512) (h2 : 2 ≤ per ∧ per ≤ 64) (h3 : per % 2 = 0) (h5 : manyV pg per ≤ 64) (w : World) :
    Calls Try.prog 14 #[.int .i64 pg, .int .i64 per, .int .i64 0] w (RetPlan (planV pg per false) w) := by
  obtain ⟨many, hmany⟩ : ∃ q, q = manyV pg per := ⟨_, rfl⟩
  have hmd : ((pg : Int) + (per : Int) - 1) / (per : Int) = (many : Int) := by
    have e : (pg : Int) + (per : Int) - 1 = ((pg + per - 1 : Nat) : Int) := by omega
    rw [e, ← Int.natCast_ediv, hmany]; rfl
  have hm1 : many * per ≤ pg + per - 1 := by rw [hmany]; exact Nat.div_mul_le_self _ _
  have HPL : Hid (planV pg per false = (List.range many).map (secV pg per many false)) := by show _ = _; rw [hmany]; rfl
  rw [← hmany] at h5
  clear hmany
  obtain ⟨ha, hb⟩ := h1
  obtain ⟨hc, hd⟩ := h2
  have xr : ((per : Int) % 2 == 1) = false := by
    have e : (per : Int) % 2 = 0 := by omega
    rw [e]; rfl
  have xr2 : ¬ ((per : Int) % 2 = 1) := by omega
  clear h3
  obtain ⟨W1, hW1⟩ : ∃ W1, W1 = w.alloc (.cells #[.int .i64 pg] 3) := ⟨_, rfl⟩
  have hb1 : Below w.heap.size w W1 := by rw [hW1]; exact balloc (Below.refl _ w) _
  have hz1 : W1.heap.size = w.heap.size + 1 := by rw [hW1]; simp
  have c0 : W1.cell? ⟨w.heap.size, 0, none⟩ = some (.int .i64 pg) := by
    rw [hW1, cell_of_row _ w.heap.size 0 _ _ (0, 0) (heap_alloc_new w _)]; rfl
  have HW1 : Hid (w.alloc (.cells #[.int .i64 pg] 3) = W1) := hW1.symm
  have HB1 := Lib.hid hb1
  have HZ1 := Lib.hid hz1
  clear hW1 hb1 hz1
  go_enter Try.func14, Try.ntmps14
  go_upto_block 0 with fail
  rw [HW1.out]
  clear HW1
  have HC0 := Lib.hid c0
  go_wp2_with fail
  clear c0
  rw [hmd]
  clear hmd
  go_loopw [9, 58] (fun out i wr => ∃ k : Nat, k ≤ many ∧ i = .int .i64 k ∧ ∃ o c, out = .slice o k c ∧ Hid (Below W1.heap.size W1 wr ∧ ∃ us, SecU wr W1.heap.size (.slice o k c) us ((List.range k).map (secV pg per many false)))) (fun _ i _ => many - (intOf i).toNat)
  case atStart => exact ⟨0, by omega, rfl, none, 0, rfl, Below.refl _ _, [], RowsU.nil _ _⟩
  case round =>
    obtain ⟨k, hk, rfl, o, c, rfl, HY⟩ := hrel
    obtain ⟨wa, rfl⟩ : ∃ wa : World, wa = wr := ⟨_, rfl⟩
    by_cases hlt : k < many
    · have kd : (k : Int) < (many : Int) := by omega
      obtain ⟨hbw, us, hu⟩ := HY.out
      have hca := keepCell hbw HC0.out
      have HBW := Lib.hid hbw
      have HU := Lib.hid hu
      have hlz : w.heap.size < wa.heap.size := by have := hbw.size; have := HZ1.out; omega
      have hul : us.length = k := by rw [hu.len]; simp
      obtain ⟨kh, hkh⟩ : ∃ q, q = k * per := ⟨_, rfl⟩
      have b2 : kh ≤ 1000 := by
        have : k * per ≤ many * per := Nat.mul_le_mul_right _ (by omega)
        omega
      have x1 : IntKind.i64.wrap ((k : Int) * (per : Int)) = (kh : Int) := by rw [hkh, Int.natCast_mul]; exact IntWalk.i64_in _ (by rw [← Int.natCast_mul, ← hkh]; omega)
      have HSV : Hid (secV pg per many false k = addV pg ((kh : Int) + 1) per) := by
        show _ = _
        unfold secV
        rw [if_neg (by decide), ← hkh]
      clear hkh
      have HA1 : Hid (Calls Try.prog 33 #[.slice none 0 0, .int .i64 ((kh : Int) + 1), .int .i64 per, .pointer (some ⟨w.heap.size, 0, none⟩)] wa (fun e w' => ∃ o c, e = .returned (.slice o per c) ∧ OwnI w' wa.heap.size (.slice o per c) (secV pg per many false k) ∧ Below wa.heap.size wa w')) := by
        have h := add_any wa.heap.size pg ((kh : Int) + 1) (by omega) per (by omega) w.heap.size (.slice none 0 0) [] (by simp) wa (Nat.le_refl _) hlz hca (Own.nil _ _ _ _ _)
        rw [List.nil_append] at h
        unfold RetAdd at h
        rw [addV_len] at h
        rw [HSV.out]
        exact h
      clear hbw hu hca HY HSV
      go_wp2_with fail
      refine HA1.out.mono ?_
      rintro e w6 ⟨o6, c6, rfl, hown6, hb6⟩
      clear HA1
      have HU6 := Lib.hid (HU.out.below (stab_slice 1 encInt) (hb6.trans (balloc (Below.refl _ w6) (.cells #[.slice o6 per c6] 51) |>.mono hb6.size)))
      have HR6 : Hid (SecR (w6.alloc (.cells #[.slice o6 per c6] 51)) (.slice o6 per c6) (secV pg per many false k)) := (Own.isSlice hown6 (fun _ => rfl)).below (balloc (Below.refl _ w6) _)
      have HG6 : Hid (∀ g, blkV (.slice o6 per c6) g → wa.heap.size ≤ g ∧ g < w6.heap.size) := fun g hg => hown6.blk hg
      have HB6 := Lib.hid (bthen HBW.out hb6)
      have HNEW : Hid (∀ (j : Nat) (u : Value), (encV (.slice o6 per c6))[j]? = some u → (w6.alloc (.cells #[.slice o6 per c6] 51)).cell? ((⟨w6.heap.size, 0, none⟩ : Addr).add j) = some u) := World.news1 w6 _ _
      have HUL := Lib.hid hul
      have HZ6 := Lib.hid hb6.size
      clear hown6 hb6 hul
      go_wp2_with (at_builtin; refine wpList_app1L rfl (.tmp 63) (.tmp 71) 48 rfl elemSec Try.underlying48 W1.heap.size (.slice o k c) us encV rfl HU6.out.op (.slice o6 per c6) ⟨w6.heap.size, 0, none⟩ 1 rfl rfl HNEW.out ?c1 ?c2 ?c3 ?c4 ?_)
      case c1 => simp [encV, Value.oneCell']
      case c2 => have := HUL.out; omega
      case c3 => have := HUL.out; unfold maxLen; omega
      case c4 => have := HB6.out.size; simp; omega
      rw [HUL.out]
      intro g7 cap7 w7 hown7 hgr7 hat7
      have HNX : Hid (Below W1.heap.size W1 w7 ∧ ∃ us, SecU w7 W1.heap.size (.slice (some ⟨g7, 0, none⟩) (k + 1) cap7) us ((List.range (k + 1)).map (secV pg per many false))) := by
        refine ⟨(balloc HB6.out _).grown hgr7 (by have := HB6.out.size; simp; omega) (fun j hj => (HU6.out.op.blk hj).1), us ++ [.slice o6 per c6], ?_⟩
        rw [List.range_succ, List.map_append]
        refine HU6.out.add (stab_slice 1 encInt) HR6.out (fun g hg => ⟨by have := (HG6.out g hg).2; simp; omega, fun e => ?_⟩) hown7 hgr7 ?_
        · have h1 := (HU.out.op.blk e).2
          have h2 := (HG6.out g hg).1
          omega
        · rcases hat7 with e | e
          · exact .inl e.symm
          · exact .inr (by rw [e]; simp [Value.ownBlock])
      clear hown7 hgr7 hat7 HU6 HR6 HG6 HNEW HU
      go_wp2_with fail
      go_roundw
      case rel => exact ⟨k + 1, by omega, by go_num, _, _, rfl, HNX⟩
      case measure => simp [intOf]; omega
    · obtain rfl : many = k := by omega
      obtain ⟨hbw, us, hu⟩ := HY.out
      have HF : Hid (RetPlan (planV pg per false) w (.returned (.tuple #[.slice o many c, .int .i64 0])) wa) := by
        rw [HPL.out]
        obtain ⟨oa, cap, e, -, -, hv⟩ := hu.view (fun _ => rfl)
        have e1 := e
        simp only [Value.slice.injEq] at e1
        exact ⟨us, oa, cap, by rw [e], hv, bthen HB1.out hbw⟩
      clear hbw hu HY
      go_wp2_with fail
      go_ret2
      exact HF.out
end Go.Proofs.Ytdblibjmgamjeaa
namespace Go.Proofs.Ytdblibjmgamjeaa
open Go.RowKit
set_option linter.unusedVariables false
set_option maxRecDepth 100000 in
set_option maxHeartbeats 16000000 in
theorem plan1_any (pg per : Nat) (h1 : 1 ≤ pg ∧ pg ≤ 512) (h2 : 2 ≤ per ∧ per ≤ 64) (h3 : per % 2 = 0) (h4 : per % 4 = 0) (h5 : manyV pg per ≤ 64) (w : World) :
    Calls Try.prog 14 #[.int .i64 pg, .int .i64 per, .int .i64 1] w (RetPlan (planV pg per true) w) := by
  obtain ⟨many, hmany⟩ : ∃ q, q = manyV pg per := ⟨_, rfl⟩
  have hmd : ((pg : Int) + (per : Int) - 1) / (per : Int) = (many : Int) := by
    have e : (pg : Int) + (per : Int) - 1 = ((pg + per - 1 : Nat) : Int) := by omega
    rw [e, ← Int.natCast_ediv, hmany]; rfl
  have hm1 : many * per ≤ pg + per - 1 := by rw [hmany]; exact Nat.div_mul_le_self _ _
  have HPL : Hid (planV pg per true = (List.range many).map (secV pg per many true)) := by show _ = _; rw [hmany]; rfl
  rw [← hmany] at h5
  clear hmany
  obtain ⟨ha, hb⟩ := h1
  obtain ⟨hc, hd⟩ := h2
  have xr : ((per : Int) % 2 == 1) = false := by
    have e : (per : Int) % 2 = 0 := by omega
    rw [e]; rfl
  have xr2 : ¬ ((per : Int) % 2 = 1) := by omega
  have xs : ((per : Int) % 4 != 0) = false := by
    have e : (per : Int) % 4 = 0 := by omega
    rw [e]; rfl
  obtain ⟨half, hhalf⟩ : ∃ q, q = per / 2 := ⟨_, rfl⟩
  have xh : (per : Int) / 2 = (half : Int) := by omega
  have hh : half + half = per := by omega
  have HH : Hid (per / 2 = half) := hhalf.symm
  clear hhalf h4
  clear h3
  obtain ⟨W1, hW1⟩ : ∃ W1, W1 = w.alloc (.cells #[.int .i64 pg] 3) := ⟨_, rfl⟩
  have hb1 : Below w.heap.size w W1 := by rw [hW1]; exact balloc (Below.refl _ w) _
  have hz1 : W1.heap.size = w.heap.size + 1 := by rw [hW1]; simp
  have c0 : W1.cell? ⟨w.heap.size, 0, none⟩ = some (.int .i64 pg) := by
    rw [hW1, cell_of_row _ w.heap.size 0 _ _ (0, 0) (heap_alloc_new w _)]; rfl
  have HW1 : Hid (w.alloc (.cells #[.int .i64 pg] 3) = W1) := hW1.symm
  have HB1 := Lib.hid hb1
  have HZ1 := Lib.hid hz1
  clear hW1 hb1 hz1
  go_enter Try.func14, Try.ntmps14
  go_upto_block 0 with fail
  rw [HW1.out]
  clear HW1
  have HC0 := Lib.hid c0
  go_wp2_with fail
  clear c0
  rw [hmd]
  clear hmd
  go_loopw [9, 58] (fun out i wr => ∃ k : Nat, k ≤ many ∧ i = .int .i64 k ∧ ∃ o c, out = .slice o k c ∧ Hid (Below W1.heap.size W1 wr ∧ ∃ us, SecU wr W1.heap.size (.slice o k c) us ((List.range k).map (secV pg per many true)))) (fun _ i _ => many - (intOf i).toNat)
  case atStart => exact ⟨0, by omega, rfl, none, 0, rfl, Below.refl _ _, [], RowsU.nil _ _⟩
  case round =>
    obtain ⟨k, hk, rfl, o, c, rfl, HY⟩ := hrel
    obtain ⟨wa, rfl⟩ : ∃ wa : World, wa = wr := ⟨_, rfl⟩
    by_cases hlt : k < many
    · have kd : (k : Int) < (many : Int) := by omega
      obtain ⟨hbw, us, hu⟩ := HY.out
      have hca := keepCell hbw HC0.out
      have HBW := Lib.hid hbw
      have HU := Lib.hid hu
      have hlz : w.heap.size < wa.heap.size := by have := hbw.size; have := HZ1.out; omega
      have hul : us.length = k := by rw [hu.len]; simp
      obtain ⟨kh, hkh⟩ : ∃ q, q = k * half := ⟨_, rfl⟩
      obtain ⟨kh1, hkh1⟩ : ∃ q, q = (k + 1) * half := ⟨_, rfl⟩
      obtain ⟨mp, hmp⟩ : ∃ q, q = many * per := ⟨_, rfl⟩
      have b1 : kh1 ≤ mp := by rw [hkh1, hmp]; exact Nat.mul_le_mul hlt (by omega)
      have b2 : kh ≤ kh1 := by rw [hkh1, hkh]; exact Nat.mul_le_mul_right _ (by omega)
      have b3 : mp ≤ 1000 := by rw [hmp]; omega
      have x1 : IntKind.i64.wrap ((k : Int) * (half : Int)) = (kh : Int) := by rw [hkh, Int.natCast_mul]; exact IntWalk.i64_in _ (by rw [← Int.natCast_mul, ← hkh]; omega)
      have x2 : IntKind.i64.wrap ((many : Int) * (per : Int)) = (mp : Int) := by rw [hmp, Int.natCast_mul]; exact IntWalk.i64_in _ (by rw [← Int.natCast_mul, ← hmp]; omega)
      have x3 : IntKind.i64.wrap (((k : Int) + 1) * (half : Int)) = (kh1 : Int) := by
        have e : ((k : Int) + 1) * (half : Int) = ((k + 1) * half : Nat) := by rw [Int.natCast_mul]; rfl
        rw [e, ← hkh1]; exact IntWalk.i64_in _ (by omega)
      have HSV : Hid (secV pg per many true k = addV pg ((kh : Int) + 1) half ++ addV pg ((mp : Int) - (kh1 : Int) + 1) half) := by
        show _ = _
        unfold secV
        rw [if_pos rfl, HH.out, ← hkh, ← hkh1, ← hmp]
      clear hkh hkh1 hmp
      have HA1 : Hid (Calls Try.prog 33 #[.slice none 0 0, .int .i64 ((kh : Int) + 1), .int .i64 half, .pointer (some ⟨w.heap.size, 0, none⟩)] wa (fun e w' => ∃ o c, e = .returned (.slice o half c) ∧ OwnI w' wa.heap.size (.slice o half c) (addV pg ((kh : Int) + 1) half) ∧ Below wa.heap.size wa w')) := by
        have h := add_any wa.heap.size pg ((kh : Int) + 1) (by omega) half (by omega) w.heap.size (.slice none 0 0) [] (by simp) wa (Nat.le_refl _) hlz hca (Own.nil _ _ _ _ _)
        rw [List.nil_append] at h
        unfold RetAdd at h
        rw [addV_len] at h
        exact h
      have HA2 : Hid (∀ W o c, Below wa.heap.size wa W → OwnI W wa.heap.size (.slice o half c) (addV pg ((kh : Int) + 1) half) → Calls Try.prog 33 #[.slice o half c, .int .i64 ((mp : Int) - (kh1 : Int) + 1), .int .i64 half, .pointer (some ⟨w.heap.size, 0, none⟩)] W (fun e w' => ∃ o c, e = .returned (.slice o per c) ∧ OwnI w' wa.heap.size (.slice o per c) (secV pg per many true k) ∧ Below wa.heap.size wa w')) := fun W o c hbW hoW => by
        have h := add_any wa.heap.size pg ((mp : Int) - (kh1 : Int) + 1) (by omega) half (by omega) w.heap.size (.slice o half c) _ (by rw [addV_len]; omega) W hbW.size hlz (keepCell hbW hca) hoW
        unfold RetAdd at h
        rw [← HSV.out] at h
        have hl : (secV pg per many true k).length = per := by rw [HSV.out, List.length_append, addV_len, addV_len]; omega
        rw [hl] at h
        exact h.mono fun e w' ⟨o', c', h1, h2, h3⟩ => ⟨o', c', h1, h2, bthen' hbW h3⟩
      clear hbw hu hca HY HSV
      go_wp2_with fail
      refine HA1.out.mono ?_
      rintro e w5 ⟨o5, c5, rfl, hown5, hb5⟩
      have HA3 := Lib.hid (HA2.out w5 o5 c5 hb5 hown5)
      clear HA1 HA2 hown5 hb5
      go_wp2_with fail
      refine HA3.out.mono ?_
      rintro e w6 ⟨o6, c6, rfl, hown6, hb6⟩
      clear HA3
      have HU6 := Lib.hid (HU.out.below (stab_slice 1 encInt) (hb6.trans (balloc (Below.refl _ w6) (.cells #[.slice o6 per c6] 51) |>.mono hb6.size)))
      have HR6 : Hid (SecR (w6.alloc (.cells #[.slice o6 per c6] 51)) (.slice o6 per c6) (secV pg per many true k)) := (Own.isSlice hown6 (fun _ => rfl)).below (balloc (Below.refl _ w6) _)
      have HG6 : Hid (∀ g, blkV (.slice o6 per c6) g → wa.heap.size ≤ g ∧ g < w6.heap.size) := fun g hg => hown6.blk hg
      have HB6 := Lib.hid (bthen HBW.out hb6)
      have HNEW : Hid (∀ (j : Nat) (u : Value), (encV (.slice o6 per c6))[j]? = some u → (w6.alloc (.cells #[.slice o6 per c6] 51)).cell? ((⟨w6.heap.size, 0, none⟩ : Addr).add j) = some u) := World.news1 w6 _ _
      have HUL := Lib.hid hul
      have HZ6 := Lib.hid hb6.size
      clear hown6 hb6 hul
      go_wp2_with (at_builtin; refine wpList_app1L rfl (.tmp 75) (.tmp 95) 48 rfl elemSec Try.underlying48 W1.heap.size (.slice o k c) us encV rfl HU6.out.op (.slice o6 per c6) ⟨w6.heap.size, 0, none⟩ 1 rfl rfl HNEW.out ?c1 ?c2 ?c3 ?c4 ?_)
      case c1 => simp [encV, Value.oneCell']
      case c2 => have := HUL.out; omega
      case c3 => have := HUL.out; unfold maxLen; omega
      case c4 => have := HB6.out.size; simp; omega
      rw [HUL.out]
      intro g7 cap7 w7 hown7 hgr7 hat7
      have HNX : Hid (Below W1.heap.size W1 w7 ∧ ∃ us, SecU w7 W1.heap.size (.slice (some ⟨g7, 0, none⟩) (k + 1) cap7) us ((List.range (k + 1)).map (secV pg per many true))) := by
        refine ⟨(balloc HB6.out _).grown hgr7 (by have := HB6.out.size; simp; omega) (fun j hj => (HU6.out.op.blk hj).1), us ++ [.slice o6 per c6], ?_⟩
        rw [List.range_succ, List.map_append]
        refine HU6.out.add (stab_slice 1 encInt) HR6.out (fun g hg => ⟨by have := (HG6.out g hg).2; simp; omega, fun e => ?_⟩) hown7 hgr7 ?_
        · have h1 := (HU.out.op.blk e).2
          have h2 := (HG6.out g hg).1
          omega
        · rcases hat7 with e | e
          · exact .inl e.symm
          · exact .inr (by rw [e]; simp [Value.ownBlock])
      clear hown7 hgr7 hat7 HU6 HR6 HG6 HNEW HU
      go_wp2_with fail
      go_roundw
      case rel => exact ⟨k + 1, by omega, by go_num, _, _, rfl, HNX⟩
      case measure => simp [intOf]; omega
    · obtain rfl : many = k := by omega
      obtain ⟨hbw, us, hu⟩ := HY.out
      have HF : Hid (RetPlan (planV pg per true) w (.returned (.tuple #[.slice o many c, .int .i64 0])) wa) := by
        rw [HPL.out]
        obtain ⟨oa, cap, e, -, -, hv⟩ := hu.view (fun _ => rfl)
        have e1 := e
        simp only [Value.slice.injEq] at e1
        exact ⟨us, oa, cap, by rw [e], hv, bthen HB1.out hbw⟩
      clear hbw hu HY
      go_wp2_with fail
      go_ret2
      exact HF.out
end Go.Proofs.Ytdblibjmgamjeaa
