/-
  An element of an own row is taken out in place. The walk of slices.Delete of one job. Own text.
-/
import Derived.Test.YtnnnihjagjfkdaaGreatDoorClear
import Derived.Lib.Walk
import Derived.Deep.RegionLaw
namespace Go.Proofs.YtnnnihjagjfkdaaGreatDoor
open Go.RowKit
set_option linter.unusedVariables false
theorem flatMap_take {α β : Type} {k : Nat} {enc : α → List β} (hl : ∀ x, (enc x).length = k) : ∀ (xs : List α) (i : Nat), (xs.take i).flatMap enc = (xs.flatMap enc).take (i * k)
  | [], i => by simp
  | x :: xs, 0 => by simp
  | x :: xs, i + 1 => by
    have e : (i + 1) * k = k + i * k := by rw [Nat.add_mul]; omega
    have e2 : (enc x).take (k + i * k) = enc x := List.take_of_length_le (by rw [hl]; omega)
    rw [List.take_succ_cons, List.flatMap_cons, List.flatMap_cons, flatMap_take hl xs i, e, List.take_append, e2, hl, Nat.add_sub_cancel_left]
theorem flatMap_drop {α β : Type} {k : Nat} {enc : α → List β} (hl : ∀ x, (enc x).length = k) : ∀ (xs : List α) (i : Nat), (xs.drop i).flatMap enc = (xs.flatMap enc).drop (i * k)
  | [], i => by simp
  | x :: xs, 0 => by simp
  | x :: xs, i + 1 => by
    have e : (i + 1) * k = k + i * k := by rw [Nat.add_mul]; omega
    have e2 : (enc x).drop (k + i * k) = [] := List.drop_of_length_le (by rw [hl]; omega)
    rw [List.drop_succ_cons, List.flatMap_cons, flatMap_drop hl xs i, e, List.drop_append, e2, hl, Nat.add_sub_cancel_left, List.nil_append]
/-- Cells are written one behind the other. -/
def setAll (L : List Value) (off : Nat) : List Value → List Value
  | [] => L
  | v :: vs => setAll (L.set off v) (off + 1) vs
theorem setAll_eq : ∀ (vs : List Value) (L : List Value) (off : Nat), off + vs.length ≤ L.length → setAll L off vs = L.take off ++ vs ++ L.drop (off + vs.length)
  | [], L, off, h => by simp [setAll]
  | v :: vs, L, off, h => by
    have h' : off < L.length := by simp at h; omega
    have h2 : off + 1 + vs.length ≤ (L.set off v).length := by simp at h ⊢; omega
    show setAll (L.set off v) (off + 1) vs = _
    rw [setAll_eq vs (L.set off v) (off + 1) h2, List.take_set, List.drop_set_of_lt (by omega), List.take_succ_eq_append_getElem h', List.set_append_right _ _ (by rw [List.length_take]; omega)]
    simp [Nat.min_eq_left (Nat.le_of_lt h'), Nat.add_assoc, Nat.add_comm 1]
theorem ownsRow_setCells {w : World} {base g n c k : Nat} {e : TypeId} : ∀ (vs : List Value) (off : Nat) (L : List Value) (w : World), w.ownsRow base e k (.slice (some ⟨g, 0, none⟩) n c) n L → (w.setCells g off vs).ownsRow base e k (.slice (some ⟨g, 0, none⟩) n c) n (setAll L off vs)
  | [], off, L, w, h => h
  | v :: vs, off, L, w, h => ownsRow_setCells (w := w) vs (off + 1) (L.set off v) (w.setCell ⟨g, off, none⟩ v) (World.ownsRow.stored h off v).1
theorem ownsRow_less {w : World} {base g n c k : Nat} {e : TypeId} {L : List Value} (h : w.ownsRow base e k (.slice (some ⟨g, 0, none⟩) n c) n L) {m : Nat} (hm : m ≤ n) : w.ownsRow base e k (.slice (some ⟨g, 0, none⟩) m c) m (L.take (m * k)) := by
  have hmk : m * k ≤ n * k := Nat.mul_le_mul_right k hm
  refine ⟨by rw [List.length_take, h.1]; omega, ?_⟩
  rcases h.2 with ⟨e1, _⟩ | ⟨g1, c1, cur, e1, hb, hrow, hnc, hcm, hsz, ht⟩
  · cases e1
  · simp only [Value.slice.injEq, Option.some.injEq, Addr.mk.injEq, and_true, true_and] at e1
    obtain ⟨rfl, rfl⟩ := e1
    exact .inr ⟨g, c, cur, rfl, hb, hrow, by omega, hcm, hsz, by rw [← ht, List.take_take, Nat.min_eq_left hmk]⟩
end Go.Proofs.YtnnnihjagjfkdaaGreatDoor
namespace Go.Proofs.YtnnnihjagjfkdaaGreatDoor
open Go.RowKit
set_option linter.unusedVariables false
def zeroJ : List Value := [.int .i64 0, .string ⟨#[]⟩, .int .i64 0, .int .i64 0]
theorem del_row {xs : List Jb} {i : Nat} (hi : i < xs.length) :
    ((setAll (setAll (xs.flatMap encJb) (i * 4) ((xs.drop (i + 1)).flatMap encJb)) ((xs.length - 1) * 4) zeroJ).take ((xs.length - 1) * 4)) = (xs.eraseIdx i).flatMap encJb := by
  have hl : ∀ x, (encJb x).length = 4 := fun _ => rfl
  have hL : (xs.flatMap encJb).length = xs.length * 4 := by
    have h := flatMap_take hl xs xs.length
    rw [List.length_flatMap]
    simp [hl, List.map_const', List.sum_replicate_nat]
  have hN : ((xs.drop (i + 1)).flatMap encJb).length = (xs.length - (i + 1)) * 4 := by
    rw [flatMap_drop hl, List.length_drop, hL, ← Nat.sub_mul]
  have e1 := setAll_eq ((xs.drop (i + 1)).flatMap encJb) (xs.flatMap encJb) (i * 4) (by rw [hN, hL]; omega)
  have hM : (setAll (xs.flatMap encJb) (i * 4) ((xs.drop (i + 1)).flatMap encJb)).length = xs.length * 4 := by
    rw [e1]
    simp only [List.length_append, List.length_take, List.length_drop, hN, hL]
    omega
  have e2 := setAll_eq zeroJ (setAll (xs.flatMap encJb) (i * 4) ((xs.drop (i + 1)).flatMap encJb)) ((xs.length - 1) * 4) (by rw [hM]; show _ + 4 ≤ _; omega)
  rw [e2, List.append_assoc, List.take_append_of_le_length (by rw [List.length_take, hM]; omega), List.take_take, Nat.min_self, e1]
  rw [List.take_append_of_le_length (by simp only [List.length_append, List.length_take, hN, hL]; omega), List.take_of_length_le (by simp only [List.length_append, List.length_take, hN, hL]; omega), ← flatMap_take hl, ← List.flatMap_append, List.eraseIdx_eq_take_drop_succ]
theorem grown_setCells {g : Nat} : ∀ (vs : List Value) (o : Nat) (w : World), w.grownBy (w.setCells g o vs) (some g)
  | [], o, w => ⟨rfl, rfl, rfl, Nat.le_refl _, fun _ _ _ => rfl⟩
  | v :: vs, o, w => by
    have h := grown_setCells (g := g) vs (o + 1) (w.setCell ⟨g, o, none⟩ v)
    refine ⟨h.os, h.tape, h.output, Nat.le_trans (Nat.le_of_eq (show w.heap.size = (w.setCell ⟨g, o, none⟩ v).heap.size by simp)) h.size, fun k hk hn => ?_⟩
    have h1 := h.block k (by simpa using hk) hn
    have h2 : (w.setCell ⟨g, o, none⟩ v).heap[k]? = w.heap[k]? := Below.heap_setCell _ _ _ _ (fun e => hn (by rw [show k = g from e]))
    exact h1.trans h2
def RetDel (B g n cap : Nat) (xs : List Jb) (w : World) (e : Ending) (w' : World) : Prop := e = .returned (.slice (some ⟨g, 0, none⟩) n cap) ∧ n = xs.length ∧ Own w' B 73 4 encJb (.slice (some ⟨g, 0, none⟩) n cap) xs ∧ w.grownBy w' (some g)
set_option maxRecDepth 100000 in
set_option maxHeartbeats 4000000 in
theorem delete_any (B g n cap : Nat) (xs : List Jb) (i j : Nat) (w : World) (h : Own w B 73 4 encJb (.slice (some ⟨g, 0, none⟩) n cap) xs) (hn : n = xs.length) (hi : i < n) (hj : j = i + 1) (hm : n ≤ 64) :
    Calls Tryz.prog 40 #[.slice (some ⟨g, 0, none⟩) n cap, .int .i64 i, .int .i64 j] w (RetDel B g (n - 1) cap (xs.eraseIdx i) w) := by
  have hl : ∀ x, (encJb x).length = 4 := fun _ => rfl
  have hcap : n ≤ cap ∧ cap ≤ maxLen := by
    rcases h.2 with ⟨e1, _⟩ | ⟨g1, c1, cur, e1, hb, hrow, hnc, hcm, hsz, ht⟩
    · cases e1
    · simp only [Value.slice.injEq] at e1
      obtain ⟨e2, e3, e4⟩ := e1
      subst e4
      exact ⟨by omega, hcm⟩
  have hL : (xs.flatMap encJb).length = n * 4 := by rw [hn]; exact h.1
  obtain ⟨news, hnews⟩ : ∃ news, news = (xs.drop j).flatMap encJb := ⟨_, rfl⟩
  have hN : news.length = (n - j) * 4 := by rw [hnews, flatMap_drop hl, List.length_drop, hL, ← Nat.sub_mul]
  have hrd : w.drew.ownsRow B 73 4 (.slice (some ⟨g, 0, none⟩) n cap) n (xs.flatMap encJb) := by
    have h1 := h.drewN 1
    unfold Own at h1
    rw [← hn] at h1
    exact h1
  have hcells : ∀ (W : World) (L : List Value), W.ownsRow B 73 4 (.slice (some ⟨g, 0, none⟩) n cap) n L → (∀ o, o < n * 4 → W.cell? ⟨g, o, none⟩ = L[o]?) ∧ ∀ o, W.frozen? ⟨g, o, none⟩ = false := fun W L hW => by
    rcases hW.2 with ⟨e1, _⟩ | ⟨g1, c1, cur, e1, hb, hrow, hnc, hcm, hsz, ht⟩
    · cases e1
    · simp only [Value.slice.injEq, Option.some.injEq, Addr.mk.injEq, and_true, true_and] at e1
      obtain ⟨rfl, rfl⟩ := e1
      refine ⟨fun o ho => ?_, fun o => by unfold World.frozen?; rw [hrow]; simp⟩
      rw [cell_of_row W g o _ _ (0, 0) hrow, ← ht, List.getElem?_take_of_lt ho, Array.getElem?_toList]
  obtain ⟨c0, f0⟩ := hcells _ _ hrd
  have hrn : (w.drew.setCells g (0 + i * 4) news).ownsRow B 73 4 (.slice (some ⟨g, 0, none⟩) n cap) n (setAll (xs.flatMap encJb) (i * 4) news) := by
    rw [Nat.zero_add]
    exact ownsRow_setCells (w := w) news (i * 4) _ _ hrd
  obtain ⟨W1, hW1⟩ : ∃ W1, W1 = w.drew.setCells g (0 + i * 4) news := ⟨_, rfl⟩
  rw [← hW1] at hrn
  obtain ⟨c1, f1⟩ := hcells _ _ hrn
  have hrz := ownsRow_setCells (w := w) zeroJ ((n - 1) * 4) _ _ hrn
  have hM : (setAll (xs.flatMap encJb) (i * 4) news).length = n * 4 := hrn.1
  have hown : Own (W1.setCells g ((n - 1) * 4) zeroJ) B 73 4 encJb (.slice (some ⟨g, 0, none⟩) (n - 1) cap) (xs.eraseIdx i) := by
    have h1 := ownsRow_less hrz (m := n - 1) (by omega)
    have hlen : (xs.eraseIdx i).length = n - 1 := by rw [List.length_eraseIdx_of_lt (by omega)]; omega
    unfold Own
    rw [hlen, ← del_row (by omega), ← hn, ← hj, ← hnews]
    exact h1
  have hg1 : w.grownBy W1 (some g) := by
    have h1 := grown_setCells (g := g) news (0 + i * 4) w.drew
    rw [← hW1] at h1
    exact ⟨h1.os, h1.tape, h1.output, h1.size, h1.block⟩
  have hg2 := grown_setCells (g := g) zeroJ ((n - 1) * 4) W1
  have HF : Hid (RetDel B g (n - 1) cap (xs.eraseIdx i) w (.returned (.slice (some ⟨g, 0, none⟩) (n - 1) cap)) (W1.setCells g ((n - 1) * 4) zeroJ)) :=
    ⟨rfl, by rw [List.length_eraseIdx_of_lt (by omega)]; omega, hown, ⟨hg2.os.trans hg1.os, hg2.tape.trans hg1.tape, hg2.output.trans hg1.output, Nat.le_trans hg1.size hg2.size, fun k hk hne => (hg2.block k (Nat.lt_of_lt_of_le hk hg1.size) hne).trans (hg1.block k hk hne)⟩⟩
  have hcl : ∀ ty c, (Builtin.clear_ #[59] ty #[.slice (some ⟨g, (n - 1) * 4, none⟩) 1 c]).run Tryz.prog W1 = .ok (.tuple #[]) (W1.setCells g ((n - 1) * 4) zeroJ) := fun ty c =>
    run_clear_one (P := Tryz.prog) W1 _ 73 ty (.agg #[.int .i64 0, .string ⟨#[]⟩, .int .i64 0, .int .i64 0]) zeroJ.toArray Tryz.underlying59 (fun _ => by kernel_rfl) rfl (by simp [zeroJ, Value.oneCell']) g ((n - 1) * 4) c (fun t ht => by have ht' : t < 4 := ht; rw [c1 _ (by omega), List.getElem?_eq_getElem (by rw [hM]; omega)]; rfl) (fun t ht => f1 _)
  have s1 := Lib.hid hN
  have hW := Lib.hid hW1
  have s2 : Hid (∀ u ∈ news, u.oneCell' = true) := by
    intro u hu
    rw [hnews] at hu
    obtain ⟨x, _, hx⟩ := List.mem_flatMap.1 hu
    simp only [encJb, List.mem_cons, List.not_mem_nil, or_false] at hx
    rcases hx with rfl | rfl | rfl | rfl <;> rfl
  have s3 : Hid (∀ t, t < news.length → (w.drew.cell? ⟨g, 0 + i * 4 + t, none⟩).isSome = true ∧ w.drew.frozen? ⟨g, 0 + i * 4 + t, none⟩ = false) := fun t ht => by
    refine ⟨?_, f0 _⟩
    rw [c0 _ (by omega), List.getElem?_eq_getElem (by rw [hL]; omega)]
    rfl
  have hsrc : Hid (∀ t u, news[t]? = some u → w.drew.cell? ((⟨g, j * 4, none⟩ : Addr).add t) = some u) := fun t u hu => by
    rw [Addr.add_lit]
    have ht : t < news.length := (List.getElem?_eq_some_iff.1 hu).1
    rw [c0 _ (by omega), ← hu, hnews, flatMap_drop hl, List.getElem?_drop]
  obtain ⟨i0, hi0, hz0, hsz, hz2, hz3, hz4⟩ := elemJb
  have hic : i ≤ cap := by omega
  have hjc : j ≤ cap := by omega
  have hij : i ≤ j := by omega
  have hjn : j ≤ n := by omega
  have hnij : ¬ (i : Int) = (j : Int) := by omega
  have k0 : (0 : Int) ≤ (i : Int) := by omega
  have k1 : (0 : Int) ≤ (j : Int) := by omega
  have kn : (j : Int) ≤ (n : Int) := by omega
  have hlenj : i + (n - j) = n - 1 := by omega
  have HJ := Lib.hid hj
  have h1n : n - (n - 1) = 1 := by omega
  have hbe : ((i : Int) == (j : Int)) = false := by simp; omega
  clear hj hn h hcells c0 f0 c1 f1 hrn hrz hM hown hg1 hg2 hnews hN hrd hW1 hL
  go_enter Tryz.func40, Tryz.ntmps40
  go_wp2_with fail
  by_cases hcj : cap = j
  · have hnil : news = [] := List.eq_nil_of_length_eq_zero (by have := s1.out; rw [this]; omega)
    obtain rfl : cap = j := hcj
    have hsr0 : Hid (∀ t u, news[t]? = some u → w.drew.cell? ((⟨g, 0, none⟩ : Addr).add t) = some u) := fun t u hu => by rw [hnil] at hu; simp at hu
    go_region_law (refine step_append_room (by rfl) (.tmp 22) (.tmp 25) 59 (by rfl) 73 i0 4 Tryz.underlying59 hi0 hsz g 0 i cap (by simp [Act.eval, Act.put]) ⟨g, 0, none⟩ (n - cap) (cap - cap) news (by simp [Act.eval, Act.put]; omega) s1.out hsr0.out s2.out (by omega) s3.out ?_; rw [← hW.out, hlenj])
    go_wp2
    go_ret
    exact HF.out
  · go_region_law (refine step_append_room (by rfl) (.tmp 22) (.tmp 25) 59 (by rfl) 73 i0 4 Tryz.underlying59 hi0 hsz g 0 i cap (by simp [Act.eval, Act.put]) ⟨g, j * 4, none⟩ (n - j) (cap - j) news (by simp [Act.eval, Act.put]) s1.out hsrc.out s2.out (by omega) s3.out ?_; rw [← hW.out, hlenj])
    go_wp2
    go_ret
    exact HF.out
end Go.Proofs.YtnnnihjagjfkdaaGreatDoor
