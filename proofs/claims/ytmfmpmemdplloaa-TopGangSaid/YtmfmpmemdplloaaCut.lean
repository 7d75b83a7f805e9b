/-
  Kinds of pieces: their cells, their checks. Own text.
-/
import Derived.Test.YtmfmpmemdplloaaTree
import Derived.Test.YtmfmpmemdplloaaIn
import Derived.Test.YtmfmpmemdplloaaArr
import Derived.Test.YtmfmpmemdplloaaRegion
namespace Go.Proofs.Ytmfmpmemdplloaa
open Go.RowKit
set_option linter.unusedVariables false
def encItem (p : Item) : List Value := [.int .i64 p.w, .int .i64 p.h, .int .i64 p.value, .bool p.turn]
def encRect (r : Rect) : List Value := [.int .i64 r.item, .int .i64 r.x, .int .i64 r.y, .int .i64 r.w, .int .i64 r.h]
theorem Flat.item {w : World} {oa : Option Addr} {xs : List Item} (h : Flat w 4 encItem oa xs) {i : Nat} (hi : i < xs.length) :
    ∃ b off, oa = some ⟨b, off, none⟩ ∧ w.cell? ⟨b, off + i * 4, none⟩ = some (.int .i64 xs[i].w) ∧ w.cell? ⟨b, off + i * 4 + 1, none⟩ = some (.int .i64 xs[i].h) ∧
      w.cell? ⟨b, off + i * 4 + 2, none⟩ = some (.int .i64 xs[i].value) ∧ w.cell? ⟨b, off + i * 4 + 3, none⟩ = some (.bool xs[i].turn) := by
  obtain ⟨v0, hv0, b, off, e, h0⟩ := h i hi 0 (by omega)
  obtain ⟨v1, hv1, b1, off1, e1, h1⟩ := h i hi 1 (by omega)
  obtain ⟨v2, hv2, b2, off2, e2, h2⟩ := h i hi 2 (by omega)
  obtain ⟨v3, hv3, b3, off3, e3, h3⟩ := h i hi 3 (by omega)
  subst e
  simp only [Option.some.injEq, Addr.mk.injEq, and_true] at e1 e2 e3
  obtain ⟨rfl, rfl⟩ := e1
  obtain ⟨rfl, rfl⟩ := e2
  obtain ⟨rfl, rfl⟩ := e3
  simp [encItem] at hv0 hv1 hv2 hv3
  subst hv0 hv1 hv2 hv3
  exact ⟨b, off, rfl, by simpa using h0, by simpa [Nat.add_assoc] using h1, by simpa [Nat.add_assoc] using h2, by simpa [Nat.add_assoc] using h3⟩
def pieceOk (p : Item) : Bool := decide (1 ≤ p.w ∧ p.w ≤ 40 ∧ 1 ≤ p.h ∧ p.h ≤ 40 ∧ 0 ≤ p.value ∧ p.value ≤ 1000)
def itemsErr (l : List Item) : Int := if 8 < l.length then 2 else if l.all pieceOk then 0 else 3
theorem itemsErr_bad {l : List Item} {k : Nat} (h8 : ¬ 8 < l.length) (h : k < l.length) (hp : pieceOk l[k] = false) : itemsErr l = 3 := by
  unfold itemsErr; rw [if_neg h8, all_no h hp]; rfl
theorem itemsErr_ok {l : List Item} {k : Nat} (h8 : ¬ 8 < l.length) (h : AllTo pieceOk l k) (hk : l.length ≤ k) : itemsErr l = 0 := by
  unfold itemsErr; rw [if_neg h8, h.all hk]; rfl
set_option maxHeartbeats 2000000 in
theorem checkItems_any (oa : Option Addr) (xs : List Item) (cap : Nat) (w : World) (hm : xs.length ≤ maxLen) (hx : Flat w 4 encItem oa xs) :
    Calls Try.prog 19 #[.slice oa xs.length cap] w fun e w' => e = .returned (.int .i64 (itemsErr xs)) ∧ Below w.heap.size w w' := by
  have hm9 : xs.length ≤ 9223372036854775807 := by unfold maxLen at hm; omega
  by_cases h8 : 8 < xs.length
  · have E : Hid (itemsErr xs = 2) := by show itemsErr xs = 2; unfold itemsErr; rw [if_pos h8]
    go_enter Try.func19, Try.ntmps19
    go_wp2
    go_ret
    exact ⟨by rw [E.out]; rfl, Below.refl _ _⟩
  · go_enter Try.func19, Try.ntmps19
    go_wp2
    go_loopw [10] (fun i wr => ∃ k : Nat, k ≤ xs.length ∧ i = .int .i64 k ∧ AllTo pieceOk xs k ∧ Below w.heap.size w wr) (fun i _ => xs.length - (intOf i).toNat)
    case atStart => exact ⟨0, by omega, rfl, AllTo.zero _ _, Below.refl _ _⟩
    case round =>
      obtain ⟨k, hk, rfl, hall, hb⟩ := hrel
      by_cases hlt : k < xs.length
      · obtain ⟨b, off, rfl, c0, c1, c2, c3⟩ := (hx.below hb).item hlt
        by_cases hp : pieceOk xs[k] = true
        · have hall' := hall.succ hlt hp
          obtain ⟨i1, i2, i3, i4, i5, i6⟩ := of_decide_eq_true hp
          clear hp hall
          go_wp2
          go_roundw
          case rel => exact ⟨k + 1, by omega, by go_num, hall', balloc hb _⟩
          case measure => simp [intOf]; omega
        · have hp0 : pieceOk xs[k] = false := by simpa using hp
          have E : Hid (itemsErr xs = 3) := itemsErr_bad h8 hlt hp0
          have hn : ¬ (1 ≤ xs[k].w ∧ xs[k].w ≤ 40 ∧ 1 ≤ xs[k].h ∧ xs[k].h ≤ 40 ∧ 0 ≤ xs[k].value ∧ xs[k].value ≤ 1000) := of_decide_eq_false hp0
          have hn2 : xs[k].w < 1 ∨ (1 ≤ xs[k].w ∧ 40 < xs[k].w) ∨ (1 ≤ xs[k].w ∧ xs[k].w ≤ 40 ∧ xs[k].h < 1) ∨ (1 ≤ xs[k].w ∧ xs[k].w ≤ 40 ∧ 1 ≤ xs[k].h ∧ 40 < xs[k].h) ∨
            (1 ≤ xs[k].w ∧ xs[k].w ≤ 40 ∧ 1 ≤ xs[k].h ∧ xs[k].h ≤ 40 ∧ xs[k].value < 0) ∨ (1 ≤ xs[k].w ∧ xs[k].w ≤ 40 ∧ 1 ≤ xs[k].h ∧ xs[k].h ≤ 40 ∧ 0 ≤ xs[k].value ∧ 1000 < xs[k].value) := by omega
          clear hp hp0 hn hall
          rcases hn2 with a1 | ⟨a1, a2⟩ | ⟨a1, a2, a3⟩ | ⟨a1, a2, a3, a4⟩ | ⟨a1, a2, a3, a4, a5⟩ | ⟨a1, a2, a3, a4, a5, a6⟩
          all_goals
            go_wp2
            go_ret
            exact ⟨by rw [E.out]; rfl, balloc hb _⟩
      · have E : Hid (itemsErr xs = 0) := itemsErr_ok h8 hall (by omega)
        clear hall
        go_wp2
        go_ret
        exact ⟨by rw [E.out]; rfl, hb⟩
def beginV (w h : Int) (items : List Item) : Int := if 1 ≤ w ∧ w ≤ 40 ∧ 1 ≤ h ∧ h ≤ 40 then itemsErr items else 3
set_option maxHeartbeats 1000000 in
theorem begin_any (W H : Int) (oa : Option Addr) (xs : List Item) (cap : Nat) (w : World) (hm : xs.length ≤ maxLen) (hx : Flat w 4 encItem oa xs) :
    Calls Try.prog 10 #[.int .i64 W, .int .i64 H, .slice oa xs.length cap] w fun e w' => e = .returned (.int .i64 (beginV W H xs)) ∧ Below w.heap.size w w' := by
  by_cases hin : 1 ≤ W ∧ W ≤ 40 ∧ 1 ≤ H ∧ H ≤ 40
  · have E : Hid (beginV W H xs = itemsErr xs) := by show beginV W H xs = _; unfold beginV; rw [if_pos hin]
    obtain ⟨a1, a2, a3, a4⟩ := hin
    go_enter Try.func10, Try.ntmps10
    go_wp2_with (go_at_call 19; refine (checkItems_any _ _ _ _ hm hx).mono ?_; rintro e w' ⟨rfl, hb⟩)
    go_ret
    exact ⟨by rw [E.out]; rfl, hb⟩
  · have E : Hid (beginV W H xs = 3) := by show beginV W H xs = _; unfold beginV; rw [if_neg hin]
    have h2 : W < 1 ∨ (1 ≤ W ∧ 40 < W) ∨ (1 ≤ W ∧ W ≤ 40 ∧ H < 1) ∨ (1 ≤ W ∧ W ≤ 40 ∧ 1 ≤ H ∧ 40 < H) := by omega
    clear hin
    rcases h2 with a1 | ⟨a1, a2⟩ | ⟨a1, a2, a3⟩ | ⟨a1, a2, a3, a4⟩
    all_goals
      go_enter Try.func10, Try.ntmps10
      go_wp2
      go_ret
      exact ⟨by rw [E.out]; rfl, Below.refl _ _⟩
theorem fits_cases (p : Item) (w h : Int) : ((p.w == w) = true ∧ (p.h == h) = true ∧ fitsB p w h = true) ∨
    (((p.w == w) = false ∨ ((p.w == w) = true ∧ (p.h == h) = false)) ∧ ((p.turn = false ∧ fitsB p w h = false) ∨ (p.turn = true ∧ (p.w == h) = false ∧ fitsB p w h = false) ∨ (p.turn = true ∧ (p.w == h) = true ∧ (p.h == w) = false ∧ fitsB p w h = false) ∨ (p.turn = true ∧ (p.w == h) = true ∧ (p.h == w) = true ∧ fitsB p w h = true))) := by
  unfold fitsB
  cases (p.w == w) <;> cases (p.h == h) <;> cases p.turn <;> cases (p.w == h) <;> cases (p.h == w) <;> simp
set_option maxHeartbeats 1000000 in
theorem fits_any (p : Item) (W H : Int) (w : World) :
    Calls Try.prog 20 #[.agg #[.int .i64 p.w, .int .i64 p.h, .int .i64 p.value, .bool p.turn], .int .i64 W, .int .i64 H] w fun e w' => e = .returned (.bool (fitsB p W H)) ∧ Below w.heap.size w w' := by
  obtain ⟨pw, ph, pv, pt⟩ := p
  rcases fits_cases ⟨pw, ph, pv, pt⟩ W H with ⟨h1, h2, E⟩ | ⟨h1 | ⟨h1, h2⟩, ⟨h3, E⟩ | ⟨h3, h4, E⟩ | ⟨h3, h4, h5, E⟩ | ⟨h3, h4, h5, E⟩⟩
  all_goals
    have E := Lib.hid E
    simp only at *
    go_enter Try.func20, Try.ntmps20
    go_wp2
    go_ret
    exact ⟨by rw [E.out]; rfl, (Below.refl _ _).alloc (Nat.le_refl _) _⟩
end Go.Proofs.Ytmfmpmemdplloaa
