/-
  The walk of the walker: all nodes. Own text.
-/
import Derived.Test.YtmfmpmemdplloaaWalkB
import Derived.Test.YtmfmpmemdplloaaWalkC
import Derived.Test.YtmfmpmemdplloaaWalkD
import Derived.Test.YtmfmpmemdplloaaWalkE
import Derived.Test.YtmfmpmemdplloaaWalkF
import Derived.Test.YtmfmpmemdplloaaWalkG
namespace Go.Proofs.Ytmfmpmemdplloaa
open Go.RowKit
set_option linter.unusedVariables false
theorem early_bad {k a i d : Int} {nk nodes : Nat} (hk : k = 0 ∨ k = 1 ∨ k = 2 ∨ k = 3) (hb : badForm k a i nk) (h1 : nodes < 4096) (h2 : d ≤ 80) : Early k a i nk d nodes 4 := by
  unfold badForm at hb
  unfold Early
  refine .inr ⟨h1, .inr ⟨h2, ?_⟩⟩
  rcases hk with rfl | rfl | rfl | rfl
  all_goals
    by_cases ha : a = 0 <;> by_cases hn : nk = 0 <;> by_cases hn2 : nk = 2 <;> by_cases hi : i = 0 <;> simp_all <;> omega
theorem walkV_0 {items : List Item} {n : Nat} {kids : List Tree} {x y w h : Int} {s : St} (hn : s.nodes < 4096) (hb : ¬ badForm 0 0 0 kids.length) :
    walkV items (n + 1) (.mk 0 0 0 kids) x y w h s = .ok { s with nodes := s.nodes + 1, waste := s.waste + w * h } := by
  unfold walkV
  rw [if_neg (by omega), if_neg (by omega), if_neg hb, if_pos rfl]
theorem walkV_1 {items : List Item} {n : Nat} {i : Int} {kids : List Tree} {x y w h : Int} {s : St} (hn : s.nodes < 4096) (hb : ¬ badForm 1 0 i kids.length) :
    walkV items (n + 1) (.mk 1 0 i kids) x y w h s = pieceV items i x y w h { s with nodes := s.nodes + 1 } := by
  unfold walkV
  rw [if_neg (by omega), if_neg (by omega), if_neg hb, if_neg (by omega), if_pos rfl]
theorem walkV_2 {items : List Item} {n : Nat} {a : Int} {t0 t1 : Tree} {x y w h : Int} {s : St} (hn : s.nodes < 4096) (hb : ¬ badForm 2 a 0 [t0, t1].length) :
    walkV items (n + 1) (.mk 2 a 0 [t0, t1]) x y w h s = if a < 1 ∨ w ≤ a then .err 3 else (walkV items n t0 x y a h { s with nodes := s.nodes + 1 }).bind fun s2 => walkV items n t1 (x + a) y (w - a) h s2 := by
  conv => lhs; unfold walkV
  rw [if_neg (by omega), if_neg (by omega), if_neg hb, if_neg (by omega), if_neg (by omega)]
  rfl
theorem walkV_3 {items : List Item} {n : Nat} {a : Int} {t0 t1 : Tree} {x y w h : Int} {s : St} (hn : s.nodes < 4096) (hb : ¬ badForm 3 a 0 [t0, t1].length) :
    walkV items (n + 1) (.mk 3 a 0 [t0, t1]) x y w h s = if a < 1 ∨ h ≤ a then .err 3 else (walkV items n t0 x y w a { s with nodes := s.nodes + 1 }).bind fun s2 => walkV items n t1 x (y + a) w (h - a) s2 := by
  conv => lhs; unfold walkV
  rw [if_neg (by omega), if_neg (by omega), if_neg hb, if_neg (by omega), if_neg (by omega)]
  rfl
theorem list2 {l : List Tree} (h : l.length = 2) : ∃ t0 t1, l = [t0, t1] := by
  match l, h with
  | [t0, t1], _ => exact ⟨t0, t1, rfl⟩
theorem walk_any (items : List Item) (oi : Option Addr) (ci : Nat) (w0 : World) (hx : Flat w0 4 encItem oi items) : ∀ (n : Nat) (t : Tree) (cs : List Value) (x y W H d : Int) (s : St) (kb : Nat) (rv : Value) (w : World), n ≤ 81 → d = 81 - n → TreeAt w0 t cs → Box x y W H → s.Good → w0.heap.size ≤ kb → Below w0.heap.size w0 w → WalkerAt w kb (.slice oi items.length ci) s rv →
    Calls Try.prog 14 #[.pointer (some ⟨kb, 0, none⟩), .agg cs.toArray, .int .i64 x, .int .i64 y, .int .i64 W, .int .i64 H, .int .i64 d] w (PostWalk (walkV items n t x y W H s) kb (.slice oi items.length ci) rv w) := by
  intro n
  induction n with
  | zero =>
    intro t cs x y W H d s kb rv w hn hd hT hbx hg hkb hb hw
    obtain ⟨k, a, i, kids, oa, cap, css, hm, hi, hc, hr⟩ := hT
    by_cases h : 4096 ≤ s.nodes
    · have e : walkV items 0 (.mk k a i kids) x y W H s = .err 2 := by unfold walkV; rw [if_pos h]
      rw [e]
      exact walk_early k a i oa kids.length cap x y W H d s 2 kb _ rv w hg.1 hw hm (.inl ⟨h, rfl⟩)
    · have e : walkV items 0 (.mk k a i kids) x y W H s = .err 15 := by unfold walkV; rw [if_neg h]
      rw [e]
      exact walk_early k a i oa kids.length cap x y W H d s 15 kb _ rv w hg.1 hw hm (.inr ⟨by omega, .inl ⟨by omega, rfl⟩⟩)
  | succ n ih =>
    intro t cs x y W H d s kb rv w hn hd hT hbx hg hkb hb hw
    obtain ⟨k, a, i, kids, oa, cap, css, hm, hi, hc, hr⟩ := hT
    by_cases h : 4096 ≤ s.nodes
    · have e : walkV items (n + 1) (.mk k a i kids) x y W H s = .err 2 := by unfold walkV; rw [if_pos h]
      rw [e]
      exact walk_early k a i oa kids.length cap x y W H d s 2 kb _ rv w hg.1 hw hm (.inl ⟨h, rfl⟩)
    have hlt : s.nodes < 4096 := by omega
    have hd8 : d ≤ 80 := by omega
    by_cases hk : k < 0 ∨ 3 < k
    · have e : walkV items (n + 1) (.mk k a i kids) x y W H s = .err 14 := by unfold walkV; rw [if_neg h, if_pos hk]
      rw [e]
      refine walk_early k a i oa kids.length cap x y W H d s 14 kb _ rv w hg.1 hw hm (.inr ⟨hlt, .inr ⟨hd8, ?_⟩⟩)
      rcases hk with hk | hk
      · exact .inl ⟨hk, rfl⟩
      · exact .inr (.inl ⟨hk, rfl⟩)
    have hk4 : k = 0 ∨ k = 1 ∨ k = 2 ∨ k = 3 := by omega
    by_cases hbad : badForm k a i kids.length
    · have e : walkV items (n + 1) (.mk k a i kids) x y W H s = .err 4 := by unfold walkV; rw [if_neg h, if_neg hk, if_pos hbad]
      rw [e]
      exact walk_early k a i oa kids.length cap x y W H d s 4 kb _ rv w hg.1 hw hm (early_bad hk4 hbad hlt hd8)
    have hform : ((k = 2 ∨ k = 3) ∨ (a = 0 ∧ kids.length = 0)) ∧ (¬ (k = 2 ∨ k = 3) ∨ kids.length = 2) ∧ (k = 1 ∨ i = 0) := by
      unfold badForm at hbad
      omega
    obtain ⟨f1, f2, f3⟩ := hform
    rcases hk4 with rfl | rfl | rfl | rfl
    · obtain ⟨rfl, hl⟩ : a = 0 ∧ kids.length = 0 := by omega
      obtain rfl : i = 0 := by omega
      rw [walkV_0 hlt hbad, hl]
      exact walk_waste oa cap x y W H d s kb _ rv w hg hlt hd8 hbx hw
    · obtain ⟨rfl, hl⟩ : a = 0 ∧ kids.length = 0 := by omega
      rw [walkV_1 hlt hbad, hl]
      unfold pieceV
      by_cases hi2 : 0 ≤ i ∧ i < items.length
      · rw [dif_pos hi2]
        obtain ⟨p, rfl⟩ : ∃ p : Nat, i = (p : Int) := ⟨i.toNat, by omega⟩
        have hp : p < items.length := by omega
        have ep : items[(p : Int).toNat]'(by omega) = items[p] := by simp
        rw [ep]
        by_cases hf : fitsB items[p] W H = true
        · rw [if_pos hf]
          exact walk_piece p items hp oa oi ci cap x y W H d s kb rv w0 w hx hb hkb hlt hd8 hg hf hw
        · rw [if_neg hf]
          exact walk_fit p items hp oa oi ci cap x y W H d s kb rv w0 w hx hb hkb hlt hd8 (by simpa using hf) hw
      · rw [dif_neg hi2]
        exact walk_none i oa oi items.length ci cap x y W H d s kb rv w hlt hd8 (by omega) hw
    all_goals
      obtain rfl : i = 0 := by omega
      have hl : kids.length = 2 := by omega
      obtain ⟨t0, t1, rfl⟩ := list2 hl
      obtain ⟨b, off, rfl, q0⟩ := hc 0 (by simp)
      obtain ⟨b1, off1, e1, q1⟩ := hc 1 (by simp)
      simp only [Option.some.injEq, Addr.mk.injEq, and_true] at e1
      obtain ⟨rfl, rfl⟩ := e1
      have hr0 := hr 0 (by simp)
      have hr1 := hr 1 (by simp)
      obtain ⟨k0, a0, i0, o0, n0, p0, s0⟩ := hr0.shape
      obtain ⟨k1, a1, i1, o1, n1, p1, s1⟩ := hr1.shape
      rw [s0] at hr0 q0
      rw [s1] at hr1 q1
      have u0 := q0 0 _ rfl
      have u1 := q0 1 _ rfl
      have u2 := q0 2 _ rfl
      have u3 := q0 3 _ rfl
      have v0 := q1 0 _ rfl
      have v1 := q1 1 _ rfl
      have v2 := q1 2 _ rfl
      have v3 := q1 3 _ rfl
      simp only [Nat.zero_mul, Nat.zero_add, Nat.add_zero, Nat.one_mul] at u0 u1 u2 u3 v0 v1 v2 v3
      simp only [← Nat.add_assoc] at v1 v2 v3
      have hgn : ({ s with nodes := s.nodes + 1 } : St).Good := ⟨by show s.nodes + 1 ≤ _; omega, hg.2.1, by have := hg.2.2.1; show s.waste ≤ 1600 * ((s.nodes + 1 : Nat) : Int); omega, by have := hg.2.2.2; show s.rects.length ≤ s.nodes + 1; omega⟩
    · rw [walkV_2 hlt hbad]
      by_cases ha : a < 1 ∨ W ≤ a
      · rw [if_pos ha]
        exact walk_range 2 a _ cap x y W H d s kb _ rv w hlt hd8 (.inl ⟨rfl, by omega⟩) hw
      · rw [if_neg ha]
        refine walk_sides a b off cap k0 a0 i0 o0 n0 p0 k1 a1 i1 o1 n1 p1 x y W H d s _ (fun s2 => walkV items n t1 (x + a) y (W - a) H s2) kb _ rv w0 w hb hkb hlt (by omega) hd8 hbx (by omega) (fun c hc => walkV_err _ _ _ _ _ _ _ _ _ hc) hw u0 u1 u2 u3 v0 v1 v2 v3 ?_ ?_
        · intro w' hw' hb'
          exact ih t0 _ x y a H (d + 1) _ kb rv w' (by omega) (by omega) hr0 (hbx.left ha) hgn hkb hb' hw'
        · intro s2 rv2 w' he hw' hb'
          exact ih t1 _ (x + a) y (W - a) H (d + 1) s2 kb rv2 w' (by omega) (by omega) hr1 (hbx.right ha) ((walkV_adds _ _ _ _ _ _ _ _ _ (hbx.left ha) he).good (hbx.left ha) hgn) hkb hb' hw'
    · rw [walkV_3 hlt hbad]
      by_cases ha : a < 1 ∨ H ≤ a
      · rw [if_pos ha]
        exact walk_range 3 a _ cap x y W H d s kb _ rv w hlt hd8 (.inr ⟨rfl, by omega⟩) hw
      · rw [if_neg ha]
        refine walk_ends a b off cap k0 a0 i0 o0 n0 p0 k1 a1 i1 o1 n1 p1 x y W H d s _ (fun s2 => walkV items n t1 x (y + a) W (H - a) s2) kb _ rv w0 w hb hkb hlt (by omega) hd8 hbx (by omega) (fun c hc => walkV_err _ _ _ _ _ _ _ _ _ hc) hw u0 u1 u2 u3 v0 v1 v2 v3 ?_ ?_
        · intro w' hw' hb'
          exact ih t0 _ x y W a (d + 1) _ kb rv w' (by omega) (by omega) hr0 (hbx.top ha) hgn hkb hb' hw'
        · intro s2 rv2 w' he hw' hb'
          exact ih t1 _ x (y + a) W (H - a) (d + 1) s2 kb rv2 w' (by omega) (by omega) hr1 (hbx.bottom ha) ((walkV_adds _ _ _ _ _ _ _ _ _ (hbx.top ha) he).good (hbx.top ha) hgn) hkb hb' hw'
end Go.Proofs.Ytmfmpmemdplloaa
