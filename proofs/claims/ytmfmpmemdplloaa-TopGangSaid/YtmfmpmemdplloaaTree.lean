/-
  Trees of cuts: what visiting one gives. No program in sight. Own text.
-/
import Derived.Test.YtmfmpmemdplloaaLift
namespace Go.Proofs.Ytmfmpmemdplloaa
inductive Tree where
  | mk (kind at' item : Int) (kids : List Tree) : Tree
structure Item where
  w : Int
  h : Int
  value : Int
  turn : Bool
structure Rect where
  item : Int
  x : Int
  y : Int
  w : Int
  h : Int
structure St where
  nodes : Nat
  rects : List Rect
  waste : Int
inductive Res where
  | err (e : Int) : Res
  | ok (s : St) : Res
def fitsB (p : Item) (w h : Int) : Bool := (p.w == w && p.h == h) || (p.turn && p.w == h && p.h == w)
def badForm (k a i : Int) (len : Nat) : Prop := (¬ (k = 2 ∨ k = 3) ∧ (a ≠ 0 ∨ 0 < len)) ∨ ((k = 2 ∨ k = 3) ∧ len ≠ 2) ∨ (k ≠ 1 ∧ i ≠ 0)
instance (k a i : Int) (len : Nat) : Decidable (badForm k a i len) := by unfold badForm; infer_instance
def Res.bind (r : Res) (f : St → Res) : Res := match r with | .err e => .err e | .ok s => f s
/-- What a piece at a node gives. -/
def pieceV (items : List Item) (i x y w h : Int) (s : St) : Res :=
  if hi : 0 ≤ i ∧ i < items.length then (if fitsB (items[i.toNat]'(by omega)) w h then .ok { s with rects := s.rects ++ [⟨i, x, y, w, h⟩] } else .err 19) else .err 8
def walkV (items : List Item) : Nat → Tree → Int → Int → Int → Int → St → Res
  | 0, _, _, _, _, _, s => if 4096 ≤ s.nodes then .err 2 else .err 15
  | n + 1, .mk k a i kids, x, y, w, h, s =>
    if 4096 ≤ s.nodes then .err 2
    else if k < 0 ∨ 3 < k then .err 14
    else if badForm k a i kids.length then .err 4
    else if k = 0 then .ok { s with nodes := s.nodes + 1, waste := s.waste + w * h }
    else if k = 1 then pieceV items i x y w h { s with nodes := s.nodes + 1 }
    else match kids with
      | [t0, t1] =>
        if k = 2 then (if a < 1 ∨ w ≤ a then .err 3 else (walkV items n t0 x y a h { s with nodes := s.nodes + 1 }).bind fun s2 => walkV items n t1 (x + a) y (w - a) h s2)
        else (if a < 1 ∨ h ≤ a then .err 3 else (walkV items n t0 x y w a { s with nodes := s.nodes + 1 }).bind fun s2 => walkV items n t1 x (y + a) w (h - a) s2)
      | _ => .err 4
/-- The rectangle of a node. -/
def Box (x y w h : Int) : Prop := 0 ≤ x ∧ 0 ≤ y ∧ 1 ≤ w ∧ 1 ≤ h ∧ x + w ≤ 40 ∧ y + h ≤ 40
def St.Good (s : St) : Prop := s.nodes ≤ 4096 ∧ 0 ≤ s.waste ∧ s.waste ≤ 1600 * s.nodes ∧ s.rects.length ≤ s.nodes
theorem Box.area {x y w h : Int} (b : Box x y w h) : 1 ≤ w * h ∧ w * h ≤ 1600 := by
  obtain ⟨h1, h2, h3, h4, h5, h6⟩ := b
  have a1 : 1 * 1 ≤ w * h := Int.mul_le_mul h3 h4 (by omega) (by omega)
  have a2 : w * h ≤ 40 * 40 := Int.mul_le_mul (by omega) (by omega) (by omega) (by omega)
  omega
theorem Box.left {x y w h a : Int} (b : Box x y w h) (h1 : ¬ (a < 1 ∨ w ≤ a)) : Box x y a h := by unfold Box at *; omega
theorem Box.right {x y w h a : Int} (b : Box x y w h) (h1 : ¬ (a < 1 ∨ w ≤ a)) : Box (x + a) y (w - a) h := by unfold Box at *; omega
theorem Box.top {x y w h a : Int} (b : Box x y w h) (h1 : ¬ (a < 1 ∨ h ≤ a)) : Box x y w a := by unfold Box at *; omega
theorem Box.bottom {x y w h a : Int} (b : Box x y w h) (h1 : ¬ (a < 1 ∨ h ≤ a)) : Box x (y + a) w (h - a) := by unfold Box at *; omega
def Rect.isIn (r : Rect) (x y w h : Int) : Prop := x ≤ r.x ∧ y ≤ r.y ∧ 1 ≤ r.w ∧ 1 ≤ r.h ∧ r.x + r.w ≤ x + w ∧ r.y + r.h ≤ y + h
def Rect.off (r q : Rect) : Prop := r.x + r.w ≤ q.x ∨ q.x + q.w ≤ r.x ∨ r.y + r.h ≤ q.y ∨ q.y + q.h ≤ r.y
theorem Rect.off_symm {r q : Rect} (h : r.off q) : q.off r := by unfold Rect.off at *; omega
def area (l : List Rect) : Int := (l.map fun r => r.w * r.h).sum
theorem area_append (l m : List Rect) : area (l ++ m) = area l + area m := by simp [area]
/-- What a node adds: pieces in its rectangle, none over another, which fill it together with the waste. -/
def Adds (items : List Item) (x y w h : Int) (s s' : St) : Prop :=
  s.nodes < s'.nodes ∧ s'.nodes ≤ 4096 ∧ ∃ l : List Rect, s'.rects = s.rects ++ l ∧ (∀ r ∈ l, r.isIn x y w h ∧ ∃ p : Nat, ∃ hp : p < items.length, r.item = p ∧ fitsB items[p] r.w r.h = true) ∧ l.Pairwise Rect.off ∧ s.waste ≤ s'.waste ∧ s'.waste - s.waste + area l = w * h ∧ l.length ≤ s'.nodes - s.nodes
theorem Adds.split {items : List Item} {x y w h x1 y1 w1 h1 x2 y2 w2 h2 : Int} {s s0 s1 s2 : St} (hs : s.nodes < s0.nodes) (hr : s0.rects = s.rects) (hw : s0.waste = s.waste) (a1 : Adds items x1 y1 w1 h1 s0 s1) (a2 : Adds items x2 y2 w2 h2 s1 s2)
    (hin1 : ∀ r : Rect, r.isIn x1 y1 w1 h1 → r.isIn x y w h) (hin2 : ∀ r : Rect, r.isIn x2 y2 w2 h2 → r.isIn x y w h) (hoff : ∀ r q : Rect, r.isIn x1 y1 w1 h1 → q.isIn x2 y2 w2 h2 → r.off q) (har : w1 * h1 + w2 * h2 = w * h) : Adds items x y w h s s2 := by
  obtain ⟨n1, m1, l1, r1, i1, p1, q1, f1, g1⟩ := a1
  obtain ⟨n2, m2, l2, r2, i2, p2, q2, f2, g2⟩ := a2
  refine ⟨by omega, m2, l1 ++ l2, ?_, ?_, ?_, by omega, ?_, ?_⟩
  · rw [r2, r1, hr, List.append_assoc]
  · intro r hr
    rcases List.mem_append.1 hr with hr | hr
    · exact ⟨hin1 r (i1 r hr).1, (i1 r hr).2⟩
    · exact ⟨hin2 r (i2 r hr).1, (i2 r hr).2⟩
  · rw [List.pairwise_append]
    exact ⟨p1, p2, fun r hr q hq => hoff r q (i1 r hr).1 (i2 q hq).1⟩
  · rw [area_append]; omega
  · rw [List.length_append]; omega
theorem walkV_adds (items : List Item) : ∀ (n : Nat) (t : Tree) (x y w h : Int) (s s' : St), Box x y w h → walkV items n t x y w h s = .ok s' → Adds items x y w h s s' := by
  intro n
  induction n with
  | zero =>
    intro t x y w h s s' _ he
    unfold walkV at he
    split at he <;> cases he
  | succ n ih =>
    intro t x y w h s s' hb he
    obtain ⟨k, a, i, kids⟩ := t
    unfold walkV at he
    split at he
    · cases he
    rename_i hn
    split at he
    · cases he
    split at he
    · cases he
    split at he
    · simp only [Res.ok.injEq] at he
      subst he
      have ha := hb.area
      exact ⟨by show _ < _ + 1; omega, by show _ + 1 ≤ _; omega, [], by simp, by simp, by simp, by show _ ≤ _ + _; omega, by show _ + _ - _ + area [] = _; simp [area]; omega, by simp⟩
    split at he
    · unfold pieceV at he
      split at he
      · rename_i hi
        split at he
        · rename_i hf
          simp only [Res.ok.injEq] at he
          subst he
          refine ⟨by show _ < _ + 1; omega, by show _ + 1 ≤ _; omega, [⟨i, x, y, w, h⟩], rfl, ?_, by simp, Int.le_refl s.waste, ?_, ?_⟩
          · intro r hr
            simp only [List.mem_singleton] at hr
            subst hr
            obtain ⟨h1, h2, h3, h4, h5, h6⟩ := hb
            exact ⟨⟨Int.le_refl x, Int.le_refl y, h3, h4, Int.le_refl (x + w), Int.le_refl (y + h)⟩, i.toNat, by omega, (Int.toNat_of_nonneg hi.1).symm, hf⟩
          · show s.waste - s.waste + area [_] = _
            simp [area]
          · show 1 ≤ s.nodes + 1 - s.nodes
            omega
        · cases he
      · cases he
    split at he
    · rename_i t0 t1 hform
      split at he
      · split at he
        · cases he
        · rename_i hx
          cases h1 : walkV items n t0 x y a h { s with nodes := s.nodes + 1 } with
          | err e => rw [h1] at he; cases he
          | ok s2 =>
            rw [h1] at he
            have a1 := ih _ _ _ _ _ _ _ (hb.left hx) h1
            have a2 := ih _ _ _ _ _ _ _ (hb.right hx) he
            refine Adds.split (s := s) (s0 := { s with nodes := s.nodes + 1 }) (by show s.nodes < s.nodes + 1; omega) rfl rfl a1 a2 ?_ ?_ ?_ ?_
            · intro r hr; unfold Rect.isIn at *; omega
            · intro r hr; unfold Rect.isIn at *; omega
            · intro r q hr hq; unfold Rect.isIn at *; unfold Rect.off; omega
            · rw [Int.sub_mul]; omega
      · split at he
        · cases he
        · rename_i hx
          cases h1 : walkV items n t0 x y w a { s with nodes := s.nodes + 1 } with
          | err e => rw [h1] at he; cases he
          | ok s2 =>
            rw [h1] at he
            have a1 := ih _ _ _ _ _ _ _ (hb.top hx) h1
            have a2 := ih _ _ _ _ _ _ _ (hb.bottom hx) he
            refine Adds.split (s := s) (s0 := { s with nodes := s.nodes + 1 }) (by show s.nodes < s.nodes + 1; omega) rfl rfl a1 a2 ?_ ?_ ?_ ?_
            · intro r hr; unfold Rect.isIn at *; omega
            · intro r hr; unfold Rect.isIn at *; omega
            · intro r q hr hq; unfold Rect.isIn at *; unfold Rect.off; omega
            · rw [Int.mul_sub]; omega
    · cases he
theorem walkV_err (items : List Item) : ∀ (n : Nat) (t : Tree) (x y w h : Int) (s : St) (e : Int), walkV items n t x y w h s = .err e → e ≠ 0 := by
  intro n
  induction n with
  | zero =>
    intro t x y w h s e he
    unfold walkV at he
    split at he <;> (simp only [Res.err.injEq] at he; omega)
  | succ n ih =>
    intro t x y w h s e he
    obtain ⟨k, a, i, kids⟩ := t
    unfold walkV at he
    split at he
    · simp only [Res.err.injEq] at he; omega
    split at he
    · simp only [Res.err.injEq] at he; omega
    split at he
    · simp only [Res.err.injEq] at he; omega
    split at he
    · cases he
    split at he
    · unfold pieceV at he
      split at he
      · split at he
        · cases he
        · simp only [Res.err.injEq] at he; omega
      · simp only [Res.err.injEq] at he; omega
    split at he
    · rename_i t0 t1 hform
      split at he
      · split at he
        · simp only [Res.err.injEq] at he; omega
        · cases h1 : walkV items n t0 x y a h { s with nodes := s.nodes + 1 } with
          | err e' => rw [h1] at he; simp only [Res.bind, Res.err.injEq] at he; subst he; exact ih _ _ _ _ _ _ _ h1
          | ok s2 => rw [h1] at he; exact ih _ _ _ _ _ _ _ he
      · split at he
        · simp only [Res.err.injEq] at he; omega
        · cases h1 : walkV items n t0 x y w a { s with nodes := s.nodes + 1 } with
          | err e' => rw [h1] at he; simp only [Res.bind, Res.err.injEq] at he; subst he; exact ih _ _ _ _ _ _ _ h1
          | ok s2 => rw [h1] at he; exact ih _ _ _ _ _ _ _ he
    · simp only [Res.err.injEq] at he; omega
theorem Adds.good {items : List Item} {x y w h : Int} {s s' : St} (a : Adds items x y w h s s') (hb : Box x y w h) (g : s.Good) : s'.Good := by
  obtain ⟨h1, h2, l, hr, hin, hpw, hw, har, hl⟩ := a
  obtain ⟨g1, g2, g3, g4⟩ := g
  have ha : 0 ≤ area l := by
    clear har hr hl hpw
    induction l with
    | nil => simp [area]
    | cons r l ih =>
      have := (hin r (by simp)).1
      obtain ⟨_, _, b1, b2, _⟩ := this
      have h3 : 0 ≤ r.w * r.h := Int.mul_nonneg (by omega) (by omega)
      have h4 := ih (fun q hq => hin q (by simp [hq]))
      have e : area (r :: l) = r.w * r.h + area l := by simp [area]
      omega
  have h5 := hb.area
  refine ⟨h2, by omega, by omega, ?_⟩
  rw [hr, List.length_append]
  omega
end Go.Proofs.Ytmfmpmemdplloaa
