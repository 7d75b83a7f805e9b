/-
  Mirrored trees of cuts: the plain laws. No program in sight. Own text.
-/
import Derived.Test.YtmfmpmemdplloaaTree
namespace Go.Proofs.Ytmfmpmemdplloaa
/-- A tree that can be walked: at most n deep. -/
def okT : Nat → Tree → Prop
  | 0, _ => False
  | n + 1, .mk k a i kids => (kids = [] ∧ (k = 0 ∨ k = 1)) ∨ (∃ t0 t1, kids = [t0, t1] ∧ (k = 2 ∨ k = 3) ∧ i = 0 ∧ 1 ≤ a ∧ a ≤ 39 ∧ okT n t0 ∧ okT n t1)
def mirV (sides : Bool) : Nat → Int → Int → Tree → Tree
  | 0, _, _, t => t
  | n + 1, w, h, .mk k a i kids =>
    match kids with
    | [t0, t1] =>
      if k = 2 then
        (if sides = true then .mk k (w - a) 0 [mirV sides n (w - a) h t1, mirV sides n a h t0] else .mk k a 0 [mirV sides n a h t0, mirV sides n (w - a) h t1])
      else
        (if sides = true then .mk k a 0 [mirV sides n w a t0, mirV sides n w (h - a) t1] else .mk k (h - a) 0 [mirV sides n w (h - a) t1, mirV sides n w a t0])
    | _ => .mk k a i []
theorem mirV_leaf (sides : Bool) (n : Nat) (w h k a i : Int) : mirV sides (n + 1) w h (.mk k a i []) = .mk k a i [] := rfl
theorem mirV_cut (sides : Bool) (n : Nat) (w h k a i : Int) (t0 t1 : Tree) : mirV sides (n + 1) w h (.mk k a i [t0, t1]) = if k = 2 then
        (if sides = true then .mk k (w - a) 0 [mirV sides n (w - a) h t1, mirV sides n a h t0] else .mk k a 0 [mirV sides n a h t0, mirV sides n (w - a) h t1])
      else
        (if sides = true then .mk k a 0 [mirV sides n w a t0, mirV sides n w (h - a) t1] else .mk k (h - a) 0 [mirV sides n w (h - a) t1, mirV sides n w a t0]) := rfl
/-- What a visit that ends well says of a node. -/
inductive Good1 (items : List Item) (n : Nat) (x y w h : Int) (s s' : St) : Tree → Prop where
  | waste (hn : s.nodes < 4096) (he : s' = { s with nodes := s.nodes + 1, waste := s.waste + w * h }) : Good1 items n x y w h s s' (.mk 0 0 0 [])
  | piece (i : Int) (hn : s.nodes < 4096) (he : pieceV items i x y w h { s with nodes := s.nodes + 1 } = .ok s') : Good1 items n x y w h s s' (.mk 1 0 i [])
  | sides (a : Int) (t0 t1 : Tree) (sm : St) (hn : s.nodes < 4096) (ha : ¬ (a < 1 ∨ w ≤ a)) (h0 : walkV items n t0 x y a h { s with nodes := s.nodes + 1 } = .ok sm) (h1 : walkV items n t1 (x + a) y (w - a) h sm = .ok s') : Good1 items n x y w h s s' (.mk 2 a 0 [t0, t1])
  | ends (a : Int) (t0 t1 : Tree) (sm : St) (hn : s.nodes < 4096) (ha : ¬ (a < 1 ∨ h ≤ a)) (h0 : walkV items n t0 x y w a { s with nodes := s.nodes + 1 } = .ok sm) (h1 : walkV items n t1 x (y + a) w (h - a) sm = .ok s') : Good1 items n x y w h s s' (.mk 3 a 0 [t0, t1])
theorem walkV_good1 {items : List Item} {n : Nat} {t : Tree} {x y w h : Int} {s s' : St} (he : walkV items (n + 1) t x y w h s = .ok s') : Good1 items n x y w h s s' t := by
  obtain ⟨k, a, i, kids⟩ := t
  unfold walkV at he
  split at he
  · cases he
  rename_i hn
  split at he
  · cases he
  rename_i hk
  split at he
  · cases he
  rename_i hb
  unfold badForm at hb
  split at he
  · rename_i h0
    obtain rfl : a = 0 := by omega
    obtain rfl : i = 0 := by omega
    have : kids = [] := List.eq_nil_of_length_eq_zero (by omega)
    subst this h0
    exact .waste (by omega) (Res.ok.inj he).symm
  split at he
  · rename_i h0 h1
    obtain rfl : a = 0 := by omega
    have : kids = [] := List.eq_nil_of_length_eq_zero (by omega)
    subst this h1
    exact .piece i (by omega) he
  rename_i h0 h1
  obtain rfl : i = 0 := by omega
  split at he
  · rename_i t0 t1
    split at he
    · rename_i h2
      subst h2
      split at he
      · cases he
      · rename_i ha
        cases hm : walkV items n t0 x y a h { s with nodes := s.nodes + 1 } with
        | err e => rw [hm] at he; cases he
        | ok sm => rw [hm] at he; exact .sides a t0 t1 sm (by omega) ha hm he
    · rename_i h2
      obtain rfl : k = 3 := by omega
      split at he
      · cases he
      · rename_i ha
        cases hm : walkV items n t0 x y w a { s with nodes := s.nodes + 1 } with
        | err e => rw [hm] at he; cases he
        | ok sm => rw [hm] at he; exact .ends a t0 t1 sm (by omega) ha hm he
  · cases he
theorem walkV_of_waste {items : List Item} {n : Nat} {x y w h : Int} {s : St} (hn : s.nodes < 4096) : walkV items (n + 1) (.mk 0 0 0 []) x y w h s = .ok { s with nodes := s.nodes + 1, waste := s.waste + w * h } := by
  unfold walkV
  rw [if_neg (by omega), if_neg (by omega), if_neg (by unfold badForm; simp), if_pos rfl]
theorem walkV_of_piece {items : List Item} {n : Nat} {i x y w h : Int} {s : St} (hn : s.nodes < 4096) : walkV items (n + 1) (.mk 1 0 i []) x y w h s = pieceV items i x y w h { s with nodes := s.nodes + 1 } := by
  unfold walkV
  rw [if_neg (by omega), if_neg (by omega), if_neg (by unfold badForm; simp), if_neg (by omega), if_pos rfl]
theorem walkV_of_sides {items : List Item} {n : Nat} {a x y w h : Int} {t0 t1 : Tree} {s sm : St} (hn : s.nodes < 4096) (ha : ¬ (a < 1 ∨ w ≤ a)) (h0 : walkV items n t0 x y a h { s with nodes := s.nodes + 1 } = .ok sm) :
    walkV items (n + 1) (.mk 2 a 0 [t0, t1]) x y w h s = walkV items n t1 (x + a) y (w - a) h sm := by
  conv => lhs; unfold walkV
  rw [if_neg (by omega), if_neg (by omega), if_neg (by unfold badForm; simp), if_neg (by omega), if_neg (by omega)]
  simp only [if_pos, if_neg ha, h0]
  rfl
theorem walkV_of_ends {items : List Item} {n : Nat} {a x y w h : Int} {t0 t1 : Tree} {s sm : St} (hn : s.nodes < 4096) (ha : ¬ (a < 1 ∨ h ≤ a)) (h0 : walkV items n t0 x y w a { s with nodes := s.nodes + 1 } = .ok sm) :
    walkV items (n + 1) (.mk 3 a 0 [t0, t1]) x y w h s = walkV items n t1 x (y + a) w (h - a) sm := by
  conv => lhs; unfold walkV
  rw [if_neg (by omega), if_neg (by omega), if_neg (by unfold badForm; simp), if_neg (by omega), if_neg (by omega)]
  have h3 : ¬ (3 : Int) = 2 := by omega
  simp only [if_neg h3, if_neg ha, h0]
  rfl
theorem walkV_okT (items : List Item) : ∀ (n : Nat) (t : Tree) (x y w h : Int) (s s' : St), Box x y w h → walkV items n t x y w h s = .ok s' → okT n t := by
  intro n
  induction n with
  | zero =>
    intro t x y w h s s' _ he
    unfold walkV at he
    split at he <;> cases he
  | succ n ih =>
    intro t x y w h s s' hb he
    have hx := hb
    unfold Box at hx
    cases walkV_good1 he with
    | waste => exact .inl ⟨rfl, .inl rfl⟩
    | piece => exact .inl ⟨rfl, .inr rfl⟩
    | sides a t0 t1 sm hn ha h0 h1 => exact .inr ⟨t0, t1, rfl, .inl rfl, rfl, by omega, by omega, ih _ _ _ _ _ _ _ (hb.left ha) h0, ih _ _ _ _ _ _ _ (hb.right ha) h1⟩
    | ends a t0 t1 sm hn ha h0 h1 => exact .inr ⟨t0, t1, rfl, .inr rfl, rfl, by omega, by omega, ih _ _ _ _ _ _ _ (hb.top ha) h0, ih _ _ _ _ _ _ _ (hb.bottom ha) h1⟩
theorem mirV_mirV (items : List Item) (sides : Bool) : ∀ (n : Nat) (t : Tree) (x y w h : Int) (s s' : St), walkV items n t x y w h s = .ok s' → mirV sides n w h (mirV sides n w h t) = t := by
  intro n
  induction n with
  | zero => intro t x y w h s s' he; rfl
  | succ n ih =>
    intro t x y w h s s' he
    cases walkV_good1 he with
    | waste => rfl
    | piece => rfl
    | sides a t0 t1 sm hn ha h0 h1 =>
      have e0 := ih _ _ _ _ _ _ _ h0
      have e1 := ih _ _ _ _ _ _ _ h1
      have ew : w - (w - a) = a := by omega
      cases sides <;> simp [mirV_cut, e0, e1, ew]
    | ends a t0 t1 sm hn ha h0 h1 =>
      have e0 := ih _ _ _ _ _ _ _ h0
      have e1 := ih _ _ _ _ _ _ _ h1
      have ew : h - (h - a) = a := by omega
      cases sides <;> simp [mirV_cut, e0, e1, ew]
/-- A mirrored piece. -/
def mirR (sides : Bool) (W H : Int) (r : Rect) : Rect := if sides = true then { r with x := W - r.x - r.w } else { r with y := H - r.y - r.h }
/-- What mirroring keeps. -/
def MirAdds (sides : Bool) (W H : Int) (s s' s2 s2' : St) : Prop :=
  s2'.nodes + s.nodes = s2.nodes + s'.nodes ∧ s2'.waste + s.waste = s2.waste + s'.waste ∧ ∃ l l', s'.rects = s.rects ++ l ∧ s2'.rects = s2.rects ++ l' ∧ l'.length = l.length ∧ ∀ r ∈ l, mirR sides W H r ∈ l'
theorem MirAdds.join {sides : Bool} {W H : Int} {s s0 sm s' s2 s20 s2m s2' : St} (h0 : s0.nodes = s.nodes + 1) (g0 : s20.nodes = s2.nodes + 1) (hw : s0.waste = s.waste) (gw : s20.waste = s2.waste) (hr : s0.rects = s.rects) (gr : s20.rects = s2.rects)
    (a1 : MirAdds sides W H s0 sm s20 s2m) (a2 : MirAdds sides W H sm s' s2m s2') : MirAdds sides W H s s' s2 s2' := by
  obtain ⟨n1, w1, l1, k1, e1, f1, z1, m1⟩ := a1
  obtain ⟨n2, w2, l2, k2, e2, f2, z2, m2⟩ := a2
  refine ⟨by omega, by omega, l1 ++ l2, k1 ++ k2, ?_, ?_, by rw [List.length_append, List.length_append, z1, z2], ?_⟩
  · rw [e2, e1, hr, List.append_assoc]
  · rw [f2, f1, gr, List.append_assoc]
  · intro r h
    rcases List.mem_append.1 h with h | h
    · exact List.mem_append.2 (.inl (m1 r h))
    · exact List.mem_append.2 (.inr (m2 r h))
/-- The parts are visited in the other order. -/
theorem MirAdds.swap {sides : Bool} {W H : Int} {s s0 sm s' s2 s20 s2m s2' : St} (h0 : s0.nodes = s.nodes + 1) (g0 : s20.nodes = s2.nodes + 1) (hw : s0.waste = s.waste) (gw : s20.waste = s2.waste) (hr : s0.rects = s.rects) (gr : s20.rects = s2.rects)
    (a1 : MirAdds sides W H s0 sm s2m s2') (a2 : MirAdds sides W H sm s' s20 s2m) : MirAdds sides W H s s' s2 s2' := by
  obtain ⟨n1, w1, l1, k1, e1, f1, z1, m1⟩ := a1
  obtain ⟨n2, w2, l2, k2, e2, f2, z2, m2⟩ := a2
  refine ⟨by omega, by omega, l1 ++ l2, k2 ++ k1, ?_, ?_, by rw [List.length_append, List.length_append, z1, z2]; omega, ?_⟩
  · rw [e2, e1, hr, List.append_assoc]
  · rw [f1, f2, gr, List.append_assoc]
  · intro r h
    rcases List.mem_append.1 h with h | h
    · exact List.mem_append.2 (.inr (m1 r h))
    · exact List.mem_append.2 (.inl (m2 r h))
def mx (sides : Bool) (W x w : Int) : Int := if sides = true then W - x - w else x
def my (sides : Bool) (H y h : Int) : Int := if sides = true then y else H - y - h
theorem walkV_mir (items : List Item) (sides : Bool) (W H : Int) : ∀ (n : Nat) (t : Tree) (x y w h : Int) (s s' s2 : St), Box x y w h → walkV items n t x y w h s = .ok s' → s2.nodes + s'.nodes ≤ 4096 + s.nodes →
    ∃ s2', walkV items n (mirV sides n w h t) (mx sides W x w) (my sides H y h) w h s2 = .ok s2' ∧ MirAdds sides W H s s' s2 s2' := by
  intro n
  induction n with
  | zero =>
    intro t x y w h s s' s2 _ he
    unfold walkV at he
    split at he <;> cases he
  | succ n ih =>
    intro t x y w h s s' s2 hb he hn2
    have hlt := (walkV_adds _ _ _ _ _ _ _ _ _ hb he).1
    have hn3 : s2.nodes < 4096 := by omega
    cases walkV_good1 he with
    | waste hn hs =>
      subst hs
      exact ⟨_, walkV_of_waste hn3, by show s2.nodes + 1 + s.nodes = s2.nodes + (s.nodes + 1); omega, by show s2.waste + w * h + s.waste = s2.waste + (s.waste + w * h); omega, [], [], by simp, by simp, rfl, by simp⟩
    | piece i hn hs =>
      rw [mirV_leaf, walkV_of_piece hn3]
      unfold pieceV at hs ⊢
      split at hs
      · rename_i hi
        rw [dif_pos hi]
        split at hs
        · rename_i hf
          rw [if_pos hf]
          simp only [Res.ok.injEq] at hs
          subst hs
          refine ⟨_, rfl, by show s2.nodes + 1 + s.nodes = s2.nodes + (s.nodes + 1); omega, by show s2.waste + s.waste = s2.waste + s.waste; rfl, [_], [_], rfl, rfl, rfl, ?_⟩
          intro r hr
          simp only [List.mem_singleton] at hr ⊢
          subst hr
          cases sides <;> rfl
        · cases hs
      · cases hs
    | sides a t0 t1 sm hn ha h0 h1 =>
      have a0 := walkV_adds _ _ _ _ _ _ _ _ _ (hb.left ha) h0
      have a1 := walkV_adds _ _ _ _ _ _ _ _ _ (hb.right ha) h1
      have l0 : s.nodes + 1 < sm.nodes := a0.1
      have l1 := a1.1
      cases sides with
      | true =>
        rw [mirV_cut, if_pos rfl, if_pos rfl]
        obtain ⟨s3, e3, m3⟩ := ih t1 _ _ _ _ _ _ { s2 with nodes := s2.nodes + 1 } (hb.right ha) h1 (by show s2.nodes + 1 + s'.nodes ≤ _; omega)
        have n3 := m3.1
        have n3' : s3.nodes + sm.nodes = s2.nodes + 1 + s'.nodes := n3
        obtain ⟨s4, e4, m4⟩ := ih t0 _ _ _ _ _ _ s3 (hb.left ha) h0 (by show s3.nodes + sm.nodes ≤ 4096 + (s.nodes + 1); omega)
        refine ⟨s4, ?_, MirAdds.swap (s0 := { s with nodes := s.nodes + 1 }) (s20 := { s2 with nodes := s2.nodes + 1 }) rfl rfl rfl rfl rfl rfl m4 m3⟩
        have q1 : mx true W (x + a) (w - a) = mx true W x w := by show W - (x + a) - (w - a) = W - x - w; omega
        have q2 : mx true W x a = mx true W x w + (w - a) := by show W - x - a = W - x - w + (w - a); omega
        have q3 : w - (w - a) = a := by omega
        rw [q1] at e3
        rw [q2] at e4
        rw [walkV_of_sides hn3 (by omega) e3, q3]
        exact e4
      | false =>
        rw [mirV_cut, if_pos rfl, if_neg (by simp)]
        obtain ⟨s3, e3, m3⟩ := ih t0 _ _ _ _ _ _ { s2 with nodes := s2.nodes + 1 } (hb.left ha) h0 (by show s2.nodes + 1 + sm.nodes ≤ 4096 + (s.nodes + 1); omega)
        have n3' : s3.nodes + (s.nodes + 1) = s2.nodes + 1 + sm.nodes := m3.1
        obtain ⟨s4, e4, m4⟩ := ih t1 _ _ _ _ _ _ s3 (hb.right ha) h1 (by omega)
        refine ⟨s4, ?_, MirAdds.join (s0 := { s with nodes := s.nodes + 1 }) (s20 := { s2 with nodes := s2.nodes + 1 }) rfl rfl rfl rfl rfl rfl m3 m4⟩
        have q4 : mx false W x a = mx false W x w := rfl
        rw [q4] at e3
        rw [walkV_of_sides hn3 ha e3]
        exact e4
    | ends a t0 t1 sm hn ha h0 h1 =>
      have a0 := walkV_adds _ _ _ _ _ _ _ _ _ (hb.top ha) h0
      have a1 := walkV_adds _ _ _ _ _ _ _ _ _ (hb.bottom ha) h1
      have l0 : s.nodes + 1 < sm.nodes := a0.1
      have l1 := a1.1
      have h32 : ¬ (3 : Int) = 2 := by omega
      cases sides with
      | false =>
        rw [mirV_cut, if_neg h32, if_neg (by simp)]
        obtain ⟨s3, e3, m3⟩ := ih t1 _ _ _ _ _ _ { s2 with nodes := s2.nodes + 1 } (hb.bottom ha) h1 (by show s2.nodes + 1 + s'.nodes ≤ _; omega)
        have n3' : s3.nodes + sm.nodes = s2.nodes + 1 + s'.nodes := m3.1
        obtain ⟨s4, e4, m4⟩ := ih t0 _ _ _ _ _ _ s3 (hb.top ha) h0 (by show s3.nodes + sm.nodes ≤ 4096 + (s.nodes + 1); omega)
        refine ⟨s4, ?_, MirAdds.swap (s0 := { s with nodes := s.nodes + 1 }) (s20 := { s2 with nodes := s2.nodes + 1 }) rfl rfl rfl rfl rfl rfl m4 m3⟩
        have q1 : my false H (y + a) (h - a) = my false H y h := by show H - (y + a) - (h - a) = H - y - h; omega
        have q2 : my false H y a = my false H y h + (h - a) := by show H - y - a = H - y - h + (h - a); omega
        have q3 : h - (h - a) = a := by omega
        rw [q1] at e3
        rw [q2] at e4
        rw [walkV_of_ends hn3 (by omega) e3, q3]
        exact e4
      | true =>
        rw [mirV_cut, if_neg h32, if_pos rfl]
        obtain ⟨s3, e3, m3⟩ := ih t0 _ _ _ _ _ _ { s2 with nodes := s2.nodes + 1 } (hb.top ha) h0 (by show s2.nodes + 1 + sm.nodes ≤ 4096 + (s.nodes + 1); omega)
        have n3' : s3.nodes + (s.nodes + 1) = s2.nodes + 1 + sm.nodes := m3.1
        obtain ⟨s4, e4, m4⟩ := ih t1 _ _ _ _ _ _ s3 (hb.bottom ha) h1 (by omega)
        refine ⟨s4, ?_, MirAdds.join (s0 := { s with nodes := s.nodes + 1 }) (s20 := { s2 with nodes := s2.nodes + 1 }) rfl rfl rfl rfl rfl rfl m3 m4⟩
        have q4 : my true H y a = my true H y h := rfl
        rw [q4] at e3
        rw [walkV_of_ends hn3 ha e3]
        exact e4
end Go.Proofs.Ytmfmpmemdplloaa
