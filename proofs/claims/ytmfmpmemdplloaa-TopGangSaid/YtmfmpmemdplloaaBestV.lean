/-
  The best layout with cuts: the plain laws. No program in sight. Own text.
-/
import Derived.Test.YtmfmpmemdplloaaMir
namespace Go.Proofs.Ytmfmpmemdplloaa
structure Choice where
  value : Int
  kind : Int
  at' : Int
  item : Int
def Choice.zero : Choice := ⟨0, 0, 0, 0⟩
def itemsTo (items : List Item) (w h : Int) : Nat → Choice
  | 0 => .zero
  | k + 1 => match items[k]? with
    | some x => if fitsB x w h = true ∧ (itemsTo items w h k).value < x.value then ⟨x.value, 1, 0, k⟩ else itemsTo items w h k
    | none => itemsTo items w h k
def sidesTo (f : Nat → Nat → Int) (w h : Nat) (c : Choice) : Nat → Choice
  | 0 => c
  | m + 1 => if (sidesTo f w h c m).value < f (m + 1) h + f (w - (m + 1)) h then ⟨f (m + 1) h + f (w - (m + 1)) h, 2, ((m + 1 : Nat) : Int), 0⟩ else sidesTo f w h c m
def endsTo (f : Nat → Nat → Int) (w h : Nat) (c : Choice) : Nat → Choice
  | 0 => c
  | m + 1 => if (endsTo f w h c m).value < f w (m + 1) + f w (h - (m + 1)) then ⟨f w (m + 1) + f w (h - (m + 1)), 3, ((m + 1 : Nat) : Int), 0⟩ else endsTo f w h c m
def fillV (f : Nat → Nat → Int) (items : List Item) (w h : Nat) : Choice := endsTo f w h (sidesTo f w h (itemsTo items w h items.length) (w / 2)) (h / 2)
def bvF (items : List Item) : Nat → Nat → Nat → Choice
  | 0, _, _ => .zero
  | n + 1, w, h => if w = 0 ∨ h = 0 then .zero else fillV (fun a b => (bvF items n a b).value) items w h
/-- The best choice for a rectangle. -/
def bv (items : List Item) (w h : Nat) : Choice := bvF items (w + h) w h
theorem sidesTo_congr {f g : Nat → Nat → Int} {w h : Nat} (c : Choice) {k : Nat} (he : ∀ m, 1 ≤ m → m ≤ k → f m h = g m h ∧ f (w - m) h = g (w - m) h) : sidesTo f w h c k = sidesTo g w h c k := by
  induction k with
  | zero => rfl
  | succ k ih =>
    have e1 := ih (fun m h1 h2 => he m h1 (by omega))
    obtain ⟨e2, e3⟩ := he (k + 1) (by omega) (Nat.le_refl _)
    simp only [sidesTo, e1, e2, e3]
theorem endsTo_congr {f g : Nat → Nat → Int} {w h : Nat} (c : Choice) {k : Nat} (he : ∀ m, 1 ≤ m → m ≤ k → f w m = g w m ∧ f w (h - m) = g w (h - m)) : endsTo f w h c k = endsTo g w h c k := by
  induction k with
  | zero => rfl
  | succ k ih =>
    have e1 := ih (fun m h1 h2 => he m h1 (by omega))
    obtain ⟨e2, e3⟩ := he (k + 1) (by omega) (Nat.le_refl _)
    simp only [endsTo, e1, e2, e3]
theorem fillV_congr {f g : Nat → Nat → Int} {items : List Item} {w h : Nat} (he : ∀ a b, a + b < w + h → f a b = g a b) : fillV f items w h = fillV g items w h := by
  unfold fillV
  rw [sidesTo_congr _ (fun m h1 h2 => ⟨he m h (by omega), he (w - m) h (by omega)⟩), endsTo_congr _ (fun m h1 h2 => ⟨he w m (by omega), he w (h - m) (by omega)⟩)]
theorem bvF_stable (items : List Item) : ∀ n k, k ≤ n → ∀ w h, w + h ≤ k → bvF items n w h = bvF items k w h := by
  intro n
  induction n with
  | zero => intro k hk w h _; obtain rfl : k = 0 := by omega
            rfl
  | succ n ih =>
    intro k hk w h hwh
    cases k with
    | zero =>
      obtain rfl : w = 0 := by omega
      simp [bvF]
    | succ k =>
      simp only [bvF]
      split
      · rfl
      · rename_i h0
        refine fillV_congr fun a b hab => ?_
        rw [ih k (by omega) a b (by omega)]
theorem bv_eq (items : List Item) {w h : Nat} (hw : 1 ≤ w) (hh : 1 ≤ h) : bv items w h = fillV (fun a b => (bv items a b).value) items w h := by
  unfold bv
  obtain ⟨m, hm⟩ : ∃ m, w + h = m + 1 := ⟨w + h - 1, by omega⟩
  rw [hm]
  simp only [bvF]
  rw [if_neg (by omega)]
  refine fillV_congr fun a b hab => ?_
  rw [bvF_stable items m (a + b) (by omega) a b (Nat.le_refl _)]
theorem bv_zero (items : List Item) {w h : Nat} (h0 : w = 0 ∨ h = 0) : bv items w h = .zero := by
  unfold bv
  cases hn : w + h with
  | zero => rfl
  | succ n => simp only [bvF]; rw [if_pos h0]
theorem itemsTo_spec (items : List Item) (w h : Int) : ∀ k, k ≤ items.length → 0 ≤ (itemsTo items w h k).value ∧ (∀ j (hj : j < items.length), j < k → fitsB items[j] w h = true → items[j].value ≤ (itemsTo items w h k).value) ∧
    (itemsTo items w h k = .zero ∨ ∃ j, ∃ hj : j < items.length, fitsB items[j] w h = true ∧ itemsTo items w h k = ⟨items[j].value, 1, 0, j⟩) := by
  intro k
  induction k with
  | zero => intro _; exact ⟨Int.le_refl _, fun j _ h => by omega, .inl rfl⟩
  | succ k ih =>
    intro hk
    obtain ⟨i1, i2, i3⟩ := ih (by omega)
    have hkl : k < items.length := by omega
    simp only [itemsTo, List.getElem?_eq_getElem hkl]
    split
    · rename_i hc
      refine ⟨by show 0 ≤ items[k].value; omega, fun j hj hjk hf => ?_, .inr ⟨k, hkl, hc.1, rfl⟩⟩
      by_cases e : j = k
      · subst e; exact Int.le_refl _
      · have := i2 j hj (by omega) hf
        show _ ≤ items[k].value
        omega
    · rename_i hc
      refine ⟨i1, fun j hj hjk hf => ?_, i3⟩
      by_cases e : j = k
      · subst e
        by_cases h2 : (itemsTo items w h j).value < items[j].value
        · exact absurd ⟨hf, h2⟩ hc
        · omega
      · exact i2 j hj (by omega) hf
theorem sidesTo_spec (f : Nat → Nat → Int) (w h : Nat) (c : Choice) : ∀ k, c.value ≤ (sidesTo f w h c k).value ∧ (∀ m, 1 ≤ m → m ≤ k → f m h + f (w - m) h ≤ (sidesTo f w h c k).value) ∧
    (sidesTo f w h c k = c ∨ ∃ m, 1 ≤ m ∧ m ≤ k ∧ sidesTo f w h c k = ⟨f m h + f (w - m) h, 2, m, 0⟩) := by
  intro k
  induction k with
  | zero => exact ⟨Int.le_refl _, fun m h1 h2 => by omega, .inl rfl⟩
  | succ k ih =>
    obtain ⟨i1, i2, i3⟩ := ih
    simp only [sidesTo]
    split
    · rename_i hc
      refine ⟨by show _ ≤ f (k + 1) h + f (w - (k + 1)) h; omega, fun m h1 h2 => ?_, .inr ⟨k + 1, by omega, Nat.le_refl _, rfl⟩⟩
      show _ ≤ f (k + 1) h + f (w - (k + 1)) h
      by_cases e : m = k + 1
      · subst e; exact Int.le_refl _
      · have := i2 m h1 (by omega); omega
    · rename_i hc
      refine ⟨i1, fun m h1 h2 => ?_, ?_⟩
      · by_cases e : m = k + 1
        · subst e; omega
        · exact i2 m h1 (by omega)
      · rcases i3 with h1 | ⟨m, h1, h2, h3⟩
        · exact .inl h1
        · exact .inr ⟨m, h1, by omega, h3⟩
theorem endsTo_spec (f : Nat → Nat → Int) (w h : Nat) (c : Choice) : ∀ k, c.value ≤ (endsTo f w h c k).value ∧ (∀ m, 1 ≤ m → m ≤ k → f w m + f w (h - m) ≤ (endsTo f w h c k).value) ∧
    (endsTo f w h c k = c ∨ ∃ m, 1 ≤ m ∧ m ≤ k ∧ endsTo f w h c k = ⟨f w m + f w (h - m), 3, m, 0⟩) := by
  intro k
  induction k with
  | zero => exact ⟨Int.le_refl _, fun m h1 h2 => by omega, .inl rfl⟩
  | succ k ih =>
    obtain ⟨i1, i2, i3⟩ := ih
    simp only [endsTo]
    split
    · rename_i hc
      refine ⟨by show _ ≤ f w (k + 1) + f w (h - (k + 1)); omega, fun m h1 h2 => ?_, .inr ⟨k + 1, by omega, Nat.le_refl _, rfl⟩⟩
      show _ ≤ f w (k + 1) + f w (h - (k + 1))
      by_cases e : m = k + 1
      · subst e; exact Int.le_refl _
      · have := i2 m h1 (by omega); omega
    · rename_i hc
      refine ⟨i1, fun m h1 h2 => ?_, ?_⟩
      · by_cases e : m = k + 1
        · subst e; omega
        · exact i2 m h1 (by omega)
      · rcases i3 with h1 | ⟨m, h1, h2, h3⟩
        · exact .inl h1
        · exact .inr ⟨m, h1, by omega, h3⟩
/-- What a choice is. -/
inductive ChoiceOf (items : List Item) (v : Nat → Nat → Int) (w h : Nat) : Choice → Prop where
  | waste : ChoiceOf items v w h .zero
  | piece (j : Nat) (hj : j < items.length) (hf : fitsB items[j] w h = true) : ChoiceOf items v w h ⟨items[j].value, 1, 0, j⟩
  | sides (m : Nat) (h1 : 1 ≤ m) (h2 : m < w) : ChoiceOf items v w h ⟨v m h + v (w - m) h, 2, m, 0⟩
  | ends (m : Nat) (h1 : 1 ≤ m) (h2 : m < h) : ChoiceOf items v w h ⟨v w m + v w (h - m), 3, m, 0⟩
/-- v has the greatest values. -/
structure Low (items : List Item) (v : Nat → Nat → Int) (w h : Nat) (x : Int) : Prop where
  zero : 0 ≤ x
  piece : ∀ j (hj : j < items.length), fitsB items[j] w h = true → items[j].value ≤ x
  sides : ∀ a, 1 ≤ a → a < w → v a h + v (w - a) h ≤ x
  ends : ∀ a, 1 ≤ a → a < h → v w a + v w (h - a) ≤ x
theorem bv_spec (items : List Item) {w h : Nat} (hw : 1 ≤ w) (hh : 1 ≤ h) : Low items (fun a b => (bv items a b).value) w h (bv items w h).value ∧ ChoiceOf items (fun a b => (bv items a b).value) w h (bv items w h) := by
  rw [bv_eq items hw hh]
  unfold fillV
  generalize hv : (fun a b => (bv items a b).value) = v
  obtain ⟨i1, i2, i3⟩ := itemsTo_spec items w h items.length (Nat.le_refl _)
  generalize itemsTo items w h items.length = c0 at *
  obtain ⟨s1, s2, s3⟩ := sidesTo_spec v w h c0 (w / 2)
  generalize sidesTo v w h c0 (w / 2) = c1 at *
  obtain ⟨e1, e2, e3⟩ := endsTo_spec v w h c1 (h / 2)
  generalize endsTo v w h c1 (h / 2) = c2 at *
  refine ⟨⟨by omega, fun j hj hf => ?_, fun a h1 h2 => ?_, fun a h1 h2 => ?_⟩, ?_⟩
  · have := i2 j hj hj hf; omega
  · by_cases ha : a ≤ w / 2
    · have := s2 a h1 ha; omega
    · have := s2 (w - a) (by omega) (by omega)
      rw [show w - (w - a) = a from by omega] at this
      omega
  · by_cases ha : a ≤ h / 2
    · have := e2 a h1 ha; omega
    · have := e2 (h - a) (by omega) (by omega)
      rw [show h - (h - a) = a from by omega] at this
      omega
  · rcases e3 with h1 | ⟨m, h1, h2, h3⟩
    · rw [h1]
      rcases s3 with h1 | ⟨m, h1, h2, h3⟩
      · rw [h1]
        rcases i3 with h1 | ⟨j, hj, hf, h3⟩
        · rw [h1]; exact .waste
        · rw [h3]; exact .piece j hj hf
      · rw [h3]; exact .sides m h1 (by omega)
    · rw [h3]; exact .ends m h1 (by omega)
def bval (items : List Item) (w h : Nat) : Int := (bv items w h).value
theorem bval_low (items : List Item) {w h : Nat} (hw : 1 ≤ w) (hh : 1 ≤ h) : Low items (bval items) w h (bval items w h) := (bv_spec items hw hh).1
theorem bval_cases (items : List Item) {w h : Nat} (hw : 1 ≤ w) (hh : 1 ≤ h) : bval items w h = 0 ∨ (∃ j, ∃ hj : j < items.length, fitsB items[j] w h = true ∧ bval items w h = items[j].value) ∨
    (∃ a, 1 ≤ a ∧ a < w ∧ bval items w h = bval items a h + bval items (w - a) h) ∨ (∃ a, 1 ≤ a ∧ a < h ∧ bval items w h = bval items w a + bval items w (h - a)) := by
  have h := (bv_spec items hw hh).2
  unfold bval
  generalize bv items w _ = c at *
  cases h with
  | waste => exact .inl rfl
  | piece j hj hf => exact .inr (.inl ⟨j, hj, hf, rfl⟩)
  | sides m h1 h2 => exact .inr (.inr (.inl ⟨m, h1, h2, rfl⟩))
  | ends m h1 h2 => exact .inr (.inr (.inr ⟨m, h1, h2, rfl⟩))
/-- Kinds that are worth no less in each size. -/
theorem bval_mono {l l' : List Item} (hl : ∀ (w h : Int) j (hj : j < l.length), fitsB l[j] w h = true → ∃ j', ∃ hj' : j' < l'.length, fitsB l'[j'] w h = true ∧ l[j].value ≤ l'[j'].value) :
    ∀ n w h, w + h ≤ n → 1 ≤ w → 1 ≤ h → bval l w h ≤ bval l' w h := by
  intro n
  induction n with
  | zero => intro w h h1 h2; omega
  | succ n ih =>
    intro w h hn hw hh
    have L := bval_low l' hw hh
    rcases bval_cases l hw hh with e | ⟨j, hj, hf, e⟩ | ⟨a, h1, h2, e⟩ | ⟨a, h1, h2, e⟩
    · rw [e]; exact L.zero
    · obtain ⟨j', hj', hf', hv⟩ := hl w h j hj hf
      have := L.piece j' hj' hf'
      omega
    · have := L.sides a h1 h2
      have i1 := ih a h (by omega) h1 hh
      have i2 := ih (w - a) h (by omega) (by omega) hh
      omega
    · have := L.ends a h1 h2
      have i1 := ih w a (by omega) hw h1
      have i2 := ih w (h - a) (by omega) hw (by omega)
      omega
/-- Kinds that may all be turned: sides may be exchanged. -/
theorem bval_turn {l : List Item} (hl : ∀ (w h : Int) j (hj : j < l.length), fitsB l[j] w h = true → fitsB l[j] h w = true) :
    ∀ n w h, w + h ≤ n → 1 ≤ w → 1 ≤ h → bval l w h ≤ bval l h w := by
  intro n
  induction n with
  | zero => intro w h h1 h2; omega
  | succ n ih =>
    intro w h hn hw hh
    have L := bval_low l hh hw
    rcases bval_cases l hw hh with e | ⟨j, hj, hf, e⟩ | ⟨a, h1, h2, e⟩ | ⟨a, h1, h2, e⟩
    · rw [e]; exact L.zero
    · have := L.piece j hj (hl w h j hj hf)
      omega
    · have := L.ends a h1 h2
      have i1 := ih a h (by omega) h1 hh
      have i2 := ih (w - a) h (by omega) (by omega) hh
      omega
    · have := L.sides a h1 h2
      have i1 := ih w a (by omega) hw h1
      have i2 := ih w (h - a) (by omega) hw (by omega)
      omega
theorem bval_bd {l : List Item} (hl : ∀ j (hj : j < l.length), l[j].value ≤ 1000) : ∀ n w h, w + h ≤ n → 1 ≤ w → 1 ≤ h → 0 ≤ bval l w h ∧ bval l w h ≤ 1000 * ((w : Int) * h) := by
  intro n
  induction n with
  | zero => intro w h h1 h2; omega
  | succ n ih =>
    intro w h hn hw hh
    have L := bval_low l hw hh
    refine ⟨L.zero, ?_⟩
    have p1 : (1 : Int) * 1 ≤ (w : Int) * h := Int.mul_le_mul (by omega) (by omega) (by omega) (by omega)
    rcases bval_cases l hw hh with e | ⟨j, hj, hf, e⟩ | ⟨a, h1, h2, e⟩ | ⟨a, h1, h2, e⟩
    · omega
    · have := hl j hj
      omega
    · have i1 := (ih a h (by omega) h1 hh).2
      have i2 := (ih (w - a) h (by omega) (by omega) hh).2
      have e2 : ((w - a : Nat) : Int) = (w : Int) - a := by omega
      rw [e2, Int.sub_mul] at i2
      omega
    · have i1 := (ih w a (by omega) hw h1).2
      have i2 := (ih w (h - a) (by omega) hw (by omega)).2
      have e2 : ((h - a : Nat) : Int) = (h : Int) - a := by omega
      rw [e2, Int.mul_sub] at i2
      omega
/-- The tree of the best choices. -/
def treeV (items : List Item) : Nat → Nat → Nat → Tree
  | 0, _, _ => .mk 0 0 0 []
  | n + 1, w, h =>
    if (bv items w h).kind = 2 then .mk 2 (bv items w h).at' (bv items w h).item [treeV items n (bv items w h).at'.toNat h, treeV items n (w - (bv items w h).at'.toNat) h]
    else if (bv items w h).kind = 3 then .mk 3 (bv items w h).at' (bv items w h).item [treeV items n w (bv items w h).at'.toNat, treeV items n w (h - (bv items w h).at'.toNat)]
    else .mk (bv items w h).kind (bv items w h).at' (bv items w h).item []
def worth (items : List Item) (l : List Rect) : Int := (l.map fun r => (items[r.item.toNat]?.map Item.value).getD 0).sum
theorem worth_append (items : List Item) (l m : List Rect) : worth items (l ++ m) = worth items l + worth items m := by simp [worth]
theorem treeV_walk (items : List Item) : ∀ (n w h : Nat) (x y : Int) (s : St), 1 ≤ w → 1 ≤ h → w + h ≤ n + 1 → (s.nodes : Int) + 2 * ((w : Int) * h) ≤ 4097 →
    ∃ s', walkV items n (treeV items n w h) x y w h s = .ok s' ∧ (s'.nodes : Int) + 1 ≤ s.nodes + 2 * ((w : Int) * h) ∧ ∃ l, s'.rects = s.rects ++ l ∧ worth items l = bval items w h := by
  intro n
  induction n with
  | zero => intro w h x y s h1 h2 h3; omega
  | succ n ih =>
    intro w h x y s hw hh hn hs
    have p1 : (1 : Int) * 1 ≤ (w : Int) * h := Int.mul_le_mul (by omega) (by omega) (by omega) (by omega)
    have hC := (bv_spec items hw hh).2
    unfold bval
    unfold treeV
    generalize bv items w h = c at *
    cases hC with
    | waste =>
      refine ⟨_, walkV_of_waste (by omega), by show ((s.nodes + 1 : Nat) : Int) + 1 ≤ _; omega, [], by simp, rfl⟩
    | piece j hj hf =>
      refine ⟨{ nodes := s.nodes + 1, rects := s.rects ++ [⟨j, x, y, w, h⟩], waste := s.waste }, ?_, by show ((s.nodes + 1 : Nat) : Int) + 1 ≤ _; omega, [_], rfl, ?_⟩
      · have e : (if (1 : Int) = 2 then Tree.mk 2 0 j [treeV items n (Int.toNat 0) h, treeV items n (w - Int.toNat 0) h] else if (1 : Int) = 3 then Tree.mk 3 0 j [treeV items n w (Int.toNat 0), treeV items n w (h - Int.toNat 0)] else Tree.mk 1 0 j []) = Tree.mk 1 0 j [] := by simp
        show walkV items (n + 1) (if (1 : Int) = 2 then Tree.mk 2 0 j [treeV items n (Int.toNat 0) h, treeV items n (w - Int.toNat 0) h] else if (1 : Int) = 3 then Tree.mk 3 0 j [treeV items n w (Int.toNat 0), treeV items n w (h - Int.toNat 0)] else Tree.mk 1 0 j []) x y w h s = _
        rw [e, walkV_of_piece (by omega)]
        unfold pieceV
        rw [dif_pos ⟨by omega, by omega⟩]
        have ej : items[(j : Int).toNat]'(by omega) = items[j] := by simp
        rw [ej, if_pos hf]
      · show worth items [_] = items[j].value
        simp [worth, hj]
    | sides m h1 h2 =>
      have e2 : ((w - m : Nat) : Int) = (w : Int) - m := by omega
      have p2 : (1 : Int) * 1 ≤ (m : Int) * h := Int.mul_le_mul (by omega) (by omega) (by omega) (by omega)
      have p3 : (1 : Int) * 1 ≤ ((w : Int) - m) * h := Int.mul_le_mul (by omega) (by omega) (by omega) (by omega)
      have p4 : ((w : Int) - m) * h = (w : Int) * h - (m : Int) * h := Int.sub_mul _ _ _
      obtain ⟨s1, w1, n1, l1, r1, v1⟩ := ih m h x y { s with nodes := s.nodes + 1 } h1 hh (by omega) (by show ((s.nodes + 1 : Nat) : Int) + _ ≤ _; omega)
      have n1' : (s1.nodes : Int) + 1 ≤ ((s.nodes + 1 : Nat) : Int) + 2 * ((m : Int) * h) := n1
      obtain ⟨s2, w2, n2, l2, r2, v2⟩ := ih (w - m) h (x + m) y s1 (by omega) hh (by omega) (by rw [e2]; omega)
      rw [e2] at n2 w2
      refine ⟨s2, ?_, by omega, l1 ++ l2, ?_, ?_⟩
      · show walkV items (n + 1) (.mk 2 m 0 [treeV items n (m : Int).toNat h, treeV items n (w - (m : Int).toNat) h]) x y w h s = _
        rw [Int.toNat_natCast, walkV_of_sides (by omega) (by omega) w1]
        exact w2
      · rw [r2, r1, List.append_assoc]
      · rw [worth_append, v1, v2]
        rfl
    | ends m h1 h2 =>
      have e2 : ((h - m : Nat) : Int) = (h : Int) - m := by omega
      have p2 : (1 : Int) * 1 ≤ (w : Int) * m := Int.mul_le_mul (by omega) (by omega) (by omega) (by omega)
      have p3 : (1 : Int) * 1 ≤ (w : Int) * ((h : Int) - m) := Int.mul_le_mul (by omega) (by omega) (by omega) (by omega)
      have p4 : (w : Int) * ((h : Int) - m) = (w : Int) * h - (w : Int) * m := Int.mul_sub _ _ _
      obtain ⟨s1, w1, n1, l1, r1, v1⟩ := ih w m x y { s with nodes := s.nodes + 1 } hw h1 (by omega) (by show ((s.nodes + 1 : Nat) : Int) + _ ≤ _; omega)
      have n1' : (s1.nodes : Int) + 1 ≤ ((s.nodes + 1 : Nat) : Int) + 2 * ((w : Int) * m) := n1
      obtain ⟨s2, w2, n2, l2, r2, v2⟩ := ih w (h - m) x (y + m) s1 hw (by omega) (by omega) (by rw [e2]; omega)
      rw [e2] at n2 w2
      refine ⟨s2, ?_, by omega, l1 ++ l2, ?_, ?_⟩
      · show walkV items (n + 1) (.mk 3 m 0 [treeV items n w (m : Int).toNat, treeV items n w (h - (m : Int).toNat)]) x y w h s = _
        rw [Int.toNat_natCast, walkV_of_ends (by omega) (by omega) w1]
        exact w2
      · rw [r2, r1, List.append_assoc]
      · rw [worth_append, v1, v2]
        rfl
/-! ### The reference's table -/
def itemsMax (items : List Item) (w h : Int) : Nat → Int
  | 0 => 0
  | k + 1 => match items[k]? with
    | some x => if fitsB x w h = true then max (itemsMax items w h k) x.value else itemsMax items w h k
    | none => itemsMax items w h k
def sidesMax (f : Nat → Nat → Int) (w h : Nat) (c : Int) : Nat → Int
  | 0 => c
  | m + 1 => max (sidesMax f w h c m) (f (m + 1) h + f (w - (m + 1)) h)
def endsMax (f : Nat → Nat → Int) (w h : Nat) (c : Int) : Nat → Int
  | 0 => c
  | m + 1 => max (endsMax f w h c m) (f w (m + 1) + f w (h - (m + 1)))
theorem itemsMax_le {items : List Item} {w h : Int} {x : Int} (h0 : 0 ≤ x) (hx : ∀ j (hj : j < items.length), fitsB items[j] w h = true → items[j].value ≤ x) : ∀ k, 0 ≤ itemsMax items w h k ∧ itemsMax items w h k ≤ x := by
  intro k
  induction k with
  | zero => exact ⟨Int.le_refl _, h0⟩
  | succ k ih =>
    simp only [itemsMax]
    split
    · rename_i y hy
      obtain ⟨hk, rfl⟩ := List.getElem?_eq_some_iff.1 hy
      split
      · rename_i hf; have := hx k hk hf; omega
      · exact ih
    · exact ih
theorem itemsMax_ge {items : List Item} {w h : Int} : ∀ k j (hj : j < items.length), j < k → fitsB items[j] w h = true → items[j].value ≤ itemsMax items w h k := by
  intro k
  induction k with
  | zero => intro j _ h; omega
  | succ k ih =>
    intro j hj hjk hf
    by_cases e : j = k
    · subst e
      simp only [itemsMax, List.getElem?_eq_getElem hj, if_pos hf]
      omega
    · have := ih j hj (by omega) hf
      simp only [itemsMax]
      split
      · split <;> omega
      · exact this
theorem sidesMax_le {f : Nat → Nat → Int} {w h : Nat} {c x : Int} (hc : c ≤ x) : ∀ k, (∀ a, 1 ≤ a → a ≤ k → f a h + f (w - a) h ≤ x) → c ≤ sidesMax f w h c k ∧ sidesMax f w h c k ≤ x := by
  intro k
  induction k with
  | zero => intro _; exact ⟨Int.le_refl _, hc⟩
  | succ k ih =>
    intro hx
    have h1 := ih (fun a h1 h2 => hx a h1 (by omega))
    have h2 := hx (k + 1) (by omega) (Nat.le_refl _)
    simp only [sidesMax]
    omega
theorem endsMax_le {f : Nat → Nat → Int} {w h : Nat} {c x : Int} (hc : c ≤ x) : ∀ k, (∀ a, 1 ≤ a → a ≤ k → f w a + f w (h - a) ≤ x) → c ≤ endsMax f w h c k ∧ endsMax f w h c k ≤ x := by
  intro k
  induction k with
  | zero => intro _; exact ⟨Int.le_refl _, hc⟩
  | succ k ih =>
    intro hx
    have h1 := ih (fun a h1 h2 => hx a h1 (by omega))
    have h2 := hx (k + 1) (by omega) (Nat.le_refl _)
    simp only [endsMax]
    omega
theorem sidesMax_ge {f : Nat → Nat → Int} {w h : Nat} {c : Int} : ∀ k a, 1 ≤ a → a ≤ k → f a h + f (w - a) h ≤ sidesMax f w h c k := by
  intro k
  induction k with
  | zero => intro a h1 h2; omega
  | succ k ih =>
    intro a h1 h2
    simp only [sidesMax]
    by_cases e : a = k + 1
    · subst e; omega
    · have := ih a h1 (by omega); omega
theorem endsMax_ge {f : Nat → Nat → Int} {w h : Nat} {c : Int} : ∀ k a, 1 ≤ a → a ≤ k → f w a + f w (h - a) ≤ endsMax f w h c k := by
  intro k
  induction k with
  | zero => intro a h1 h2; omega
  | succ k ih =>
    intro a h1 h2
    simp only [endsMax]
    by_cases e : a = k + 1
    · subst e; omega
    · have := ih a h1 (by omega); omega
theorem maxes_eq (items : List Item) {w h : Nat} (hw : 1 ≤ w) (hh : 1 ≤ h) : endsMax (bval items) w h (sidesMax (bval items) w h (itemsMax items w h items.length) (w - 1)) (h - 1) = bval items w h := by
  have L := bval_low items hw hh
  have a1 := itemsMax_le (items := items) (w := w) (h := h) L.zero L.piece items.length
  have a2 := sidesMax_le (f := bval items) (w := w) (h := h) a1.2 (w - 1) (fun a h1 h2 => L.sides a h1 (by omega))
  have a3 := endsMax_le (f := bval items) (w := w) (h := h) a2.2 (h - 1) (fun a h1 h2 => L.ends a h1 (by omega))
  rcases bval_cases items hw hh with e | ⟨j, hj, hf, e⟩ | ⟨a, h1, h2, e⟩ | ⟨a, h1, h2, e⟩
  · omega
  · have := itemsMax_ge (items := items) (w := w) (h := h) items.length j hj hj hf
    omega
  · have := sidesMax_ge (f := bval items) (w := w) (h := h) (c := itemsMax items w h items.length) (w - 1) a h1 (by omega)
    omega
  · have := endsMax_ge (f := bval items) (w := w) (h := h) (c := sidesMax (bval items) w h (itemsMax items w h items.length) (w - 1)) (h - 1) a h1 (by omega)
    omega
end Go.Proofs.Ytmfmpmemdplloaa
