/-
  A table with one row raised: plain laws; new rows in memory. Own text.
-/
import Derived.Test.YtjggcnpnjnmamaaCheapLaw
namespace Go.Proofs.Ytjggcnpnjnmamaa
open Go.RowKit
set_option linter.unusedVariables false
/-- The table of f. -/
def tabF (N m : Nat) (f : Nat → Nat → Int) : List (List Int) := (List.range N).map (fun i => lst m (f i))
theorem tabF_length (N m : Nat) (f : Nat → Nat → Int) : (tabF N m f).length = N := by simp [tabF]
theorem tabF_get {N m i : Nat} {f : Nat → Nat → Int} (h : i < (tabF N m f).length) : (tabF N m f)[i] = lst m (f i) := by simp [tabF]
theorem tabF_c {N m i j : Nat} {f : Nat → Nat → Int} (hi : i < N) (hj : j < m) : cOf (tabF N m f) (i + 1) (j + 1) = f i j := by
  have h := cOf_at (rows := tabF N m f) (r := i) (j := j) (by rw [tabF_length]; exact hi) (by rw [tabF_get, lst_length]; exact hj)
  rw [h]
  simp [tabF, lst]
theorem tabF_good {N m : Nat} {f : Nat → Nat → Int} (h1 : 1 ≤ N) (h2 : N ≤ m) (h3 : m ≤ 12) (h : ∀ i j, i < N → j < m → 0 ≤ f i j ∧ f i j ≤ 1048576) : GoodCosts (tabF N m f) m ∧ costsErr (tabF N m f) = 0 := by
  have hl : ∀ q (hq : q < (tabF N m f).length), (tabF N m f)[q].length = m := fun q hq => by rw [tabF_get, lst_length]
  have hb : ∀ q (hq : q < (tabF N m f).length) j (hj : j < (tabF N m f)[q].length), 0 ≤ (tabF N m f)[q][j] ∧ (tabF N m f)[q][j] ≤ 1048576 := fun q hq j hj => by
    have hj' := hj
    rw [hl q hq] at hj'
    have hq' := hq
    rw [tabF_length] at hq'
    have := h q j hq' hj'
    simpa [tabF, lst] using this
  refine ⟨⟨h3, by rw [tabF_length]; exact h1, by rw [tabF_length]; exact h2, hl, hb⟩, ?_⟩
  have hn : m = ((tabF N m f)[0]'(by rw [tabF_length]; omega)).length := (hl 0 _).symm
  rw [costsErr_of (by rw [tabF_length]; exact h1) (by rw [tabF_length]; omega) hn, if_pos, if_neg (by rw [tabF_length]; omega)]
  refine rowsErr_ok (fun q hq => rowErr_ok (by rw [hl q hq]; omega) (fun j hj _ => decide_eq_true (hb q hq j hj)))
theorem sumN_raise {g : Nat → Int} {a : Nat} {y : Int} : ∀ {n : Nat}, sumN (fun i => g i + if i = a then y else 0) n = sumN g n + if a < n then y else 0 := by
  intro n
  induction n with
  | zero => simp [sumN]
  | succ n ih =>
    simp only [sumN, ih]
    by_cases e : n = a
    · rw [if_pos e, if_neg (by omega), if_pos (by omega)]; omega
    · rw [if_neg e]
      by_cases h : a < n
      · rw [if_pos h, if_pos (by omega)]; omega
      · rw [if_neg h, if_neg (by omega)]; omega
/-- A number added to all costs of a job is added to the plan's cost. -/
theorem plan_raise {rows : List (List Int)} {N m a : Nat} {y : Int} {u v u' v' : Nat → Int} {pr pr' : Nat → Nat} {press job fee press' job' fee' : Nat → Int} {cost cost' : Int} (ha : a < N)
    (h : IsPlan N m (cOf rows) u v pr press job fee cost) (h' : IsPlan N m (cOf (tabF N m (fun i j => cOf rows (i + 1) (j + 1) + if i = a then y else 0))) u' v' pr' press' job' fee' cost') : cost' = cost + y := by
  have hs : ∀ (q : Nat → Nat), (∀ i, i < N → q i < m) → sumN (fun i => cOf (tabF N m (fun i j => cOf rows (i + 1) (j + 1) + if i = a then y else 0)) (i + 1) (q i + 1)) N = sumN (fun i => cOf rows (i + 1) (q i + 1)) N + y := fun q hq => by
    have e := sumN_raise (g := fun i => cOf rows (i + 1) (q i + 1)) (a := a) (y := y) (n := N)
    rw [if_pos ha] at e
    rw [← e]
    exact sumN_congr (fun i hi => tabF_c hi (hq i hi))
  have inj : ∀ {c : Nat → Nat → Int} {u v : Nat → Int} {pr : Nat → Nat} {press job fee : Nat → Int} {cost : Int}, Proof0 N m c u v pr → (∀ i, i < N → press i = (pr (i + 1) : Int) - 1) → (∀ i, i < N → (press i).toNat < m) ∧ ∀ i i', i < N → i' < N → (press i).toNat = (press i').toNat → i = i' := by
    intro c u v pr press job fee cost p hp
    refine ⟨fun i hi => ?_, fun i i' hi hi' e => ?_⟩
    · have := p.prm (i + 1) (by omega) (by omega)
      have := hp i hi
      omega
    · have a1 := p.prm (i + 1) (by omega) (by omega)
      have a2 := p.prm (i' + 1) (by omega) (by omega)
      have b1 := hp i hi
      have b2 := hp i' hi'
      have := p.inj (i + 1) (i' + 1) (by omega) (by omega) (by omega) (by omega) (by omega)
      omega
  obtain ⟨a1, a2⟩ := inj (job := job) (fee := fee) (cost := cost) h.p0 h.pr'
  obtain ⟨b1, b2⟩ := inj (job := job') (fee := fee') (cost := cost') h'.p0 h'.pr'
  have l1 := h'.leastN (fun i => (press i).toNat) a1 a2
  have l2 := h.leastN (fun i => (press' i).toNat) b1 b2
  have s1 := hs (fun i => (press i).toNat) a1
  have s2 := hs (fun i => (press' i).toNat) b1
  have c1 := h.costN
  have c2 := h'.costN
  omega
/-- The new rows: their headers. -/
def Clones (w : World) (m k : Nat) (f : Nat → Nat → Int) (vs : List Value) : Prop := vs.length = k ∧ ∀ i (hi : i < vs.length), ∃ g c, vs[i] = .slice (some ⟨g, 0, none⟩) m c ∧ FTab (Value.int .i64) w g m (f i) ∧ g < w.heap.size
theorem Clones.below {w w' : World} {m k : Nat} {f : Nat → Nat → Int} {vs : List Value} (h : Clones w m k f vs) (hb : Below w.heap.size w w') : Clones w' m k f vs :=
  ⟨h.1, fun i hi => by
    obtain ⟨g, c, e, ht, hl⟩ := h.2 i hi
    exact ⟨g, c, e, ht.below hb hl, Nat.lt_of_lt_of_le hl hb.size⟩⟩
theorem FTab.sameBlock {α : Type} {f : α → Value} {w w' : World} {g n : Nat} {t : Nat → α} (h : FTab f w g n t) (hb : w'.heap[g]? = w.heap[g]?) : FTab f w' g n t := by
  refine ⟨fun i hi => ?_, fun o => ?_⟩
  · have := h.at' i hi
    unfold World.cell? at this ⊢
    rw [hb]
    exact this
  · have := h.fz o
    unfold World.frozen? at this ⊢
    rw [hb]
    exact this
theorem own_apart {w : World} {base : Nat} {e : TypeId} {v : Value} {vs : List Value} (hown : Own w base e 1 encV v vs) (h0 : vs = [] → v = .slice none 0 0) (hs : ∀ x, x ∈ vs → ∃ a n c, x = .slice a n c) {g m : Nat} {t : Nat → Int} (ht : FTab (Value.int .i64) w g m t) (hm : 0 < m) : v.ownBlock ≠ some g := by
  intro hg
  cases vs with
  | nil => rw [h0 rfl] at hg; simp [Value.ownBlock] at hg
  | cons x l =>
    obtain ⟨a, n, c, rfl⟩ := hs x (by simp)
    have h1 := World.ownsRow.cells hown hg 0 (.slice a n c) rfl
    have h2 := ht.at' 0 hm
    have e1 : (⟨g, 0, none⟩ : Addr).add 0 = ⟨g, 0, none⟩ := add_none g 0 0
    rw [e1, h2] at h1
    simp at h1
theorem Clones.slices {w : World} {m k : Nat} {f : Nat → Nat → Int} {vs : List Value} (h : Clones w m k f vs) : ∀ x, x ∈ vs → ∃ a n c, x = .slice a n c := by
  intro x hx
  obtain ⟨i, hi, rfl⟩ := List.mem_iff_getElem.1 hx
  obtain ⟨g, c, e, _⟩ := h.2 i hi
  exact ⟨_, _, _, e⟩
/-- The append leaves the clones. -/
theorem Clones.grown {w w' : World} {m k base : Nat} {e : TypeId} {f : Nat → Nat → Int} {vs : List Value} {v : Value} (h : Clones w m k f vs) (hm : 0 < m) (hown : Own w base e 1 encV v vs) (h0 : vs = [] → v = .slice none 0 0) (hg : w.grownBy w' v.ownBlock) : Clones w' m k f vs :=
  ⟨h.1, fun i hi => by
    obtain ⟨g, c, e1, ht, hl⟩ := h.2 i hi
    have hne := own_apart hown h0 h.slices ht hm
    exact ⟨g, c, e1, ht.sameBlock (hg.block g hl (fun e => hne e.symm)), Nat.lt_of_lt_of_le hl hg.size⟩⟩
theorem Clones.snoc {w : World} {m k g c : Nat} {f : Nat → Nat → Int} {vs : List Value} (h : Clones w m k f vs) (ht : FTab (Value.int .i64) w g m (f k)) (hl : g < w.heap.size) : Clones w m (k + 1) f (vs ++ [.slice (some ⟨g, 0, none⟩) m c]) := by
  refine ⟨by rw [List.length_append, h.1]; rfl, fun i hi => ?_⟩
  by_cases e : i < vs.length
  · rw [List.getElem_append_left e]; exact h.2 i e
  · have hl2 : i = vs.length := by rw [List.length_append] at hi; simp at hi; omega
    have : i = k := by rw [hl2, h.1]
    subst this
    rw [List.getElem_append_right (by omega)]
    exact ⟨g, c, by simp [hl2], ht, hl⟩
/-- The rows of the clones. -/
theorem Clones.rows {w : World} {m N base : Nat} {e : TypeId} {f : Nat → Nat → Int} {vs : List Value} {v : Value} (h : Clones w m N f vs) (hm : m ≤ 12) (h1 : 1 ≤ N) (hown : Own w base e 1 encV v vs) : ∃ g c, v = .slice (some ⟨g, 0, none⟩) N c ∧ Rows1 w 1 encInt (some ⟨g, 0, none⟩) (tabF N m f) := by
  obtain ⟨oa, cap, rfl, _, _, hf⟩ := hown.isSlice (fun _ => rfl)
  have hl := h.1
  have h0 : ∃ g, oa = some ⟨g, 0, none⟩ := by
    rcases hown.2 with ⟨ev, hn⟩ | ⟨g, cap', cur, ev, _⟩
    · omega
    · simp only [Value.slice.injEq] at ev; exact ⟨g, ev.1⟩
  obtain ⟨g, rfl⟩ := h0
  refine ⟨g, cap, by rw [hl], fun i hi => ?_⟩
  rw [tabF_length] at hi
  obtain ⟨x, hx, b, off, e1, hc⟩ := hf i (by rw [hl]; exact hi) 0 (by omega)
  simp only [encV, List.getElem?_cons_zero, Option.some.injEq] at hx
  subst hx
  simp only [Nat.mul_one, Nat.add_zero] at hc
  obtain ⟨g', c', e2, ht, _⟩ := h.2 i (by rw [hl]; exact hi)
  rw [e2] at hc
  refine ⟨b, off, _, e1, hc, some ⟨g', 0, none⟩, c', by rw [tabF_get, lst_length], (fun h => by cases h), by rw [tabF_get, lst_length]; unfold maxLen; omega, ?_⟩
  rw [tabF_get]
  exact ht.lst
end Go.Proofs.Ytjggcnpnjnmamaa
