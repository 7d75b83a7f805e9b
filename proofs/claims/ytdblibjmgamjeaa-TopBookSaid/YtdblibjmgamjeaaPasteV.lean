/-
  Raster's Paste, plain: a row laid over a raster's list; a row of the call's own in memory; a copy's step. Own text.
-/
import Derived.Test.YtdblibjmgamjeaaTurn3
import Derived.Laws.CopyOwn
namespace Go.Proofs.Ytdblibjmgamjeaa
open Go.RowKit
set_option linter.unusedVariables false
theorem turn_any (m : Img) (hm : Sized m) (o : Option Addr) (cap : Nat) (k : Int) (hk : 0 ≤ k ∧ k < 4) (w : World) (hx : PxAt w o (listI m).length cap (listI m)) :
    Calls Try.prog 27 #[.agg #[.int .i64 m.W, .int .i64 m.H, .slice o (listI m).length cap], .int .i64 k] w (RetGrid0 (turnI m k) w) := by
  have h : k = 0 ∨ k = 1 ∨ k = 2 ∨ k = 3 := by omega
  rcases h with rfl | rfl | rfl | rfl
  · have e : turnI m 0 = m := rfl
    rw [e]
    exact turn0_any m hm o cap w hx
  · exact turn1_any m hm o cap w hx
  · exact turn2_any m hm o cap w hx
  · exact turn3_any m hm o cap w hx
theorem splice_get {α : Type} (L : List α) (off : Nat) (cs : List α) (h : off + cs.length ≤ L.length) (k : Nat) :
    (splice L off cs)[k]? = if off ≤ k ∧ k < off + cs.length then cs[k - off]? else L[k]? := by
  unfold splice
  by_cases h1 : k < off
  · rw [if_neg (by omega), List.getElem?_append_left (by simp; omega), List.getElem?_take_of_lt h1]
  · rw [List.getElem?_append_right (by simp; omega)]
    have e : (L.take off).length = off := by simp; omega
    rw [e]
    by_cases h2 : k < off + cs.length
    · rw [if_pos ⟨by omega, h2⟩, List.getElem?_append_left (by omega)]
    · rw [if_neg (by omega), List.getElem?_append_right (by omega), List.getElem?_drop]
      congr 1; omega
theorem pixL_at {W H : Nat} (px : Int → Int → Int) {k : Nat} (hk : k < W * H) : (pixL W H px)[k]? = some (px ((k % W : Nat) : Int) ((k / W : Nat) : Int)) := by
  unfold pixL pixN
  rw [List.getElem?_map, List.getElem?_range hk]; rfl
/-- One more row is laid. -/
theorem paste_row (m p : Img) (x y : Int) (j b0 a0 fr len : Nat) (hb : (b0 : Int) = y + j) (ha : (a0 : Int) = x + fr) (hfr : (fr : Int) = max 0 (-x)) (hlen : ((fr + len : Nat) : Int) = min (p.W : Int) ((m.W : Int) - x)) (hbH : b0 < m.H) :
    splice (listI (pasteI m x y ⟨p.W, j, p.px⟩)) (b0 * m.W + a0) ((List.range len).map fun i => p.px ((fr + i : Nat) : Int) (j : Int)) = listI (pasteI m x y ⟨p.W, j + 1, p.px⟩) := by
  have hlW : a0 + len ≤ m.W := by omega
  have hb1 : (b0 + 1) * m.W ≤ m.H * m.W := Nat.mul_le_mul_right _ (by omega)
  rw [Nat.add_mul, Nat.one_mul, Nat.mul_comm m.H] at hb1
  have hL : (listI (pasteI m x y ⟨p.W, j, p.px⟩)).length = m.W * m.H := pixL_len _ _ _
  have hL' : (listI (pasteI m x y ⟨p.W, j + 1, p.px⟩)).length = m.W * m.H := pixL_len _ _ _
  have hfit : b0 * m.W + a0 + ((List.range len).map fun i => p.px ((fr + i : Nat) : Int) (j : Int)).length ≤ (listI (pasteI m x y ⟨p.W, j, p.px⟩)).length := by
    rw [hL, List.length_map, List.length_range]; omega
  refine List.ext_getElem? fun k => ?_
  rw [splice_get _ _ _ hfit]
  rw [List.length_map, List.length_range]
  by_cases hk : k < m.W * m.H
  · have e1 : (listI (pasteI m x y ⟨p.W, j, p.px⟩))[k]? = some _ := pixL_at _ hk
    have e2 : (listI (pasteI m x y ⟨p.W, j + 1, p.px⟩))[k]? = some _ := pixL_at _ hk
    rw [e1, e2]
    have hW : 0 < m.W := by
      rcases Nat.eq_zero_or_pos m.W with e | e
      · rw [e] at hk; simp at hk
      · exact e
    obtain ⟨c, hc⟩ : ∃ c, c = k % m.W := ⟨_, rfl⟩
    obtain ⟨d, hd⟩ : ∃ d, d = k / m.W := ⟨_, rfl⟩
    have hcl : c < m.W := by rw [hc]; exact Nat.mod_lt _ hW
    have hkk : k = d * m.W + c := by rw [hc, hd, Nat.mul_comm]; exact (Nat.div_add_mod k m.W).symm
    have ew : (pasteI m x y ⟨p.W, j, p.px⟩).W = m.W := rfl
    have ew' : (pasteI m x y ⟨p.W, j + 1, p.px⟩).W = m.W := rfl
    rw [ew, ew', ← hc, ← hd]
    have hiff : (b0 * m.W + a0 ≤ k ∧ k < b0 * m.W + a0 + len) ↔ d = b0 ∧ a0 ≤ c ∧ c < a0 + len := by
      rw [hkk]
      constructor
      · rintro ⟨h1, h2⟩
        have hdb : d = b0 := by
          rcases Nat.lt_trichotomy d b0 with h | h | h
          · have : (d + 1) * m.W ≤ b0 * m.W := Nat.mul_le_mul_right _ h
            rw [Nat.add_mul, Nat.one_mul] at this
            omega
          · exact h
          · have : (b0 + 1) * m.W ≤ d * m.W := Nat.mul_le_mul_right _ h
            rw [Nat.add_mul, Nat.one_mul] at this
            omega
        subst hdb
        omega
      · rintro ⟨rfl, h1, h2⟩
        omega
    by_cases hin : d = b0 ∧ a0 ≤ c ∧ c < a0 + len
    · rw [if_pos (hiff.2 hin)]
      obtain ⟨i1, i2, i3⟩ := hin
      have hki : k - (b0 * m.W + a0) = c - a0 := by rw [hkk, i1]; omega
      rw [hki, List.getElem?_map, List.getElem?_range (by omega)]
      show some _ = some _
      have hcond : x ≤ (c : Int) ∧ (c : Int) < x + (p.W : Int) ∧ y ≤ (d : Int) ∧ (d : Int) < y + ((j + 1 : Nat) : Int) := by
        rw [i1]; omega
      show some _ = some (if x ≤ (c : Int) ∧ (c : Int) < x + (p.W : Int) ∧ y ≤ (d : Int) ∧ (d : Int) < y + ((j + 1 : Nat) : Int) then p.px ((c : Int) - x) ((d : Int) - y) else m.px c d)
      rw [if_pos hcond]
      have q1 : ((fr + (c - a0) : Nat) : Int) = (c : Int) - x := by omega
      have q2 : (j : Int) = (d : Int) - y := by rw [i1]; omega
      show some (p.px ((fr + (c - a0) : Nat) : Int) (j : Int)) = _
      rw [q1, q2]
    · rw [if_neg (fun h => hin (hiff.1 h))]
      show some (if x ≤ (c : Int) ∧ (c : Int) < x + (p.W : Int) ∧ y ≤ (d : Int) ∧ (d : Int) < y + ((j : Nat) : Int) then p.px ((c : Int) - x) ((d : Int) - y) else m.px c d) = some (if x ≤ (c : Int) ∧ (c : Int) < x + (p.W : Int) ∧ y ≤ (d : Int) ∧ (d : Int) < y + ((j + 1 : Nat) : Int) then p.px ((c : Int) - x) ((d : Int) - y) else m.px c d)
      have hc2 : (x ≤ (c : Int) ∧ (c : Int) < x + (p.W : Int) ∧ y ≤ (d : Int) ∧ (d : Int) < y + ((j : Nat) : Int)) ↔ (x ≤ (c : Int) ∧ (c : Int) < x + (p.W : Int) ∧ y ≤ (d : Int) ∧ (d : Int) < y + ((j + 1 : Nat) : Int)) := by
        constructor
        · rintro ⟨h1, h2, h3, h4⟩; exact ⟨h1, h2, h3, by omega⟩
        · rintro ⟨h1, h2, h3, h4⟩
          refine ⟨h1, h2, h3, ?_⟩
          have hdne : d ≠ b0 := by
            intro e
            exact hin ⟨e, by omega, by omega⟩
          omega
      by_cases h : x ≤ (c : Int) ∧ (c : Int) < x + (p.W : Int) ∧ y ≤ (d : Int) ∧ (d : Int) < y + ((j : Nat) : Int)
      · rw [if_pos h, if_pos (hc2.1 h)]
      · rw [if_neg h, if_neg (fun h' => h (hc2.2 h'))]
  · rw [if_neg (by
      intro ⟨h1, h2⟩
      omega)]
    rw [List.getElem?_eq_none (by rw [hL]; omega), List.getElem?_eq_none (by rw [hL']; omega)]
/-- A row that shows nothing. -/
theorem paste_skip (m p : Img) (x y : Int) (j : Nat) (h : (m.W : Int) ≤ x ∨ x + (p.W : Int) ≤ 0) : listI (pasteI m x y ⟨p.W, j, p.px⟩) = listI (pasteI m x y ⟨p.W, j + 1, p.px⟩) := by
  refine SameI.list ⟨rfl, rfl, fun a b ha hb => ?_⟩
  show (if x ≤ (a : Int) ∧ (a : Int) < x + (p.W : Int) ∧ y ≤ (b : Int) ∧ (b : Int) < y + ((j : Nat) : Int) then p.px ((a : Int) - x) ((b : Int) - y) else m.px a b) = (if x ≤ (a : Int) ∧ (a : Int) < x + (p.W : Int) ∧ y ≤ (b : Int) ∧ (b : Int) < y + ((j + 1 : Nat) : Int) then p.px ((a : Int) - x) ((b : Int) - y) else m.px a b)
  have ha' : a < m.W := ha
  rw [if_neg (by omega), if_neg (by omega)]
theorem paste_none (m p : Img) (x y : Int) (j : Nat) (h : j = 0 ∨ y + j ≤ 0) : listI (pasteI m x y ⟨p.W, j, p.px⟩) = listI m := by
  refine SameI.list ⟨rfl, rfl, fun a b ha hb => ?_⟩
  show (if x ≤ (a : Int) ∧ (a : Int) < x + (p.W : Int) ∧ y ≤ (b : Int) ∧ (b : Int) < y + ((j : Nat) : Int) then p.px ((a : Int) - x) ((b : Int) - y) else m.px a b) = _
  rw [if_neg (by omega)]
theorem paste_all (m p : Img) (x y : Int) (j : Nat) (h : p.H ≤ j ∨ (m.H : Int) ≤ y + j) (hj : j ≤ p.H) : listI (pasteI m x y ⟨p.W, j, p.px⟩) = listI (pasteI m x y p) := by
  refine SameI.list ⟨rfl, rfl, fun a b ha hb => ?_⟩
  have hb' : b < m.H := hb
  show (if x ≤ (a : Int) ∧ (a : Int) < x + (p.W : Int) ∧ y ≤ (b : Int) ∧ (b : Int) < y + ((j : Nat) : Int) then p.px ((a : Int) - x) ((b : Int) - y) else m.px a b) = (if x ≤ (a : Int) ∧ (a : Int) < x + (p.W : Int) ∧ y ≤ (b : Int) ∧ (b : Int) < y + (p.H : Int) then p.px ((a : Int) - x) ((b : Int) - y) else m.px a b)
  by_cases h1 : x ≤ (a : Int) ∧ (a : Int) < x + (p.W : Int) ∧ y ≤ (b : Int) ∧ (b : Int) < y + ((j : Nat) : Int)
  · rw [if_pos h1, if_pos ⟨h1.1, h1.2.1, h1.2.2.1, by omega⟩]
  · rw [if_neg h1, if_neg (fun h2 => h1 ⟨h2.1, h2.2.1, h2.2.2.1, by omega⟩)]
theorem paste_end (m p : Img) (x y : Int) (j j0 : Nat) (hj0 : (j0 : Int) = max 0 (-y)) (h : p.H ≤ j ∨ (m.H : Int) ≤ y + j) (hj : j ≤ p.H ∨ j = j0) : listI (pasteI m x y ⟨p.W, j, p.px⟩) = listI (pasteI m x y p) := by
  by_cases hl : j ≤ p.H
  · exact paste_all m p x y j h hl
  · have e1 := paste_none m p x y j (.inr (by omega))
    have e2 := paste_none m p x y p.H (.inr (by omega))
    rw [e1]
    exact e2.symm
def u8s (xs : List Int) : List Value := xs.map fun x => .int .u8 x
theorem u8s_flat (xs : List Int) : xs.flatMap encPx = u8s xs := by
  induction xs with
  | nil => rfl
  | cons x xs ih => simp only [List.flatMap_cons, ih]; rfl
/-- A row of the call's own with what lies behind it. -/
structure RowX (w : World) (base g cap : Nat) (xs : List Int) (rest : List Value) : Prop where
  hp : w.heap[g]? = some (.cells (u8s xs ++ rest).toArray 5 (0, 0))
  ln : xs.length + rest.length = cap
  mx : cap ≤ maxLen
  bs : base ≤ g
theorem RowX.own {w : World} {base g cap : Nat} {xs : List Int} {rest : List Value} (h : RowX w base g cap xs rest) : OwnPx w base (.slice (some ⟨g, 0, none⟩) xs.length cap) xs := by
  have h1 := h.ln
  refine ⟨by rw [u8s_flat]; simp [u8s], .inr ⟨g, cap, _, rfl, h.bs, h.hp, by omega, h.mx, ?_, ?_⟩⟩
  · simp [u8s]; omega
  · rw [u8s_flat]
    have e : xs.length * 1 = (u8s xs).length := by simp [u8s]
    rw [e]
    simp
theorem OwnPx.rowX {w : World} {base : Nat} {o : Option Addr} {n cap : Nat} {xs : List Int} (h : OwnPx w base (.slice o n cap) xs) (hx : 0 < xs.length) : n = xs.length ∧ ∃ g rest, o = some ⟨g, 0, none⟩ ∧ RowX w base g cap xs rest := by
  rcases h.2 with ⟨-, hn⟩ | ⟨g, cap', cur, e, hbg, hhp, h1, h2, h3, h4⟩
  · have : xs.length = 0 := hn
    omega
  · simp only [Value.slice.injEq] at e
    obtain ⟨rfl, hn, rfl⟩ := e
    rw [u8s_flat] at h4
    have h4' : cur.toList.take xs.length = u8s xs := by rw [← h4]; simp
    refine ⟨hn, g, cur.toList.drop xs.length, rfl, ⟨?_, ?_, h2, hbg⟩⟩
    · rw [hhp, ← h4', List.take_append_drop]
    · have : cur.toList.length = cap := by simpa using h3
      rw [List.length_drop, this]
      omega
theorem RowX.splice {w w' : World} {base g cap off : Nat} {xs cs : List Int} {rest : List Value} (h : RowX w base g cap xs rest) (hf : off + cs.length ≤ xs.length)
    (hg : w'.heap[g]? = some (.cells (Go.splice (u8s xs ++ rest) off (u8s cs)).toArray 5 (0, 0))) : RowX w' base g cap (Go.splice xs off cs) rest := by
  refine ⟨?_, by rw [length_splice _ _ _ hf]; exact h.ln, h.mx, h.bs⟩
  rw [hg]
  congr 3
  have hl : (u8s cs).length = cs.length := by simp [u8s]
  have hl2 : (u8s xs).length = xs.length := by simp [u8s]
  unfold Go.splice
  rw [hl, List.take_append_of_le_length (by omega), List.drop_append_of_le_length (by omega)]
  simp [u8s, List.map_take, List.map_drop]
/-- A copy as a step of a region that draws, with all else kept. -/
theorem step_copyX {P : Program} {ops : Array Oper} {o : Oper} {a : Act} {w : World} {K : Act → World → Prop} {Q : Exit → Act → World → Prop} {E : Prop} (hgd : o.guard = none) (d s : Operand) (dT sT : TypeId)
    (ho : o.op = .call { callee := .builtin .copy, args := #[d, s], argTypes := #[dT, sT] }) (elem : TypeId) (hu : P.underlying dT = some (.slice elem)) (hsz : (P.info? elem).map (·.size) = some 1)
    (ad : Addr) (dLen dCap sLen sCap g off : Nat) (hd : a.eval d = .slice (some ⟨g, off, none⟩) dLen dCap) (hs : a.eval s = .slice (some ad) sLen sCap)
    (cur : List Value) (t : TypeId) (hg : w.heap[g]? = some (.cells cur.toArray t (0, 0))) (cs : List Value) (hn : cs.length = Nat.min sLen dLen)
    (hsrc : ∀ j v, cs[j]? = some v → w.cell? (ad.add j) = some v) (hfit : off + cs.length ≤ cur.length) (h1 : ∀ v ∈ cs, v.oneCell' = true)
    (h : ∀ w', RowKit.Hid (w'.heap[g]? = some (.cells (Go.splice cur off cs).toArray t (0, 0))) → Below g w w' → (∀ k, k ≠ g → w'.heap[k]? = w.heap[k]?) → K (a.put o.dst (goInt cs.length)) w') :
    if Region.wanted o (yielded ops a.tmps) = true then Oper.wp P o a w K Q else E := by
  have hw : Region.wanted o (yielded ops a.tmps) = true := by simp [Region.wanted, hgd]
  rw [if_pos hw]
  have hrun := run_copy_row (P := P) w dT sT o.type elem g off dLen dCap ad sLen sCap cur.toArray t cs hu hsz hg hn hsrc (by simpa using hfit) h1
  unfold Oper.wp
  simp [execOp, ho, resolve, invoke, builtin, hd, hs, hrun, Result.andThen]
  exact h _ (show _ = _ by simpa [Go.splice] using setRow_heap w g _ _ t _ hg) ((Below.refl g w).trans ⟨rfl, rfl, rfl, by simp [World.setRow], fun k hk => setRow_other w g k _ (by omega)⟩) (fun k hk => setRow_other w g k _ hk)
end Go.Proofs.Ytdblibjmgamjeaa
