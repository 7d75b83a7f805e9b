/-
  The best order without its first job: plain, and rows in memory that grow side by side. Own text.
-/
import Derived.Test.YtjggcnpnjnmamaaWashes
import Derived.Test.YtjggcnpnjnmamaaDelI
import Derived.Maps.AppendAt
namespace Go.Proofs.Ytjggcnpnjnmamaa
open Go.RowKit
set_option linter.unusedVariables false
theorem GoodWash.err {F : List Int} {R : List (List Int)} {n : Nat} (h : GoodWash F R n) (hn : 1 ≤ n) : washErr F R = 0 := by
  have h12 := h.g.n12
  unfold washErr
  rw [if_neg (by rw [h.fl]; omega), if_neg (by rw [h.fl, h.wl]; omega), h.fl]
  refine rowsErr_ok (fun q hq => ?_)
  cases q with
  | zero =>
    refine rowErr_ok (by simp only [List.getElem_cons_zero]; rw [h.fl]; omega) (fun j hj _ => decide_eq_true ?_)
    simp only [List.getElem_cons_zero] at hj ⊢
    rw [at0_eq hj]
    exact h.f j
  | succ q =>
    have hq' : q < R.length := by simpa using hq
    refine rowErr_ok (by simp only [List.getElem_cons_succ]; rw [h.g.len q hq']; omega) (fun j hj _ => decide_eq_true ?_)
    simp only [List.getElem_cons_succ] at hj ⊢
    exact h.g.bd q hq' j hj
theorem firV_mem {first : List Int} {x : Int} (h : x ∈ firV first) : 0 ≤ x ∧ x ≤ 1000 := by
  unfold firV at h
  split at h
  · simp only [List.mem_singleton] at h
    omega
  · obtain ⟨y, _, hy⟩ := List.mem_map.1 h
    have := fw_bd y
    omega
theorem washes_good (first : List Int) (W : List (List Int)) {n : Nat} (hn : n = (firV first).length) (h1 : 1 ≤ n) (h7 : n ≤ 7) : GoodWash (firV first) (tabF n n (cellV W)) n := by
  refine ⟨(tabF_good h1 (Nat.le_refl _) (by omega) (fun i j hi hj => ?_)).1, tabF_length _ _ _, hn.symm, fun j => ?_⟩
  · have := cellV_bd (W := W) (i := i) (k := j) (by omega) (by omega)
    omega
  · by_cases hj : j < (firV first).length
    · have hb := firV_mem (List.getElem_mem hj)
      rw [at0_eq hj] at hb
      omega
    · unfold at0
      rw [List.getD_eq_getElem?_getD, List.getElem?_eq_none (by omega)]
      simp
theorem tail_head (F : List Int) (R : List (List Int)) {n1 : Nat} (hG : GoodWash F R (n1 + 1)) : ∃ a : Nat, a ≤ n1 ∧ wsh F R (n1 + 1) (n1 + 1) (bits 0) (-1) = (at0 F a + (wsh F R (n1 + 1) n1 (useC (bits 0) a) a).1, (a : Int) :: (wsh F R (n1 + 1) n1 (useC (bits 0) a) a).2) := by
  have hs := stpTo_spec (used := bits 0) (c := cst F R (-1)) (r := fun j => wsh F R (n1 + 1) n1 (useC (bits 0) j) j) (x := fun j => cst F R (-1) j + (wsh F R (n1 + 1) n1 (useC (bits 0) j) j).1) (q := n1 + 1) (fun _ _ _ => rfl) (fun j hj hu => by
    have h1 := cst_bd hG.f hG.g.c (-1) j
    have hfu := freeN_use hu hj
    have hfz : freeN (bits 0) (n1 + 1) = n1 + 1 := freeN_zero
    have h2 := wsh_bd (first := F) (W := R) (n := n1 + 1) hG.f hG.g.c (d := n1) (used := useC (bits 0) j) (last := (j : Int)) (by omega)
    show 0 ≤ cst F R (-1) j + (wsh F R (n1 + 1) n1 (useC (bits 0) j) j).1
    omega)
  rcases hs with ⟨_, _, hall⟩ | ⟨a, ha, _, _, he⟩
  · have := hall 0 (by omega)
    simp [bits] at this
  · refine ⟨a, by omega, ?_⟩
    have e : wsh F R (n1 + 1) (n1 + 1) (bits 0) (-1) = wshTo (bits 0) (cst F R (-1)) (fun j => wsh F R (n1 + 1) n1 (useC (bits 0) j) j) (n1 + 1) := rfl
    rw [e, he]
    have e2 : cst F R (-1) a = at0 F a := by unfold cst; rw [if_pos (by decide)]
    rw [e2]
/-- The costs without job a. -/
def tF (R : List (List Int)) (a q : Nat) : Int := cOf R (a + 1) (skp a q + 1)
def tR (R : List (List Int)) (a p q : Nat) : Int := cOf R (skp a p + 1) (skp a q + 1)
theorem tail_good {F : List Int} {R : List (List Int)} {n1 a : Nat} (hG : GoodWash F R (n1 + 1)) (h1 : 1 ≤ n1) : GoodWash (lst n1 (tF R a)) (tabF n1 n1 (tR R a)) n1 := by
  have h12 := hG.g.n12
  refine ⟨(tabF_good h1 (Nat.le_refl _) (by omega) (fun i j _ _ => hG.g.c _ _)).1, tabF_length _ _ _, lst_length _ _, fun j => ?_⟩
  by_cases hj : j < n1
  · rw [at0_lst _ hj]
    exact hG.g.c _ _
  · unfold at0
    rw [List.getD_eq_getElem?_getD, List.getElem?_eq_none (by rw [lst_length]; omega)]
    simp
theorem tail_eq {F : List Int} {R : List (List Int)} {n1 a : Nat} (ha : a ≤ n1) :
    wsh F R (n1 + 1) n1 (useC (bits 0) a) a = ((wsh (lst n1 (tF R a)) (tabF n1 n1 (tR R a)) n1 n1 (bits 0) (-1)).1, (wsh (lst n1 (tF R a)) (tabF n1 n1 (tR R a)) n1 n1 (bits 0) (-1)).2.map (skI a)) :=
  wsh_skip ha ⟨fun j hj => at0_lst _ hj, fun i j hi hj => tabF_c hi hj⟩ n1 (useC (bits 0) a) (bits 0) a (-1) (by unfold useC; rw [if_pos rfl]) (fun j => by unfold useC; rw [if_neg skp_ne]; simp [bits]) (.inl ⟨rfl, rfl⟩)
/-- How many of the first i jobs are not a. -/
def cntA (a i : Nat) : Nat := if i ≤ a then i else i - 1
theorem cntA_next {a i : Nat} (h : i ≠ a) : cntA a (i + 1) = cntA a i + 1 ∧ skp a (cntA a i) = i := by
  unfold cntA skp
  by_cases e : i < a
  · rw [if_pos (by omega), if_pos (by omega), if_pos e]; exact ⟨rfl, rfl⟩
  · rw [if_neg (by omega), if_neg (by omega), if_neg (by omega)]; omega
theorem cntA_self {a : Nat} : cntA a (a + 1) = cntA a a := by
  unfold cntA
  rw [if_neg (by omega), if_pos (by omega)]
  omega
/-! ### Two rows that grow -/
theorem Own.keep {α : Type} {w w' : World} {base k : Nat} {e : TypeId} {enc : α → List Value} {v : Value} {xs : List α} {row : Option Nat} (h : Own w base e k enc v xs) (hg : w.grownBy w' row) (hne : ∀ j, v.ownBlock = some j → row ≠ some j) : Own w' base e k enc v xs := by
  refine ⟨h.1, ?_⟩
  rcases h.2 with hn | ⟨g', cap, cur, rfl, hbg, hg', rest⟩
  · exact .inl hn
  · refine .inr ⟨g', cap, cur, rfl, hbg, ?_, rest⟩
    rw [hg.block g' (Array.getElem?_eq_some_iff.1 hg').1 (fun e => hne g' rfl e.symm)]
    exact hg'
/-- The headers' rows are not v's. -/
def SepC (v : Value) (vs : List Value) : Prop := ∀ i (hi : i < vs.length) g n c, vs[i] = .slice (some ⟨g, 0, none⟩) n c → v.ownBlock ≠ some g
theorem Clones.grownS {w w' : World} {m k : Nat} {f : Nat → Nat → Int} {vs : List Value} {v : Value} (h : Clones w m k f vs) (hs : SepC v vs) (hg : w.grownBy w' v.ownBlock) : Clones w' m k f vs :=
  ⟨h.1, fun i hi => by
    obtain ⟨g, c, e1, ht, hl⟩ := h.2 i hi
    exact ⟨g, c, e1, ht.sameBlock (hg.block g hl (fun e => hs i hi g _ c e1 e.symm)), Nat.lt_of_lt_of_le hl hg.size⟩⟩
theorem SepC.at' {w : World} {m k sz : Nat} {f : Nat → Nat → Int} {vs : List Value} {v v' : Value} (hs : SepC v vs) (h : Clones w m k f vs) (hz : w.heap.size ≤ sz) (hat : v'.ownBlock = v.ownBlock ∨ v'.ownBlock = some sz) : SepC v' vs := by
  intro i hi g n c e1 e2
  rcases hat with e | e
  · rw [e] at e2; exact hs i hi g n c e1 e2
  · obtain ⟨g', c', e3, _, hl⟩ := h.2 i hi
    rw [e3] at e1
    cases e1
    rw [e] at e2
    cases e2
    omega
theorem SepC.snoc {vs : List Value} {v : Value} {g0 n0 c0 : Nat} (hs : SepC v vs) (h : v.ownBlock ≠ some g0) : SepC v (vs ++ [.slice (some ⟨g0, 0, none⟩) n0 c0]) := by
  intro i hi g n c e1
  by_cases e : i < vs.length
  · rw [List.getElem_append_left e] at e1
    exact hs i e g n c e1
  · rw [List.getElem_append_right (by omega)] at e1
    simp at e1
    rw [← e1.1]
    exact h
theorem wpList_appAt {α : Type} {P : Program} {w : World} {ops : Array Oper} {rest : List Oper} {o : Oper} {a : Act} {Q : Exit → Act → World → Prop} (hgd : o.guard = none) (s x : Operand) (t : TypeId)
    (ho : o.op = .call { callee := .builtin .append, args := #[s, x], argTypes := #[t, t] })
    {e : TypeId} {z : Value} {size bytes : Nat} (hE : ElemType P e z size bytes) (ht : P.underlying t = some (.slice e))
    (base : Nat) (v : Value) (xs : List α) (enc : α → List Value) (hs : a.eval s = v) (hown : Own w base e size enc v xs) (y : α)
    (ad : Addr) (c : Nat) (hx : a.eval x = .slice (some ad) 1 c) (hl : (enc y).length = size) (hnews : ∀ j u, (enc y)[j]? = some u → w.cell? (ad.add j) = some u) (h1 : ∀ u ∈ enc y, u.oneCell' = true)
    (hbytes : (xs.length + 1) * bytes ≤ 140737488355328) (h63 : xs.length + 1 ≤ maxLen) (hbase : base ≤ w.heap.size)
    (h : ∀ v' w', Own w' base e size enc v' (xs ++ [y]) → w.grownBy w' v.ownBlock → (v'.ownBlock = v.ownBlock ∨ v'.ownBlock = some w.heap.size) → wpList P ops Q rest (a.put o.dst v') w') : wpList P ops Q (o :: rest) a w := by
  obtain ⟨i, hi, hz, hsz, hby, hzs, h0⟩ := hE
  refine wpList_append_own_at w hgd s x t ho base e i z size bytes ht hi hz hsz hby hzs h0 v xs.length (xs.flatMap enc) hs hown ad 1 c (enc y) hx (by rw [hl, Nat.one_mul]) hnews h1 h63 hbytes hbase ?_
  intro v' w' hown' hg _ hat
  refine h v' w' ?_ hg hat
  unfold Own
  rw [List.length_append, List.flatMap_append]
  simpa using hown'
/-- What a clone is. -/
theorem Arr.info {w : World} {base g cap : Nat} {e : TypeId} {xs : List Int} (h : Arr w base e (Value.int .i64) g cap xs) (h0 : 0 < xs.length) : xs.length ≤ cap ∧ cap ≤ 9223372036854775807 ∧ base ≤ g ∧ g < w.heap.size ∧ FTab (Value.int .i64) w g xs.length (fun i => at0 xs i) := by
  have hc : ∀ i (hi : i < xs.length), w.cell? ⟨g, i, none⟩ = some (.int .i64 xs[i]) := fun i hi => h.cell hi
  have hf : ∀ o, w.frozen? ⟨g, o, none⟩ = false := fun o => h.frozen o
  have h1 : Own w base e 1 encInt (.slice (some ⟨g, 0, none⟩) xs.length cap) xs := h
  rcases h1.2 with ⟨ev, hn⟩ | ⟨g', cap', cur, ev, hbg, hg, hn, hm, _⟩
  · cases ev
  · cases ev
    exact ⟨hn, by unfold maxLen at hm; omega, hbg, (Array.getElem?_eq_some_iff.1 hg).1, fun i hi => by rw [hc i hi, at0_eq], hf⟩
theorem delete_a (g n cap a a1 : Nat) (t : Nat → Int) (w : World) (h : FTab (Value.int .i64) w g n t) (hcap : n ≤ cap) (hm : cap ≤ 9223372036854775807) (ha : a < n) (ha1 : a1 = a + 1) :
    Calls Try.prog 36 #[.slice (some ⟨g, 0, none⟩) n cap, .int .i64 a, .int .i64 a1] w fun e w' => e = .returned (.slice (some ⟨g, 0, none⟩) (n - 1) cap) ∧ Below g w w' ∧ FTab (Value.int .i64) w' g (n - 1) (fun i => t (skp a i)) := by
  subst ha1
  exact delete_one g n cap a t w h hcap hm ha
end Go.Proofs.Ytjggcnpnjnmamaa
