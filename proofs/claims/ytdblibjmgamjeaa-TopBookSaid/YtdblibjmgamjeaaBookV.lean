/-
  TopBook, plain: the pages that are read are the pages of the book, in order. Own text.
-/
import Derived.Test.YtdblibjmgamjeaaBookP
import Derived.Test.YtdblibjmgamjeaaBRead
import Derived.Test.YtdblibjmgamjeaaDots
namespace Go.Proofs.Ytdblibjmgamjeaa
open Go.RowKit
set_option linter.unusedVariables false
/-- What lies in a flattened row of rows of one length. -/
theorem flat_at {α : Type} (p : Nat) : ∀ (L : List (List α)), (∀ s ∈ L, s.length = p) → L.flatten.length = L.length * p ∧ ∀ k j (hk : k < L.length), j < p → L.flatten[k * p + j]? = L[k][j]?
  | [], _ => ⟨by simp, fun k j hk => by simp at hk⟩
  | s :: L, h => by
    obtain ⟨h1, h2⟩ := flat_at p L (fun s hs => h s (List.mem_cons_of_mem _ hs))
    have hs := h s (List.mem_cons_self ..)
    refine ⟨by rw [List.flatten_cons, List.length_append, h1, hs, List.length_cons, Nat.succ_mul, Nat.add_comm], fun k j hk hj => ?_⟩
    rw [List.flatten_cons]
    match k, hk with
    | 0, _ => rw [Nat.zero_mul, Nat.zero_add, List.getElem?_append_left (by omega)]; rfl
    | k + 1, hk =>
      have e : (k + 1) * p + j = p + (k * p + j) := by rw [Nat.succ_mul]; omega
      rw [e, List.getElem?_append_right (by omega), hs, Nat.add_sub_cancel_left, h2 k j (by simpa using hk) hj]
      rfl
/-- The places of section k. -/
def plcV (per k : Nat) : List Int := (List.range per).map fun (j : Nat) => ((k * per + j : Nat) : Int)
def plcsV (per many : Nat) : List (List Int) := (List.range many).map (plcV per)
theorem plc_len (per k : Nat) : (plcV per k).length = per := by simp [plcV]
theorem plc_at (per k : Nat) {j : Nat} (hj : j < per) : (plcV per k)[j]? = some ((k * per + j : Nat) : Int) := by
  unfold plcV
  rw [List.getElem?_map, List.getElem?_range hj]; rfl
theorem plcs_sec {per many k : Nat} (hk : k < many) : secAt (plcsV per many) k = plcV per k := by
  unfold secAt plcsV
  rw [List.getD_eq_getElem?_getD, List.getElem?_map, List.getElem?_range hk]; rfl
theorem addV_at (pg fr : Int) {n j : Nat} (hj : j < n) : (addV pg fr n)[j]? = some (if fr + (j : Int) ≤ pg then fr + (j : Int) else 0) := by
  unfold addV
  rw [List.getElem?_map, List.getElem?_range hj]; rfl
theorem secV_len (pg : Int) (per many : Nat) (nest : Bool) (k : Nat) (h : nest = true → per % 2 = 0) : (secV pg per many nest k).length = per := by
  unfold secV
  cases nest with
  | true => have := h rfl; rw [if_pos rfl, List.length_append, addV_len, addV_len]; omega
  | false => rw [if_neg (by decide), addV_len]
theorem addV_bd (pg fr : Int) (n : Nat) (h : pg ≤ 1000) (hf : 0 ≤ fr) : ∀ p ∈ addV pg fr n, 0 ≤ p ∧ p ≤ 1000 := fun p hp => by
  unfold addV at hp
  obtain ⟨i, -, rfl⟩ := List.mem_map.1 hp
  split <;> omega
theorem secV_bd (pg : Int) (per many : Nat) (nest : Bool) (k : Nat) (h : pg ≤ 1000) (hk : k < many) : ∀ p ∈ secV pg per many nest k, 0 ≤ p ∧ p ≤ 1000 := fun p hp => by
  unfold secV at hp
  cases nest with
  | false =>
    rw [if_neg (by decide)] at hp
    exact addV_bd _ _ _ h (by omega) p hp
  | true =>
    rw [if_pos rfl] at hp
    rcases List.mem_append.1 hp with hp | hp
    · exact addV_bd _ _ _ h (by omega) p hp
    · refine addV_bd _ _ _ h ?_ p hp
      have h1 : (k + 1) * (per / 2) ≤ many * per := Nat.mul_le_mul hk (Nat.div_le_self _ _)
      omega
/-- The page behind number i of the read pages. -/
def pgAt (pages i : Nat) : Int := if i < pages then (i : Int) + 1 else 0
theorem if_page (pages i : Nat) (fr : Int) (j : Nat) (h : fr + (j : Int) = (i : Int) + 1) : (if fr + (j : Int) ≤ (pages : Int) then fr + (j : Int) else 0) = pgAt pages i := by
  unfold pgAt
  by_cases hc : i < pages
  · rw [if_pos (by omega), if_pos hc, h]
  · rw [if_neg (by omega), if_neg hc]
theorem map_cut {per many : Nat} (f : List Int → List Int) (ks : List Nat) (hk : ∀ k ∈ ks, k < many) : ks.map (fun k => f (secAt (plcsV per many) k)) = ks.map fun k => f (plcV per k) :=
  List.map_congr_left fun k h => by rw [plcs_sec (hk k h)]
/-- Number i that is read is the place of page i. -/
theorem read_law (pages per many : Nat) (nest : Bool) (hp : 2 ≤ per) (h2 : per % 2 = 0) :
    (readV nest (plcsV per many) (List.range many)).length = many * per ∧
    ∀ i, i < many * per → ∃ n, n < many * per ∧ (readV nest (plcsV per many) (List.range many))[i]? = some ((n : Nat) : Int) ∧ ((List.range many).map (secV (pages : Int) per many nest)).flatten[n]? = some (pgAt pages i) := by
  have hflat := flat_at per ((List.range many).map (secV (pages : Int) per many nest)) (fun s hs => by
    obtain ⟨k, -, rfl⟩ := List.mem_map.1 hs
    exact secV_len _ _ _ _ _ fun _ => h2)
  simp only [List.length_map, List.length_range, List.getElem_map, List.getElem_range] at hflat
  have hmem : ∀ k ∈ List.range many, k < many := fun k hk => List.mem_range.1 hk
  have hdm : ∀ i q : Nat, 0 < q → i / q * q + i % q = i := fun i q hq => by rw [Nat.mul_comm]; exact Nat.div_add_mod i q
  cases nest with
  | false =>
    have hst : stackV (plcsV per many) (List.range many) = ((List.range many).map (plcV per)).flatten := by
      unfold stackV
      rw [map_cut (fun s => s) _ hmem]
    have hr := flat_at per ((List.range many).map (plcV per)) (fun s hs => by
      obtain ⟨k, -, rfl⟩ := List.mem_map.1 hs
      exact plc_len _ _)
    simp only [List.length_map, List.length_range, List.getElem_map, List.getElem_range] at hr
    show (stackV _ _).length = _ ∧ ∀ i, i < many * per → ∃ n, n < many * per ∧ (stackV _ _)[i]? = _ ∧ _
    rw [hst]
    refine ⟨hr.1, fun i hi => ⟨i, hi, ?_⟩⟩
    have hk : i / per < many := (Nat.div_lt_iff_lt_mul (by omega)).2 hi
    have hj : i % per < per := Nat.mod_lt _ (by omega)
    have e := hdm i per (by omega)
    have r1 := hr.2 _ _ hk hj
    have r2 := hflat.2 _ _ hk hj
    rw [plc_at _ _ hj, e] at r1
    rw [e] at r2
    refine ⟨r1, r2.trans ?_⟩
    show (addV _ _ _)[_]? = _
    rw [addV_at _ _ hj]
    congr 1
    refine if_page _ _ _ _ ?_
    have : ((i / per * per : Nat) : Int) + ((i % per : Nat) : Int) = (i : Int) := by exact_mod_cast e
    omega
  | true =>
    obtain ⟨half, hhf⟩ : ∃ h, h = per / 2 := ⟨_, rfl⟩
    have hper : per = half + half := by omega
    have hh0 : 0 < half := by omega
    have ht1 : headsV (plcsV per many) (List.range many) = ((List.range many).map fun k => (plcV per k).take half).flatten := by
      unfold headsV
      rw [map_cut (fun s => s.take (s.length / 2)) _ hmem]
      simp only [plc_len, hhf]
    have ht2 : tailsV (plcsV per many) (List.range many) = ((List.range many).reverse.map fun k => (plcV per k).drop half).flatten := by
      unfold tailsV
      rw [map_cut (fun s => s.drop (s.length / 2)) _ (fun k hk => hmem k (List.mem_reverse.1 hk))]
      simp only [plc_len, hhf]
    have r1 := flat_at half ((List.range many).map fun k => (plcV per k).take half) (fun s hs => by
      obtain ⟨k, -, rfl⟩ := List.mem_map.1 hs
      rw [List.length_take, plc_len]; omega)
    have r2 := flat_at half ((List.range many).reverse.map fun k => (plcV per k).drop half) (fun s hs => by
      obtain ⟨k, -, rfl⟩ := List.mem_map.1 hs
      rw [List.length_drop, plc_len]; omega)
    rw [← ht1] at r1
    rw [← ht2] at r2
    simp only [List.length_map, List.length_range, List.length_reverse, List.getElem_map, List.getElem_range, List.getElem_reverse] at r1 r2
    have hmp : many * per = many * half + many * half := by rw [hper, Nat.mul_add]
    show (headsV _ _ ++ tailsV _ _).length = _ ∧ ∀ i, i < many * per → ∃ n, n < many * per ∧ (headsV _ _ ++ tailsV _ _)[i]? = _ ∧ _
    refine ⟨by rw [List.length_append, r1.1, r2.1, hmp], fun i hi => ?_⟩
    by_cases hc : i < many * half
    · have hk : i / half < many := (Nat.div_lt_iff_lt_mul hh0).2 hc
      have hj : i % half < half := Nat.mod_lt _ hh0
      have e := hdm i half hh0
      have q1 := r1.2 _ _ hk hj
      rw [e, List.getElem?_take, if_pos hj, plc_at _ _ (by omega)] at q1
      have q2 := hflat.2 (i / half) (i % half) hk (by omega)
      have hlt : i / half * per + i % half < many * per := by
        have h := Nat.mul_le_mul_right per (Nat.succ_le_of_lt hk)
        rw [Nat.succ_mul] at h
        omega
      refine ⟨_, hlt, by rw [List.getElem?_append_left (by rw [r1.1]; exact hc), q1], q2.trans ?_⟩
      show (addV _ _ _ ++ addV _ _ _)[_]? = _
      rw [← hhf, List.getElem?_append_left (by rw [addV_len]; exact hj), addV_at _ _ hj]
      congr 1
      refine if_page _ _ _ _ ?_
      have : ((i / half * half : Nat) : Int) + ((i % half : Nat) : Int) = (i : Int) := by exact_mod_cast e
      omega
    · obtain ⟨i', hi'⟩ : ∃ i', i = many * half + i' := ⟨i - many * half, by omega⟩
      subst hi'
      have hi2 : i' < many * half := by omega
      have hk : i' / half < many := (Nat.div_lt_iff_lt_mul hh0).2 hi2
      have hj : i' % half < half := Nat.mod_lt _ hh0
      have e := hdm i' half hh0
      have q1 := r2.2 _ _ hk hj
      obtain ⟨k, hkk⟩ : ∃ k, k = many - 1 - i' / half := ⟨_, rfl⟩
      have hkm : k < many := by rw [hkk]; exact Nat.lt_of_le_of_lt (Nat.sub_le _ _) (Nat.sub_lt (Nat.lt_of_le_of_lt (Nat.zero_le _) hk) Nat.one_pos)
      rw [e, ← hkk, List.getElem?_drop, plc_at _ _ (by omega)] at q1
      have q2 := hflat.2 k (half + i' % half) hkm (by omega)
      have hlt : k * per + (half + i' % half) < many * per := by
        have h := Nat.mul_le_mul_right per (Nat.succ_le_of_lt hkm)
        rw [Nat.succ_mul] at h
        omega
      refine ⟨_, hlt, by rw [List.getElem?_append_right (by rw [r1.1]; omega), r1.1, Nat.add_sub_cancel_left, q1], q2.trans ?_⟩
      show (addV _ _ _ ++ addV _ _ _)[_]? = _
      rw [← hhf, List.getElem?_append_right (by rw [addV_len]; omega), addV_len, Nat.add_sub_cancel_left, addV_at _ _ hj]
      congr 1
      refine if_page _ _ _ _ ?_
      have e5 : i' / half + 1 + k = many := by
        obtain ⟨d, hd⟩ : ∃ d, d = i' / half := ⟨_, rfl⟩
        rw [← hd] at hkk hk ⊢
        omega
      have e3 : (i' / half + 1 + k) * half = many * half := by rw [e5]
      rw [Nat.add_mul, Nat.add_mul, Nat.one_mul] at e3
      have e4 : (k + 1) * half = k * half + half := Nat.succ_mul _ _
      rw [hmp, e4]
      omega
/-- A page's image. -/
def pageI (aN bN : Nat) (p : Int) : Img := if p = 0 then fillI aN bN 0 else dotsI aN bN p
theorem page_size (aN bN : Nat) (p : Int) : (pageI aN bN p).W = aN ∧ (pageI aN bN p).H = bN := by
  unfold pageI
  split <;> exact ⟨rfl, rfl⟩
/-- Images that show the same are the same row in memory. -/
theorem RowsV.same {w : World} {oa : Option Addr} {us : List RawP} {gs hs : List Img} (h : RowsV encRp blkP RelP 3 w oa us gs) (hl : hs.length = gs.length) (hsm : ∀ i (h1 : i < gs.length) (h2 : i < hs.length), SameI hs[i] gs[i]) : RowsV encRp blkP RelP 3 w oa us hs := by
  refine ⟨h.flat, by rw [h.len, hl], fun i h1 h2 => ?_, h.lt⟩
  obtain ⟨a1, a2, a3, a4, a5⟩ := h.row i h1 (by omega)
  have s := hsm i (by omega) h2
  have e := s.list
  exact ⟨by rw [a1, s.1], by rw [a2, s.2.1], by rw [a3, e], by rw [e]; exact a4, by rw [e]; exact a5⟩
/-- The leaves' sizes. -/
theorem leaf_sized {l : Lay} {x : Sht} (hx : Good l x) (F B : Img) : ∀ s ∈ leafRow l F B (pagesV l.sc x) (leavesV l.sc), (Sized s.1 ∧ Sized s.2) ∧ (s.1.W : Int) = l.w + l.fore + l.spine ∧ (s.1.H : Int) = l.h + 2 * l.head ∧ (s.2.W : Int) = l.w + l.fore + l.spine ∧ (s.2.H : Int) = l.h + 2 * l.head := fun s hs => by
  have hpl := hx.f.plen
  obtain ⟨i, hi, rfl⟩ := List.mem_map.1 hs
  have hi' : i < leavesV l.sc := List.mem_range.1 hi
  have hgd : ∀ k, (h : k < (pagesV l.sc x).length) → (pagesV l.sc x).getD k pg0 = (pagesV l.sc x)[k] := fun k h => by
    rw [List.getD_eq_getElem?_getD, List.getElem?_eq_getElem h]; rfl
  unfold leafAt
  dsimp only
  rw [hgd (i + i) (by omega), hgd (i + i + 1) (by omega)]
  have p1 := hx.f.pgin (i := i + i) (by omega)
  have p2 := hx.f.pgin (i := i + i + 1) (by omega)
  have f1 := face_sized hx F B (pagesV l.sc x)[i + i]
  have f2 := face_sized hx F B (pagesV l.sc x)[i + i + 1]
  have e1 := f1.2 p1.t p1.par
  have e2 := f2.2 p2.t p2.par
  exact ⟨⟨f1.1, f2.1⟩, e1.1, e1.2, e2.1, e2.2⟩
/-- The trimmed pages of a section are its pages. -/
theorem sect_law {l : Lay} {x : Sht} (hx : Good l x) {gs : List Img} (hW : ∀ g ∈ gs, (g.W : Int) = l.w) (hH : ∀ g ∈ gs, (g.H : Int) = l.h) (hn : gs.length = (pagesV l.sc x).length) (F B D1 D2 : Img)
    (hFB : ∀ a b : Int, 0 ≤ a → a < oneW l → 0 ≤ b → b < oneH l → F.px a b = (foldI D1 gs (frV (st l 0) 0 ((pagesV l.sc x).take gs.length))).px a b ∧ B.px a b = (foldI D2 gs (bkV (st l 0) 0 ((pagesV l.sc x).take gs.length))).px a b) :
    (trimTo l (leafRow l F B (pagesV l.sc x) (leavesV l.sc)) (leavesV l.sc)).length = gs.length ∧
    ∀ i (h1 : i < (trimTo l (leafRow l F B (pagesV l.sc x) (leavesV l.sc)) (leavesV l.sc)).length) (h2 : i < gs.length), SameI gs[i] (trimTo l (leafRow l F B (pagesV l.sc x) (leavesV l.sc)) (leavesV l.sc))[i] := by
  have hpl := hx.f.plen
  have hlen := trim_len l (leafRow l F B (pagesV l.sc x) (leavesV l.sc)) (leavesV l.sc)
  refine ⟨by omega, fun i h1 h2 => ?_⟩
  have hlf : ∀ s ∈ (List.range (leavesV l.sc)).map (trimAt l (leafRow l F B (pagesV l.sc x) (leavesV l.sc))), s.length = 2 := fun s hs => by
    obtain ⟨k, -, rfl⟩ := List.mem_map.1 hs
    rfl
  have hf := (flat_at 2 _ hlf).2 (i / 2) (i % 2) (by rw [List.length_map, List.length_range]; omega) (Nat.mod_lt _ (by decide))
  rw [show i / 2 * 2 + i % 2 = i by omega] at hf
  have hq : (trimTo l (leafRow l F B (pagesV l.sc x) (leavesV l.sc)) (leavesV l.sc))[i]? = some (trimTo l (leafRow l F B (pagesV l.sc x) (leavesV l.sc)) (leavesV l.sc))[i] := List.getElem?_eq_getElem h1
  obtain ⟨T, hT⟩ : ∃ T, T = (trimTo l (leafRow l F B (pagesV l.sc x) (leavesV l.sc)) (leavesV l.sc))[i] := ⟨_, rfl⟩
  rw [← hT] at hq ⊢
  have ht := trim_page hx hW hH (by omega) F B D1 D2 hFB (j := i) h2
  have hq' : ((List.range (leavesV l.sc)).map (trimAt l (leafRow l F B (pagesV l.sc x) (leavesV l.sc)))).flatten[i]? = some T := hq
  rw [hf] at hq'
  simp only [List.getElem_map, List.getElem_range] at hq'
  have hll : i / 2 < leavesV l.sc := by omega
  have hgl : (leafRow l F B (pagesV l.sc x) (leavesV l.sc)).getD (i / 2) (fillI 1 1 0, fillI 1 1 0) = leafAt l F B (pagesV l.sc x) (i / 2) := by
    unfold leafRow
    rw [List.getD_eq_getElem?_getD, List.getElem?_map, List.getElem?_range hll]; rfl
  have hgd : ∀ k, (h : k < (pagesV l.sc x).length) → (pagesV l.sc x).getD k pg0 = (pagesV l.sc x)[k] := fun k h => by
    rw [List.getD_eq_getElem?_getD, List.getElem?_eq_getElem h]; rfl
  unfold trimAt at hq'
  dsimp only at hq'
  rw [hgl] at hq'
  unfold leafAt at hq'
  dsimp only at hq'
  have hin : innerV l (2 * ((i / 2 : Nat) : Int) + 1) = innerV l ((i : Int) + 1) := by
    unfold innerV
    rw [show (2 * ((i / 2 : Nat) : Int) + 1 - 1) / 2 = ((i : Int) + 1 - 1) / 2 by omega]
  rw [hin] at hq'
  have h2c : i % 2 = 0 ∨ i % 2 = 1 := by omega
  rcases h2c with h | h
  · have e1 : i / 2 + i / 2 = i := by omega
    rw [h, e1, hgd i (by omega)] at hq'
    simp only [List.getElem?_cons_zero, Option.some.injEq] at hq'
    have e2 : (box0 l ((i : Int) + 1)).x = innerV l ((i : Int) + 1) := by
      show (if ((i : Int) + 1) % 2 = 0 then _ else _) = _
      rw [if_neg (by omega)]
    rw [e2, hq'] at ht
    exact ht
  · have e1 : i / 2 + i / 2 + 1 = i := by omega
    rw [h, e1, hgd i (by omega)] at hq'
    simp only [List.getElem?_cons_succ, List.getElem?_cons_zero, Option.some.injEq] at hq'
    have e2 : (box0 l ((i : Int) + 1)).x = l.w + l.fore + l.spine - innerV l ((i : Int) + 1) - l.w := by
      show (if ((i : Int) + 1) % 2 = 0 then _ else _) = _
      rw [if_pos (by omega)]
    rw [e2, hq'] at ht
    exact ht
end Go.Proofs.Ytdblibjmgamjeaa
