/-
  TopBook, plain: the pages that are cut, folded and trimmed are the pages. Own text.
-/
import Derived.Test.YtdblibjmgamjeaaTurnsV
import Derived.Test.YtdblibjmgamjeaaBFold
import Derived.Test.YtdblibjmgamjeaaBRd
namespace Go.Proofs.Ytdblibjmgamjeaa
set_option linter.unusedVariables false
/-- The last copy out of a printed sheet. -/
def lastS (l : Lay) (M P : Img) : Img × Img :=
  if l.style = 1 then (cropI P 0 0 (oW l) M.H, cropI M (oW l) 0 (oW l) M.H)
  else if l.style = 2 then (cropI P 0 0 M.W (oH l), turnI (cropI M 0 (oH l) M.W (oH l)) 2)
  else (cropI M 0 0 M.W M.H, cropI P 0 0 M.W M.H)
theorem frD_size (D : Img) (l : Lay) (x : Sht) (gs : List Img) : (frD D l x gs).W = D.W ∧ (frD D l x gs).H = D.H ∧ (bkD D l x gs).W = D.W ∧ (bkD D l x gs).H = D.H :=
  ⟨(foldI_size _ _ _).1, (foldI_size _ _ _).2, (foldI_size _ _ _).1, (foldI_size _ _ _).2⟩
theorem st_self (l : Lay) : st l l.style = l := rfl
/-- The last copy shows the front and the back, on something. -/
theorem last_law {l : Lay} {x : Sht} (hx : Good l x) {gs : List Img} (hW : ∀ g ∈ gs, (g.W : Int) = l.w) (hH : ∀ g ∈ gs, (g.H : Int) = l.h) (D1 D2 : Img) (h1 : D1.W = (fullW l).toNat ∧ D1.H = (fullH l).toNat) (h2 : D2.W = (fullW l).toNat ∧ D2.H = (fullH l).toNat) :
    ((lastS l (frD D1 l x gs) (bkD D2 l x gs)).1.W = oW l ∧ (lastS l (frD D1 l x gs) (bkD D2 l x gs)).1.H = oH l ∧ (lastS l (frD D1 l x gs) (bkD D2 l x gs)).2.W = oW l ∧ (lastS l (frD D1 l x gs) (bkD D2 l x gs)).2.H = oH l) ∧
    ∃ F B : Img, ∀ a b : Int, 0 ≤ a → a < oneW l → 0 ≤ b → b < oneH l →
      (lastS l (frD D1 l x gs) (bkD D2 l x gs)).1.px a b = (foldI F gs (frV (st l 0) 0 ((pagesV l.sc x).take gs.length))).px a b ∧
      (lastS l (frD D1 l x gs) (bkD D2 l x gs)).2.px a b = (foldI B gs (bkV (st l 0) 0 ((pagesV l.sc x).take gs.length))).px a b := by
  have hlies : ∀ k (h : k < ((pagesV l.sc x).take gs.length).length), Lies l gs (0 + k) ((pagesV l.sc x).take gs.length)[k] := fun k hk => by
    have hk2 : k < (pagesV l.sc x).length := by rw [List.length_take] at hk; omega
    have h := lies_of hx hW hH (i := k) hk2
    rw [Nat.zero_add, List.getElem_take]
    exact h
  have z1 := frD_size D1 l x gs
  have z2 := frD_size D2 l x gs
  have hop := one_pos hx
  have hst := hx.style
  obtain ⟨ps, hps⟩ : ∃ ps, ps = (pagesV l.sc x).take gs.length := ⟨_, rfl⟩
  rw [← hps] at hlies ⊢
  have h3 : l.style = 0 ∨ l.style = 1 ∨ l.style = 2 := by omega
  rcases h3 with hs | hs | hs
  · have hl : st l 0 = l := by rw [← hs]; rfl
    have fw : fullW l = oneW l ∧ fullH l = oneH l := by unfold fullW fullH; rw [hs]; exact ⟨rfl, rfl⟩
    have e : lastS l (frD D1 l x gs) (bkD D2 l x gs) = (cropI (frD D1 l x gs) 0 0 (frD D1 l x gs).W (frD D1 l x gs).H, cropI (bkD D2 l x gs) 0 0 (frD D1 l x gs).W (frD D1 l x gs).H) := by
      unfold lastS
      rw [if_neg (by rw [hs]; decide), if_neg (by rw [hs]; decide)]
    rw [e]
    refine ⟨⟨?_, ?_, ?_, ?_⟩, D1, D2, fun a b _ _ _ _ => ?_⟩
    · show (frD D1 l x gs).W = _; rw [z1.1, h1.1, fw.1]; rfl
    · show (frD D1 l x gs).H = _; rw [z1.2.1, h1.2, fw.2]; rfl
    · show (frD D1 l x gs).W = _; rw [z1.1, h1.1, fw.1]; rfl
    · show (frD D1 l x gs).H = _; rw [z1.2.1, h1.2, fw.2]; rfl
    · rw [hl]
      have f1 : frD D1 l x gs = foldI D1 gs (frV l 0 ps) := by rw [hps]; rfl
      have f2 : bkD D2 l x gs = foldI D2 gs (bkV l 0 ps) := by rw [hps]; rfl
      rw [f1, f2]
      show (foldI D1 gs (frV l 0 ps)).px (0 + a) (0 + b) = _ ∧ (foldI D2 gs (bkV l 0 ps)).px (0 + a) (0 + b) = _
      rw [Int.zero_add, Int.zero_add]
      exact ⟨rfl, rfl⟩
  · have hl : st l 1 = l := by rw [← hs]; rfl
    have fw : fullW l = oneW l * 2 ∧ fullH l = oneH l := by unfold fullW fullH; rw [hs]; exact ⟨rfl, rfl⟩
    have e : lastS l (frD D1 l x gs) (bkD D2 l x gs) = (cropI (bkD D2 l x gs) 0 0 (oW l) (frD D1 l x gs).H, cropI (frD D1 l x gs) (oW l) 0 (oW l) (frD D1 l x gs).H) := by
      unfold lastS
      rw [if_pos hs]
    rw [e]
    have eW : (oW l : Int) = oneW l := by unfold oW; omega
    have f1 : frD D1 l x gs = foldI D1 gs (frV (st l 1) 0 ps) := by rw [hps, hl]; rfl
    have f2 : bkD D2 l x gs = foldI D2 gs (frV (st l 1) 0 ps) := by rw [hps, ← bk_fr l 1 (by decide), hl]; rfl
    have K1 := half1 l gs ps 0 D1 ⟨0, 0, D1.px⟩ ⟨0, 0, fun a b => D1.px (a + oneW l) b⟩ hlies (fun a b _ _ => ⟨rfl, rfl⟩)
    have K2 := half1 l gs ps 0 D2 ⟨0, 0, D2.px⟩ ⟨0, 0, fun a b => D2.px (a + oneW l) b⟩ hlies (fun a b _ _ => ⟨rfl, rfl⟩)
    refine ⟨⟨rfl, ?_, rfl, ?_⟩, ⟨0, 0, D2.px⟩, ⟨0, 0, fun a b => D1.px (a + oneW l) b⟩, fun a b ha1 ha2 _ _ => ⟨?_, ?_⟩⟩
    · show (frD D1 l x gs).H = _; rw [z1.2.1, h1.2, fw.2]; rfl
    · show (frD D1 l x gs).H = _; rw [z1.2.1, h1.2, fw.2]; rfl
    · rw [f2]
      show (foldI D2 gs (frV (st l 1) 0 ps)).px (0 + a) (0 + b) = _
      rw [Int.zero_add, Int.zero_add]
      exact (K2 a b ha1 ha2).1
    · rw [f1]
      show (foldI D1 gs (frV (st l 1) 0 ps)).px ((oW l : Int) + a) (0 + b) = _
      rw [Int.zero_add, eW, Int.add_comm (oneW l) a]
      exact (K1 a b ha1 ha2).2
  · have hl : st l 2 = l := by rw [← hs]; rfl
    have fw : fullW l = oneW l ∧ fullH l = oneH l * 2 := by unfold fullW fullH; rw [hs]; exact ⟨rfl, rfl⟩
    have e : lastS l (frD D1 l x gs) (bkD D2 l x gs) = (cropI (bkD D2 l x gs) 0 0 (frD D1 l x gs).W (oH l), turnI (cropI (frD D1 l x gs) 0 (oH l) (frD D1 l x gs).W (oH l)) 2) := by
      unfold lastS
      rw [if_neg (by rw [hs]; decide), if_pos hs]
    rw [e]
    have eH : (oH l : Int) = oneH l := by unfold oH; omega
    have eW : (((frD D1 l x gs).W : Nat) : Int) = oneW l := by rw [z1.1, h1.1, fw.1]; omega
    have f1 : frD D1 l x gs = foldI D1 gs (frV (st l 2) 0 ps) := by rw [hps, hl]; rfl
    have f2 : bkD D2 l x gs = foldI D2 gs (frV (st l 2) 0 ps) := by rw [hps, ← bk_fr l 2 (by decide), hl]; rfl
    have K1 := half2 l gs ps 0 D1 ⟨0, 0, D1.px⟩ ⟨0, 0, fun a b => D1.px (oneW l - 1 - a) (oneH l + (oneH l - 1 - b))⟩ hlies (fun a b _ _ => ⟨rfl, rfl⟩)
    have K2 := half2 l gs ps 0 D2 ⟨0, 0, D2.px⟩ ⟨0, 0, fun a b => D2.px (oneW l - 1 - a) (oneH l + (oneH l - 1 - b))⟩ hlies (fun a b _ _ => ⟨rfl, rfl⟩)
    refine ⟨⟨?_, rfl, ?_, rfl⟩, ⟨0, 0, D2.px⟩, ⟨0, 0, fun a b => D1.px (oneW l - 1 - a) (oneH l + (oneH l - 1 - b))⟩, fun a b _ _ hb1 hb2 => ⟨?_, ?_⟩⟩
    · show (frD D1 l x gs).W = _; rw [z1.1, h1.1, fw.1]; rfl
    · show (frD D1 l x gs).W = _; rw [z1.1, h1.1, fw.1]; rfl
    · rw [f2]
      show (foldI D2 gs (frV (st l 2) 0 ps)).px (0 + a) (0 + b) = _
      rw [Int.zero_add, Int.zero_add]
      exact (K2 a b hb1 hb2).1
    · show (frD D1 l x gs).px (0 + (((frD D1 l x gs).W : Int) - 1 - a)) ((oH l : Int) + ((oH l : Int) - 1 - b)) = _
      rw [eW, eH, f1, Int.zero_add]
      exact (K1 a b hb1 hb2).2
/-- A page's pixels on its side of the sheet, whatever is pasted later. -/
theorem page_px {l : Lay} {x : Sht} (hx : Good l x) {gs : List Img} (hW : ∀ g ∈ gs, (g.W : Int) = l.w) (hH : ∀ g ∈ gs, (g.H : Int) = l.h) (hn : gs.length ≤ (pagesV l.sc x).length) (D : Img) {j : Nat} (hj : j < gs.length) (back : Bool) (hb : ((pagesV l.sc x)[j]'(by omega)).back = back)
    (a b : Int) (ha : (placeV l ((j : Int) + 1) ((pagesV l.sc x)[j]'(by omega))).x ≤ a ∧ a < (placeV l ((j : Int) + 1) ((pagesV l.sc x)[j]'(by omega))).x + (placeV l ((j : Int) + 1) ((pagesV l.sc x)[j]'(by omega))).w) (hbb : (placeV l ((j : Int) + 1) ((pagesV l.sc x)[j]'(by omega))).y ≤ b ∧ b < (placeV l ((j : Int) + 1) ((pagesV l.sc x)[j]'(by omega))).y + (placeV l ((j : Int) + 1) ((pagesV l.sc x)[j]'(by omega))).h) :
    (foldI D gs ((if back then bkV (st l 0) 0 ((pagesV l.sc x).take gs.length) else frV (st l 0) 0 ((pagesV l.sc x).take gs.length)))).px a b = (turnI gs[j] ((pagesV l.sc x)[j]'(by omega)).turn).px (a - (placeV l ((j : Int) + 1) ((pagesV l.sc x)[j]'(by omega))).x) (b - (placeV l ((j : Int) + 1) ((pagesV l.sc x)[j]'(by omega))).y) := by
  have hpl := hx.f.plen
  have hlv := leaves_bd hx.f.inn
  have on : ∀ p : Pg, (if back then onB (st l 0) p else onF (st l 0) p) = (p.back == back) := fun p => by
    unfold onB onF
    show (if back then (!((0 : Int) == 0) || p.back) else !((0 : Int) == 0 && p.back)) = _
    cases back <;> cases p.back <;> rfl
  have pv : ∀ i p, plV (st l 0) i p = ⟨(i : Int) + 1, (placeV l ((i : Int) + 1) p).x, (placeV l ((i : Int) + 1) p).y, p.turn⟩ := fun i p => by
    unfold plV
    dsimp only
    rw [if_neg (fun h => absurd (show (0 : Int) = 1 from h.1) (by decide)), if_neg (fun h => absurd (show (0 : Int) = 2 from h.1) (by decide))]
    rfl
  have key : ∀ n, j < n → n ≤ gs.length → (foldI D gs ((if back then bkV (st l 0) 0 ((pagesV l.sc x).take n) else frV (st l 0) 0 ((pagesV l.sc x).take n)))).px a b = (turnI gs[j] ((pagesV l.sc x)[j]'(by omega)).turn).px (a - (placeV l ((j : Int) + 1) ((pagesV l.sc x)[j]'(by omega))).x) (b - (placeV l ((j : Int) + 1) ((pagesV l.sc x)[j]'(by omega))).y) := by
    intro n
    induction n with
    | zero => intro h; omega
    | succ n ih =>
      intro hjn hng
      have hnl : n < (pagesV l.sc x).length := by omega
      have ht : (pagesV l.sc x).take (n + 1) = (pagesV l.sc x).take n ++ [(pagesV l.sc x)[n]] := List.take_succ_eq_append_getElem hnl
      have hlen : 0 + ((pagesV l.sc x).take n).length = n := by rw [List.length_take]; omega
      obtain ⟨q, hq⟩ : ∃ q, q = (pagesV l.sc x)[n] := ⟨_, rfl⟩
      have hsn : (if back then bkV (st l 0) 0 ((pagesV l.sc x).take (n + 1)) else frV (st l 0) 0 ((pagesV l.sc x).take (n + 1))) = (if back then bkV (st l 0) 0 ((pagesV l.sc x).take n) else frV (st l 0) 0 ((pagesV l.sc x).take n)) ++ (if q.back == back then [plV (st l 0) n q] else []) := by
        rw [ht, bkV_snoc, frV_snoc, hlen, ← hq]
        have := on q
        cases back with
        | true => simp only [if_true] at this ⊢; rw [this]
        | false => simp only [if_false, Bool.false_eq_true] at this ⊢; rw [this]
      have hfs : ∀ (D : Img) (u v : List Pl), foldI D gs (u ++ v) = foldI (foldI D gs u) gs v := fun D u v => by unfold foldI; rw [List.foldl_append]
      rw [hsn, hfs]
      have hgn : gs[n]? = some gs[n] := List.getElem?_eq_getElem (by omega)
      have hli := lies_of hx hW hH (i := n) hnl
      rw [← hq] at hli
      by_cases hjn2 : j = n
      · subst hjn2
        rw [← hq] at hb ha hbb ⊢
        rw [hb]
        have e : (back == back) = true := by simp
        rw [if_pos e]
        show (stepI gs _ (plV (st l 0) j q)).px a b = _
        rw [pv, step_px rfl hgn]
        dsimp only
        obtain ⟨s1, s2⟩ := hli.sz _ hgn
        rw [if_pos (by omega)]
      · by_cases hqb : q.back = back
        · have e : (q.back == back) = true := by rw [hqb]; simp
          rw [if_pos e]
          show (stepI gs _ (plV (st l 0) n q)).px a b = _
          rw [pv, step_px rfl hgn]
          dsimp only
          obtain ⟨s1, s2⟩ := hli.sz _ hgn
          have hap := hx.f.apart (i := j) (j := n) (by omega) hnl hjn2 (by rw [hb, ← hqb, hq])
          have hpj := hx.f.pgin (i := j) (by omega)
          have hpn := hx.f.pgin (i := n) hnl
          have hdv : ∀ i : Nat, i < (pagesV l.sc x).length → ((i : Int) + 1 - 1) / 2 < l.sc.cols * l.sc.rows := fun i hi => by
            have h : (i : Int) + 1 - 1 = i := by omega
            rw [h]; omega
          have lj := place_leaf hx (page := (j : Int) + 1) (by omega) (hdv j (by omega)) hpj
          have ln := place_leaf hx (page := (n : Int) + 1) (by omega) (hdv n hnl) hpn
          rw [← hq] at hap ln
          have hlp := leaf_pos hx
          have hmul : ∀ (c d : Int) (L : Int), 1 ≤ L → c < d → (c + 1) * L ≤ d * L := fun c d L hL h => Int.mul_le_mul_of_nonneg_right (by omega) (by omega)
          rw [if_neg ?_]
          · exact ih (by omega) (by omega)
          · rintro ⟨c1, c2, c3, c4⟩
            rw [s1] at c2
            rw [s2] at c4
            have h1 := lj.x0; have h2 := lj.x1; have h3 := lj.y0; have h4 := lj.y1
            have h5 := ln.x0; have h6 := ln.x1; have h7 := ln.y0; have h8 := ln.y1
            rcases hap with hc | hr
            · rcases Int.lt_or_gt_of_ne hc with hc | hc
              · have := hmul _ _ _ hlp.1 hc
                omega
              · have := hmul _ _ _ hlp.1 hc
                omega
            · rcases Int.lt_or_gt_of_ne hr with hc | hc
              · have := hmul _ _ _ hlp.2 hc
                omega
              · have := hmul _ _ _ hlp.2 hc
                omega
        · have e : ¬ (q.back == back) = true := by simpa using hqb
          rw [if_neg e]
          exact ih (by omega) (by omega)
  exact key gs.length hj (Nat.le_refl _)
/-- A trimmed page is the page. -/
theorem trim_page {l : Lay} {x : Sht} (hx : Good l x) {gs : List Img} (hW : ∀ g ∈ gs, (g.W : Int) = l.w) (hH : ∀ g ∈ gs, (g.H : Int) = l.h) (hn : gs.length ≤ (pagesV l.sc x).length) (F B D1 D2 : Img)
    (hFB : ∀ a b : Int, 0 ≤ a → a < oneW l → 0 ≤ b → b < oneH l → F.px a b = (foldI D1 gs (frV (st l 0) 0 ((pagesV l.sc x).take gs.length))).px a b ∧ B.px a b = (foldI D2 gs (bkV (st l 0) 0 ((pagesV l.sc x).take gs.length))).px a b)
    {j : Nat} (hj : j < gs.length) : SameI gs[j] (cropI (faceP l F B ((pagesV l.sc x)[j]'(by omega))) (box0 l ((j : Int) + 1)).x l.head l.w.toNat l.h.toNat) := by
  have hjl : j < (pagesV l.sc x).length := by omega
  have hpl := hx.f.plen
  have hlv := leaves_bd hx.f.inn
  have hpg := hx.f.pgin hjl
  have hdv : ((j : Int) + 1 - 1) / 2 < l.sc.cols * l.sc.rows := by
    have h : (j : Int) + 1 - 1 = j := by omega
    rw [h]; omega
  have hin := box0_in hx (page := (j : Int) + 1) (by omega) hdv
  have hone := place_one hx (page := (j : Int) + 1) (by omega) hdv hpg
  have hw := hx.w; have hh := hx.h
  have gW := hW _ (List.getElem_mem hj)
  have gH := hH _ (List.getElem_mem hj)
  obtain ⟨p, hp⟩ : ∃ p, p = (pagesV l.sc x)[j] := ⟨_, rfl⟩
  have hpx := fun (back : Bool) (D : Img) (hb : p.back = back) (a b : Int) => page_px hx hW hH hn D hj back (by rw [← hp]; exact hb) a b
  rw [← hp] at hpg hone
  simp only [← hp] at hpx
  rw [← hp]
  obtain ⟨G, hG⟩ : ∃ G, G = gs[j] := ⟨_, rfl⟩
  rw [← hG] at gW gH ⊢
  simp only [← hG] at hpx
  have hside : ∀ a b : Int, (placeV l ((j : Int) + 1) p).x ≤ a → a < (placeV l ((j : Int) + 1) p).x + (placeV l ((j : Int) + 1) p).w → (placeV l ((j : Int) + 1) p).y ≤ b → b < (placeV l ((j : Int) + 1) p).y + (placeV l ((j : Int) + 1) p).h →
      (if p.back = true then B else F).px a b = (turnI G p.turn).px (a - (placeV l ((j : Int) + 1) p).x) (b - (placeV l ((j : Int) + 1) p).y) := by
    intro a b h1 h2 h3 h4
    obtain ⟨o1, o2, o3, o4⟩ := hone
    have hf := hFB a b (by omega) (by omega) (by omega) (by omega)
    cases hb : p.back with
    | true =>
      have h := hpx true D2 hb a b ⟨h1, h2⟩ ⟨h3, h4⟩
      simp only [if_true] at h ⊢
      rw [hf.2, h]
    | false =>
      have h := hpx false D1 hb a b ⟨h1, h2⟩ ⟨h3, h4⟩
      simp only [Bool.false_eq_true, if_false] at h ⊢
      rw [hf.1, h]
  have hlW : leafW l = if lies l = true then l.h + 2 * l.head else l.w + l.fore + l.spine := rfl
  have hlH : leafH l = if lies l = true then l.w + l.fore + l.spine else l.h + 2 * l.head := rfl
  have hli : lies l = (p.turn % 2 == 1) := by unfold lies; rw [hpg.par]
  have hpos := leaf_pos hx
  have bx : (box0 l ((j : Int) + 1)).fw = l.w + l.fore + l.spine ∧ (box0 l ((j : Int) + 1)).fh = l.h + 2 * l.head ∧ (box0 l ((j : Int) + 1)).y = l.head ∧ (box0 l ((j : Int) + 1)).w = l.w ∧ (box0 l ((j : Int) + 1)).h = l.h := ⟨rfl, rfl, rfl, rfl, rfl⟩
  have hpv : placeV l ((j : Int) + 1) p = ⟨oneW l, oneH l, l.margin + p.col * leafW l + (turnB (box0 l ((j : Int) + 1)) p.turn.toNat).x, l.margin + p.row * leafH l + (turnB (box0 l ((j : Int) + 1)) p.turn.toNat).y, (turnB (box0 l ((j : Int) + 1)) p.turn.toNat).w, (turnB (box0 l ((j : Int) + 1)) p.turn.toNat).h⟩ := rfl
  obtain ⟨b0, hb0⟩ : ∃ b0, b0 = box0 l ((j : Int) + 1) := ⟨_, rfl⟩
  rw [← hb0] at hin bx hpv ⊢
  obtain ⟨X, hX⟩ : ∃ X, X = l.margin + p.col * leafW l := ⟨_, rfl⟩
  obtain ⟨Y, hY⟩ : ∃ Y, Y = l.margin + p.row * leafH l := ⟨_, rfl⟩
  rw [← hX, ← hY] at hpv
  obtain ⟨S, hS⟩ : ∃ S, S = (if p.back = true then B else F) := ⟨_, rfl⟩
  rw [← hS] at hside
  have hfp : faceP l F B p = turnI (cropI S X Y (leafW l).toNat (leafH l).toNat) (4 - p.turn) := by rw [hS, hX, hY]; rfl
  rw [hfp]
  obtain ⟨i0, i1, i2, i3⟩ := hin
  have ht := hpg.t
  refine ⟨by show G.W = l.w.toNat; omega, by show G.H = l.h.toNat; omega, fun i k hi hk => ?_⟩
  have h4 : p.turn = 0 ∨ p.turn = 1 ∨ p.turn = 2 ∨ p.turn = 3 := by omega
  rcases h4 with h | h | h | h
  · rw [h] at hli hside hpv ⊢
    have hn : ¬ lies l = true := by rw [hli]; decide
    rw [if_neg hn] at hlW hlH
    have hbx : (placeV l ((j : Int) + 1) p).x = X + b0.x ∧ (placeV l ((j : Int) + 1) p).y = Y + b0.y ∧ (placeV l ((j : Int) + 1) p).w = b0.w ∧ (placeV l ((j : Int) + 1) p).h = b0.h := by rw [hpv]; exact ⟨rfl, rfl, rfl, rfl⟩
    obtain ⟨q1, q2, q3, q4⟩ := hbx
    have hs := hside (X + (b0.x + (i : Int))) (Y + (l.head + (k : Int))) (by omega) (by omega) (by omega) (by omega)
    show G.px i k = S.px (X + (b0.x + (i : Int))) (Y + (l.head + (k : Int)))
    rw [hs, q1, q2]
    show G.px i k = G.px _ _
    congr 1 <;> omega
  · rw [h] at hli hside hpv ⊢
    have hn : lies l = true := by rw [hli]; decide
    rw [if_pos hn] at hlW hlH
    have hbx : (placeV l ((j : Int) + 1) p).x = X + (b0.fh - b0.y - b0.h) ∧ (placeV l ((j : Int) + 1) p).y = Y + b0.x ∧ (placeV l ((j : Int) + 1) p).w = b0.h ∧ (placeV l ((j : Int) + 1) p).h = b0.w := by rw [hpv]; exact ⟨rfl, rfl, rfl, rfl⟩
    obtain ⟨q1, q2, q3, q4⟩ := hbx
    have eL : (((leafW l).toNat : Nat) : Int) = leafW l := by omega
    have hs := hside (X + (((leafW l).toNat : Int) - 1 - (l.head + (k : Int)))) (Y + (b0.x + (i : Int))) (by omega) (by omega) (by omega) (by omega)
    show G.px i k = S.px (X + (((leafW l).toNat : Int) - 1 - (l.head + (k : Int)))) (Y + (b0.x + (i : Int)))
    rw [hs, q1, q2]
    show G.px i k = G.px _ ((G.H : Int) - 1 - _)
    congr 1 <;> omega
  · rw [h] at hli hside hpv ⊢
    have hn : ¬ lies l = true := by rw [hli]; decide
    rw [if_neg hn] at hlW hlH
    have hbx : (placeV l ((j : Int) + 1) p).x = X + (b0.fw - b0.x - b0.w) ∧ (placeV l ((j : Int) + 1) p).y = Y + (b0.fh - b0.y - b0.h) ∧ (placeV l ((j : Int) + 1) p).w = b0.w ∧ (placeV l ((j : Int) + 1) p).h = b0.h := by rw [hpv]; exact ⟨rfl, rfl, rfl, rfl⟩
    obtain ⟨q1, q2, q3, q4⟩ := hbx
    have eL : (((leafW l).toNat : Nat) : Int) = leafW l := by omega
    have eH : (((leafH l).toNat : Nat) : Int) = leafH l := by omega
    have hs := hside (X + (((leafW l).toNat : Int) - 1 - (b0.x + (i : Int)))) (Y + (((leafH l).toNat : Int) - 1 - (l.head + (k : Int)))) (by omega) (by omega) (by omega) (by omega)
    show G.px i k = S.px (X + (((leafW l).toNat : Int) - 1 - (b0.x + (i : Int)))) (Y + (((leafH l).toNat : Int) - 1 - (l.head + (k : Int))))
    rw [hs, q1, q2]
    show G.px i k = G.px ((G.W : Int) - 1 - _) ((G.H : Int) - 1 - _)
    congr 1 <;> omega
  · rw [h] at hli hside hpv ⊢
    have hn : lies l = true := by rw [hli]; decide
    rw [if_pos hn] at hlW hlH
    have hbx : (placeV l ((j : Int) + 1) p).x = X + b0.y ∧ (placeV l ((j : Int) + 1) p).y = Y + (b0.fw - b0.x - b0.w) ∧ (placeV l ((j : Int) + 1) p).w = b0.h ∧ (placeV l ((j : Int) + 1) p).h = b0.w := by
      rw [hpv]
      refine ⟨?_, ?_, rfl, rfl⟩
      · show X + (b0.fh - (b0.fh - b0.y - b0.h) - b0.h) = _; omega
      · show Y + (b0.fw - b0.x - b0.w) = _; rfl
    obtain ⟨q1, q2, q3, q4⟩ := hbx
    have eH : (((leafH l).toNat : Nat) : Int) = leafH l := by omega
    have hs := hside (X + (l.head + (k : Int))) (Y + (((leafH l).toNat : Int) - 1 - (b0.x + (i : Int)))) (by omega) (by omega) (by omega) (by omega)
    show G.px i k = S.px (X + (l.head + (k : Int))) (Y + (((leafH l).toNat : Int) - 1 - (b0.x + (i : Int))))
    rw [hs, q1, q2]
    show G.px i k = G.px ((G.W : Int) - 1 - _) _
    congr 1 <;> omega
end Go.Proofs.Ytdblibjmgamjeaa
