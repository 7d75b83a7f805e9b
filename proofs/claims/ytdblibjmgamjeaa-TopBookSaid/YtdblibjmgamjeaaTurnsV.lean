/-
  Sheets of the three styles, plain: their halves show the same. TopTurns, plain: the copies that are cut out of the three sheets are alike. Own text.
-/
import Derived.Test.YtdblibjmgamjeaaIplV
namespace Go.Proofs.Ytdblibjmgamjeaa
set_option linter.unusedVariables false
/-- The layout at another style. -/
def st (l : Lay) (s : Int) : Lay := { l with style := s }
def oW (l : Lay) : Nat := (oneW l).toNat
def oH (l : Lay) : Nat := (oneH l).toNat
def foldI (D : Img) (gs : List Img) (ps : List Pl) : Img := ps.foldl (stepI gs) D
theorem foldI_size (gs : List Img) : ∀ (ps : List Pl) (D : Img), (foldI D gs ps).W = D.W ∧ (foldI D gs ps).H = D.H
  | [], D => ⟨rfl, rfl⟩
  | p :: ps, D => by
    have h := foldI_size gs ps (stepI gs D p)
    have h2 := step_size gs D p
    exact ⟨h.1.trans h2.1, h.2.trans h2.2⟩
/-- The two sides of a sheet on which there is something already. -/
def frD (D : Img) (l : Lay) (x : Sht) (gs : List Img) : Img := foldI D gs (frV l 0 ((pagesV l.sc x).take gs.length))
def bkD (D : Img) (l : Lay) (x : Sht) (gs : List Img) : Img := foldI D gs (bkV l 0 ((pagesV l.sc x).take gs.length))
theorem turn_size2 (G : Img) (t : Int) (ht : 0 ≤ t ∧ t < 4) : (turnI G t).W = (if t.toNat % 2 = 1 then G.H else G.W) ∧ (turnI G t).H = (if t.toNat % 2 = 1 then G.W else G.H) := by
  have h : t = 0 ∨ t = 1 ∨ t = 2 ∨ t = 3 := by omega
  rcases h with rfl | rfl | rfl | rfl <;> exact ⟨rfl, rfl⟩
theorem turn_flip (G : Img) (t : Int) (ht : 0 ≤ t ∧ t < 4) : (turnI G ((t + 2) % 4)).W = (turnI G t).W ∧ (turnI G ((t + 2) % 4)).H = (turnI G t).H ∧ ∀ i j : Int, (turnI G ((t + 2) % 4)).px (((turnI G t).W : Int) - 1 - i) (((turnI G t).H : Int) - 1 - j) = (turnI G t).px i j := by
  have h : t = 0 ∨ t = 1 ∨ t = 2 ∨ t = 3 := by omega
  rcases h with rfl | rfl | rfl | rfl
  · refine ⟨rfl, rfl, fun i j => ?_⟩
    show G.px ((G.W : Int) - 1 - ((G.W : Int) - 1 - i)) ((G.H : Int) - 1 - ((G.H : Int) - 1 - j)) = G.px i j
    congr 1 <;> omega
  · refine ⟨rfl, rfl, fun i j => ?_⟩
    show G.px ((G.W : Int) - 1 - ((G.W : Int) - 1 - j)) ((G.H : Int) - 1 - i) = G.px j ((G.H : Int) - 1 - i)
    congr 1; omega
  · refine ⟨rfl, rfl, fun i j => ?_⟩
    rfl
  · refine ⟨rfl, rfl, fun i j => ?_⟩
    show G.px ((G.W : Int) - 1 - j) ((G.H : Int) - 1 - ((G.H : Int) - 1 - i)) = G.px ((G.W : Int) - 1 - j) i
    congr 1; omega
theorem turnB2 (b : Bx) : turnB b 2 = ⟨b.fw, b.fh, b.fw - b.x - b.w, b.fh - b.y - b.h, b.w, b.h⟩ := rfl
/-- The pixels of a pasted page. -/
theorem step_px {gs : List Img} {D : Img} {i : Nat} {p : Pl} (hp : p.page = (i : Int) + 1) {G : Img} (hG : gs[i]? = some G) (a b : Int) :
    (stepI gs D p).px a b = if p.x ≤ a ∧ a < p.x + ((turnI G p.turn).W : Int) ∧ p.y ≤ b ∧ b < p.y + ((turnI G p.turn).H : Int) then (turnI G p.turn).px (a - p.x) (b - p.y) else D.px a b := by
  unfold stepI
  have e : (p.page - 1).toNat = i := by omega
  rw [e, hG]
  rfl
theorem step_none {gs : List Img} {D : Img} {i : Nat} {p : Pl} (hp : p.page = (i : Int) + 1) (hG : gs[i]? = none) : stepI gs D p = D := by
  unfold stepI
  have e : (p.page - 1).toNat = i := by omega
  rw [e, hG]
/-- A page, as it lies on the sheet with one copy. -/
structure Lies (l : Lay) (gs : List Img) (i : Nat) (p : Pg) : Prop where
  x0 : 0 ≤ (placeV l ((i : Int) + 1) p).x
  x1 : (placeV l ((i : Int) + 1) p).x + (placeV l ((i : Int) + 1) p).w ≤ oneW l
  y0 : 0 ≤ (placeV l ((i : Int) + 1) p).y
  y1 : (placeV l ((i : Int) + 1) p).y + (placeV l ((i : Int) + 1) p).h ≤ oneH l
  t : 0 ≤ p.turn ∧ p.turn < 4
  sz : ∀ G, gs[i]? = some G → ((turnI G p.turn).W : Int) = (placeV l ((i : Int) + 1) p).w ∧ ((turnI G p.turn).H : Int) = (placeV l ((i : Int) + 1) p).h
theorem lies_of {l : Lay} {x : Sht} (hx : Good l x) {gs : List Img} (hW : ∀ g ∈ gs, (g.W : Int) = l.w) (hH : ∀ g ∈ gs, (g.H : Int) = l.h) {i : Nat} (hi : i < (pagesV l.sc x).length) : Lies l gs i (pagesV l.sc x)[i] := by
  have hpl := hx.f.plen
  have hlv := leaves_bd hx.f.inn
  have hdv : ((i : Int) + 1 - 1) / 2 < l.sc.cols * l.sc.rows := by
    have h : (i : Int) + 1 - 1 = i := by omega
    rw [h]; omega
  have hpg := hx.f.pgin hi
  obtain ⟨x0, x1, y0, y1⟩ := place_one hx (by omega) hdv hpg
  refine ⟨x0, x1, y0, y1, hpg.t, fun G hG => ?_⟩
  have hm := List.mem_of_getElem? hG
  have h1 := turn_size2 G _ hpg.t
  have h2 := place_size l ((i : Int) + 1) (p := (pagesV l.sc x)[i])
  have h3 := hW G hm
  have h4 := hH G hm
  rw [h1.1, h1.2, h2.1, h2.2]
  constructor <;> (split <;> simp only [*])
/-- Style 1: the left half shows the front, the right one the back. -/
theorem half1 (l : Lay) (gs : List Img) : ∀ (ps : List Pg) (i : Nat) (D F B : Img), (∀ k (h : k < ps.length), Lies l gs (i + k) ps[k]) →
    (∀ a b : Int, 0 ≤ a → a < oneW l → D.px a b = F.px a b ∧ D.px (a + oneW l) b = B.px a b) →
    ∀ a b : Int, 0 ≤ a → a < oneW l → (foldI D gs (frV (st l 1) i ps)).px a b = (foldI F gs (frV (st l 0) i ps)).px a b ∧ (foldI D gs (frV (st l 1) i ps)).px (a + oneW l) b = (foldI B gs (bkV (st l 0) i ps)).px a b
  | [], i, D, F, B, _, h => h
  | p :: ps, i, D, F, B, hl, h => by
    have h0 := hl 0 (by simp)
    rw [Nat.add_zero] at h0
    have h0 : Lies l gs i p := h0
    have hl' : ∀ k (h : k < ps.length), Lies l gs (i + 1 + k) ps[k] := fun k hk => by
      have := hl (k + 1) (by simp; omega)
      rw [show i + (k + 1) = i + 1 + k by omega] at this
      exact this
    obtain ⟨x0, x1, y0, y1, ht, hsz⟩ := h0
    have e1 : frV (st l 1) i (p :: ps) = plV (st l 1) i p :: frV (st l 1) (i + 1) ps := rfl
    have P1 : (placeV (st l 1) ((i : Int) + 1) p) = placeV l ((i : Int) + 1) p := rfl
    have P0 : (placeV (st l 0) ((i : Int) + 1) p) = placeV l ((i : Int) + 1) p := rfl
    obtain ⟨b, hb⟩ : ∃ b, b = placeV l ((i : Int) + 1) p := ⟨_, rfl⟩
    have q0 : plV (st l 0) i p = ⟨(i : Int) + 1, b.x, b.y, p.turn⟩ := by
      have : plV (st l 0) i p = ⟨(i : Int) + 1, (placeV (st l 0) ((i : Int) + 1) p).x, (placeV (st l 0) ((i : Int) + 1) p).y, p.turn⟩ := by
        unfold plV
        dsimp only
        rw [if_neg (fun h => absurd (show (0 : Int) = 1 from h.1) (by decide)), if_neg (fun h => absurd (show (0 : Int) = 2 from h.1) (by decide))]
      rw [this, P0, hb]
    rw [← hb] at x0 x1 y0 y1 hsz
    rw [e1]
    cases hpb : p.back with
    | true =>
      have q1 : plV (st l 1) i p = ⟨(i : Int) + 1, b.x + oneW l, b.y, p.turn⟩ := by
        unfold plV
        dsimp only
        rw [if_pos ⟨rfl, hpb⟩, P1, hb]; rfl
      have e2 : frV (st l 0) i (p :: ps) = frV (st l 0) (i + 1) ps := by
        show (if onF (st l 0) p then _ else _) ++ _ = _
        have : onF (st l 0) p = false := by unfold onF; rw [hpb]; rfl
        rw [this]; rfl
      have e3 : bkV (st l 0) i (p :: ps) = plV (st l 0) i p :: bkV (st l 0) (i + 1) ps := by
        show (if onB (st l 0) p then _ else _) ++ _ = _
        have : onB (st l 0) p = true := by unfold onB; rw [hpb]; simp
        rw [this]; rfl
      rw [e2, e3, q0, q1]
      refine half1 l gs ps (i + 1) (stepI gs D _) F (stepI gs B _) hl' fun a c ha hc => ?_
      cases hG : gs[i]? with
      | none => rw [step_none rfl hG, step_none rfl hG]; exact h a c ha hc
      | some G =>
        obtain ⟨s1, s2⟩ := hsz G hG
        rw [step_px rfl hG, step_px rfl hG, step_px rfl hG]
        dsimp only
        obtain ⟨u1, u2⟩ := h a c ha hc
        constructor
        · rw [if_neg (by omega)]; exact u1
        · by_cases hin : b.x ≤ a ∧ a < b.x + ((turnI G p.turn).W : Int) ∧ b.y ≤ c ∧ c < b.y + ((turnI G p.turn).H : Int)
          · rw [if_pos hin, if_pos (by omega)]
            congr 1; omega
          · rw [if_neg hin, if_neg (by omega)]; exact u2
    | false =>
      have q1 : plV (st l 1) i p = ⟨(i : Int) + 1, b.x, b.y, p.turn⟩ := by
        unfold plV
        dsimp only
        rw [if_neg (fun h => by rw [hpb] at h; exact absurd h.2 (by decide)), if_neg (fun h => by rw [hpb] at h; exact absurd h.2 (by decide)), P1, hb]
      have e2 : frV (st l 0) i (p :: ps) = plV (st l 0) i p :: frV (st l 0) (i + 1) ps := by
        show (if onF (st l 0) p then _ else _) ++ _ = _
        have : onF (st l 0) p = true := by unfold onF; rw [hpb]; simp
        rw [this]; rfl
      have e3 : bkV (st l 0) i (p :: ps) = bkV (st l 0) (i + 1) ps := by
        show (if onB (st l 0) p then _ else _) ++ _ = _
        have : onB (st l 0) p = false := by unfold onB; rw [hpb]; rfl
        rw [this]; rfl
      rw [e2, e3, q0, q1]
      refine half1 l gs ps (i + 1) (stepI gs D _) (stepI gs F _) B hl' fun a c ha hc => ?_
      cases hG : gs[i]? with
      | none => rw [step_none rfl hG, step_none rfl hG]; exact h a c ha hc
      | some G =>
        obtain ⟨s1, s2⟩ := hsz G hG
        rw [step_px rfl hG, step_px rfl hG, step_px rfl hG]
        dsimp only
        obtain ⟨u1, u2⟩ := h a c ha hc
        constructor
        · by_cases hin : b.x ≤ a ∧ a < b.x + ((turnI G p.turn).W : Int) ∧ b.y ≤ c ∧ c < b.y + ((turnI G p.turn).H : Int)
          · rw [if_pos hin, if_pos hin]
          · rw [if_neg hin, if_neg hin]; exact u1
        · rw [if_neg (by omega)]; exact u2
/-- Style 2: the upper half shows the front, the lower one the back, turned over. -/
theorem half2 (l : Lay) (gs : List Img) : ∀ (ps : List Pg) (i : Nat) (D F B : Img), (∀ k (h : k < ps.length), Lies l gs (i + k) ps[k]) →
    (∀ a b : Int, 0 ≤ b → b < oneH l → D.px a b = F.px a b ∧ D.px (oneW l - 1 - a) (oneH l + (oneH l - 1 - b)) = B.px a b) →
    ∀ a b : Int, 0 ≤ b → b < oneH l → (foldI D gs (frV (st l 2) i ps)).px a b = (foldI F gs (frV (st l 0) i ps)).px a b ∧ (foldI D gs (frV (st l 2) i ps)).px (oneW l - 1 - a) (oneH l + (oneH l - 1 - b)) = (foldI B gs (bkV (st l 0) i ps)).px a b
  | [], i, D, F, B, _, h => h
  | p :: ps, i, D, F, B, hl, h => by
    have h0 := hl 0 (by simp)
    rw [Nat.add_zero] at h0
    have h0 : Lies l gs i p := h0
    have hl' : ∀ k (h : k < ps.length), Lies l gs (i + 1 + k) ps[k] := fun k hk => by
      have := hl (k + 1) (by simp; omega)
      rw [show i + (k + 1) = i + 1 + k by omega] at this
      exact this
    obtain ⟨x0, x1, y0, y1, ht, hsz⟩ := h0
    have e1 : frV (st l 2) i (p :: ps) = plV (st l 2) i p :: frV (st l 2) (i + 1) ps := rfl
    have P2 : (placeV (st l 2) ((i : Int) + 1) p) = placeV l ((i : Int) + 1) p := rfl
    have P0 : (placeV (st l 0) ((i : Int) + 1) p) = placeV l ((i : Int) + 1) p := rfl
    have hfw : (placeV l ((i : Int) + 1) p).fw = oneW l ∧ (placeV l ((i : Int) + 1) p).fh = oneH l := ⟨rfl, rfl⟩
    obtain ⟨b, hb⟩ : ∃ b, b = placeV l ((i : Int) + 1) p := ⟨_, rfl⟩
    rw [← hb] at hfw
    have q0 : plV (st l 0) i p = ⟨(i : Int) + 1, b.x, b.y, p.turn⟩ := by
      have : plV (st l 0) i p = ⟨(i : Int) + 1, (placeV (st l 0) ((i : Int) + 1) p).x, (placeV (st l 0) ((i : Int) + 1) p).y, p.turn⟩ := by
        unfold plV
        dsimp only
        rw [if_neg (fun h => absurd (show (0 : Int) = 1 from h.1) (by decide)), if_neg (fun h => absurd (show (0 : Int) = 2 from h.1) (by decide))]
      rw [this, P0, hb]
    rw [← hb] at x0 x1 y0 y1 hsz
    rw [e1]
    cases hpb : p.back with
    | true =>
      have q1 : plV (st l 2) i p = ⟨(i : Int) + 1, oneW l - b.x - b.w, oneH l + (oneH l - b.y - b.h), (p.turn + 2) % 4⟩ := by
        unfold plV
        dsimp only
        rw [if_neg (fun h => absurd (show (2 : Int) = 1 from h.1) (by decide)), if_pos ⟨rfl, hpb⟩, P2, ← hb, turnB2, ← hfw.1, ← hfw.2]
        show (⟨_, _, oneH l + _, _⟩ : Pl) = _
        rw [← hfw.2]
      have e2 : frV (st l 0) i (p :: ps) = frV (st l 0) (i + 1) ps := by
        show (if onF (st l 0) p then _ else _) ++ _ = _
        have : onF (st l 0) p = false := by unfold onF; rw [hpb]; rfl
        rw [this]; rfl
      have e3 : bkV (st l 0) i (p :: ps) = plV (st l 0) i p :: bkV (st l 0) (i + 1) ps := by
        show (if onB (st l 0) p then _ else _) ++ _ = _
        have : onB (st l 0) p = true := by unfold onB; rw [hpb]; simp
        rw [this]; rfl
      rw [e2, e3, q0, q1]
      refine half2 l gs ps (i + 1) (stepI gs D _) F (stepI gs B _) hl' fun a c ha hc => ?_
      cases hG : gs[i]? with
      | none => rw [step_none rfl hG, step_none rfl hG]; exact h a c ha hc
      | some G =>
        obtain ⟨s1, s2⟩ := hsz G hG
        obtain ⟨f1, f2, f3⟩ := turn_flip G p.turn ht
        rw [step_px rfl hG, step_px rfl hG, step_px rfl hG]
        dsimp only
        rw [f1, f2]
        obtain ⟨u1, u2⟩ := h a c ha hc
        constructor
        · rw [if_neg (by omega)]; exact u1
        · by_cases hin : b.x ≤ a ∧ a < b.x + ((turnI G p.turn).W : Int) ∧ b.y ≤ c ∧ c < b.y + ((turnI G p.turn).H : Int)
          · rw [if_pos hin, if_pos (by omega), ← f3 (a - b.x) (c - b.y)]
            congr 1 <;> omega
          · rw [if_neg hin, if_neg (by omega)]; exact u2
    | false =>
      have q1 : plV (st l 2) i p = ⟨(i : Int) + 1, b.x, b.y, p.turn⟩ := by
        unfold plV
        dsimp only
        rw [if_neg (fun h => by rw [hpb] at h; exact absurd h.2 (by decide)), if_neg (fun h => by rw [hpb] at h; exact absurd h.2 (by decide)), P2, hb]
      have e2 : frV (st l 0) i (p :: ps) = plV (st l 0) i p :: frV (st l 0) (i + 1) ps := by
        show (if onF (st l 0) p then _ else _) ++ _ = _
        have : onF (st l 0) p = true := by unfold onF; rw [hpb]; simp
        rw [this]; rfl
      have e3 : bkV (st l 0) i (p :: ps) = bkV (st l 0) (i + 1) ps := by
        show (if onB (st l 0) p then _ else _) ++ _ = _
        have : onB (st l 0) p = false := by unfold onB; rw [hpb]; rfl
        rw [this]; rfl
      rw [e2, e3, q0, q1]
      refine half2 l gs ps (i + 1) (stepI gs D _) (stepI gs F _) B hl' fun a c ha hc => ?_
      cases hG : gs[i]? with
      | none => rw [step_none rfl hG, step_none rfl hG]; exact h a c ha hc
      | some G =>
        obtain ⟨s1, s2⟩ := hsz G hG
        rw [step_px rfl hG, step_px rfl hG, step_px rfl hG]
        dsimp only
        obtain ⟨u1, u2⟩ := h a c ha hc
        constructor
        · by_cases hin : b.x ≤ a ∧ a < b.x + ((turnI G p.turn).W : Int) ∧ b.y ≤ c ∧ c < b.y + ((turnI G p.turn).H : Int)
          · rw [if_pos hin, if_pos hin]
          · rw [if_neg hin, if_neg hin]; exact u1
        · rw [if_neg (by omega)]; exact u2
/-- At styles 1 and 2 both sides have all pages. -/
theorem bk_fr (l : Lay) (s : Int) (hs : s ≠ 0) : ∀ (ps : List Pg) (i : Nat), bkV (st l s) i ps = frV (st l s) i ps
  | [], i => rfl
  | p :: ps, i => by
    have h := bk_fr l s hs ps (i + 1)
    have h0 : ((st l s).style == 0) = false := by show (s == 0) = false; simpa using hs
    show (if onB (st l s) p then _ else _) ++ bkV (st l s) (i + 1) ps = (if onF (st l s) p then _ else _) ++ frV (st l s) (i + 1) ps
    rw [h]
    unfold onB onF
    rw [h0]
    simp
end Go.Proofs.Ytdblibjmgamjeaa
namespace Go.Proofs.Ytdblibjmgamjeaa
set_option linter.unusedVariables false
def frI (l : Lay) (x : Sht) (gs : List Img) : Img := impI (fullW l).toNat (fullH l).toNat gs (frV l 0 ((pagesV l.sc x).take gs.length))
def bkI (l : Lay) (x : Sht) (gs : List Img) : Img := impI (fullW l).toNat (fullH l).toNat gs (bkV l 0 ((pagesV l.sc x).take gs.length))
def cutS0 (m p : Img) : List (Img × Img) := [(cropI m 0 0 m.W m.H, cropI p 0 0 m.W m.H)]
def cutS1 (m p : Img) (V : Nat) : List (Img × Img) := [(cropI m 0 0 V m.H, cropI p V 0 V m.H), (cropI p 0 0 V m.H, cropI m V 0 V m.H)]
def cutS2 (m p : Img) (V : Nat) : List (Img × Img) := [(cropI m 0 0 m.W V, turnI (cropI p 0 V m.W V) 2), (cropI p 0 0 m.W V, turnI (cropI m 0 V m.W V) 2)]
def ss0 (l : Lay) (x : Sht) (gs : List Img) : List (Img × Img) := cutS0 (frI (st l 0) x gs) (bkI (st l 0) x gs)
def ss1 (l : Lay) (x : Sht) (gs : List Img) : List (Img × Img) := cutS1 (frI (st l 1) x gs) (bkI (st l 1) x gs) (oW l)
def ss2 (l : Lay) (x : Sht) (gs : List Img) : List (Img × Img) := cutS2 (frI (st l 2) x gs) (bkI (st l 2) x gs) (oH l)
theorem fr_size (l : Lay) (x : Sht) (gs : List Img) : (frI l x gs).W = (fullW l).toNat ∧ (frI l x gs).H = (fullH l).toNat ∧ (bkI l x gs).W = (fullW l).toNat ∧ (bkI l x gs).H = (fullH l).toNat :=
  ⟨(imp_size _ _ _ _).1, (imp_size _ _ _ _).2, (imp_size _ _ _ _).1, (imp_size _ _ _ _).2⟩
theorem one_pos {l : Lay} {x : Sht} (hx : Good l x) : 1 ≤ oneW l ∧ 1 ≤ oneH l := by
  have hp := leaf_pos hx
  have hm := hx.margin
  have h1 := Int.mul_le_mul hx.f.inn.1 hp.1 (by omega) (by have := hx.f.inn.1; omega)
  have h2 := Int.mul_le_mul hx.f.inn.2.2.1 hp.2 (by omega) (by have := hx.f.inn.2.2.1; omega)
  unfold oneW oneH
  omega
theorem turns_law {l : Lay} {x : Sht} (hx : Good (st l 0) x) {gs : List Img} (hW : ∀ g ∈ gs, (g.W : Int) = l.w) (hH : ∀ g ∈ gs, (g.H : Int) = l.h) :
    ∀ s ∈ ss1 l x gs ++ ss2 l x gs, SameI (cropI (frI (st l 0) x gs) 0 0 (frI (st l 0) x gs).W (frI (st l 0) x gs).H) s.1 ∧ SameI (cropI (bkI (st l 0) x gs) 0 0 (frI (st l 0) x gs).W (frI (st l 0) x gs).H) s.2 := by
  have hp := one_pos hx
  have o1 : oneW (st l 0) = oneW l ∧ oneH (st l 0) = oneH l := ⟨rfl, rfl⟩
  rw [o1.1, o1.2] at hp
  have hlies : ∀ k (h : k < ((pagesV l.sc x).take gs.length).length), Lies l gs (0 + k) ((pagesV l.sc x).take gs.length)[k] := fun k hk => by
    have hk2 : k < (pagesV l.sc x).length := by rw [List.length_take] at hk; omega
    have h := lies_of hx hW hH (i := k) hk2
    rw [Nat.zero_add, List.getElem_take]
    exact ⟨h.x0, h.x1, h.y0, h.y1, h.t, h.sz⟩
  obtain ⟨ps, hps⟩ : ∃ ps, ps = (pagesV l.sc x).take gs.length := ⟨_, rfl⟩
  have z0 := fr_size (st l 0) x gs
  have z1 := fr_size (st l 1) x gs
  have z2 := fr_size (st l 2) x gs
  have w0 : fullW (st l 0) = oneW l ∧ fullH (st l 0) = oneH l ∧ fullW (st l 1) = oneW l * 2 ∧ fullH (st l 1) = oneH l ∧ fullW (st l 2) = oneW l ∧ fullH (st l 2) = oneH l * 2 := ⟨rfl, rfl, rfl, rfl, rfl, rfl⟩
  obtain ⟨v1, v2, v3, v4, v5, v6⟩ := w0
  rw [v1, v2] at z0
  rw [v3, v4] at z1
  rw [v5, v6] at z2
  have F0 : frI (st l 0) x gs = foldI (fillI (oneW l).toNat (oneH l).toNat 0) gs (frV (st l 0) 0 ps) := by rw [hps]; rfl
  have B0 : bkI (st l 0) x gs = foldI (fillI (oneW l).toNat (oneH l).toNat 0) gs (bkV (st l 0) 0 ps) := by rw [hps]; rfl
  have F1 : frI (st l 1) x gs = foldI (fillI (oneW l * 2).toNat (oneH l).toNat 0) gs (frV (st l 1) 0 ps) := by rw [hps]; rfl
  have B1 : bkI (st l 1) x gs = foldI (fillI (oneW l * 2).toNat (oneH l).toNat 0) gs (frV (st l 1) 0 ps) := by rw [hps, ← bk_fr l 1 (by decide)]; rfl
  have F2 : frI (st l 2) x gs = foldI (fillI (oneW l).toNat (oneH l * 2).toNat 0) gs (frV (st l 2) 0 ps) := by rw [hps]; rfl
  have B2 : bkI (st l 2) x gs = foldI (fillI (oneW l).toNat (oneH l * 2).toNat 0) gs (frV (st l 2) 0 ps) := by rw [hps, ← bk_fr l 2 (by decide)]; rfl
  have K1 := half1 l gs ps 0 (fillI (oneW l * 2).toNat (oneH l).toNat 0) (fillI (oneW l).toNat (oneH l).toNat 0) (fillI (oneW l).toNat (oneH l).toNat 0) (by rw [hps]; exact hlies) (fun a b _ _ => ⟨rfl, rfl⟩)
  have K2 := half2 l gs ps 0 (fillI (oneW l).toNat (oneH l * 2).toNat 0) (fillI (oneW l).toNat (oneH l).toNat 0) (fillI (oneW l).toNat (oneH l).toNat 0) (by rw [hps]; exact hlies) (fun a b _ _ => ⟨rfl, rfl⟩)
  rw [← F0, ← B0] at K1 K2
  have eW : (oW l : Int) = oneW l := by unfold oW; omega
  have eH : (oH l : Int) = oneH l := by unfold oH; omega
  have EB1 : bkI (st l 1) x gs = frI (st l 1) x gs := by rw [B1, F1]
  have EB2 : bkI (st l 2) x gs = frI (st l 2) x gs := by rw [B2, F2]
  rw [← F1] at K1
  rw [← F2] at K2
  have SA1 : SameI (cropI (frI (st l 0) x gs) 0 0 (frI (st l 0) x gs).W (frI (st l 0) x gs).H) (cropI (frI (st l 1) x gs) 0 0 (oW l) (frI (st l 1) x gs).H) := by
    refine ⟨by show (frI (st l 0) x gs).W = oW l; rw [z0.1]; rfl, by show (frI (st l 0) x gs).H = (frI (st l 1) x gs).H; rw [z0.2.1, z1.2.1], fun i j hi hj => ?_⟩
    have hi : i < (frI (st l 0) x gs).W := hi
    rw [z0.1] at hi
    have h := (K1 (0 + (i : Int)) (0 + (j : Int)) (by omega) (by omega)).1
    exact h.symm
  have SB1 : SameI (cropI (bkI (st l 0) x gs) 0 0 (frI (st l 0) x gs).W (frI (st l 0) x gs).H) (cropI (frI (st l 1) x gs) (oW l) 0 (oW l) (frI (st l 1) x gs).H) := by
    refine ⟨by show (frI (st l 0) x gs).W = oW l; rw [z0.1]; rfl, by show (frI (st l 0) x gs).H = (frI (st l 1) x gs).H; rw [z0.2.1, z1.2.1], fun i j hi hj => ?_⟩
    have hi : i < (frI (st l 0) x gs).W := hi
    rw [z0.1] at hi
    have h := (K1 (0 + (i : Int)) (0 + (j : Int)) (by omega) (by omega)).2
    show (bkI (st l 0) x gs).px (0 + (i : Int)) (0 + (j : Int)) = (frI (st l 1) x gs).px ((oW l : Int) + (i : Int)) (0 + (j : Int))
    rw [← h, eW]
    congr 1; omega
  have SA2 : SameI (cropI (frI (st l 0) x gs) 0 0 (frI (st l 0) x gs).W (frI (st l 0) x gs).H) (cropI (frI (st l 2) x gs) 0 0 (frI (st l 2) x gs).W (oH l)) := by
    refine ⟨by show (frI (st l 0) x gs).W = (frI (st l 2) x gs).W; rw [z0.1, z2.1], by show (frI (st l 0) x gs).H = oH l; rw [z0.2.1]; rfl, fun i j hi hj => ?_⟩
    have hj : j < (frI (st l 0) x gs).H := hj
    rw [z0.2.1] at hj
    have h := (K2 (0 + (i : Int)) (0 + (j : Int)) (by omega) (by omega)).1
    exact h.symm
  have SB2 : SameI (cropI (bkI (st l 0) x gs) 0 0 (frI (st l 0) x gs).W (frI (st l 0) x gs).H) (turnI (cropI (frI (st l 2) x gs) 0 (oH l) (frI (st l 2) x gs).W (oH l)) 2) := by
    refine ⟨by show (frI (st l 0) x gs).W = (frI (st l 2) x gs).W; rw [z0.1, z2.1], by show (frI (st l 0) x gs).H = oH l; rw [z0.2.1]; rfl, fun i j hi hj => ?_⟩
    have hj : j < (frI (st l 0) x gs).H := hj
    rw [z0.2.1] at hj
    have h := (K2 (0 + (i : Int)) (0 + (j : Int)) (by omega) (by omega)).2
    show (bkI (st l 0) x gs).px (0 + (i : Int)) (0 + (j : Int)) = (frI (st l 2) x gs).px (0 + (((frI (st l 2) x gs).W : Int) - 1 - (i : Int))) ((oH l : Int) + ((oH l : Int) - 1 - (j : Int)))
    rw [← h, eH, z2.1]
    congr 1 <;> omega
  intro s hs
  unfold ss1 ss2 cutS1 cutS2 at hs
  rw [EB1, EB2] at hs
  simp only [List.cons_append, List.nil_append, List.mem_cons, List.not_mem_nil, or_false] at hs
  rcases hs with rfl | rfl | rfl | rfl
  · exact ⟨SA1, SB1⟩
  · exact ⟨SA1, SB1⟩
  · exact ⟨SA2, SB2⟩
  · exact ⟨SA2, SB2⟩
end Go.Proofs.Ytdblibjmgamjeaa
