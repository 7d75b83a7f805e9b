/-
  camera.Number on a picture of a print. Own text.
-/
import Derived.Test.YtcadgjhfdolejaaPlX
namespace Go.Proofs.Ytcadgjhfdolejaa
open Go.RowKit
set_option linter.unusedVariables false
theorem low_congr {t t' : Nat → Nat} {M : Nat} (hM : 0 < M) (h : ∀ i, i < M → t i = t' i) : ∀ n, n ≤ M → lowV t n = lowV t' n ∧ highV t n = highV t' n
  | 0, _ => by unfold lowV highV; rw [h 0 hM]; exact ⟨rfl, rfl⟩
  | n + 1, hn => by
    have e := low_congr hM h n (by omega)
    unfold lowV highV
    rw [e.1, e.2, h n (by omega)]
    exact ⟨rfl, rfl⟩
theorem splitP_congr {t t' : Nat → Nat} {W H : Nat} (h : ∀ i, i < W * H → t i = t' i) : splitP t W H = splitP t' W H := by
  funext X Y
  unfold splitP cutP
  cases e : insideV W H X Y with
  | false => rfl
  | true =>
    unfold insideV at e
    rw [decide_eq_true_eq] at e
    have hp := (place_in (show X.toNat < W by omega) (show Y.toNat < H by omega)).1
    have el := low_congr (by omega) h (W * H) (Nat.le_refl _)
    unfold darkP
    rw [el.1, el.2, h _ hp]
theorem cap_lt {S : Plane} {v : Vw} {W H : Nat} (hm : MarP S W H) (hL : v.dark + 60 ≤ v.light) (hL2 : v.light ≤ 255) (hb : v.blur = 1 → v.noise = []) : ∀ i, i < W * H → capT S v W H i < 256 := fun i hi => by
  unfold capT
  by_cases en : v.noise = []
  · have e2 : ∀ t : Nat → Nat, noisT t v.noise i = t i := fun t => by unfold noisT; rw [if_pos en]
    rw [e2]
    by_cases e : v.blur = 1
    · rw [if_pos e]
      obtain ⟨h1, h2, h3⟩ := place_of hi
      have h4 := near_nine hL (nine_le S (i % W : Nat) (i / W : Nat)) (blur_at (L := v.light) (D := v.dark) hm (by omega) h1 h2)
      rw [h3] at h4
      omega
    · rw [if_neg e]
      unfold imgT
      split <;> omega
  · unfold noisT
    rw [if_neg en]
    omega
/-- What number_any asks of the tones. -/
structure SawOk (S : Plane) (v : Vw) (W H : Nat) (P : Plane) : Prop where
  eq : P = if v.blur = 1 then majP S else S
  tone : ∃ t : Nat → Nat, (∀ i, t i < 256) ∧ splitP t W H = P ∧ ∀ i, i < W * H → capT S v W H i = t i
  inn : InP ⟨W, H, P⟩
theorem saw_ok {S : Plane} {v : Vw} {W H : Nat} (hm : MarP S W H) (hL : v.dark + 60 ≤ v.light) (hL2 : v.light ≤ 255) (hn : ∀ k ∈ v.noise, -14 ≤ k ∧ k ≤ 14) (hb : v.blur = 1 → v.noise = []) {x0 y0 : Nat} (h0 : nine S x0 y0 = 9) :
    ∃ P, SawOk S v W H P := by
  have hs := cap_split hm hL hL2 hn hb h0
  have hlt := cap_lt hm hL hL2 hb
  refine ⟨_, rfl, ⟨fun i => if i < W * H then capT S v W H i else 0, fun i => ?_, ?_, fun i hi => (if_pos hi).symm⟩, fun X Y h => ?_⟩
  · by_cases e : i < W * H
    · show (if i < W * H then _ else _) < 256
      rw [if_pos e]; exact hlt i e
    · show (if i < W * H then _ else _) < 256
      rw [if_neg e]; omega
  · rw [← hs]
    exact splitP_congr fun i hi => if_pos hi
  · rw [← hs] at h
    exact cutP_in h
theorem number_even {l : List UInt8} (hl : DigL l) (h1 : 1 ≤ l.length) (h20 : l.length ≤ 20) {E : Nat → Int} {n c u g : Nat} {A : Int} {S : Plane} {v : Vw} {W H : Nat} (hg : g ≤ 1) (hc : c ≤ 3) (hs : SeeOk l E n c u g A S W) (hH : H = 10 * c + 32)
    (hL : v.dark + 60 ≤ v.light) (hL2 : v.light ≤ 255) (hn : ∀ k ∈ v.noise, -14 ≤ k ∧ k ≤ 14) (hb : v.blur = 1 → v.noise = []) (d cp : Nat) (w : World) (hd : FTab encB w d (W * H) (capT S v W H)) :
    Calls Try.prog 12 #[.agg #[.int .i64 W, .int .i64 H, .slice (some ⟨d, 0, none⟩) (W * H) cp]] w (RetTxt0 l w) := by
  have hm := hs.mar hl hg hH
  obtain ⟨x0, y0, h0⟩ := hs.full hl hg
  obtain ⟨P, hP, ⟨t, ht, hsp, hte⟩, hin⟩ := saw_ok hm hL hL2 hn hb h0
  have hc2 := hs.edge.c2
  have hbar : BarP E n c P A := by
    rw [hP]
    split
    · exact majS_barP (by omega) hg (hs.edge.gap hl) hs.bars
    · exact barS_barP (by omega) hg hs.bars
  have hlo := hs.lo
  have hhi := hs.hi
  obtain ⟨good, hok, hany⟩ := rows_good hl h1 h20 (H := H) hs.edge hbar (by omega)
  have hW1 : 1 ≤ W := by
    have e1 := hs.edge.lo
    have e2 := hs.edge.hi
    have e3 := (hs.edge.gap hl).mono (by omega) 0 n (by omega) (Nat.le_refl _)
    omega
  exact number_any d cp W H t ht ⟨hW1, hs.edge.wid⟩ (by omega) l (by intro e; rw [e] at h1; simp at h1) good good _ rfl (by rw [hsp]; exact hok) (.inl hany) w (hd.congr hte)
theorem number_odd {l : List UInt8} (hl : DigL l) (h1 : 1 ≤ l.length) (h20 : l.length ≤ 20) {E : Nat → Int} {n c u g : Nat} {A : Int} {S : Plane} {v : Vw} {W H : Nat} (hg : g ≤ 1) (hc : c ≤ 3) (hs : SeeOk l E n c u g A (swapP S) H) (hW : W = 10 * c + 32)
    (hL : v.dark + 60 ≤ v.light) (hL2 : v.light ≤ 255) (hn : ∀ k ∈ v.noise, -14 ≤ k ∧ k ≤ 14) (hb : v.blur = 1 → v.noise = []) (d cp : Nat) (w : World) (hd : FTab encB w d (W * H) (capT S v W H)) :
    Calls Try.prog 12 #[.agg #[.int .i64 W, .int .i64 H, .slice (some ⟨d, 0, none⟩) (W * H) cp]] w (RetTxt0 l w) := by
  have hm : MarP S W H := fun X Y h => by
    have := hs.mar hl hg hW Y X h
    omega
  obtain ⟨y0, x0, h0⟩ := hs.full hl hg
  rw [nine_swap] at h0
  obtain ⟨P, hP, ⟨t, ht, hsp, hte⟩, hin⟩ := saw_ok hm hL hL2 hn hb h0
  have hc2 := hs.edge.c2
  have hbar : BarP E n c (swapP P) A := by
    rw [hP]
    split
    · rw [← maj_swap]
      exact majS_barP (by omega) hg (hs.edge.gap hl) hs.bars
    · exact barS_barP (by omega) hg hs.bars
  have hlo := hs.lo
  have hhi := hs.hi
  have e1 := hs.edge.lo
  have e2 := hs.edge.hi
  have e3 := (hs.edge.gap hl).mono (by omega) 0 n (by omega) (Nat.le_refl _)
  obtain ⟨T, hT⟩ : ∃ T, T = turnN ⟨W, H, splitP t W H⟩ 1 := ⟨_, rfl⟩
  have hTp : ∀ X Y, T.p X Y = swapP P ((H : Int) - 1 - X) Y := fun X Y => by
    rw [hT, hsp]
    exact turnS_p hin X Y
  have hTW : T.W = H ∧ T.H = W := by rw [hT]; exact ⟨rfl, rfl⟩
  have hodd := hs.edge.odd
  have hrow : ∀ Y D, (∀ X, swapP P X Y = true ↔ OnE E n D X) → ∀ X, T.p X Y = true ↔ OnE (revE E n H) n D X := fun Y D h X => by
    rw [hTp, h, onE_turn E n hodd.1]
  have hbarT : BarP (revE E n H) n c T.p A := by
    refine ⟨fun Y => ?_, ?_, fun X Y h => ?_⟩
    · rcases hbar.row Y with h | ⟨D, d1, d2, h⟩
      · exact .inl fun X => by rw [hTp, h]
      · exact .inr ⟨D, d1, d2, hrow Y D h⟩
    · obtain ⟨D, d1, d2, h⟩ := hbar.one
      exact ⟨D, d1, d2, hrow _ D h⟩
    · rw [hTp] at h
      exact hbar.span _ _ h
  have hedge : EdgeOk l (revE E n H) n c u H := hs.edge.rev (by omega) (by omega)
  obtain ⟨good, hok, hany⟩ := rows_good hl h1 h20 (H := W) hedge hbarT (by omega)
  exact number_any d cp W H t ht (by omega) ⟨by omega, hs.edge.wid⟩ l (by intro e; rw [e] at h1; simp at h1) (fun _ => false) good T hT (by rw [hsp]; exact rows_bad hc hbar (by omega)) (.inr ⟨anyB_none H, by rw [hTW.1, hTW.2]; exact hok, by rw [hTW.2]; exact hany⟩) w (hd.congr hte)
/-- camera.Number reads the print from each side. -/
theorem number_see {l : List UInt8} (hl : DigL l) (h1 : 1 ≤ l.length) (h20 : l.length ≤ 20) {f : Nat → Nat} {u N g W : Nat} (hN : N = (widV l).length) (hf : ∀ k, k < N → (f k : Int) = wAt l k) (hu : 3 ≤ u) (hg : g ≤ 1) (hW : posV f u N = W)
    {v : Vw} (hv : VwOk v) (hc : v.sc = 2 ∨ v.sc = 3) (hbig : (W + 6) * v.sc + 32 ≤ 1024) (hL : v.dark + 60 ≤ v.light) (hn : ∀ k ∈ v.noise, -14 ≤ k ∧ k ≤ 14) (hb : v.blur = 1 → v.noise = [])
    {Q : Plane} (hin : InP ⟨W + 6, 10, Q⟩) (hQ : ∀ X Y : Int, Q X Y = true ↔ ∃ d, dl g Y = some d ∧ OnBar f u N 4 d X) {T : Bm} (hT : turnN ⟨W + 6, 10, Q⟩ v.turn = T) {Wi Hi : Nat} (hWi : Wi = T.W * v.sc + 32) (hHi : Hi = T.H * v.sc + 32)
    (d cp : Nat) (w : World) (hd : FTab encB w d (Wi * Hi) (capT (capP T.p v.sc v.x v.y) v Wi Hi)) :
    Calls Try.prog 12 #[.agg #[.int .i64 Wi, .int .i64 Hi, .slice (some ⟨d, 0, none⟩) (Wi * Hi) cp]] w (RetTxt0 l w) := by
  obtain ⟨⟨E0, A0, s0⟩, ⟨E1, A1, s1⟩, ⟨E2, A2, s2⟩, ⟨E3, A3, s3⟩⟩ := see_print (g := g) hl hN hf hu hg hc hv.x hv.y hW rfl hbig hin hQ
  have hc3 : v.sc ≤ 3 := by omega
  have ht := hv.turn
  have hL2 := hv.tone.2
  obtain e | e | e | e : v.turn = 0 ∨ v.turn = 1 ∨ v.turn = 2 ∨ v.turn = 3 := by omega
  all_goals
    rw [e] at hT
    subst hT
  · rw [show (turnN ⟨W + 6, 10, Q⟩ 0).W = W + 6 from rfl] at hWi
    rw [show (turnN ⟨W + 6, 10, Q⟩ 0).H = 10 from rfl] at hHi
    rw [← hWi] at s0
    exact number_even hl h1 h20 hg hc3 s0 hHi hL hL2 hn hb d cp w hd
  · rw [show (turnN ⟨W + 6, 10, Q⟩ 1).W = 10 from rfl] at hWi
    rw [show (turnN ⟨W + 6, 10, Q⟩ 1).H = W + 6 from rfl] at hHi
    rw [← hHi] at s1
    exact number_odd hl h1 h20 hg hc3 s1 hWi hL hL2 hn hb d cp w hd
  · rw [show (turnN ⟨W + 6, 10, Q⟩ 2).W = W + 6 from rfl] at hWi
    rw [show (turnN ⟨W + 6, 10, Q⟩ 2).H = 10 from rfl] at hHi
    rw [← hWi] at s2
    exact number_even hl h1 h20 hg hc3 s2 hHi hL hL2 hn hb d cp w hd
  · rw [show (turnN ⟨W + 6, 10, Q⟩ 3).W = 10 from rfl] at hWi
    rw [show (turnN ⟨W + 6, 10, Q⟩ 3).H = W + 6 from rfl] at hHi
    rw [← hHi] at s3
    exact number_odd hl h1 h20 hg hc3 s3 hWi hL hL2 hn hb d cp w hd
end Go.Proofs.Ytcadgjhfdolejaa
