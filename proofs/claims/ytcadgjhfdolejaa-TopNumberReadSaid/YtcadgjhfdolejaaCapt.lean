/-
  The walk of camera.Capture. Printed by gen_cap.py. Own text.
-/
import Derived.Test.YtcadgjhfdolejaaWin
import Derived.Test.YtcadgjhfdolejaaNear
namespace Go.Proofs.Ytcadgjhfdolejaa
open Go.RowKit
set_option linter.unusedVariables false
/-- A table up to place k, another one behind. -/
def mixT (f t : Nat → Nat) (k : Nat) : Nat → Nat := fun i => if i < k then f i else t i
theorem mixT_zero (f t : Nat → Nat) : mixT f t 0 = t := by funext i; unfold mixT; rw [if_neg (by omega)]
theorem mixT_at (f t : Nat → Nat) (k : Nat) : mixT f t k k = t k := by unfold mixT; rw [if_neg (by omega)]
theorem mixT_succ (f t : Nat → Nat) (k : Nat) : mixT f t (k + 1) = fun i => if i = k then f k else mixT f t k i := by
  funext i
  unfold mixT
  by_cases e : i = k
  · rw [if_pos e, if_pos (by omega), e]
  · rw [if_neg e]
    by_cases h : i < k
    · rw [if_pos h, if_pos (by omega)]
    · rw [if_neg h, if_neg (by omega)]
theorem mixT_all {f t : Nat → Nat} {n : Nat} : ∀ i, i < n → mixT f t n i = f i := fun i hi => by unfold mixT; rw [if_pos hi]
theorem mixT_same {f t : Nat → Nat} {k : Nat} (h : f k = t k) : mixT f t (k + 1) = mixT f t k := by
  funext i
  rw [mixT_succ]
  show (if i = k then _ else _) = _
  by_cases e : i = k
  · rw [if_pos e, h, e, mixT_at]
  · rw [if_neg e]
/-- Bytes as a row that can be appended. -/
theorem ftab_row {w : World} {d n : Nat} {t : Nat → Nat} (h : FTab encB w d n t) (hm : n ≤ maxLen) (c : Nat) :
    ∃ xs : List Nat, IsSlice w 1 (enc1 encB) (.slice (some ⟨d, 0, none⟩) n c) xs ∧ xs.length = n ∧ ∀ w' base e g cap, Arr w' base e encB g cap xs → FTab encB w' g n t := by
  have hl : ((List.range n).map t).length = n := by simp
  refine ⟨(List.range n).map t, ⟨some ⟨d, 0, none⟩, c, by rw [hl], fun e => (by cases e), by rw [hl]; exact hm, fun i hi j hj => ?_⟩, hl, fun w' base e g cap ha => ⟨fun i hi => ?_, fun o => ha.frozen o⟩⟩
  · rw [hl] at hi
    obtain rfl : j = 0 := by omega
    refine ⟨encB (t i), by simp [enc1], d, 0, rfl, ?_⟩
    rw [show 0 + (i * 1 + 0) = i by omega]
    exact h.at' i hi
  · have hc := ha.cell (i := i) (by rw [hl]; exact hi)
    rw [hc]
    simp
/-- Dark places of the image: the bitmap, scaled and moved. -/
def capP (p : Plane) (c vx vy : Nat) : Plane := fun X Y => decide (0 ≤ X - vx) && decide (0 ≤ Y - vy) && p ((X - vx) / c) ((Y - vy) / c)
/-- The image's tones. -/
def imgT (dk : Plane) (L D W : Nat) : Nat → Nat := fun i => if dk ((i % W : Nat) : Int) ((i / W : Nat) : Int) = true then D else L
/-- The blurred image. -/
def blurT (t : Nat → Nat) (W H : Nat) : Nat → Nat := fun i => (nearV (winS t W H (i % W) (i / W) : Nat) (winN W H (i % W) (i / W) : Nat)).toNat
/-- The image with noise. -/
def noisT (t : Nat → Nat) (ns : List Int) : Nat → Nat := fun i => if ns = [] then t i else (max 0 (min 255 ((t i : Int) + ns.getD (i % ns.length) 0))).toNat
def capT (dk : Plane) (v : Vw) (W H : Nat) : Nat → Nat := noisT (if v.blur = 1 then blurT (imgT dk v.light v.dark W) W H else imgT dk v.light v.dark W) v.noise
theorem MkU.store {w wr : World} {r g d c W H : Nat} {f t : Nat → Nat} {k : Nat} (h : MkU w r g d c W H wr (mixT f t k)) (hk : k < W * H) {x : Nat} (hx : f k = x) : MkU w r g d c W H (wr.setCell ⟨d, k, none⟩ (.int .u8 (x : Int))) (mixT f t (k + 1)) := by
  obtain ⟨l1, l2, l3, l4, l5, l6, l7, l8, l9, l10⟩ := h.lt
  have ho := Only.set wr d k (.int .u8 (x : Int))
  refine ⟨ho.bel h.bel l5, h.tab.heap (ho.hp g (fun e => l9 e.symm)), h.res.heap (ho.hp r (fun e => l8 e.symm)), (h.dat.set hk x).congr fun i _ => by rw [mixT_succ, hx], l1, by rw [ho.sz]; exact l2, l3, by rw [ho.sz]; exact l4, l5, by rw [ho.sz]; exact l6, l7, l8, l9, l10⟩
theorem MkU.congr {w wr : World} {r g d c W H : Nat} {t t' : Nat → Nat} (h : MkU w r g d c W H wr t) (he : ∀ i, i < W * H → t i = t' i) : MkU w r g d c W H wr t' :=
  ⟨h.bel, h.tab, h.res, FTab.congr h.dat he, h.lt⟩
/-- An image of the call's own is returned, and 0. -/
def RetGray (W H : Nat) (t : Nat → Nat) (w : World) (e : Ending) (w' : World) : Prop :=
  ∃ d c, e = .returned (.tuple #[.agg #[.int .i64 W, .int .i64 H, .slice (some ⟨d, 0, none⟩) (W * H) c], .int .i64 0]) ∧ FTab encB w' d (W * H) t ∧ w.heap.size ≤ d ∧ d < w'.heap.size ∧ W * H ≤ c ∧ Below w.heap.size w w'
theorem captRes : Try.f11.results = #[.cell 4 48, .tmp 5] := rfl
theorem u8_wrap {x : Nat} (h : x < 256) : IntKind.u8.wrap (x : Int) = (x : Int) := by
  have key : ∀ x : Nat, x < 256 → IntKind.u8.wrap (x : Int) = (x : Int) := by decide +kernel
  exact key x h
theorem T8.c {w : World} {g : Nat} {v : Vw} {on : Option Addr} {cn : Nat} (h : T8 w g v on cn) :
    w.cell? ⟨g, 0, none⟩ = some (.int .i64 v.sc) ∧ w.cell? ⟨g, 1, none⟩ = some (.int .i64 v.x) ∧ w.cell? ⟨g, 2, none⟩ = some (.int .i64 v.y) ∧ w.cell? ⟨g, 3, none⟩ = some (.int .i64 v.turn) ∧ w.cell? ⟨g, 4, none⟩ = some (.int .i64 v.blur) ∧ w.cell? ⟨g, 5, none⟩ = some (.int .i64 v.light) ∧ w.cell? ⟨g, 6, none⟩ = some (.int .i64 v.dark) ∧ w.cell? ⟨g, 7, none⟩ = some (.slice on v.noise.length cn) :=
  ⟨h.at' 0 (by omega), h.at' 1 (by omega), h.at' 2 (by omega), h.at' 3 (by omega), h.at' 4 (by omega), h.at' 5 (by omega), h.at' 6 (by omega), h.at' 7 (by omega)⟩
/-- What the walk keeps besides the image: the view's box, the turned bitmap. -/
structure CapS (wr : World) (b3 g8 d8 c8 : Nat) (v : Vw) (on : Option Addr) (cn : Nat) (T : Bm) : Prop where
  v : T8 wr b3 v on cn
  b : BitsAt wr g8 d8 c8 T.W T.H T.p
theorem T8.heap {w w' : World} {g : Nat} {v : Vw} {on : Option Addr} {cn : Nat} (h : T8 w g v on cn) (hb : w'.heap[g]? = w.heap[g]?) : T8 w' g v on cn := FTab.heap h hb
theorem BitsAt.heap {w w' : World} {g d c W H : Nat} {p : Plane} (h : BitsAt w g d c W H p) (h1 : w'.heap[g]? = w.heap[g]?) (h2 : w'.heap[d]? = w.heap[d]?) : BitsAt w' g d c W H p :=
  ⟨by rw [World.cell?_of_block (w := w) (a := ⟨g, 0, none⟩) h1]; exact h.c0, by rw [World.cell?_of_block (w := w) (a := ⟨g, 1, none⟩) h1]; exact h.c1, by rw [World.cell?_of_block (w := w) (a := ⟨g, 2, none⟩) h1]; exact h.c2, h.dat.heap h2⟩
theorem CapS.below {wr w' : World} {b3 g8 d8 c8 : Nat} {v : Vw} {on : Option Addr} {cn : Nat} {T : Bm} (h : CapS wr b3 g8 d8 c8 v on cn T) (hT : BmOk T) (hb : Below wr.heap.size wr w') : CapS w' b3 g8 d8 c8 v on cn T :=
  ⟨h.v.below hb, h.b.below hb (by have := hT.1; omega) (by have := hT.2; omega)⟩
theorem CapS.only {wr w' : World} {b3 g8 d8 c8 d : Nat} {v : Vw} {on : Option Addr} {cn : Nat} {T : Bm} (h : CapS wr b3 g8 d8 c8 v on cn T) (ho : Only d wr w') (h1 : b3 ≠ d) (h2 : g8 ≠ d) (h3 : d8 ≠ d) : CapS w' b3 g8 d8 c8 v on cn T :=
  ⟨h.v.heap (ho.hp _ h1), h.b.heap (ho.hp _ h2) (ho.hp _ h3)⟩
set_option maxRecDepth 100000 in
set_option maxHeartbeats 16000000 in
theorem capt_any (d0 c0 W0 H0 : Nat) (p : Plane) (hW0 : 1 ≤ W0 ∧ W0 ≤ 1024) (hH0 : 1 ≤ H0 ∧ H0 ≤ 1024) (v : Vw) (hv : VwOk v) (on : Option Addr) (cn : Nat) (T : Bm) (hT : turnN ⟨W0, H0, p⟩ v.turn = T) (W H : Nat) (hWW : W = T.W * v.sc + 32) (hHH : H = T.H * v.sc + 32) (hW : W ≤ 1024) (hH : H ≤ 1024) (w : World) (hd : Dat w d0 W0 H0 p) (hf : Flat w 1 encInt on v.noise) :
    Calls Try.prog 11 #[.agg #[.int .i64 W0, .int .i64 H0, .slice (some ⟨d0, 0, none⟩) (strV W0 * H0) c0], .agg #[.int .i64 v.sc, .int .i64 v.x, .int .i64 v.y, .int .i64 v.turn, .int .i64 v.blur, .int .i64 v.light, .int .i64 v.dark, .slice on v.noise.length cn]] w (RetGray W H (capT (capP T.p v.sc v.x v.y) v W H) w) := by
  have hTok : BmOk T := by rw [← hT]; exact turnN_ok (s := ⟨W0, H0, p⟩) ⟨hW0, hH0⟩ v.turn
  obtain ⟨m0, hm0⟩ : ∃ m, m = strV W0 * H0 := ⟨_, rfl⟩
  obtain ⟨wa, hwa⟩ : ∃ wa, wa = ((w.alloc (.cells #[.int .i64 W0, .int .i64 H0, .slice (some ⟨d0, 0, none⟩) m0 c0] 29)).alloc (.cells #[.int .i64 v.sc, .int .i64 v.x, .int .i64 v.y, .int .i64 v.turn, .int .i64 v.blur, .int .i64 v.light, .int .i64 v.dark, .slice on v.noise.length cn] 24)).alloc (.cells #[.int .i64 0, .int .i64 0, .slice none 0 0] 48) := ⟨_, rfl⟩
  have HWA : Hid (((w.alloc (.cells #[.int .i64 W0, .int .i64 H0, .slice (some ⟨d0, 0, none⟩) m0 c0] 29)).alloc (.cells #[.int .i64 v.sc, .int .i64 v.x, .int .i64 v.y, .int .i64 v.turn, .int .i64 v.blur, .int .i64 v.light, .int .i64 v.dark, .slice on v.noise.length cn] 24)).alloc (.cells #[.int .i64 0, .int .i64 0, .slice none 0 0] 48) = wa) := hwa.symm
  have hba : Below w.heap.size w wa := by rw [hwa]; exact balloc (balloc (balloc (Below.refl _ w) _) _) _
  have hza : wa.heap.size = w.heap.size + 3 := by rw [hwa]; simp
  have ht2 : T3 wa w.heap.size (.int .i64 W0) (.int .i64 H0) (.slice (some ⟨d0, 0, none⟩) m0 c0) := by rw [hwa]; exact ((T3.new w _ _ _ _).below (balloc (Below.refl _ _) _)).below (balloc (Below.refl _ _) _)
  have ht3 : T8 wa (w.heap.size + 1) v on cn := by
    have h := (T8.new (w.alloc (.cells #[.int .i64 W0, .int .i64 H0, .slice (some ⟨d0, 0, none⟩) m0 c0] 29)) v on cn 24).below (balloc (Below.refl _ _) (.cells #[.int .i64 0, .int .i64 0, .slice none 0 0] 48))
    rw [World.size_alloc] at h
    rw [hwa]; exact h
  have ht4 : T3 wa (w.heap.size + 2) (.int .i64 0) (.int .i64 0) (.slice none 0 0) := by
    have h := T3.new ((w.alloc (.cells #[.int .i64 W0, .int .i64 H0, .slice (some ⟨d0, 0, none⟩) m0 c0] 29)).alloc (.cells #[.int .i64 v.sc, .int .i64 v.x, .int .i64 v.y, .int .i64 v.turn, .int .i64 v.blur, .int .i64 v.light, .int .i64 v.dark, .slice on v.noise.length cn] 24)) (.int .i64 0) (.int .i64 0) (.slice none 0 0) 48
    rw [World.size_alloc, World.size_alloc] at h
    rw [hwa]; exact h
  have hda := hd.below hba (hd.lt (by omega) (by omega))
  have HCK : Hid (Calls Try.prog 17 #[.agg #[.int .i64 W0, .int .i64 H0, .slice (some ⟨d0, 0, none⟩) m0 c0]] wa fun e w' => e = .returned (.int .i64 0) ∧ Below wa.heap.size wa w') := by rw [hm0]; exact check_any d0 c0 W0 H0 p hW0 hH0 wa hda
  have HCV : Hid (∀ W', Below wa.heap.size wa W' → Calls Try.prog 23 #[.agg #[.int .i64 v.sc, .int .i64 v.x, .int .i64 v.y, .int .i64 v.turn, .int .i64 v.blur, .int .i64 v.light, .int .i64 v.dark, .slice on v.noise.length cn]] W' fun e w' => e = .returned (.int .i64 0) ∧ Below W'.heap.size W' w') := fun W' hb => cview_any v hv on cn W' (hf.below (bthen hba hb))
  have HTU : Hid (∀ W', Below wa.heap.size wa W' → Calls Try.prog 24 #[.pointer (some ⟨w.heap.size, 0, none⟩), .int .i64 v.turn] W' (RetBm T W')) := fun W' hb => by
    rw [← hT]
    refine turned_any w.heap.size d0 c0 W0 H0 p hW0 hH0 v.turn (by have := hv.turn; omega) W' ?_
    have h2 := ht2.below hb
    rw [hm0] at h2
    exact ⟨h2.c0, h2.c1, h2.c2, hda.below hb (hda.lt (by omega) (by omega))⟩
  have HBA := Lib.hid hba
  have HT0 : Hid (T3 wa w.heap.size (.int .i64 W0) (.int .i64 H0) (.slice (some ⟨d0, 0, none⟩) m0 c0) ∧ T8 wa (w.heap.size + 1) v on cn ∧ T3 wa (w.heap.size + 2) (.int .i64 0) (.int .i64 0) (.slice none 0 0) ∧ wa.heap.size = w.heap.size + 3) := ⟨ht2, ht3, ht4, hza⟩
  have HF := Lib.hid hf
  have HV := Lib.hid hv
  have HTO := Lib.hid hTok
  obtain ⟨TW, TH, q⟩ := T
  simp only at hWW hHH
  obtain ⟨⟨tw1, tw2⟩, th1, th2⟩ := hTok
  simp only at tw1 tw2 th1 th2
  have hsc := hv.sc
  obtain ⟨sW, hsW⟩ : ∃ s, s = TW * v.sc := ⟨_, rfl⟩
  obtain ⟨sH, hsH⟩ : ∃ s, s = TH * v.sc := ⟨_, rfl⟩
  rw [← hsW] at hWW
  rw [← hsH] at hHH
  have x1 : IntKind.i64.wrap ((TW : Int) * (v.sc : Int)) = (sW : Int) := by rw [hsW, ← Int.natCast_mul]; exact IntWalk.i64_in _ (by rw [← hsW]; omega)
  have x2 : IntKind.i64.wrap ((TH : Int) * (v.sc : Int)) = (sH : Int) := by rw [hsH, ← Int.natCast_mul]; exact IntWalk.i64_in _ (by rw [← hsH]; omega)
  have x3 : IntKind.i64.wrap ((sW : Int) + 32) = (W : Int) := by rw [hWW, Int.natCast_add]; exact IntWalk.i64_in _ (by omega)
  have x4 : IntKind.i64.wrap ((sH : Int) + 32) = (H : Int) := by rw [hHH, Int.natCast_add]; exact IntWalk.i64_in _ (by omega)
  obtain ⟨n, hn⟩ : ∃ n, n = W * H := ⟨_, rfl⟩
  have hnb : n ≤ 1024 * 1024 := by rw [hn]; exact Nat.mul_le_mul hW hH
  have x5 : IntKind.i64.wrap ((W : Int) * (H : Int)) = (n : Int) := by rw [hn, ← Int.natCast_mul]; exact IntWalk.i64_in _ (by rw [← hn]; omega)
  have hWp : 1 ≤ W ∧ 1 ≤ H := by omega
  have HN := Lib.hid hn
  have c0 := ht2.c0
  have c1 := ht2.c1
  have c2 := ht2.c2
  obtain ⟨mT, hmT⟩ : ∃ m, m = strV TW * TH := ⟨_, rfl⟩
  have HMT : Hid (strV TW * TH = mT) := hmT.symm
  rw [← hm0]
  clear hwa hba hza ht2 ht3 ht4 hda hT hd hf hWW hHH hsW hsH hn hmT hm0
  go_enter Try.func11, Try.ntmps11
  go_upto_region 1 with fail
  rw [HWA.out]
  clear HWA
  go_wp2_with fail
  refine HCK.out.mono ?_
  rintro e w2 ⟨rfl, hb2⟩
  have HB2 := Lib.hid hb2
  obtain ⟨v0, v1, v2, v3, v4, v5, v6, v7⟩ := (HT0.out.2.1.below hb2).c
  have HCV2 := Lib.hid (HCV.out w2 hb2)
  clear hb2 HCK HCV c0 c1 c2
  go_wp2_with fail
  refine HCV2.out.mono ?_
  rintro e w3 ⟨rfl, hb3⟩
  have HB3 : Hid (Below wa.heap.size wa w3) := bthen HB2.out hb3
  clear v0 v1 v2 v3 v4 v5 v6 v7 hb3 HCV2 HB2
  obtain ⟨-, -, -, v3, -, -, -, -⟩ := (HT0.out.2.1.below HB3.out).c
  have HTU3 := Lib.hid (HTU.out w3 HB3.out)
  clear HTU
  go_wp2_with fail
  refine HTU3.out.mono ?_
  intro e w4 hret
  obtain ⟨d8, c8, he, hd8, l1, l2, l3, hb4⟩ := hret
  simp only at he hd8 l3
  rw [HMT.out] at he
  subst he
  have HB4 : Hid (Below wa.heap.size wa w4) := bthen HB3.out hb4
  obtain ⟨W5, hW5⟩ : ∃ W5, W5 = w4.alloc (.cells #[.int .i64 TW, .int .i64 TH, .slice (some ⟨d8, 0, none⟩) mT c8] 29) := ⟨_, rfl⟩
  have hb5 : Below w4.heap.size w4 W5 := by rw [hW5]; exact balloc (Below.refl _ _) _
  have h8 : T3 W5 w4.heap.size (.int .i64 TW) (.int .i64 TH) (.slice (some ⟨d8, 0, none⟩) mT c8) := by rw [hW5]; exact T3.new w4 _ _ _ _
  have hz5 : W5.heap.size = w4.heap.size + 1 := by rw [hW5]; simp
  obtain ⟨W6, hW6⟩ : ∃ W6, W6 = W5.alloc (.cells #[.int .i64 W, .int .i64 H, .slice none 0 0] 48) := ⟨_, rfl⟩
  have hb6 : Below W5.heap.size W5 W6 := by rw [hW6]; exact balloc (Below.refl _ _) _
  have h9 : T3 W6 W5.heap.size (.int .i64 W) (.int .i64 H) (.slice none 0 0) := by rw [hW6]; exact T3.new W5 _ _ _ _
  have hz6 : W6.heap.size = W5.heap.size + 1 := by rw [hW6]; simp
  obtain ⟨W7, hW7⟩ : ∃ W7, W7 = W6.alloc (.cells (madeArr (.int .u8 0) n) 5) := ⟨_, rfl⟩
  have hb7 : Below W6.heap.size W6 W7 := by rw [hW7]; exact balloc (Below.refl _ _) _
  have hm7 : FTab encB W7 W6.heap.size n (fun _ => 0) := by rw [hW7]; exact FTab.made encB W6 n 0 _
  have hz7 : W7.heap.size = W6.heap.size + 1 := by rw [hW7]; simp
  have mk := run_makeArr (P := Try.prog) elemU8 Try.underlying27 (.int .u8 0) rfl n (by omega) (by omega) W6
  rw [← hW7] at mk
  have h97 := h9.below hb7
  obtain ⟨W8, hW8⟩ : ∃ W8, W8 = W7.setCell ⟨W5.heap.size, 2, none⟩ (.slice (some ⟨W6.heap.size, 0, none⟩) n n) := ⟨_, rfl⟩
  have ho8 : Only W5.heap.size W7 W8 := by rw [hW8]; exact Only.set W7 _ 2 _
  have t98 : T3 W8 W5.heap.size (.int .i64 W) (.int .i64 H) (.slice (some ⟨W6.heap.size, 0, none⟩) n n) := by rw [hW8]; exact h97.set2 _
  have hbw : Below wa.heap.size wa W7 := bthen HB4.out (bthen hb5 (bthen hb6 hb7))
  have hs4 := HB4.out.size
  obtain ⟨g9, hg9⟩ : ∃ g, g = W5.heap.size := ⟨_, rfl⟩
  obtain ⟨d, hdd⟩ : ∃ g, g = W6.heap.size := ⟨_, rfl⟩
  obtain ⟨g8, hg8⟩ : ∃ g, g = w4.heap.size := ⟨_, rfl⟩
  have hlw : w3.heap.size ≤ d8 := l1
  have hs3 := HB3.out.size
  have HU : Hid (MkU w (w.heap.size + 2) g9 d n W H W8 (fun _ => 0) ∧ CapS W8 (w.heap.size + 1) g8 d8 c8 v on cn ⟨TW, TH, q⟩) := by
    have hz := HT0.out.2.2.2
    refine ⟨⟨ho8.bel (bthen HBA.out hbw) (by omega), by rw [hg9, hdd, ← HN.out]; exact t98, (HT0.out.2.2.1.below hbw).heap (ho8.hp _ (by omega)), by rw [hdd, ← HN.out]; exact FTab.heap hm7 (ho8.hp _ (by omega)), by omega, by rw [ho8.sz]; omega, by omega, by rw [ho8.sz]; omega, by omega, by rw [ho8.sz]; omega, by omega, by omega, by omega, by rw [HN.out]; exact Nat.le_refl _⟩, ⟨(HT0.out.2.1.below hbw).heap (ho8.hp _ (by omega)), ?_⟩⟩
    have hx := hd8.below (bthen hb5 (bthen hb6 hb7)) l2
    have h8x := (h8.below hb6).below hb7
    rw [← HMT.out] at h8x
    refine BitsAt.heap (w := W7) ⟨by rw [hg8]; exact h8x.c0, by rw [hg8]; exact h8x.c1, by rw [hg8]; exact h8x.c2, hx⟩ (ho8.hp _ (by omega)) (ho8.hp _ (by omega))
  have HNE : Hid (w.heap.size + 1 ≠ d ∧ g8 ≠ d ∧ d8 ≠ d ∧ g9 ≠ d) := by have hz := HT0.out.2.2.2; refine ⟨?_, ?_, ?_, ?_⟩ <;> omega
  have HW5 : Hid (w4.alloc (.cells #[.int .i64 TW, .int .i64 TH, .slice (some ⟨d8, 0, none⟩) mT c8] 29) = W5) := hW5.symm
  have HW6 : Hid (W5.alloc (.cells #[.int .i64 W, .int .i64 H, .slice none 0 0] 48) = W6) := hW6.symm
  have HW8 : Hid (W7.setCell ⟨g9, 2, none⟩ (.slice (some ⟨d, 0, none⟩) n n) = W8) := by rw [hg9, hdd]; exact hW8.symm
  obtain ⟨s0, -⟩ := ((HT0.out.2.1.below (bthen HB4.out hb5))).c
  have k0 := h8.c0
  have k1 := h8.c1
  have j0 := h9.c0
  have j1 := h9.c1
  have i2 := h97.c2
  have i0 := h97.c0
  have ifr := h97.fr
  have t1 : decide (1024 < W) = false := decide_eq_false (by omega)
  have t2 : decide (1024 < H) = false := decide_eq_false (by omega)
  have t1' : decide (1024 < (W : Int)) = false := decide_eq_false (by omega)
  have t2' : decide (1024 < (H : Int)) = false := decide_eq_false (by omega)
  have G8 := Lib.hid hg8
  have G9 := Lib.hid hg9
  have GD := Lib.hid hdd
  clear hW5 hb5 h8 hz5 hW6 hb6 h9 hz6 hW7 hb7 hm7 hz7 h97 hW8 ho8 t98 hbw hs4 hlw hs3 hd8 l1 l2 l3 hb4 v3 HTU3 HB3 HB4 HT0 HBA hg8 hg9 hdd
  dsimp only
  go_upto_region 8 with fail
  rw [HW5.out]
  clear HW5
  go_upto_region 9 with fail
  rw [HW6.out]
  clear HW6 k0 k1 s0
  go_upto_region 12 with fail
  rw [← G9.out, ← GD.out, ← G8.out]
  rw [HW8.out]
  obtain ⟨b4, hb4'⟩ : ∃ b, b = w.heap.size + 1 + 1 := ⟨_, rfl⟩
  have e4 : w.heap.size + 2 = b4 := by omega
  rw [e4] at HU
  rw [← hb4']
  obtain ⟨b3, hb3'⟩ : ∃ b, b = w.heap.size + 1 := ⟨_, rfl⟩
  rw [← hb3'] at HU HNE ⊢
  obtain ⟨dk, hdk⟩ : ∃ dk, dk = capP q v.sc v.x v.y := ⟨_, rfl⟩
  have HDK := Lib.hid hdk
  obtain ⟨f1, hf1⟩ : ∃ f, f = imgT dk v.light v.dark W := ⟨_, rfl⟩
  have HF1 := Lib.hid hf1
  clear hb4' hb3' e4 hdk hf1 HW8 G8 G9 GD mk j0 j1 i2 i0 ifr t1 t2 t1' t2' x1 x2 x3 x4 x5 hW0 hH0
  have z1 := HU.out.1.tab.c1
  go_wp2_with fail
  go_loopw [66] (fun i wr => ∃ y : Nat, y ≤ H ∧ i = .int .i64 y ∧ Hid (MkU w b4 g9 d n W H wr (mixT f1 (fun _ => 0) (y * W)) ∧ CapS wr b3 g8 d8 c8 v on cn ⟨TW, TH, q⟩)) (fun i _ => H - (intOf i).toNat)
  case atStart => exact ⟨0, by omega, rfl, by show MkU _ _ _ _ _ _ _ _ _ ∧ _; rw [Nat.zero_mul, mixT_zero]; exact HU.out⟩
  case round =>
    clear HU z1
    obtain ⟨y, hy, rfl, HX⟩ := hrel
    obtain ⟨wy, rfl⟩ : ∃ wb : World, wb = wr := ⟨_, rfl⟩
    by_cases hly : y < H
    · have kdy : (y : Int) < (H : Int) := by omega
      have z0 := HX.out.1.tab.c0
      go_wp2_with fail
      go_loopw [71] (fun i wr => ∃ x : Nat, x ≤ W ∧ i = .int .i64 x ∧ Hid (MkU w b4 g9 d n W H wr (mixT f1 (fun _ => 0) (y * W + x)) ∧ CapS wr b3 g8 d8 c8 v on cn ⟨TW, TH, q⟩)) (fun i _ => W - (intOf i).toNat)
      case atStart => exact ⟨0, by omega, rfl, HX⟩
      case round =>
        clear HX z0
        obtain ⟨x, hx, rfl, HY⟩ := hrel
        obtain ⟨wx, rfl⟩ : ∃ wb : World, wb = wr := ⟨_, rfl⟩
        by_cases hlx : x < W
        · have kdx : (x : Int) < (W : Int) := by omega
          obtain ⟨v0, v1, v2, v3, v4, v5, v6, v7⟩ := HY.out.2.v.c
          clear v3 v4 v7
          have hxv := HV.out.x
          have hyv := HV.out.y
          obtain ⟨xi, hxi⟩ : ∃ i : Int, i = (x : Int) - (v.x : Int) := ⟨_, rfl⟩
          obtain ⟨yi, hyi⟩ : ∃ i : Int, i = (y : Int) - (v.y : Int) := ⟨_, rfl⟩
          have a1 : IntKind.i64.wrap ((x : Int) - (v.x : Int)) = xi := by rw [hxi]; exact IntWalk.i64_in _ (by omega)
          have a2 : IntKind.i64.wrap ((y : Int) - (v.y : Int)) = yi := by rw [hyi]; exact IntWalk.i64_in _ (by omega)
          have hdk : dk x y = (decide (0 ≤ xi) && decide (0 ≤ yi) && q (xi / (v.sc : Int)) (yi / (v.sc : Int))) := by rw [HDK.out, hxi, hyi]; rfl
          have hxib : xi ≤ 1024 := by omega
          have hyib : yi ≤ 1024 := by omega
          have HDX := Lib.hid hdk
          clear hdk hxi hyi hxv hyv
          go_upto_region 18 with fail
          go_quiet (fail)
          obtain ⟨wv, hwv⟩ : ∃ w', w' = wx.drewN nq := ⟨_, rfl⟩
          rw [← hwv]
          have HYV : Hid (MkU w b4 g9 d n W H wv (mixT f1 (fun _ => 0) (y * W + x)) ∧ CapS wv b3 g8 d8 c8 v on cn ⟨TW, TH, q⟩) := by
            rw [hwv]; exact ⟨(HY.out.1.below (bdrewN (Below.refl _ _) _)), HY.out.2.below HTO.out (bdrewN (Below.refl _ _) _)⟩
          clear a1 a2 hwv v0 v1 v2 v5 v6 HY
          obtain ⟨v0, v1, v2, v3, v4, v5, v6, v7⟩ := HYV.out.2.v.c
          clear v3 v4 v7
          go_upto_region 20 with fail
          go_cut [100] from 84 to 99 (fun s100 wx' => s100 = .bool (dk x y) ∧ Hid (MkU w b4 g9 d n W H wx' (mixT f1 (fun _ => 0) (y * W + x)) ∧ CapS wx' b3 g8 d8 c8 v on cn ⟨TW, TH, q⟩))
          case first =>
            by_cases h1 : 0 ≤ xi
            · have g1 : decide (0 ≤ xi) = true := decide_eq_true h1
              by_cases h2 : 0 ≤ yi
              · have g2 : decide (0 ≤ yi) = true := decide_eq_true h2
                obtain ⟨xq, hxq⟩ : ∃ i : Int, i = xi / (v.sc : Int) := ⟨_, rfl⟩
                obtain ⟨yq, hyq⟩ : ∃ i : Int, i = yi / (v.sc : Int) := ⟨_, rfl⟩
                have q1 : xi / (v.sc : Int) = xq := hxq.symm
                have q2 : yi / (v.sc : Int) = yq := hyq.symm
                have q3 : xi.tdiv (v.sc : Int) = xq := by rw [Int.tdiv_eq_ediv_of_nonneg h1]; exact q1
                have q4 : yi.tdiv (v.sc : Int) = yq := by rw [Int.tdiv_eq_ediv_of_nonneg h2]; exact q2
                have b1 : 0 ≤ xq ∧ xq ≤ xi := by rw [hxq]; exact ⟨Int.ediv_nonneg h1 (by omega), Int.ediv_le_self _ h1⟩
                have b2 : 0 ≤ yq ∧ yq ≤ yi := by rw [hyq]; exact ⟨Int.ediv_nonneg h2 (by omega), Int.ediv_le_self _ h2⟩
                have q5 : IntKind.i64.wrap xq = xq := IntWalk.i64_in _ (by omega)
                have q6 : IntKind.i64.wrap yq = yq := IntWalk.i64_in _ (by omega)
                have c1 : ¬ (v.sc : Int) = 0 := by omega
                have c2 : ¬ v.sc = 0 := by omega
                have c3 : ((v.sc : Int) == 0) = false := by rw [beq_eq_false_iff_ne]; omega
                have HIS : Hid (∀ n, Calls Try.prog 21 #[.pointer (some ⟨g8, 0, none⟩), .int .i64 xq, .int .i64 yq] (wv.drewN n) (Quiet (.bool (q xq yq)) (wv.drewN n))) := fun n => is_any g8 d8 c8 TW TH q tw2 th2 xq yq _ (HYV.out.2.b.drewN n)
                have HE : Hid (dk x y = q xq yq) := by show _ = _; rw [HDX.out, g1, g2, q1, q2, Bool.true_and, Bool.true_and]
                clear hxq hyq b1 b2 h1 h2
                go_quiet ((go_at_call 21; exact quiet_of (HIS.out _)))
                go_wp2_with fail
                go_meet
                exact ⟨by rw [HE.out], (HYV.out.1.below (bdrewN (Below.refl _ _) _)), HYV.out.2.below HTO.out (bdrewN (Below.refl _ _) _)⟩
              · have g2 : decide (0 ≤ yi) = false := decide_eq_false h2
                have HE : Hid (dk x y = false) := by show _ = _; rw [HDX.out, g2, Bool.and_false, Bool.false_and]
                clear h1 h2
                go_quiet (fail)
                go_wp2_with fail
                go_meet
                exact ⟨by rw [HE.out], (HYV.out.1.below (bdrewN (Below.refl _ _) _)), HYV.out.2.below HTO.out (bdrewN (Below.refl _ _) _)⟩
            · have g1 : decide (0 ≤ xi) = false := decide_eq_false h1
              have HE : Hid (dk x y = false) := by show _ = _; rw [HDX.out, g1, Bool.false_and, Bool.false_and]
              clear h1
              go_quiet (fail)
              go_wp2_with fail
              go_meet
              exact ⟨by rw [HE.out], (HYV.out.1.below (bdrewN (Below.refl _ _) _)), HYV.out.2.below HTO.out (bdrewN (Below.refl _ _) _)⟩
          case rest =>
            obtain ⟨rfl, HY2⟩ := hcut
            obtain ⟨wz, rfl⟩ : ∃ q, q = wc := ⟨_, rfl⟩
            clear HYV HDX v0 v1 v2 v5 v6
            obtain ⟨-, -, -, -, -, v5, v6, -⟩ := HY2.out.2.v.c
            have z0 := HY2.out.1.tab.c0
            have z2 := HY2.out.1.tab.c2
            rw [← HN.out] at z2
            obtain ⟨k, hk⟩ : ∃ k, k = y * W + x := ⟨_, rfl⟩
            have hkn : k < n := by rw [hk, HN.out]; exact row_lt hly hlx
            have hcd := HY2.out.1.dat.at' k (by rw [← HN.out]; exact hkn)
            rw [← hk, mixT_at] at hcd
            have hcd2 : wz.cell? ⟨d, k, none⟩ = some (.int .u8 0) := hcd
            have hfz := HY2.out.1.dat.fz
            obtain ⟨yW, hyW⟩ : ∃ v, v = y * W := ⟨_, rfl⟩
            have y1 : IntKind.i64.wrap ((y : Int) * (W : Int)) = (yW : Int) := by rw [hyW, ← Int.natCast_mul]; exact IntWalk.i64_in _ (by rw [← hyW]; omega)
            have y2 : IntKind.i64.wrap ((yW : Int) + (x : Int)) = (k : Int) := by rw [hk, ← hyW, Int.natCast_add]; exact IntWalk.i64_in _ (by omega)
            have xx : IntKind.i64.wrap ((x : Int) + 1) = (x : Int) + 1 := IntWalk.i64_in _ (by omega)
            have htn := HV.out.tone
            have u1 := u8_wrap (x := v.light) (by omega)
            have u2 := u8_wrap (x := v.dark) (by omega)
            have hfk : f1 k = if dk x y = true then v.dark else v.light := by
              obtain ⟨e1, e2⟩ := place_mod (y := y) hlx
              rw [HF1.out]
              unfold imgT
              rw [hk, e1, e2]
            obtain ⟨b, hb⟩ : ∃ b, b = dk x y := ⟨_, rfl⟩
            rw [← hb] at hfk ⊢
            have HFK := Lib.hid hfk
            have hkn' := hkn
            rw [HN.out] at hkn'
            have HM0 : Hid (MkU w b4 g9 d n W H wz (mixT f1 (fun _ => 0) k) ∧ CapS wz b3 g8 d8 c8 v on cn ⟨TW, TH, q⟩) := by rw [hk]; exact HY2.out
            have HK : Hid (k + 1 = y * W + (x + 1)) := by show _ = _; omega
            have HKN : Hid (k < W * H) := hkn'
            clear hk hb hfk hyW hcd HY2 hkn' htn
            cases b with
            | true =>
              have hm := HM0.out.1.store HKN.out (x := v.dark) (by rw [HFK.out]; rfl)
              have ho := Only.set wz d k (.int .u8 (v.dark : Int))
              have HNX : Hid (MkU w b4 g9 d n W H (wz.setCell ⟨d, k, none⟩ (.int .u8 (v.dark : Int))) (mixT f1 (fun _ => 0) (y * W + (x + 1))) ∧ CapS (wz.setCell ⟨d, k, none⟩ (.int .u8 (v.dark : Int))) b3 g8 d8 c8 v on cn ⟨TW, TH, q⟩) := ⟨by rw [← HK.out]; exact hm, HM0.out.2.only ho HNE.out.1 HNE.out.2.1 HNE.out.2.2.1⟩
              clear hm ho HM0 HFK HKN
              go_wp2_with fail
              go_roundw
              case rel => exact ⟨x + 1, by omega, by go_num, HNX⟩
              case measure => simp [intOf]; omega
            | false =>
              have hm := HM0.out.1.store HKN.out (x := v.light) (by rw [HFK.out]; rfl)
              have ho := Only.set wz d k (.int .u8 (v.light : Int))
              have HNX : Hid (MkU w b4 g9 d n W H (wz.setCell ⟨d, k, none⟩ (.int .u8 (v.light : Int))) (mixT f1 (fun _ => 0) (y * W + (x + 1))) ∧ CapS (wz.setCell ⟨d, k, none⟩ (.int .u8 (v.light : Int))) b3 g8 d8 c8 v on cn ⟨TW, TH, q⟩) := ⟨by rw [← HK.out]; exact hm, HM0.out.2.only ho HNE.out.1 HNE.out.2.1 HNE.out.2.2.1⟩
              clear hm ho HM0 HFK HKN
              go_wp2_with fail
              go_roundw
              case rel => exact ⟨x + 1, by omega, by go_num, HNX⟩
              case measure => simp [intOf]; omega
        · obtain rfl : W = x := by omega
          have HNX : Hid (MkU w b4 g9 d n W H wx (mixT f1 (fun _ => 0) ((y + 1) * W)) ∧ CapS wx b3 g8 d8 c8 v on cn ⟨TW, TH, q⟩) := by
            have h := HY.out
            rw [← Nat.succ_mul] at h
            exact h
          have xy : IntKind.i64.wrap ((y : Int) + 1) = (y : Int) + 1 := IntWalk.i64_in _ (by omega)
          clear HY
          go_wp2_with fail
          go_roundw
          case rel => exact ⟨y + 1, by omega, by go_num, HNX⟩
          case measure => simp [intOf]; omega
    · obtain rfl : H = y := by omega
      have HU : Hid (MkU w b4 g9 d n W H wy f1 ∧ CapS wy b3 g8 d8 c8 v on cn ⟨TW, TH, q⟩) := ⟨HX.out.1.congr fun i hi => by rw [Nat.mul_comm H W]; exact mixT_all i hi, HX.out.2⟩
      clear HX
      obtain ⟨f2, hf2⟩ : ∃ f, f = blurT f1 W H := ⟨_, rfl⟩
      obtain ⟨f12, hf12⟩ : ∃ f, f = (if v.blur = 1 then f2 else f1) := ⟨_, rfl⟩
      have HF2 := Lib.hid hf2
      have HF12 := Lib.hid hf12
      have h256 : ∀ i, f1 i < 256 := fun i => by
        have htn := HV.out.tone
        rw [HF1.out]
        unfold imgT
        split <;> omega
      have H256 := Lib.hid h256
      have hbl := HV.out.blur
      obtain ⟨-, -, -, -, v4, -, -, -⟩ := HU.out.2.v.c
      clear hf2 hf12 h256
      go_wp2_with fail
      go_loopw [118] (fun i wr => ∃ k : Nat, k ≤ v.blur ∧ i = .int .i64 k ∧ Hid (MkU w b4 g9 d n W H wr (if k = 1 then f2 else f1) ∧ CapS wr b3 g8 d8 c8 v on cn ⟨TW, TH, q⟩)) (fun i _ => v.blur - (intOf i).toNat)
      case atStart => exact ⟨0, by omega, rfl, HU⟩
      case round =>
        clear HU v4
        obtain ⟨k, hk, rfl, HX⟩ := hrel
        obtain ⟨wa1, rfl⟩ : ∃ wb : World, wb = wr := ⟨_, rfl⟩
        by_cases hkb : k < v.blur
        · have kb : (k : Int) < (v.blur : Int) := by omega
          have hk0 : ¬ k = 1 := by omega
          have HX0 : Hid (MkU w b4 g9 d n W H wa1 f1 ∧ CapS wa1 b3 g8 d8 c8 v on cn ⟨TW, TH, q⟩) := by
            have h := HX.out
            rw [if_neg hk0] at h
            exact h
          have HKK : Hid (k + 1 = 1 ∧ k + 1 ≤ v.blur) := by show _ ∧ _; omega
          have hke1 : IntKind.i64.wrap ((k : Int) + 1) = (k : Int) + 1 := IntWalk.i64_in _ (by omega)
          have z0 := HX0.out.1.tab.c0
          have z1 := HX0.out.1.tab.c1
          have z2 := HX0.out.1.tab.c2
          rw [← HN.out] at z2
          obtain ⟨w5, hw5⟩ : ∃ w5, w5 = wa1.alloc (.cells #[.int .i64 W, .int .i64 H, .slice (some ⟨d, 0, none⟩) n n] 48) := ⟨_, rfl⟩
          have hb5 : Below wa1.heap.size wa1 w5 := by rw [hw5]; exact balloc (Below.refl _ _) _
          have t5 : T3 w5 wa1.heap.size (.int .i64 W) (.int .i64 H) (.slice (some ⟨d, 0, none⟩) n n) := by rw [hw5]; exact T3.new wa1 _ _ _ _
          have hz5 : w5.heap.size = wa1.heap.size + 1 := by rw [hw5]; simp
          have hx5 : MkU w b4 g9 d n W H w5 f1 ∧ CapS w5 b3 g8 d8 c8 v on cn ⟨TW, TH, q⟩ := ⟨HX0.out.1.below hb5, HX0.out.2.below HTO.out hb5⟩
          obtain ⟨xs, hsl, hxl, hdx⟩ := ftab_row hx5.1.dat (by rw [← HN.out]; unfold maxLen; omega) n
          rw [← HN.out] at hsl hxl
          have e2 := hx5.1.tab.c2
          rw [← HN.out] at e2
          have HSL := Lib.hid hsl
          have HXL := Lib.hid hxl
          have HT5 := Lib.hid t5
          have HX5 := Lib.hid hx5
          have HW5 : Hid (wa1.alloc (.cells #[.int .i64 W, .int .i64 H, .slice (some ⟨d, 0, none⟩) n n] 48) = w5) := hw5.symm
          have hown : Own w5 w5.heap.size 5 1 (enc1 encB) (.slice none 0 0) ([] : List Nat) := Own.nil _ _ _ _ _
          have HZ5 := Lib.hid hz5
          have HN0 : Hid (0 < n ∧ n ≤ 1024 * 1024) := ⟨by rw [HN.out]; exact Nat.mul_pos hWp.1 hWp.2, hnb⟩
          clear hw5 hb5 t5 hx5 hsl hxl HX hz5
          go_upto_region 28 with fail
          rw [HW5.out]
          clear HW5 z0 z1 z2
          go_wp2_with (at_builtin; go_must (refine wpList_appRow rfl (.const (.slice none 0 0)) (.tmp 122) 27 rfl elemU8 Try.underlying27 w5.heap.size _ [] (enc1 encB) rfl hown xs _ rfl HSL.out (fun _ => rfl) ?c1 ?c2 ?c3 ?c4 ?_))
          case c1 => intro y; simp [enc1, encB, Value.oneCell']
          case c2 => have := HXL.out; have := HN0.out; simp; omega
          case c3 => have := HXL.out; have := HN0.out; simp; unfold maxLen; omega
          case c4 => exact Nat.le_refl _
          intro v' w6 hown3 hg3
          have hown4 : Own w6 w5.heap.size 5 1 (enc1 encB) v' xs := by simpa using hown3
          obtain ⟨d15, k15, rfl, ha, hk15, hl15, hl16⟩ := own_arr hown4 (by have := HXL.out; have := HN0.out; omega)
          rw [HXL.out] at hk15 ⊢
          have hb56 : Below w5.heap.size w5 w6 := (Below.refl _ w5).grown hg3 (Nat.le_refl _) (fun j hj => by cases hj)
          have t6 := HT5.out.below hb56
          have hx6 : MkU w b4 g9 d n W H w6 f1 ∧ CapS w6 b3 g8 d8 c8 v on cn ⟨TW, TH, q⟩ := ⟨HX5.out.1.below hb56, HX5.out.2.below HTO.out hb56⟩
          have hd15 : FTab encB w6 d15 n f1 := by rw [HN.out]; exact hdx w6 w5.heap.size _ d15 k15 ha
          obtain ⟨g15, hg15⟩ : ∃ g, g = wa1.heap.size := ⟨_, rfl⟩
          rw [← hg15] at t6 ⊢
          obtain ⟨w7, hw7⟩ : ∃ w7, w7 = w6.setCell ⟨g15, 2, none⟩ (.slice (some ⟨d15, 0, none⟩) n k15) := ⟨_, rfl⟩
          have ho7 : Only g15 w6 w7 := by rw [hw7]; exact Only.set w6 _ 2 _
          have t7 : T3 w7 g15 (.int .i64 W) (.int .i64 H) (.slice (some ⟨d15, 0, none⟩) n k15) := by rw [hw7]; exact t6.set2 _
          have hz := HZ5.out
          have hlt := HX0.out.1.lt
          have hlc := HX0.out.2
          have hg8l : g8 < wa1.heap.size := cell?_lt hlc.b.c0
          have hb3l : b3 < wa1.heap.size := cell?_lt (hlc.v.at' 0 (by omega))
          have hd8l : d8 < wa1.heap.size := hlc.b.dat.lt (by have := HTO.out.1; omega) (by have := HTO.out.2; omega)
          have HU : Hid ((MkU w b4 g9 d n W H w7 (mixT f2 f1 0) ∧ CapS w7 b3 g8 d8 c8 v on cn ⟨TW, TH, q⟩) ∧ T3 w7 g15 (.int .i64 W) (.int .i64 H) (.slice (some ⟨d15, 0, none⟩) n k15) ∧ FTab encB w7 d15 n f1) := by
            rw [mixT_zero]
            refine ⟨⟨?_, hx6.2.only ho7 (by omega) (by omega) (by omega)⟩, t7, FTab.heap hd15 (ho7.hp _ (by omega))⟩
            obtain ⟨l1, l2, l3, l4, l5, l6, l7, l8, l9, l10⟩ := hx6.1.lt
            exact ⟨ho7.bel hx6.1.bel (by omega), hx6.1.tab.heap (ho7.hp _ (by omega)), hx6.1.res.heap (ho7.hp _ (by omega)), FTab.heap hx6.1.dat (ho7.hp _ (by omega)), l1, by rw [ho7.sz]; exact l2, l3, by rw [ho7.sz]; exact l4, l5, by rw [ho7.sz]; exact l6, l7, l8, l9, l10⟩
          have HNE2 : Hid (g15 ≠ d ∧ d15 ≠ d) := by refine ⟨?_, ?_⟩ <;> omega
          have HW7 : Hid (w6.setCell ⟨g15, 2, none⟩ (.slice (some ⟨d15, 0, none⟩) n k15) = w7) := hw7.symm
          have y2 := t6.c2
          have y0 := t6.c0
          have yf := t6.fr
          clear hown3 hown4 hg3 ha hk15 hl15 hl16 hb56 t6 hx6 hd15 hw7 ho7 t7 hz hlt hlc hg8l hb3l hd8l hown HSL HXL hdx HT5 HX5 HX0 HZ5 e2 hg15
          go_upto_region 29 with fail
          rw [HW7.out]
          clear HW7 y2 y0 yf
          have z2 := HU.out.1.1.tab.c2
          rw [← HN.out] at z2
          go_wp2_with fail
          go_loopw [128] (fun i wr => ∃ j : Nat, j ≤ n ∧ i = .int .i64 j ∧ Hid ((MkU w b4 g9 d n W H wr (mixT f2 f1 j) ∧ CapS wr b3 g8 d8 c8 v on cn ⟨TW, TH, q⟩) ∧ T3 wr g15 (.int .i64 W) (.int .i64 H) (.slice (some ⟨d15, 0, none⟩) n k15) ∧ FTab encB wr d15 n f1)) (fun i _ => n - (intOf i).toNat)
          case atStart => exact ⟨0, by omega, rfl, HU⟩
          case round =>
            clear HU z2
            obtain ⟨j, hj, rfl, HY⟩ := hrel
            obtain ⟨wx, rfl⟩ : ∃ wb : World, wb = wr := ⟨_, rfl⟩
            by_cases hlj : j < n
            · have kj : (j : Int) < (n : Int) := by omega
              have z0 := HY.out.1.1.tab.c0
              obtain ⟨x, hx⟩ : ∃ x, x = j % W := ⟨_, rfl⟩
              obtain ⟨y, hy⟩ : ∃ y, y = j / W := ⟨_, rfl⟩
              have hxW : x < W := by rw [hx]; exact Nat.mod_lt _ (by omega)
              have hyH : y < H := by rw [hy]; exact (Nat.div_lt_iff_lt_mul (by omega)).2 (by rw [Nat.mul_comm, ← HN.out]; exact hlj)
              have kx : (j : Int) % (W : Int) = (x : Int) := by rw [hx]; rfl
              have ky : (j : Int) / (W : Int) = (y : Int) := by rw [hy]; rfl
              have kx' : (j : Int).tmod (W : Int) = (x : Int) := by rw [Int.tmod_eq_emod_of_nonneg (by omega)]; exact kx
              have ky' : (j : Int).tdiv (W : Int) = (y : Int) := by rw [Int.tdiv_eq_ediv_of_nonneg (by omega)]; exact ky
              have kw : IntKind.i64.wrap (y : Int) = (y : Int) := IntWalk.i64_in _ (by omega)
              have kk : IntKind.i64.wrap ((j : Int) + 1) = (j : Int) + 1 := IntWalk.i64_in _ (by omega)
              have nW : ¬ (W : Int) = 0 := by omega
              have nW2 : ¬ W = 0 := by omega
              have nW3 : ((W : Int) == 0) = false := by rw [beq_eq_false_iff_ne]; omega
              obtain ⟨S, hS⟩ : ∃ S, S = winS f1 W H x y := ⟨_, rfl⟩
              obtain ⟨Q, hQ⟩ : ∃ Q, Q = winN W H x y := ⟨_, rfl⟩
              have c1 := cnt_bd hxW
              have c2 := cnt_bd hyH
              have hQ1 : 1 ≤ Q := by rw [hQ]; exact Nat.mul_pos (by omega) (by omega)
              have hQ9 : Q ≤ 3 * 3 := by rw [hQ]; exact Nat.mul_le_mul c2.2.1 c1.2.1
              have hSQ : S ≤ Q * 255 := by
                rw [hS, hQ]
                unfold winS winN
                rw [Nat.mul_assoc]
                exact sumR_bd (fun j => sumR_bd (fun i => by have := H256.out (j * W + i); omega) _) _
              have HWI : Hid (∀ N, Calls Try.prog 25 #[.pointer (some ⟨g15, 0, none⟩), .int .i64 x, .int .i64 y, .int .i64 1] (wx.drewN N) (Quiet (.tuple #[.int .i64 S, .int .i64 Q]) (wx.drewN N))) := fun N => by
                have h3 := HY.out.2.1
                rw [HN.out] at h3
                have h4 := HY.out.2.2
                rw [HN.out] at h4
                have h := win_any g15 d15 k15 W H f1 H256.out ⟨by omega, hW⟩ ⟨by omega, hH⟩ x y hxW hyH (wx.drewN N) (h3.drewN N) (FTab.drewN h4 N)
                rw [← hS, ← hQ] at h
                exact h
              have hSQi : (S : Int) ≤ 255 * (Q : Int) := by omega
              have hnv1 : nearV (S : Int) (Q : Int) ≤ 255 := nearV_le (by omega) hSQi
              have hnv0 : 0 ≤ nearV (S : Int) (Q : Int) := le_nearV (by omega) (by omega)
              obtain ⟨bx, hbx⟩ : ∃ bx, bx = (nearV (S : Int) (Q : Int)).toNat := ⟨_, rfl⟩
              have hf2j : f2 j = bx := by
                rw [HF2.out, hbx, hS, hQ, hx, hy]; rfl
              have HNR : Hid (∀ W', Calls Try.prog 26 #[.int .i64 S, .int .i64 Q] W' fun e w' => e = .returned (.int .i64 bx) ∧ w' = W') := fun W' => by
                have h := nearest_any (S : Int) (Q : Int) W' (by omega) (by omega) (by omega) (by omega)
                refine h.mono fun e w' ⟨h1, h2⟩ => ⟨?_, h2.symm⟩
                rw [h1, show nearV (S : Int) (Q : Int) = (bx : Int) by omega]
              have ub := u8_wrap (x := bx) (by omega)
              have HFJ := Lib.hid hf2j
              have HJN : Hid (j < W * H) := by show _ < _; rw [← HN.out]; exact hlj
              clear hx hy hS hQ c1 c2 hQ1 hQ9 hSQ hSQi hnv1 hnv0 hbx hf2j
              go_upto_region 32 with fail
              go_quiet ((go_at_call 25; exact quiet_of (HWI.out _)))
              obtain ⟨wv, hwv⟩ : ∃ w', w' = wx.drewN nq := ⟨_, rfl⟩
              rw [← hwv]
              have HYV : Hid ((MkU w b4 g9 d n W H wv (mixT f2 f1 j) ∧ CapS wv b3 g8 d8 c8 v on cn ⟨TW, TH, q⟩) ∧ T3 wv g15 (.int .i64 W) (.int .i64 H) (.slice (some ⟨d15, 0, none⟩) n k15) ∧ FTab encB wv d15 n f1) := by
                rw [hwv]
                exact ⟨⟨HY.out.1.1.below (bdrewN (Below.refl _ _) _), HY.out.1.2.below HTO.out (bdrewN (Below.refl _ _) _)⟩, HY.out.2.1.drewN _, FTab.drewN HY.out.2.2 _⟩
              clear hwv HY HWI z0 kx ky kx' ky' nW nW2 nW3 kw
              have z2 := HYV.out.1.1.tab.c2
              rw [← HN.out] at z2
              have hcd2 : wv.drew.cell? ⟨d, j, none⟩ = some (.int .u8 (f1 j : Int)) := by
                have h := HYV.out.1.1.dat.at' j HJN.out
                rw [mixT_at] at h
                exact h
              have hfz : ∀ o, wv.drew.frozen? ⟨d, o, none⟩ = false := HYV.out.1.1.dat.fz
              have hm := HYV.out.1.1.store HJN.out HFJ.out
              have ho := Only.set wv d j (.int .u8 (bx : Int))
              have HNX : Hid ((MkU w b4 g9 d n W H ((wv.setCell ⟨d, j, none⟩ (.int .u8 (bx : Int))).drew) (mixT f2 f1 (j + 1)) ∧ CapS ((wv.setCell ⟨d, j, none⟩ (.int .u8 (bx : Int))).drew) b3 g8 d8 c8 v on cn ⟨TW, TH, q⟩) ∧ T3 ((wv.setCell ⟨d, j, none⟩ (.int .u8 (bx : Int))).drew) g15 (.int .i64 W) (.int .i64 H) (.slice (some ⟨d15, 0, none⟩) n k15) ∧ FTab encB ((wv.setCell ⟨d, j, none⟩ (.int .u8 (bx : Int))).drew) d15 n f1) :=
                ⟨⟨hm.below (bdrewN (Below.refl _ _) 1), (HYV.out.1.2.only ho HNE.out.1 HNE.out.2.1 HNE.out.2.2.1).below HTO.out (bdrewN (Below.refl _ _) 1)⟩, (HYV.out.2.1.heap (ho.hp _ HNE2.out.1)).drew, FTab.drew (FTab.heap HYV.out.2.2 (ho.hp _ HNE2.out.2))⟩
              clear hm ho HFJ HYV HJN
              go_upto_region 33 with fail
              refine wp_region_still_tail 8 (by kernel_rfl) (by kernel_rfl) ?_
              simp only [List.take_succ_cons, List.take_zero, List.drop_succ_cons, List.drop_zero]
              repeat (first | still_step | (refine wpStill_step (fun K hK => ?_); go_simp; (with_reducible refine ⟨_, HNR.out _, hK _ ?_⟩); clear hK K))
              refine wpStill_nil ?_
              change wpList _ _ _ _ _ wv.drew
              go_wp2_with fail
              go_roundw
              case rel => exact ⟨j + 1, by omega, by go_num, HNX⟩
              case measure => simp [intOf]; omega
            · obtain rfl : n = j := by omega
              have HNX : Hid (MkU w b4 g9 d n W H wx (if k + 1 = 1 then f2 else f1) ∧ CapS wx b3 g8 d8 c8 v on cn ⟨TW, TH, q⟩) := by
                show MkU _ _ _ _ _ _ _ _ _ ∧ _
                rw [if_pos HKK.out.1]
                exact ⟨HY.out.1.1.congr fun i hi => mixT_all i (by rw [HN.out]; exact hi), HY.out.1.2⟩
              clear HY
              go_wp2_with fail
              go_roundw
              case rel => exact ⟨k + 1, HKK.out.2, by go_num, HNX⟩
              case measure => simp [intOf]; omega
        · have hke : k = v.blur := by omega
          have HU : Hid (MkU w b4 g9 d n W H wa1 f12 ∧ CapS wa1 b3 g8 d8 c8 v on cn ⟨TW, TH, q⟩) := by show MkU _ _ _ _ _ _ _ _ _ ∧ _; rw [HF12.out, ← hke]; exact HX.out
          have kb : decide ((k : Int) < (v.blur : Int)) = false := decide_eq_false (by omega)
          have kb' : decide (k < v.blur) = false := decide_eq_false (by omega)
          clear HX hke
          obtain ⟨f3, hf3⟩ : ∃ f, f = noisT f12 v.noise := ⟨_, rfl⟩
          have HF3 := Lib.hid hf3
          have hz2 := HU.out.1.tab.c2
          rw [← HN.out] at hz2
          clear hf3
          go_wp2_with fail
          clear kb kb'
          go_loopw [156] (fun i wr => ∃ j : Nat, j ≤ n ∧ i = .int .i64 j ∧ Hid (MkU w b4 g9 d n W H wr (mixT f3 f12 j) ∧ CapS wr b3 g8 d8 c8 v on cn ⟨TW, TH, q⟩)) (fun i _ => n - (intOf i).toNat)
          case atStart => exact ⟨0, by omega, rfl, by show MkU _ _ _ _ _ _ _ _ _ ∧ _; rw [mixT_zero]; exact HU.out⟩
          case round =>
            clear HU hz2
            obtain ⟨j, hj, rfl, HY⟩ := hrel
            obtain ⟨wx, rfl⟩ : ∃ wb : World, wb = wr := ⟨_, rfl⟩
            by_cases hlj : j < n
            · have kj : (j : Int) < (n : Int) := by omega
              have kk : IntKind.i64.wrap ((j : Int) + 1) = (j : Int) + 1 := IntWalk.i64_in _ (by omega)
              obtain ⟨-, -, -, -, -, -, -, v7⟩ := HY.out.2.v.c
              obtain ⟨m, hm⟩ : ∃ m, m = v.noise.length := ⟨_, rfl⟩
              rw [← hm] at v7
              by_cases hm0 : m = 0
              · have hns : v.noise = [] := List.eq_nil_of_length_eq_zero (by omega)
                have g1 : decide (0 < m) = false := decide_eq_false (by omega)
                have g1' : decide (0 < (m : Int)) = false := decide_eq_false (by omega)
                have HNX : Hid (MkU w b4 g9 d n W H wx (mixT f3 f12 (j + 1)) ∧ CapS wx b3 g8 d8 c8 v on cn ⟨TW, TH, q⟩) := by
                  show MkU _ _ _ _ _ _ _ _ _ ∧ _
                  rw [mixT_same (by rw [HF3.out]; unfold noisT; rw [if_pos hns])]
                  exact HY.out
                clear HY hm hm0 hns
                go_wp2_with fail
                go_roundw
                case rel => exact ⟨j + 1, by omega, by go_num, HNX⟩
                case measure => simp [intOf]; omega
              · have g1 : decide (0 < m) = true := decide_eq_true (by omega)
                have g1' : decide (0 < (m : Int)) = true := decide_eq_true (by omega)
                have g2 : ¬ (m : Int) = 0 := by omega
                have g3 : ((m : Int) == 0) = false := by rw [beq_eq_false_iff_ne]; omega
                obtain ⟨r, hr⟩ : ∃ r, r = j % m := ⟨_, rfl⟩
                have hrm : r < m := by rw [hr]; exact Nat.mod_lt _ (by omega)
                have kr : (j : Int) % (m : Int) = (r : Int) := by rw [hr]; rfl
                have kr' : (j : Int).tmod (m : Int) = (r : Int) := by rw [Int.tmod_eq_emod_of_nonneg (by omega)]; exact kr
                have hrl : r < v.noise.length := by rw [← hm]; exact hrm
                obtain ⟨bn, off, rfl, hcn⟩ := Flat.i1 (HF.out.below HY.out.1.bel) hrl
                obtain ⟨qn, hqn⟩ : ∃ qn, qn = v.noise[r] := ⟨_, rfl⟩
                rw [← hqn] at hcn
                have hqb := HV.out.val qn (by rw [hqn]; exact List.getElem_mem hrl)
                have HJN : Hid (j < W * H) := by show _ < _; rw [← HN.out]; exact hlj
                have hcd : wx.cell? ⟨d, j, none⟩ = some (.int .u8 (f12 j : Int)) := by
                  have h := HY.out.1.dat.at' j HJN.out
                  rw [mixT_at] at h
                  exact h
                have h12 : f12 j < 256 := by
                  rw [HF12.out]
                  split
                  · rw [HF2.out]
                    unfold blurT
                    have hxW : j % W < W := Nat.mod_lt _ (by omega)
                    have hyH : j / W < H := (Nat.div_lt_iff_lt_mul (by omega)).2 (by rw [Nat.mul_comm]; exact HJN.out)
                    have c1 := cnt_bd hxW
                    have c2 := cnt_bd hyH
                    have hQ1 : 1 ≤ winN W H (j % W) (j / W) := Nat.mul_pos (by omega) (by omega)
                    have hSQ : winS f1 W H (j % W) (j / W) ≤ winN W H (j % W) (j / W) * 255 := by
                      unfold winS winN
                      rw [Nat.mul_assoc]
                      exact sumR_bd (fun j => sumR_bd (fun i => by have := H256.out (j * W + i); omega) _) _
                    generalize winS f1 W H (j % W) (j / W) = S at *
                    generalize winN W H (j % W) (j / W) = Q at *
                    have hSQi : (S : Int) ≤ 255 * (Q : Int) := by omega
                    have hn := nearV_le (n := (S : Int)) (d := (Q : Int)) (k := 255) (by omega) hSQi
                    omega
                  · exact H256.out j
                obtain ⟨pb, hpb⟩ : ∃ pb, pb = f12 j := ⟨_, rfl⟩
                rw [← hpb] at hcd h12
                have hcd2 : wx.drew.cell? ⟨d, j, none⟩ = some (.int .u8 (pb : Int)) := hcd
                have hfz : ∀ o, wx.drew.frozen? ⟨d, o, none⟩ = false := HY.out.1.dat.fz
                have z2 := HY.out.1.tab.c2
                rw [← HN.out] at z2
                obtain ⟨un, hun⟩ : ∃ u : Int, u = (pb : Int) + qn := ⟨_, rfl⟩
                have e0 : IntKind.i64.wrap (pb : Int) = (pb : Int) := IntWalk.i64_in _ (by omega)
                have e1 : IntKind.i64.wrap ((pb : Int) + qn) = un := by rw [hun]; exact IntWalk.i64_in _ (by omega)
                obtain ⟨u2, hu2⟩ : ∃ u : Int, u = min 255 un := ⟨_, rfl⟩
                have e2 : (if un < 255 then un else 255) = u2 := by rw [hu2]; split <;> omega
                obtain ⟨bx, hbx⟩ : ∃ b : Nat, b = (max 0 u2).toNat := ⟨_, rfl⟩
                have e3 : (if 0 < u2 then u2 else 0) = (bx : Int) := by split <;> omega
                have hb9 : bx < 256 := by omega
                have e4 := u8_wrap (x := bx) hb9
                have hf3j : f3 j = bx := by
                  have hne : ¬ v.noise = [] := fun e => hm0 (by rw [hm, e]; rfl)
                  rw [HF3.out]
                  unfold noisT
                  have hg : v.noise.getD (j % v.noise.length) 0 = qn := by
                    rw [← hm, ← hr, List.getD_eq_getElem?_getD, List.getElem?_eq_getElem hrl, hqn]; rfl
                  rw [if_neg hne, hg, ← hpb, ← hun, ← hu2, hbx]
                have hms := HY.out.1.store HJN.out hf3j
                have ho := Only.set wx d j (.int .u8 (bx : Int))
                have HNX : Hid (MkU w b4 g9 d n W H ((wx.setCell ⟨d, j, none⟩ (.int .u8 (bx : Int))).drew) (mixT f3 f12 (j + 1)) ∧ CapS ((wx.setCell ⟨d, j, none⟩ (.int .u8 (bx : Int))).drew) b3 g8 d8 c8 v (some ⟨bn, off, none⟩) cn ⟨TW, TH, q⟩) :=
                  ⟨hms.below (bdrewN (Below.refl _ _) 1), (HY.out.2.only ho HNE.out.1 HNE.out.2.1 HNE.out.2.2.1).below HTO.out (bdrewN (Below.refl _ _) 1)⟩
                clear hms ho hf3j hbx hu2 hun hpb hqn hrl hr hm hcd HJN HY
                go_upto_region 40 with fail
                refine wp_region_still_tail 23 (by kernel_rfl) (by kernel_rfl) ?_
                simp only [List.take_succ_cons, List.take_zero, List.drop_succ_cons, List.drop_zero]
                repeat still_step
                refine wpStill_nil ?_
                change wpList _ _ _ _ _ wx.drew
                go_wp2_with fail
                go_roundw
                case rel => exact ⟨j + 1, by omega, by go_num, HNX⟩
                case measure => simp [intOf]; omega
            · obtain rfl : n = j := by omega
              have hx : MkU w b4 g9 d n W H wx f3 := HY.out.1.congr fun i hi => mixT_all i (by rw [HN.out]; exact hi)
              have HF3F : Hid (f3 = capT (capP q v.sc v.x v.y) v W H) := by
                show _ = _
                rw [HF3.out, HF12.out, HF2.out, HF1.out, HDK.out]; rfl
              obtain ⟨l1, l2, l3, l4, l5, l6, l7, l8, l9, l10⟩ := hx.lt
              have z0 := hx.tab.c0
              have z1 := hx.tab.c1
              have z2 := hx.tab.c2
              have r0 := hx.res.c0
              have r1 := hx.res.c1
              have r2 := hx.res.c2
              have rf := hx.res.fr
              obtain ⟨hT9, hO9⟩ := res_set (x := .int .i64 W) (y := .int .i64 H) (z := .slice (some ⟨d, 0, none⟩) n n) hx.res
              have HFF : Hid (RetGray W H (capT (capP q v.sc v.x v.y) v W H) w (.returned (.tuple #[.agg #[.int .i64 W, .int .i64 H, .slice (some ⟨d, 0, none⟩) n n], .int .i64 0])) (resW wx b4 (.int .i64 W) (.int .i64 H) (.slice (some ⟨d, 0, none⟩) n n))) := by
                rw [← HF3F.out]
                refine ⟨d, n, by rw [HN.out], FTab.heap hx.dat (hO9.hp d l8), l5, by rw [hO9.sz]; exact l6, l10, hO9.bel hx.bel l1⟩
              rw [← HN.out] at z2
              have HT9 := Lib.hid hT9
              clear hx hT9 hO9 HN l1 l2 l3 l4 l5 l6 l7 l8 l9 l10 hj hlj HY HF3F HF3 HF12 HF2 HF1 HDK HV HF
              repeat (first | go_values | go_skip | go_guarded | go_step | go_upon)
              obtain ⟨W9, hW9⟩ : ∃ W9, W9 = resW wx b4 (.int .i64 W) (.int .i64 H) (.slice (some ⟨d, 0, none⟩) n n) := ⟨_, rfl⟩
              rw [← hW9] at HFF HT9
              unfold resW at hW9
              rw [← hW9]
              have e0 := HT9.out.c0
              have e1 := HT9.out.c1
              have e2 := HT9.out.c2
              clear hW9
              refine bodyPost_ret (v := .tuple #[.agg #[.int .i64 W, .int .i64 H, .slice (some ⟨d, 0, none⟩) n n], .int .i64 0]) (by simp only [results, captRes]; go_simp) rfl ?_
              exact HFF.out
end Go.Proofs.Ytcadgjhfdolejaa
