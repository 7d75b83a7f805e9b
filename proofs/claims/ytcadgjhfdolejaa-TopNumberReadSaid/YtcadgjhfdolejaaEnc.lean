/-
  linear.Encode: plain, and its walk. Own text.
-/
import Derived.Test.YtcadgjhfdolejaaLSp
namespace Go.Proofs.Ytcadgjhfdolejaa
open Go.RowKit
set_option linter.unusedVariables false
section
variable {P : Program} {w : World} {ops : Array Oper} {rest : List Oper} {o : Oper} {a : Act} {Q : Exit → Act → World → Prop}
theorem wpList_appRowL {α : Type} (hgd : o.guard = none) (s x : Operand) (t : TypeId)
    (ho : o.op = .call { callee := .builtin .append, args := #[s, x], argTypes := #[t, t] })
    {e : TypeId} {z : Value} {size bytes : Nat} (hE : ElemType P e z size bytes) (ht : P.underlying t = some (.slice e))
    (base : Nat) (v : Value) (xs : List α) (enc : α → List Value) (hs : a.eval s = v) (hown : Own w base e size enc v xs) (ys : List α) (ad : Addr) (m c : Nat)
    (hx : a.eval x = .slice (some ad) m c) (hm : ys.length = m) (h0m : 0 < m) (hf : Flat w size enc (some ad) ys) (hl : ∀ x, (enc x).length = size) (h1 : ∀ y, ∀ u ∈ enc y, u.oneCell' = true)
    (hbytes : (xs.length + m) * bytes ≤ 140737488355328) (h63 : xs.length + m ≤ maxLen) (hbase : base ≤ w.heap.size)
    (h : ∀ g cap w', Own w' base e size enc (.slice (some ⟨g, 0, none⟩) (xs.length + m) cap) (xs ++ ys) → w.grownBy w' v.ownBlock → (v.ownBlock = some g ∨ g = w.heap.size) → wpList P ops Q rest (a.put o.dst (.slice (some ⟨g, 0, none⟩) (xs.length + m) cap)) w') : wpList P ops Q (o :: rest) a w := by
  obtain ⟨i, hi, hz, hsz, hby, hzs, h0⟩ := hE
  refine wpList_append_lies w hgd s x t ho base e i z size bytes ht hi hz hsz hby hzs h0 v xs.length (xs.flatMap enc) hs hown ad m c (ys.flatMap enc) hx (by rw [flatMap_length hl, hm]) (hf.news hl h0)
    (fun u hu => by obtain ⟨y, _, hy⟩ := List.mem_flatMap.1 hu; exact h1 y u hy) h0m h63 hbytes hbase w.heap.size rfl ?_
  intro g cap w' hown' hg hat _
  refine h g cap w' ?_ hg hat
  unfold Own
  rw [List.length_append, List.flatMap_append, hm]
  exact hown'
end
theorem NRow.kept {w w' : World} {b o n : Nat} {f : Nat → Int} (h : NRow w b o n f) {row : Option Nat} (hg : w.grownBy w' row) (hl : b < w.heap.size) (hne : some b ≠ row) : NRow w' b o n f := fun i hi => by
  rw [World.cell?_of_block (w := w) (a := ⟨b, o + i, none⟩) (hg.block b hl hne)]
  exact h i hi
theorem NRow.flat {w : World} {b o n : Nat} {f : Nat → Int} (h : NRow w b o n f) : Flat w 1 encInt (some ⟨b, o, none⟩) ((List.range n).map f) := by
  intro i hi j hj
  obtain rfl : j = 0 := by omega
  have hi2 : i < n := by simpa using hi
  refine ⟨_, rfl, b, o, rfl, ?_⟩
  rw [Nat.mul_one, Nat.add_zero, h i hi2]
  simp
instance : Inhabited Pt := ⟨⟨0, 0, 0, 0, 0, 0⟩⟩
/-- All widths of all symbols. -/
def patAll (i : Nat) : Int := (patV.getD (i / 6) default).at (i % 6)
theorem patAll_at (x j : Nat) (h : j < 6) : patAll (x * 6 + j) = (patV.getD x default).at j := by
  unfold patAll
  rw [show (x * 6 + j) / 6 = x by omega, show (x * 6 + j) % 6 = j by omega]
theorem pats_row {w : World} {g : Nat} (h : Flat w 6 encPt (some ⟨g, 0, none⟩) patV) : NRow w g 0 618 patAll := fun i hi => by
  have hx : i / 6 < patV.length := by rw [patV_len]; omega
  obtain ⟨v, h1, b, off, h2, h3⟩ := h (i / 6) hx (i % 6) (by omega)
  cases h2
  rw [Nat.zero_add, show i / 6 * 6 + i % 6 = i by omega] at h3
  rw [Nat.zero_add, h3, ← h1]
  unfold patAll
  rw [List.getD_eq_getElem?_getD, List.getElem?_eq_getElem hx]
  show (encPt patV[i / 6])[i % 6]? = some (.int .i64 (patV[i / 6].at (i % 6)))
  have h6 : i % 6 < 6 := by omega
  generalize patV[i / 6] = p
  match i % 6, h6 with
  | 0, _ => rfl
  | 1, _ => rfl
  | 2, _ => rfl
  | 3, _ => rfl
  | 4, _ => rfl
  | 5, _ => rfl
/-- A symbol's widths. -/
def patL (x : Nat) : List Int := (List.range 6).map (fun j => (patV.getD x default).at j)
theorem pats_cut {w : World} {g : Nat} (h : NRow w g 0 618 patAll) {x : Nat} (hx : x < 103) : Flat w 1 encInt (some ⟨g, x * 6, none⟩) (patL x) := by
  have e := (h.cut (x * 6) 6 (by omega)).flat
  rw [Nat.zero_add] at e
  have e2 : (List.range 6).map (fun i => patAll (x * 6 + i)) = patL x := by
    unfold patL
    refine List.map_congr_left fun j hj => patAll_at x j (by simpa using hj)
  rw [e2] at e
  exact e
def symL (x : Int) : List Int := patL x.toNat
/-- The widths of a number's bars. -/
def widV (l : List UInt8) : List Int := patL 101 ++ (symsV l ++ [sumL (symsV l)] ++ [102]).flatMap symL ++ [2]
/-- Encode's state in the loop. -/
structure EncI (w wr : World) (B g25 n gp : Nat) (ys : List Int) (v : Value) (ws : List Int) : Prop where
  bel : Below w.heap.size w wr
  row : Own wr B 3 1 encInt v ws
  ne : v.ownBlock ≠ some g25
  ys : NRow wr g25 0 n (fun i => ys.getD i 0)
  lt : g25 < wr.heap.size
  pats : NRow wr gp 0 618 patAll
  gp : gp < B
  sz : B ≤ wr.heap.size
  b : w.heap.size ≤ B
section
variable {w wr w' : World} {B g25 n gp : Nat} {ys ws ws' : List Int} {v v' : Value}
theorem EncI.app (h : EncI w wr B g25 n gp ys v ws) {tmp : Option Obj} {g cap : Nat} (ho : Own w' B 3 1 encInt (.slice (some ⟨g, 0, none⟩) ws'.length cap) ws') (hg : wr.grownBy w' v.ownBlock) (hat : v.ownBlock = some g ∨ wr.heap.size ≤ g) : EncI w w' B g25 n gp ys (.slice (some ⟨g, 0, none⟩) ws'.length cap) ws' := by
  have hb := h.b
  have hl := h.lt
  have hz := h.sz
  have hgp := h.gp
  refine ⟨Below.grown h.bel hg h.bel.size (fun j e => by have := ownsRow_ge h.row e; omega), ho, ?_, h.ys.kept hg h.lt (fun e => h.ne e.symm), Nat.lt_of_lt_of_le h.lt hg.size, h.pats.kept hg (by omega) (fun e => by have := ownsRow_ge h.row e.symm; omega), h.gp, Nat.le_trans h.sz hg.size, h.b⟩
  intro e
  have e2 : g = g25 := by simpa [Value.ownBlock] using e
  rcases hat with h1 | h1
  · exact h.ne (by rw [h1, e2])
  · omega
end
theorem encRes : Try.f13.results = #[.tmp 2, .tmp 3] := rfl
set_option maxRecDepth 100000 in
set_option maxHeartbeats 2000000 in
theorem encode_any (l : List UInt8) (hl : DigL l) (h1 : 1 ≤ l.length) (h20 : l.length ≤ 20) (w : World) :
    Calls Try.prog 13 #[.string (strB l)] w (RetSyms (widV l) w) := by
  have HSP : Hid (Calls Try.prog 30 #[.string (strB l)] w (RetSyms (symsV l ++ [sumL (symsV l)]) w)) := by
    by_cases e : l.length % 2 = 0
    · exact lsplit_even l hl l.length (l.length / 2) rfl h1 h20 (by omega) w
    · exact lsplit_odd l hl l.length ((l.length + 1) / 2) rfl h1 h20 (by omega) w
  have HPA : Hid (∀ W', Calls Try.prog 31 #[] W' (RetPats W')) := fun W' => pats_any W'
  obtain ⟨xs, hxs⟩ : ∃ xs, xs = symsV l ++ [sumL (symsV l)] := ⟨_, rfl⟩
  have HXB : Hid (∀ x ∈ xs ++ [102], 0 ≤ x ∧ x < 103) := fun x hx => by
    rw [hxs, List.append_assoc] at hx
    rcases List.mem_append.1 hx with hx | hx
    · unfold symsV at hx
      split at hx
      · rcases List.mem_cons.1 hx with rfl | hx
        · omega
        · have := pairV_bd (48 :: l) (fun c hc => by rcases List.mem_cons.1 hc with rfl | hc; decide; exact hl c hc) x hx
          omega
      · have := pairV_bd l hl x hx
        omega
    · have hs := sumV_bd (fun i => (symsV l).getD i 0) (symsV l).length
      have he : sumL (symsV l) = sumV (fun i => (symsV l).getD i 0) (symsV l).length := rfl
      simp only [List.cons_append, List.nil_append, List.mem_cons, List.not_mem_nil, or_false] at hx
      omega
  have hxl : xs.length ≤ 12 ∧ 1 ≤ xs.length := by
    have e : (symsV l).length ≤ 11 := by
      unfold symsV
      split
      · rw [List.length_cons, pairV_len ((l.length + 1) / 2) (48 :: l) (by simp; omega)]; omega
      · rw [pairV_len (l.length / 2) l (by omega)]; omega
    rw [hxs, List.length_append]
    simp
    omega
  obtain ⟨n, hn⟩ : ∃ n, n = xs.length := ⟨_, rfl⟩
  have HN : Hid (xs.length = n ∧ n ≤ 12 ∧ 1 ≤ n) := ⟨hn.symm, by omega, by omega⟩
  have HWV : Hid (widV l = patL 101 ++ (xs ++ [102]).flatMap symL ++ [2]) := by rw [hxs]; rfl
  rw [← hxs] at HSP
  clear hl h1 h20 hxs hxl hn
  go_enter Try.func13, Try.ntmps13
  go_wp2_with fail
  refine HSP.out.mono ?_
  rintro e w1 ⟨v4, rfl, ho4, hb1⟩
  obtain ⟨g4, c4, rfl, hc4, hg4, hl4, -⟩ := NRow.own ho4 (by intro e; have := HN.out; rw [e] at this; simp at this; omega)
  rw [HN.out.1] at ho4
  have HO4 := Lib.hid ho4
  have HB1 := Lib.hid hb1
  have HG4 : Hid (w.heap.size ≤ g4 ∧ g4 < w1.heap.size) := ⟨hg4, hl4⟩
  have HP1 := Lib.hid (HPA.out w1)
  rw [HN.out.1]
  clear HSP HPA ho4 hb1 hg4 hl4 hc4
  go_wp2_with fail
  refine HP1.out.mono ?_
  rintro e w2 ⟨gp, cp, rfl, hcp, hfp, hgp, hlp, hb2⟩
  have HB2 : Hid (Below w.heap.size w w2 ∧ Below w1.heap.size w1 w2 ∧ gp < w2.heap.size ∧ w1.heap.size ≤ gp) := ⟨bthen HB1.out hb2, hb2, hlp, hgp⟩
  have HNP := Lib.hid (pats_row hfp)
  have HO42 := Lib.hid (HO4.out.below hb2)
  clear HP1 hfp hgp hlp hb2 HO4 HB1 hcp
  have HIS : Hid (IsSlice w2 1 encInt (.slice (some ⟨gp, 606, none⟩) 6 6) (patL 101)) := ⟨_, 6, rfl, (fun e => by cases e), by decide +kernel, pats_cut HNP.out (x := 101) (by decide)⟩
  have hpl : ∀ x, (patL x).length = 6 := fun x => by simp [patL]
  have HPL := Lib.hid hpl
  go_wp2_with (at_builtin; refine wpList_appRowL rfl (.const (.slice none 0 0)) (.tmp 21) 22 rfl elemI Try.underlying22 w2.heap.size (.slice none 0 0) [] encInt rfl (Own.nil _ _ _ _ _) (patL 101) ⟨gp, 606, none⟩ 6 6 rfl (hpl 101) (by decide) (pats_cut HNP.out (x := 101) (by decide)) (fun _ => rfl) ?c1 ?c2 ?c3 ?c4 ?_)
  case c1 => intro y u hu; obtain rfl : u = .int .i64 y := (by simpa [encInt] using hu); rfl
  case c2 => decide
  case c3 => decide
  case c4 => exact Nat.le_refl _
  intro g7 cap7 w3 hown7 hgr7 hat7
  have hg7 : g7 = w2.heap.size := by
    rcases hat7 with h | h
    · cases h
    · exact h
  have hB3 : Below w.heap.size w w3 := Below.grown HB2.out.1 hgr7 HB2.out.1.size (fun j e => by cases e)
  have hN3 : NRow w3 gp 0 618 patAll := HNP.out.kept hgr7 HB2.out.2.2.1 (fun e => by cases e)
  have hO3 : Own w3 w.heap.size 3 1 encInt (.slice (some ⟨g4, 0, none⟩) n c4) xs := World.ownsRow.kept HO42.out hgr7 (.inr fun e => by cases e)
  have hz3 : g7 < w3.heap.size := by have e := (ownsRow_ge hown7 (g := g7) rfl); exact (World.ownsRow.lt hown7 g7 rfl).2
  have hz3' := hgr7.size
  have HA3 : Hid (g7 = w2.heap.size ∧ Below w.heap.size w w3 ∧ NRow w3 gp 0 618 patAll ∧ Own w3 w.heap.size 3 1 encInt (.slice (some ⟨g4, 0, none⟩) n c4) xs ∧ g7 < w3.heap.size ∧ Own w3 w2.heap.size 3 1 encInt (.slice (some ⟨g7, 0, none⟩) 6 cap7) (patL 101) ∧ w2.heap.size ≤ w3.heap.size) := ⟨hg7, hB3, hN3, hO3, hz3, hown7, hz3'⟩
  have HOW : Hid (Own (w3.alloc (.cells #[.int .i64 102] 3)) w.heap.size 3 1 encInt (.slice (some ⟨g4, 0, none⟩) n c4) xs) := hO3.alloc _
  have HNEW : Hid (∀ (j : Nat) (u : Value), (encInt 102)[j]? = some u → (w3.alloc (.cells #[.int .i64 102] 3)).cell? ((⟨w3.heap.size, 0, none⟩ : Addr).add j) = some u) := World.news_of_block (cs := #[.int .i64 102]) (t := 3) (fr := (0, 0)) (heap_alloc_new w3 _)
  clear hown7 hgr7 hat7 hg7 hB3 hN3 hO3 hz3 hz3' HIS hpl HO42
  try simp only [List.length_nil, Nat.zero_add]
  go_wp2_with (at_builtin; refine wpList_app1L rfl (.tmp 23) (.tmp 24) 22 rfl elemI Try.underlying22 w.heap.size (.slice (some ⟨g4, 0, none⟩) n c4) xs encInt rfl HOW.out 102 ⟨w3.heap.size, 0, none⟩ 1 rfl rfl HNEW.out ?c1 ?c2 ?c3 ?c4 ?_)
  case c1 => simp [encInt, Value.oneCell']
  case c2 => have := HN.out; omega
  case c3 => have := HN.out; unfold maxLen; omega
  case c4 => have := HA3.out.2.1.size; (first | omega | (rw [World.size_alloc]; omega))
  rw [HN.out.1]
  intro g25 c25 w4 hown25 hgr25 hat25
  obtain ⟨ys, hys⟩ : ∃ ys, ys = xs ++ [102] := ⟨_, rfl⟩
  have hyb : ∀ x ∈ ys, 0 ≤ x ∧ x < 103 := by rw [hys]; exact HXB.out
  have hyl : ys.length = n + 1 := by rw [hys, List.length_append, HN.out.1]; rfl
  have hX0 : EncI w w4 w2.heap.size g25 (n + 1) gp ys (.slice (some ⟨g7, 0, none⟩) 6 cap7) (patL 101) := by
    obtain ⟨a1, a2, a3, a4, a5, a6, a7⟩ := HA3.out
    have b1 := HB2.out
    have b2 := HG4.out
    have b3 := b1.2.1.size
    have hz := hgr25.size
    rw [World.size_alloc] at hz
    have hne : g25 ≠ g7 := by
      rcases hat25 with h | h
      · have e : g4 = g25 := by simpa [Value.ownBlock] using h
        omega
      · (first | omega | (rw [World.size_alloc] at h; omega))
    have hl25 : g25 < w4.heap.size := (World.ownsRow.lt hown25 g25 rfl).2
    obtain ⟨g9, c9, e9, -, -, -, hnr⟩ := NRow.own hown25 (by simp)
    rw [← hys] at e9 hnr
    rw [hyl] at e9 hnr
    cases e9
    have c1 : Below w.heap.size w w4 := Below.grown (balloc a2 _) hgr25 (by rw [World.size_alloc]; have := a2.size; omega) (fun j e => by
      have e : g4 = j := by simpa [Value.ownBlock] using e
      omega)
    have c2 : Own w4 w2.heap.size 3 1 encInt (.slice (some ⟨g7, 0, none⟩) 6 cap7) (patL 101) := World.ownsRow.kept (World.ownsRow.alloc a6 _) hgr25 (.inr (fun e => by
      have e : g7 = g4 := by simpa [Value.ownBlock] using e
      omega))
    have c3 : NRow w4 gp 0 618 patAll := NRow.kept (a3.below (balloc (Below.refl _ w3) _)) hgr25 (by rw [World.size_alloc]; omega) (fun e => by
      have e : gp = g4 := by simpa [Value.ownBlock] using e
      omega)
    refine ⟨c1, c2, fun e => ?_, hnr, hl25, c3, b1.2.2.1, by omega, b1.1.size⟩
    have e2 : g7 = g25 := by simpa [Value.ownBlock] using e
    omega
  have HX0 := Lib.hid hX0
  have HYB : Hid (∀ k, k < n + 1 → ∃ x : Nat, x < 103 ∧ ys.getD k 0 = (x : Int) ∧ (ys.take (k + 1)).flatMap symL = (ys.take k).flatMap symL ++ patL x) := fun k hk => by
    have hk2 : k < ys.length := by omega
    have hm := hyb ys[k] (List.getElem_mem _)
    refine ⟨ys[k].toNat, by omega, ?_, ?_⟩
    · rw [List.getD_eq_getElem?_getD, List.getElem?_eq_getElem hk2]
      show ys[k] = _
      omega
    · rw [List.take_succ_eq_append_getElem hk2, List.flatMap_append]
      simp [symL]
  have HYE : Hid (ys.take (n + 1) = xs ++ [102]) := by show _ = _; rw [List.take_of_length_le (by omega), hys]
  obtain ⟨N, hN⟩ : ∃ N, N = n + 1 := ⟨_, rfl⟩
  have HNN : Hid (N = n + 1 ∧ N ≤ 13) := ⟨hN, by have := HN.out; omega⟩
  rw [← hN] at HX0 HYB HYE ⊢
  have hN9 : N ≤ 13 := HNN.out.2
  clear hown25 hgr25 hat25 HOW HNEW HA3 hX0 hys hyl hyb hN HXB HB2 HG4 HNP
  go_wp2_with fail
  go_loopw [7, 27] (fun u i wr => ∃ k oa m cap, k ≤ N ∧ i = .int .i64 (k : Nat) ∧ u = .slice oa m cap ∧ Hid (m = 6 + 6 * k ∧ EncI w wr w2.heap.size g25 N gp ys (.slice oa m cap) (patL 101 ++ (ys.take k).flatMap symL))) (fun _ i _ => N - (intOf i).toNat)
  case atStart => exact ⟨0, _, _, _, by omega, rfl, rfl, rfl, by rw [List.take_zero, List.flatMap_nil, List.append_nil]; exact HX0.out⟩
  case round =>
    clear HX0
    obtain ⟨k, oa, m, cap, hk, rfl, rfl, HX⟩ := hrel
    obtain ⟨wb, rfl⟩ : ∃ wb : World, wb = wr := ⟨_, rfl⟩
    by_cases hlt : k < N
    · have kd : (k : Int) < (N : Int) := by omega
      have kk : IntKind.i64.wrap ((k : Int) + 1) = (k : Int) + 1 := IntWalk.i64_in _ (by omega)
      obtain ⟨x, hx, hyx, hfx⟩ := HYB.out k hlt
      have hc := HX.out.2.ys k hlt
      rw [Nat.zero_add] at hc
      simp only [hyx] at hc
      obtain ⟨ws, hws⟩ : ∃ ws, ws = patL 101 ++ (ys.take k).flatMap symL := ⟨_, rfl⟩
      obtain ⟨o2, cp2, e2, -⟩ := Own.isSlc HX.out.2.row
      have hwl : ws.length = m := by
        rw [hws]
        simp only [Value.slice.injEq] at e2
        exact e2.2.1.symm
      have HE : Hid (EncI w wb w2.heap.size g25 N gp ys (.slice oa m cap) ws) := by rw [hws]; exact HX.out.2
      have HME := Lib.hid HX.out.1
      have HWL := Lib.hid hwl
      have HWS : Hid (patL 101 ++ (ys.take (k + 1)).flatMap symL = ws ++ patL x) := by show _ = _; rw [hfx, hws, List.append_assoc]
      have HPC := Lib.hid (pats_cut HE.out.pats hx)
      have HLT := Lib.hid hlt
      clear HX hws hfx hyx e2 hwl hlt hk
      go_wp2_with (at_builtin; refine wpList_appRowL rfl (.tmp 31) (.tmp 35) 22 rfl elemI Try.underlying22 w2.heap.size (.slice oa m cap) ws encInt rfl HE.out.row (patL x) ⟨gp, x * 6, none⟩ 6 6 rfl (HPL.out x) (by decide) HPC.out (fun _ => rfl) ?c1 ?c2 ?c3 ?c4 ?_)
      case c1 => intro y u hu; obtain rfl : u = .int .i64 y := (by simpa [encInt] using hu); rfl
      case c2 => have := HWL.out; have := HME.out; have := HNN.out; have := HLT.out; omega
      case c3 => have := HWL.out; have := HME.out; have := HNN.out; have := HLT.out; unfold maxLen; omega
      case c4 => exact HE.out.sz
      rw [HWL.out]
      intro g3 cap3 w5 hown3 hgr3 hat3
      have HNX : Hid (m + 6 = 6 + 6 * (k + 1) ∧ EncI w w5 w2.heap.size g25 N gp ys (.slice (some ⟨g3, 0, none⟩) (m + 6) cap3) (patL 101 ++ (ys.take (k + 1)).flatMap symL)) := by
        have hl6 : (ws ++ patL x).length = m + 6 := by rw [List.length_append, HWL.out, HPL.out]
        refine ⟨by have := HME.out; omega, ?_⟩
        rw [HWS.out, ← hl6]
        rw [← hl6] at hown3
        exact HE.out.app (tmp := none) hown3 hgr3 (by rcases hat3 with h | h; exact .inl h; exact .inr (by omega))
      clear hown3 hgr3 hat3 HE HPC HWS HWL HME
      go_wp2_with fail
      go_roundw
      case rel => exact ⟨k + 1, _, _, _, HLT.out, by go_num, rfl, HNX⟩
      case measure => have := HLT.out; simp [intOf]; omega
    · obtain rfl : N = k := by omega
      obtain ⟨ws, hws⟩ : ∃ ws, ws = patL 101 ++ (ys.take N).flatMap symL := ⟨_, rfl⟩
      obtain ⟨o2, cp2, e2, -⟩ := Own.isSlc HX.out.2.row
      have hwl : ws.length = m := by
        rw [hws]
        simp only [Value.slice.injEq] at e2
        exact e2.2.1.symm
      have HE : Hid (EncI w wb w2.heap.size g25 N gp ys (.slice oa m cap) ws) := by rw [hws]; exact HX.out.2
      have HME := Lib.hid HX.out.1
      have HWL := Lib.hid hwl
      have HRX : Hid (widV l = ws ++ [2]) := by rw [HWV.out, hws, HYE.out]; rfl
      have HOW2 : Hid (Own (wb.alloc (.cells #[.int .i64 2] 3)) w2.heap.size 3 1 encInt (.slice oa m cap) ws) := HE.out.row.alloc _
      have HNEW2 : Hid (∀ (j : Nat) (u : Value), (encInt 2)[j]? = some u → (wb.alloc (.cells #[.int .i64 2] 3)).cell? ((⟨wb.heap.size, 0, none⟩ : Addr).add j) = some u) := World.news_of_block (cs := #[.int .i64 2]) (t := 3) (fr := (0, 0)) (heap_alloc_new wb _)
      clear HX hws e2 hwl hlt hk
      go_wp2_with (at_builtin; refine wpList_app1L rfl (.tmp 38) (.tmp 39) 22 rfl elemI Try.underlying22 w2.heap.size (.slice oa m cap) ws encInt rfl HOW2.out 2 ⟨wb.heap.size, 0, none⟩ 1 rfl rfl HNEW2.out ?c1 ?c2 ?c3 ?c4 ?_)
      case c1 => simp [encInt, Value.oneCell']
      case c2 => have := HWL.out; have := HME.out; omega
      case c3 => have := HWL.out; have := HME.out; unfold maxLen; omega
      case c4 => have := HE.out.sz; (first | omega | (rw [World.size_alloc]; omega))
      rw [HWL.out]
      intro g3 cap3 w5 hown3 hgr3 _
      have HF : Hid (RetSyms (widV l) w (.returned (.tuple #[.slice (some ⟨g3, 0, none⟩) (m + 1) cap3, .int .i64 0])) w5) := by
        rw [HRX.out]
        refine ⟨_, rfl, ownsRow_mono hown3 HE.out.b, Below.grown (balloc HE.out.bel _) hgr3 (by rw [World.size_alloc]; have := HE.out.bel.size; omega) (fun j e => ?_)⟩
        have := ownsRow_ge HOW2.out e
        have := HE.out.b
        omega
      clear hown3 hgr3 HOW2 HNEW2 HRX HWL HE
      go_wp2
      go_ret2
      exact HF.out
end Go.Proofs.Ytcadgjhfdolejaa
