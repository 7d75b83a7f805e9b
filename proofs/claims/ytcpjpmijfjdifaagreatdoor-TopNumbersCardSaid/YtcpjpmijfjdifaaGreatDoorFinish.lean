/-
  The walk of the machine's finish. Own text.
-/
import Derived.Test.YtcpjpmijfjdifaaGreatDoorFinV
import Derived.Deep.CutBlock
import Derived.Deep.DeepCutAuto
namespace Go.Proofs.YtcpjpmijfjdifaaGreatDoor
open Go.RowKit
set_option linter.unusedVariables false
def finX (fs : List (List Pt)) (g : List Int) (a : Nat → Nat) : Nat → List Int
  | 0 => Go.Lib.compact (srt (missTo fs g fs.length))
  | 1 => usedTo a fs.length
  | 2 => wstTo a g.length fs.length
  | _ => lftTo fs a fs.length
def X3 (fs : List (List Pt)) (g : List Int) (a : Nat → Nat) (k : Nat) : Nat → List Int
  | 0 => Go.Lib.compact (srt (missTo fs g fs.length))
  | 1 => usedTo a k
  | 2 => wstTo a g.length k
  | _ => lftTo fs a k
theorem X3_next (fs : List (List Pt)) (g : List Int) (a : Nat → Nat) (k : Nat) : upd (upd (upd (X3 fs g a k) 1 (usedTo a k ++ [(a k : Int)])) 2 (wstTo a g.length k ++ [(a k : Int) - g.length])) 3 (lftTo fs a k ++ [(ln fs k : Int) - a k]) = fun i => if i < 4 then X3 fs g a (k + 1) i else X3 fs g a k i := by
  funext i
  match i with
  | 0 => rfl
  | 1 => simp only [upd, X3, usedTo_succ]; rfl
  | 2 => simp only [upd, X3, wstTo_succ]; rfl
  | 3 => simp only [upd, X3, lftTo_succ]; rfl
  | i + 4 =>
    have h1 : ¬ i + 4 < 4 := by omega
    simp only [upd, if_neg h1]
    split
    · omega
    · split
      · omega
      · split
        · omega
        · rfl
theorem RAt.congr {w w' : World} {rb : Nat} {vg vp : Value} {c : Int} {vs : Nat → Value} {xs ys : Nat → List Int} (h : RAt w w' rb vg vp c vs xs) (he : ∀ i, i < 4 → xs i = ys i) : RAt w w' rb vg vp c vs ys :=
  ⟨h.bel, h.tab, fun i hi => by rw [← he i hi]; exact h.own i hi, h.sep, h.zb, h.lz⟩
theorem Own.setLow {α : Type} {w : World} {base : Nat} {e : TypeId} {k : Nat} {enc : α → List Value} {v : Value} {xs : List α} (h : Own w base e k enc v xs) {b : Nat} (hb : b < base) (o : Nat) (u : Value) : Own (w.setCell ⟨b, o, none⟩ u) base e k enc v xs :=
  h.blocks fun g hg => Below.heap_setCell _ _ _ _ (fun e => by have e' : g = b := e; have := (h.lt hg).1; omega)
def RetFin (w : World) (fs : List (List Pt)) (g : List Int) (a : Nat → Nat) (c : Nat) (vg vp : Value) (e : Ending) (w' : World) : Prop :=
  ∃ vs : Nat → Value, e = .returned (.agg #[vg, vp, vs 0, .int .i64 c, vs 1, vs 2, vs 3]) ∧ (∀ i, i < 4 → Own w' w.heap.size 3 1 encInt (vs i) (finX fs g a i)) ∧ Below w.heap.size w w'
set_option maxRecDepth 100000 in
set_option maxHeartbeats 8000000 in
theorem finish_any {w0 w : World} {Z : Nat} {fs : List (List Pt)} {so : Nat → Option Addr} {sc : Nat → Nat} {mb bf cf : Nat} {fb a : Nat → Nat} {g : List Int} {p : List (List Int)} {c : Nat} {vg vp : Value} {rv : List Value} (oa : Option Addr) (ca : Nat)
    (h : Mach w0 w fs so sc mb bf cf fb a (lessG a g.length) vg vp c) (hR : Rep w Z vg vp rv g p) (hA : Args w fs oa so sc) (hw : Within fs a) (hgl : g.length ≤ 512) :
    Calls Tryz.prog 25 #[.pointer (some ⟨mb, 0, none⟩), .slice oa fs.length ca] w (RetFin w fs g a c vg vp) := by
  have hfew := h.few
  have H := Lib.hid h
  have HR := Lib.hid hR
  have HA := Lib.hid hA
  have HW := Lib.hid hw
  have HGL := Lib.hid hgl
  obtain ⟨n, hn⟩ : ∃ n, n = fs.length := ⟨_, rfl⟩
  rw [← hn] at hfew ⊢
  have HN := Lib.hid hn
  have hmb := h.lt
  obtain ⟨og, cg, rfl, -, -⟩ := hR.og.flat (fun _ => rfl)
  obtain ⟨op, cp, rfl, -, -⟩ := hR.op.flat (fun _ => rfl)
  have m1 : w.cell? ⟨mb, 1, none⟩ = some (.slice og g.length cg) := h.tab.at' 1 (by omega)
  have m2 : w.cell? ⟨mb, 2, none⟩ = some (.slice op rv.length cp) := h.tab.at' 2 (by omega)
  have m3 : w.cell? ⟨mb, 3, none⟩ = some (.slice none 0 0) := h.tab.at' 3 (by omega)
  have m4 : w.cell? ⟨mb, 4, none⟩ = some (.int .i64 c) := h.tab.at' 4 (by omega)
  have m5 : w.cell? ⟨mb, 5, none⟩ = some (.slice none 0 0) := h.tab.at' 5 (by omega)
  have m6 : w.cell? ⟨mb, 6, none⟩ = some (.slice none 0 0) := h.tab.at' 6 (by omega)
  have m7 : w.cell? ⟨mb, 7, none⟩ = some (.slice none 0 0) := h.tab.at' 7 (by omega)
  clear h hR hA hw hn hgl
  go_enter Tryz.func25, Tryz.ntmps25
  go_wp2
  have HS0 := Lib.hid (RAt.start w (.slice og g.length cg) (.slice op rv.length cp) c)
  generalize ((w.alloc (.cells #[.slice none 0 0, .slice none 0 0, .slice none 0 0, .int .i64 0, .slice none 0 0, .slice none 0 0, .slice none 0 0] 37)).alloc (.cells #[.slice og g.length cg, .slice op rv.length cp, .slice none 0 0, .int .i64 c, .slice none 0 0, .slice none 0 0, .slice none 0 0] 37)) = w1 at *
  obtain ⟨rb, hrb⟩ : ∃ rb, rb = w.heap.size + 1 := ⟨_, rfl⟩
  rw [← hrb] at HS0
  rw [← hrb]
  have he0 : (fun _ => ([] : List Int)) = upd (fun _ => []) 0 (missTo fs g 0) := by funext j; unfold upd; split <;> rfl
  rw [he0] at HS0
  clear he0
  clear hrb m1 m2 m3 m4 m5 m6 m7 hmb
  go_loopw [18] (fun i wr => ∃ k : Nat, k ≤ n ∧ i = .int .i64 k ∧ Hid (∃ vs, RAt w wr rb (.slice og g.length cg) (.slice op rv.length cp) c vs (upd (fun _ => []) 0 (missTo fs g k)) ∧ ∀ i, i ≠ 0 → vs i = .slice none 0 0)) (fun i _ => n - (intOf i).toNat)
  case atStart => exact ⟨0, by omega, rfl, _, HS0.out, fun _ _ => rfl⟩
  case round =>
    clear HS0
    obtain ⟨k, hk, rfl, HX⟩ := hrel
    by_cases hlt : k < n
    · have hkx : k < fs.length := by have := HN.out; omega
      obtain ⟨vs, hrat, hvs⟩ := HX.out
      obtain ⟨ba, offa, rfl, p0⟩ := (HA.out.below hrat.bel).hd k hkx
      have HROW := Lib.hid (HA.out.row k hkx)
      have HRAT := Lib.hid hrat
      have HVS := Lib.hid hvs
      have kd : (k : Int) < (n : Int) := by omega
      have k0 : (0 : Int) ≤ (k : Int) := by omega
      obtain ⟨l, hl⟩ : ∃ l, l = fs[k] := ⟨_, rfl⟩
      rw [← hl] at HROW
      rw [ln_get fs k hkx, ← hl] at p0
      have hlow := H.out.low k
      rw [ln_get fs k hkx, ← hl] at hlow
      have HMT := Lib.hid (missTo_succ fs g k hkx)
      rw [← hl] at HMT
      have HML := Lib.hid (missTo_len fs g H.out.low k (by omega))
      obtain ⟨P, hP⟩ : ∃ P, P = l.length := ⟨_, rfl⟩
      rw [← hP] at p0 hlow
      have HP := Lib.hid hP
      clear HX hrat hvs hl hP
      obtain ⟨w2, rfl⟩ : ∃ w2 : World, w2 = wr := ⟨_, rfl⟩
      go_wp2
      clear p0
      go_loopw [24] (fun i wr => ∃ j : Nat, j ≤ P ∧ i = .int .i64 j ∧ Hid (∃ vs, RAt w wr rb (.slice og g.length cg) (.slice op rv.length cp) c vs (upd (fun _ => []) 0 (missTo fs g k ++ missOf g (l.take j))) ∧ ∀ i, i ≠ 0 → vs i = .slice none 0 0)) (fun i _ => P - (intOf i).toNat)
      case atStart => exact ⟨0, by omega, rfl, vs, by rw [List.take_zero, show missOf g [] = [] from rfl, List.append_nil]; exact HRAT.out, HVS.out⟩
      case round =>
        clear HRAT HVS vs
        obtain ⟨j, hj, rfl, HX⟩ := hrel
        by_cases hjt : j < P
        · have hjx : j < l.length := by have := HP.out; omega
          obtain ⟨vs, hrat, hvs⟩ := HX.out
          obtain ⟨bo, oo, hso, i0, i1⟩ := (HROW.out.below hrat.bel).pt hjx
          rw [hso]
          have jd : (j : Int) < (P : Int) := by omega
          have j0 : (0 : Int) ≤ (j : Int) := by omega
          have HMS := Lib.hid (missOf_succ g l j hjx)
          obtain ⟨x, hx⟩ : ∃ x, x = l[j] := ⟨_, rfl⟩
          rw [← hx] at i0 i1 HMS
          obtain ⟨xc, xs⟩ := x
          dsimp only at i0 i1
          have HRAT : Hid (RAt w (wr.alloc (.cells #[.int .i64 xc, .bool xs] 35)) rb (.slice og g.length cg) (.slice op rv.length cp) c vs (upd (fun _ => []) 0 (missTo fs g k ++ missOf g (l.take j)))) := hrat.below (balloc (Below.refl _ wr) _)
          have HVS := Lib.hid hvs
          have r0 : (wr.alloc (.cells #[.int .i64 xc, .bool xs] 35)).cell? ⟨rb, 0, none⟩ = some (.slice og g.length cg) := HRAT.out.tab.at' 0 (by omega)
          have r2 : (wr.alloc (.cells #[.int .i64 xc, .bool xs] 35)).cell? ⟨rb, 2, none⟩ = some (vs 0) := HRAT.out.tab.at' 2 (by omega)
          have q0 : (wr.alloc (.cells #[.int .i64 xc, .bool xs] 35)).cell? ⟨wr.heap.size, 0, none⟩ = some (.int .i64 xc) := by rw [cell_of_row _ wr.heap.size 0 _ _ (0, 0) (heap_alloc_new wr _)]; rfl
          have HGC : Hid (∀ r, g.contains xc = r → Calls Tryz.prog 43 #[.slice og g.length cg, .int .i64 xc] (wr.alloc (.cells #[.int .i64 xc, .bool xs] 35)) fun e w' => e = .returned (.bool r) ∧ (wr.alloc (.cells #[.int .i64 xc, .bool xs] 35)) = w') := fun r hr =>
            contains_any _ g xc _ Z (HR.out.og.calm (((Calm.refl Z w).below HRAT.out.bel))) (by have := HGL.out; omega) r hr
          clear hrat hvs hx HX
          by_cases hz : xc = 0
          · have hm : misses g ⟨xc, xs⟩ = false := by unfold misses; rw [hz]; rfl
            have HN5 : Hid (∃ vs, RAt w (wr.alloc (.cells #[.int .i64 0, .bool xs] 35)) rb (.slice og g.length cg) (.slice op rv.length cp) c vs (upd (fun _ => []) 0 (missTo fs g k ++ missOf g (l.take (j + 1)))) ∧ ∀ i, i ≠ 0 → vs i = .slice none 0 0) := by
              refine ⟨vs, ?_, HVS.out⟩
              rw [HMS.out, hm, ← hz]
              simpa using HRAT.out
            subst hz
            clear HRAT HGC hm HMS
            go_wp2
            go_roundw
            case rel => exact ⟨j + 1, by omega, by go_num, HN5⟩
            case measure => simp [intOf]; omega
          · have hbe : (xc == 0) = false := by simpa using hz
            have hbn : (xc != 0) = true := by simpa using hz
            cases hgc : g.contains xc with
            | true =>
              have hm : misses g ⟨xc, xs⟩ = false := by unfold misses; simp only [hgc]; simp
              have HN5 : Hid (∃ vs, RAt w (wr.alloc (.cells #[.int .i64 xc, .bool xs] 35)) rb (.slice og g.length cg) (.slice op rv.length cp) c vs (upd (fun _ => []) 0 (missTo fs g k ++ missOf g (l.take (j + 1)))) ∧ ∀ i, i ≠ 0 → vs i = .slice none 0 0) := by
                refine ⟨vs, ?_, HVS.out⟩
                rw [HMS.out, hm]
                simpa using HRAT.out
              have HC := Lib.hid (HGC.out true hgc)
              clear HRAT HGC hm HMS hgc r2
              go_wp2_with fail
              refine HC.out.mono ?_
              rintro e w' ⟨rfl, rfl⟩
              clear HC r0 q0
              go_wp2
              go_roundw
              case rel => exact ⟨j + 1, by omega, by go_num, HN5⟩
              case measure => simp [intOf]; omega
            | false =>
              have hm : misses g ⟨xc, xs⟩ = true := by unfold misses; simp only [hgc, hbe]; rfl
              have HC := Lib.hid (HGC.out false hgc)
              have HMM : Hid (missOf g (l.take (j + 1)) = missOf g (l.take j) ++ [xc]) := by show _ = _; rw [HMS.out, hm]; rfl
              have HLEN : Hid ((missTo fs g k ++ missOf g (l.take j)).length ≤ 10000) := by
                have h1 := HML.out
                have h2 := missOf_len g (l.take j)
                have h3 : (l.take j).length ≤ l.length := by rw [List.length_take]; omega
                have h4 := HP.out
                show _ ≤ _
                rw [List.length_append]
                omega
              obtain ⟨ml, hml⟩ : ∃ ml, ml = missTo fs g k ++ missOf g (l.take j) := ⟨_, rfl⟩
              rw [← hml] at HRAT HLEN
              have HMD := Lib.hid hml
              clear HGC hm HMS hgc hml
              go_wp2_with fail
              refine HC.out.mono ?_
              rintro e w' ⟨rfl, rfl⟩
              generalize wr.alloc (.cells #[.int .i64 xc, .bool xs] 35) = w5 at *
              have HR6 : Hid (RAt w (w5.alloc (.cells #[.int .i64 xc] 3)) rb (.slice og g.length cg) (.slice op rv.length cp) c vs (upd (fun _ => []) 0 ml)) := HRAT.out.below (balloc (Below.refl _ w5) _)
              have HNEW : Hid (∀ (j : Nat) (u : Value), (encInt xc)[j]? = some u → (w5.alloc (.cells #[.int .i64 xc] 3)).cell? ((⟨w5.heap.size, 0, none⟩ : Addr).add j) = some u) := World.news_of_block (cs := #[.int .i64 xc]) (t := 3) (fr := (0, 0)) (heap_alloc_new w5 _)
              have HO6 : Hid (Own (w5.alloc (.cells #[.int .i64 xc] 3)) (rb + 1) 3 1 encInt (vs 0) ml) := by
                have h1 := HR6.out.own 0 (by omega)
                rw [upd_same] at h1
                exact h1
              have HRS : Hid (rb + 1 ≤ (w5.alloc (.cells #[.int .i64 xc] 3)).heap.size) := HR6.out.lt
              clear HC HRAT
              generalize hv0 : vs 0 = v0 at *
              have HV0 := Lib.hid hv0
              clear hv0
              go_wp2_with (at_builtin; refine wpList_appAt rfl (.tmp 40) (.tmp 43) 27 rfl elemIntT Tryz.underlying27 (rb + 1) v0 _ encInt rfl HO6.out xc ⟨w5.heap.size, 0, none⟩ 1 rfl rfl HNEW.out ?c1 ?c2 ?c3 ?c4 ?_)
              case c1 => simp [encInt, Value.oneCell']
              case c2 => have := HLEN.out; omega
              case c3 => have := HLEN.out; unfold maxLen; omega
              case c4 => exact HRS.out
              intro v' w7 hown7 hg7 hat7
              obtain ⟨ov7, cv7, rfl, -, -⟩ := hown7.flat (fun _ => rfl)
              generalize (ml ++ [xc]).length = lv at *
              rw [← HV0.out] at hg7 hat7
              have HTB := Lib.hid (HR6.out.mid (i := 0) (by omega) hg7)
              have HR8 := Lib.hid (HR6.out.put (i := 0) (by omega) hown7 hg7 (by simpa using hat7))
              have s2 : w7.cell? ⟨rb, 2, none⟩ = some (vs 0) := HTB.out.at' 2 (by omega)
              have sf := HTB.out.fz
              have HN5 : Hid (∃ vs, RAt w (w7.setCell ⟨rb, 2, none⟩ (.slice ov7 lv cv7)) rb (.slice og g.length cg) (.slice op rv.length cp) c vs (upd (fun _ => []) 0 (missTo fs g k ++ missOf g (l.take (j + 1)))) ∧ ∀ i, i ≠ 0 → vs i = .slice none 0 0) := by
                refine ⟨upd vs 0 (.slice ov7 lv cv7), ?_, ?_⟩
                · have h1 := HR8.out
                  have e : upd (upd (fun _ => ([] : List Int)) 0 ml) 0 (ml ++ [xc]) = upd (fun _ => []) 0 (missTo fs g k ++ missOf g (l.take (j + 1))) := by
                    funext i
                    rw [HMM.out, HMD.out, List.append_assoc]
                    unfold upd
                    split <;> rfl
                  rw [e] at h1
                  exact h1
                · intro i hi
                  rw [upd_ne _ _ hi]
                  exact HVS.out i hi
              clear hown7 hg7 hat7 HR6 HO6 HNEW HTB HR8 r0 r2 q0
              go_wp2
              go_roundw
              case rel => exact ⟨j + 1, by omega, by go_num, HN5⟩
              case measure => simp [intOf]; omega
        · obtain rfl : P = j := by omega
          have HN5 : Hid (∃ vs, RAt w wr rb (.slice og g.length cg) (.slice op rv.length cp) c vs (upd (fun _ => []) 0 (missTo fs g (k + 1))) ∧ ∀ i, i ≠ 0 → vs i = .slice none 0 0) := by
            rw [HMT.out]
            have h1 := HX.out
            rw [List.take_of_length_le (by have := HP.out; omega)] at h1
            exact h1
          clear HX
          go_wp2
          go_roundw
          case rel => exact ⟨k + 1, by omega, by go_num, HN5⟩
          case measure => simp [intOf]; omega
    · obtain rfl : n = k := by omega
      obtain ⟨w2, rfl⟩ : ∃ w2 : World, w2 = wr := ⟨_, rfl⟩
      obtain ⟨vs, hrat, hvs⟩ := HX.out
      have hml := missTo_len fs g H.out.low n (by have := HN.out; omega)
      have hms : missTo fs g n = missTo fs g fs.length := by rw [HN.out]
      obtain ⟨ms, hmsd⟩ : ∃ ms, ms = missTo fs g n := ⟨_, rfl⟩
      rw [← hmsd] at hrat hml hms
      have HMS := Lib.hid hms
      have r2 : w2.cell? ⟨rb, 2, none⟩ = some (vs 0) := hrat.tab.at' 2 (by omega)
      have HSO : Hid (Calls Tryz.prog 44 #[vs 0] w2 (RetSort (rb + 1) (vs 0) (srt ms) w2)) := sort_any (rb + 1) (vs 0) ms w2 (by have h1 := hrat.own 0 (by omega); rw [upd_same] at h1; exact h1) (by omega)
      have HRAT := Lib.hid hrat
      have HVS := Lib.hid hvs
      have hml2 : ms.length ≤ 1000000 := by omega
      have HML := Lib.hid hml2
      clear HX hrat hvs hmsd hms hml hml2
      go_wp2_with fail
      refine HSO.out.mono ?_
      rintro e w3 ⟨rfl, hown3, hg3⟩
      have HR3 := Lib.hid (HRAT.out.turn (i := 0) (by omega) hown3 hg3)
      clear hown3 hg3 HSO HRAT r2
      have r2 : w3.cell? ⟨rb, 2, none⟩ = some (vs 0) := HR3.out.tab.at' 2 (by omega)
      have HCO : Hid (Calls Tryz.prog 45 #[vs 0] w3 (RetComp (rb + 1) (vs 0) (Go.Lib.compact (srt ms)) w3)) := compact_any (rb + 1) (vs 0) (srt ms) w3 (by have h1 := HR3.out.own 0 (by omega); rw [upd_same] at h1; exact h1) (by rw [srt_len]; exact HML.out)
      go_wp2_with fail
      refine HCO.out.mono ?_
      rintro e w4 ⟨v4, rfl, hown4, hg4, hat4⟩
      obtain ⟨ov4, cv4, rfl, -, -⟩ := hown4.flat (fun _ => rfl)
      generalize hlv : (Go.Lib.compact (srt ms)).length = lv at *
      clear hlv
      have HTB := Lib.hid (HR3.out.mid (i := 0) (by omega) hg4)
      have HR5 := Lib.hid (HR3.out.put (i := 0) (by omega) hown4 hg4 (.inl hat4))
      have s2 : w4.cell? ⟨rb, 2, none⟩ = some (vs 0) := HTB.out.at' 2 (by omega)
      have sf := HTB.out.fz
      have hmb4 : Mach w0 (w4.setCell ⟨rb, posR 0, none⟩ (.slice ov4 lv cv4)) fs so sc mb bf cf fb a (lessG a g.length) (.slice og g.length cg) (.slice op rv.length cp) c := H.out.below HR5.out.bel
      have HM5 := Lib.hid hmb4
      have m0 : (w4.setCell ⟨rb, 2, none⟩ (.slice ov4 lv cv4)).cell? ⟨mb, 0, none⟩ = some (.slice (some ⟨bf, 0, none⟩) n cf) := by rw [HN.out]; exact HM5.out.tab.at' 0 (by omega)
      have HX3 : Hid (∃ vs, RAt w (w4.setCell ⟨rb, 2, none⟩ (.slice ov4 lv cv4)) rb (.slice og g.length cg) (.slice op rv.length cp) c vs (X3 fs g a 0)) := by
        refine ⟨upd vs 0 (.slice ov4 lv cv4), ?_⟩
        have h1 := HR5.out
        have e : upd (upd (upd (fun _ => ([] : List Int)) 0 ms) 0 (srt ms)) 0 (Go.Lib.compact (srt ms)) = X3 fs g a 0 := by
          funext i
          unfold upd X3
          match i with
          | 0 => simp only [if_pos]; rw [HMS.out]
          | 1 => rfl
          | 2 => rfl
          | i + 3 => rfl
        rw [e] at h1
        exact h1
      clear hown4 hg4 hat4 HCO HR3 HTB HR5 hmb4 HM5 HVS r2
      go_wp2
      generalize w4.setCell ⟨rb, 2, none⟩ (.slice ov4 lv cv4) = w5 at *
      clear s2 sf m0
      go_loopw [60] (fun i wr => ∃ k : Nat, k ≤ n ∧ i = .int .i64 k ∧ Hid (∃ vs, RAt w wr rb (.slice og g.length cg) (.slice op rv.length cp) c vs (X3 fs g a k))) (fun i _ => n - (intOf i).toNat)
      case atStart => exact ⟨0, by omega, rfl, HX3.out⟩
      case round =>
        clear HX3
        obtain ⟨k, hk, rfl, HX⟩ := hrel
        by_cases hlt : k < n
        · have hkx : k < fs.length := by have := HN.out; omega
          obtain ⟨vs, hrat⟩ := HX.out
          have HM := Lib.hid (H.out.below hrat.bel)
          have HRAT1 := Lib.hid hrat
          have p0 : wr.cell? ⟨bf, k, none⟩ = some (.pointer (some ⟨fb k, 0, none⟩)) := HM.out.ptr k hkx
          have kd : (k : Int) < (n : Int) := by omega
          have k0 : (0 : Int) ≤ (k : Int) := by omega
          clear hrat HX
          have p0k := p0
          clear HM p0k
          have f0 : wr.cell? ⟨fb k, 0, none⟩ = some (.slice (so k) (ln fs k) (sc k)) := ((H.out.below HRAT1.out.bel).fdr k hkx).at' 0 (by omega)
          have f1 : wr.cell? ⟨fb k, 1, none⟩ = some (.int .i64 (a k)) := ((H.out.below HRAT1.out.bel).fdr k hkx).at' 1 (by omega)
          have f2 : wr.cell? ⟨fb k, 2, none⟩ = some (.int .i64 ((a k : Int) - g.length)) := ((H.out.below HRAT1.out.bel).fdr k hkx).at' 2 (by omega)
          have r4 : wr.cell? ⟨rb, 4, none⟩ = some (vs 1) := HRAT1.out.tab.at' 4 (by omega)
          have HUL1 : Hid ((usedTo a k).length = k) := usedTo_len a k
          have HO1 : Hid (Own wr (rb + 1) 3 1 encInt (vs 1) (usedTo a k)) := HRAT1.out.own 1 (by omega)
          have HRB1 : Hid (rb + 1 ≤ wr.heap.size) := HRAT1.out.lt
          have hrl : rb < wr.heap.size := HRAT1.out.lt
          have hfl : fb k < wr.heap.size := ((H.out.below HRAT1.out.bel).fdr k hkx).lt (by omega)
          have HR61 : Hid (RAt w (wr.alloc (.cells #[.int .i64 ((a k : Int))] 3)) rb (.slice og g.length cg) (.slice op rv.length cp) c vs (X3 fs g a k)) := HRAT1.out.below (balloc (Below.refl _ wr) _)
          generalize hv1 : vs 1 = v1 at *
          have HV1 := Lib.hid hv1
          clear hv1
          go_wp2
          go_cut [11] (fun s11 wx => s11 = .pointer (some ⟨fb k, 0, none⟩) ∧ Hid (∃ vs, RAt w wx rb (.slice og g.length cg) (.slice op rv.length cp) c vs (upd (X3 fs g a k) 1 (usedTo a k ++ [(a k : Int)]))))
          case first =>
            go_region_law (first | (refine step_app1L (by rfl) (.tmp 65) (.tmp 70) 27 (by rfl) elemIntT Tryz.underlying27 (rb + 1) v1 (usedTo a k) encInt (by rfl) (HO1.out.alloc (.cells #[.int .i64 ((a k : Int))] 3)) ((a k : Int)) ⟨wr.heap.size, 0, none⟩ 1 (by rfl) (by rfl) (World.news_of_block (cs := #[.int .i64 ((a k : Int))]) (t := 3) (fr := (0, 0)) (heap_alloc_new wr _)) (by simp [encInt, Value.oneCell']) (by rw [HUL1.out]; omega) (by rw [HUL1.out]; unfold maxLen; omega) (by have := HRB1.out; simp; omega) ?_; intro g6 cap6 w6 hown6 hg6 hat6; have hgg : (wr.alloc (.cells #[.int .i64 ((a k : Int))] 3)).grownBy w6 v1.ownBlock := ⟨hg6.os, hg6.tape, hg6.output, hg6.size, hg6.block⟩; rw [← HV1.out] at hgg; have hft := HR61.out.mid (i := 1) (by omega) hgg; have n4 : w6.cell? ⟨rb, 4, none⟩ = some (vs 1) := hft.at' 4 (by omega); have nf := hft.fz; have HG6 := Lib.hid hgg; have HOWN6 := Lib.hid hown6; have HAT6 := Lib.hid hat6; clear hgg hft hg6 hown6 hat6) | fail)
            all_goals
              go_wp2_with fail
              go_meet
              have hat9 : (Value.slice (some ⟨g6, 0, none⟩) ((usedTo a k).length + 1) cap6).ownBlock = (vs 1).ownBlock ∨ (Value.slice (some ⟨g6, 0, none⟩) ((usedTo a k).length + 1) cap6).ownBlock = some (wr.alloc (.cells #[.int .i64 ((a k : Int))] 3)).heap.size := by
                rcases HAT6.out with h | h
                · exact .inl (by rw [HV1.out]; exact h.symm)
                · exact .inr (congrArg some h)
              exact ⟨rfl, _, HR61.out.put (i := 1) (by omega) HOWN6.out HG6.out hat9⟩
          case rest =>
            obtain ⟨rfl, HS⟩ := hcut
            obtain ⟨w7, rfl⟩ : ∃ w7 : World, w7 = wc := ⟨_, rfl⟩
            clear f0 f1 f2 r4 HUL1 HO1 HRB1 hrl hfl HR61 HV1
            obtain ⟨vs, hrat⟩ := HS.out
            have HRAT2 := Lib.hid hrat
            clear hrat HS
            clear p0
            have f0 : w7.cell? ⟨fb k, 0, none⟩ = some (.slice (so k) (ln fs k) (sc k)) := ((H.out.below HRAT2.out.bel).fdr k hkx).at' 0 (by omega)
            have f1 : w7.cell? ⟨fb k, 1, none⟩ = some (.int .i64 (a k)) := ((H.out.below HRAT2.out.bel).fdr k hkx).at' 1 (by omega)
            have f2 : w7.cell? ⟨fb k, 2, none⟩ = some (.int .i64 ((a k : Int) - g.length)) := ((H.out.below HRAT2.out.bel).fdr k hkx).at' 2 (by omega)
            have r5 : w7.cell? ⟨rb, 5, none⟩ = some (vs 2) := HRAT2.out.tab.at' 5 (by omega)
            have HUL2 : Hid ((wstTo a g.length k).length = k) := wstTo_len a g.length k
            have HO2 : Hid (Own w7 (rb + 1) 3 1 encInt (vs 2) (wstTo a g.length k)) := HRAT2.out.own 2 (by omega)
            have HRB2 : Hid (rb + 1 ≤ w7.heap.size) := HRAT2.out.lt
            have hrl : rb < w7.heap.size := HRAT2.out.lt
            have hfl : fb k < w7.heap.size := ((H.out.below HRAT2.out.bel).fdr k hkx).lt (by omega)
            have HR62 : Hid (RAt w (w7.alloc (.cells #[.int .i64 ((a k : Int) - g.length)] 3)) rb (.slice og g.length cg) (.slice op rv.length cp) c vs (upd (X3 fs g a k) 1 (usedTo a k ++ [(a k : Int)]))) := HRAT2.out.below (balloc (Below.refl _ w7) _)
            generalize hv2 : vs 2 = v2 at *
            have HV2 := Lib.hid hv2
            clear hv2
            go_wp2
            go_cut [11] (fun s11 wx => s11 = .pointer (some ⟨fb k, 0, none⟩) ∧ Hid (∃ vs, RAt w wx rb (.slice og g.length cg) (.slice op rv.length cp) c vs (upd (upd (X3 fs g a k) 1 (usedTo a k ++ [(a k : Int)])) 2 (wstTo a g.length k ++ [(a k : Int) - g.length]))))
            case first =>
              go_region_law (first | (refine step_app1L (by rfl) (.tmp 74) (.tmp 79) 27 (by rfl) elemIntT Tryz.underlying27 (rb + 1) v2 (wstTo a g.length k) encInt (by rfl) (HO2.out.alloc (.cells #[.int .i64 ((a k : Int) - g.length)] 3)) ((a k : Int) - g.length) ⟨w7.heap.size, 0, none⟩ 1 (by rfl) (by rfl) (World.news_of_block (cs := #[.int .i64 ((a k : Int) - g.length)]) (t := 3) (fr := (0, 0)) (heap_alloc_new w7 _)) (by simp [encInt, Value.oneCell']) (by rw [HUL2.out]; omega) (by rw [HUL2.out]; unfold maxLen; omega) (by have := HRB2.out; simp; omega) ?_; intro g6 cap6 w6 hown6 hg6 hat6; have hgg : (w7.alloc (.cells #[.int .i64 ((a k : Int) - g.length)] 3)).grownBy w6 v2.ownBlock := ⟨hg6.os, hg6.tape, hg6.output, hg6.size, hg6.block⟩; rw [← HV2.out] at hgg; have hft := HR62.out.mid (i := 2) (by omega) hgg; have n4 : w6.cell? ⟨rb, 5, none⟩ = some (vs 2) := hft.at' 5 (by omega); have nf := hft.fz; have HG6 := Lib.hid hgg; have HOWN6 := Lib.hid hown6; have HAT6 := Lib.hid hat6; clear hgg hft hg6 hown6 hat6) | fail)
              all_goals
                go_wp2_with fail
                go_meet
                have hat9 : (Value.slice (some ⟨g6, 0, none⟩) ((wstTo a g.length k).length + 1) cap6).ownBlock = (vs 2).ownBlock ∨ (Value.slice (some ⟨g6, 0, none⟩) ((wstTo a g.length k).length + 1) cap6).ownBlock = some (w7.alloc (.cells #[.int .i64 ((a k : Int) - g.length)] 3)).heap.size := by
                  rcases HAT6.out with h | h
                  · exact .inl (by rw [HV2.out]; exact h.symm)
                  · exact .inr (congrArg some h)
                exact ⟨rfl, _, HR62.out.put (i := 2) (by omega) HOWN6.out HG6.out hat9⟩
            case rest =>
              obtain ⟨rfl, HS⟩ := hcut
              obtain ⟨w8, rfl⟩ : ∃ w8 : World, w8 = wc := ⟨_, rfl⟩
              clear f0 f1 f2 r5 HUL2 HO2 HRB2 hrl hfl HR62 HV2
              obtain ⟨vs, hrat⟩ := HS.out
              have HRAT3 := Lib.hid hrat
              clear hrat HS
              have f0 : w8.cell? ⟨fb k, 0, none⟩ = some (.slice (so k) (ln fs k) (sc k)) := ((H.out.below HRAT3.out.bel).fdr k hkx).at' 0 (by omega)
              have f1 : w8.cell? ⟨fb k, 1, none⟩ = some (.int .i64 (a k)) := ((H.out.below HRAT3.out.bel).fdr k hkx).at' 1 (by omega)
              have f2 : w8.cell? ⟨fb k, 2, none⟩ = some (.int .i64 ((a k : Int) - g.length)) := ((H.out.below HRAT3.out.bel).fdr k hkx).at' 2 (by omega)
              have r6 : w8.cell? ⟨rb, 6, none⟩ = some (vs 3) := HRAT3.out.tab.at' 6 (by omega)
              have HUL3 : Hid ((lftTo fs a k).length = k) := lftTo_len fs a k
              have HO3 : Hid (Own w8 (rb + 1) 3 1 encInt (vs 3) (lftTo fs a k)) := HRAT3.out.own 3 (by omega)
              have HRB3 : Hid (rb + 1 ≤ w8.heap.size) := HRAT3.out.lt
              have hrl : rb < w8.heap.size := HRAT3.out.lt
              have hfl : fb k < w8.heap.size := ((H.out.below HRAT3.out.bel).fdr k hkx).lt (by omega)
              have HR63 : Hid (RAt w (w8.alloc (.cells #[.int .i64 ((ln fs k : Int) - a k)] 3)) rb (.slice og g.length cg) (.slice op rv.length cp) c vs (upd (upd (X3 fs g a k) 1 (usedTo a k ++ [(a k : Int)])) 2 (wstTo a g.length k ++ [(a k : Int) - g.length]))) := HRAT3.out.below (balloc (Below.refl _ w8) _)
              generalize hv3 : vs 3 = v3 at *
              have HV3 := Lib.hid hv3
              clear hv3
              have x1 : IntKind.i64.wrap ((ln fs k : Int) - (a k : Int)) = (ln fs k : Int) - (a k : Int) := IntWalk.i64_in _ (by have := H.out.low k; have := HW.out k hkx; omega)
              go_wp2
              go_region_law (first | (refine step_app1L (by rfl) (.tmp 83) (.tmp 94) 27 (by rfl) elemIntT Tryz.underlying27 (rb + 1) v3 (lftTo fs a k) encInt (by rfl) (HO3.out.alloc (.cells #[.int .i64 ((ln fs k : Int) - a k)] 3)) ((ln fs k : Int) - a k) ⟨w8.heap.size, 0, none⟩ 1 (by rfl) (by rfl) (World.news_of_block (cs := #[.int .i64 ((ln fs k : Int) - a k)]) (t := 3) (fr := (0, 0)) (heap_alloc_new w8 _)) (by simp [encInt, Value.oneCell']) (by rw [HUL3.out]; omega) (by rw [HUL3.out]; unfold maxLen; omega) (by have := HRB3.out; simp; omega) ?_; intro g6 cap6 w6 hown6 hg6 hat6; have hgg : (w8.alloc (.cells #[.int .i64 ((ln fs k : Int) - a k)] 3)).grownBy w6 v3.ownBlock := ⟨hg6.os, hg6.tape, hg6.output, hg6.size, hg6.block⟩; rw [← HV3.out] at hgg; have hft := HR63.out.mid (i := 3) (by omega) hgg; have n4 : w6.cell? ⟨rb, 6, none⟩ = some (vs 3) := hft.at' 6 (by omega); have nf := hft.fz; have HG6 := Lib.hid hgg; have HOWN6 := Lib.hid hown6; have HAT6 := Lib.hid hat6; clear hgg hft hg6 hown6 hat6) | fail)
              all_goals
                have hat9 : (Value.slice (some ⟨g6, 0, none⟩) ((lftTo fs a k).length + 1) cap6).ownBlock = (vs 3).ownBlock ∨ (Value.slice (some ⟨g6, 0, none⟩) ((lftTo fs a k).length + 1) cap6).ownBlock = some (w8.alloc (.cells #[.int .i64 ((ln fs k : Int) - a k)] 3)).heap.size := by
                  rcases HAT6.out with h | h
                  · exact .inl (by rw [HV3.out]; exact h.symm)
                  · exact .inr (congrArg some h)
                have HN9 : Hid (∃ vs, RAt w (w6.setCell ⟨rb, 6, none⟩ (.slice (some ⟨g6, 0, none⟩) ((lftTo fs a k).length + 1) cap6)) rb (.slice og g.length cg) (.slice op rv.length cp) c vs (X3 fs g a (k + 1))) := by
                  refine ⟨_, (HR63.out.put (i := 3) (by omega) HOWN6.out HG6.out hat9).congr fun i hi => ?_⟩
                  rw [X3_next]
                  simp [hi]
                clear hat9 HOWN6 HG6 HAT6 HR63 HO3 HV3 HRB3 HUL3 f0 f1 f2 r6 n4 nf
                go_wp2
                go_roundw
                case rel => exact ⟨k + 1, by omega, by go_num, HN9⟩
                case measure => simp [intOf]; omega
        · obtain rfl : n = k := by omega
          obtain ⟨w6, rfl⟩ : ∃ w6 : World, w6 = wr := ⟨_, rfl⟩
          obtain ⟨vs, hrat⟩ := HX.out
          obtain ⟨o0, c0, hv0, -, -⟩ := (hrat.own 0 (by omega)).flat (fun _ => rfl)
          obtain ⟨o1, c1, hv1, -, -⟩ := (hrat.own 1 (by omega)).flat (fun _ => rfl)
          obtain ⟨o2, c2, hv2, -, -⟩ := (hrat.own 2 (by omega)).flat (fun _ => rfl)
          obtain ⟨o3, c3, hv3, -, -⟩ := (hrat.own 3 (by omega)).flat (fun _ => rfl)
          generalize (X3 fs g a n 0).length = l0 at *
          generalize (X3 fs g a n 1).length = l1 at *
          generalize (X3 fs g a n 2).length = l2 at *
          generalize (X3 fs g a n 3).length = l3 at *
          have r0 : w6.cell? ⟨rb, 0, none⟩ = some (.slice og g.length cg) := hrat.tab.at' 0 (by omega)
          have r1 : w6.cell? ⟨rb, 1, none⟩ = some (.slice op rv.length cp) := hrat.tab.at' 1 (by omega)
          have r2 : w6.cell? ⟨rb, 2, none⟩ = some (.slice o0 l0 c0) := by rw [← hv0]; exact hrat.tab.at' 2 (by omega)
          have r3 : w6.cell? ⟨rb, 3, none⟩ = some (.int .i64 c) := hrat.tab.at' 3 (by omega)
          have r4 : w6.cell? ⟨rb, 4, none⟩ = some (.slice o1 l1 c1) := by rw [← hv1]; exact hrat.tab.at' 4 (by omega)
          have r5 : w6.cell? ⟨rb, 5, none⟩ = some (.slice o2 l2 c2) := by rw [← hv2]; exact hrat.tab.at' 5 (by omega)
          have r6 : w6.cell? ⟨rb, 6, none⟩ = some (.slice o3 l3 c3) := by rw [← hv3]; exact hrat.tab.at' 6 (by omega)
          have z0 := hrat.zb.at' 0 (by omega)
          have z1 := hrat.zb.at' 1 (by omega)
          have z2 := hrat.zb.at' 2 (by omega)
          have z3 := hrat.zb.at' 3 (by omega)
          have z4 := hrat.zb.at' 4 (by omega)
          have z5 := hrat.zb.at' 5 (by omega)
          have z6 := hrat.zb.at' 6 (by omega)
          have zf := hrat.zb.fz
          have hres : Tryz.f25.results = #[.cell 4 37] := rfl
          have HF : Hid (RetFin w fs g a c (.slice og g.length cg) (.slice op rv.length cp) (.returned (.agg #[.slice og g.length cg, .slice op rv.length cp, .slice o0 l0 c0, .int .i64 c, .slice o1 l1 c1, .slice o2 l2 c2, .slice o3 l3 c3]))
              (((((((w6.setCell ⟨w.heap.size, 0, none⟩ (.slice og g.length cg)).setCell ⟨w.heap.size, 1, none⟩ (.slice op rv.length cp)).setCell ⟨w.heap.size, 2, none⟩ (.slice o0 l0 c0)).setCell ⟨w.heap.size, 3, none⟩ (.int .i64 c)).setCell ⟨w.heap.size, 4, none⟩ (.slice o1 l1 c1)).setCell ⟨w.heap.size, 5, none⟩ (.slice o2 l2 c2)).setCell ⟨w.heap.size, 6, none⟩ (.slice o3 l3 c3))) := by
            refine ⟨vs, by rw [hv0, hv1, hv2, hv3], fun i hi => ?_, ?_⟩
            · have h1 := hrat.own i hi
              have e : X3 fs g a n i = finX fs g a i := by
                rw [HN.out]
                match i, hi with
                | 0, _ => rfl
                | 1, _ => rfl
                | 2, _ => rfl
                | 3, _ => rfl
              rw [e] at h1
              have hl : w.heap.size < rb + 1 := by have := hrat.lz; omega
              exact (((((((h1.setLow hl _ _).setLow hl _ _).setLow hl _ _).setLow hl _ _).setLow hl _ _).setLow hl _ _).setLow hl _ _).rebase (by omega)
            · have hp : ∀ o : Nat, w.heap.size ≤ (⟨w.heap.size, o, none⟩ : Addr).block := fun o => Nat.le_refl _
              exact ((((((hrat.bel.setCell (hp 0) _).setCell (hp 1) _).setCell (hp 2) _).setCell (hp 3) _).setCell (hp 4) _).setCell (hp 5) _).setCell (hp 6) _
          clear hrat hv0 hv1 hv2 hv3 HX
          repeat (first | go_values | go_skip | go_guarded | go_step | go_upon)
          refine bodyPost_ret (v := .agg #[.slice og g.length cg, .slice op rv.length cp, .slice o0 l0 c0, .int .i64 c, .slice o1 l1 c1, .slice o2 l2 c2, .slice o3 l3 c3]) (by simp only [results, hres]; go_simp) rfl ?_
          exact HF.out
end Go.Proofs.YtcpjpmijfjdifaaGreatDoor
