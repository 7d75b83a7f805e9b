/-
  The walk of CollateWithoutFaultsAll. Own text.
-/
import Derived.Test.YtemldminpndemaaWoutV
namespace Go.Proofs.Ytemldminpndemaa
open Go.RowKit
set_option linter.unusedVariables false
set_option maxRecDepth 100000 in
set_option maxHeartbeats 16000000 in
theorem wout_any (fs : List (List Pt)) (oa : Option Addr) (so : Nat → Option Addr) (sc : Nat → Nat) (ca : Nat) (w : World) (hA : Args w fs oa so sc) (hm : fs.length ≤ 1048576) (hl : ∀ k, ln fs k ≤ 1048576) :
    Calls Try.prog 6 #[.slice oa fs.length ca] w (RetTrue w) := by
  have HA := Lib.hid hA
  have HLN := Lib.hid hl
  obtain ⟨n, hn⟩ : ∃ n, n = fs.length := ⟨_, rfl⟩
  have HN := Lib.hid hn
  rw [← hn] at hm ⊢
  clear hA hl hn
  go_enter Try.func6, Try.ntmps6
  go_wp2_with fail
  refine (collates4_any w).mono ?_
  rintro e w1 ⟨rfl, hb1⟩
  have HB1 := Lib.hid hb1
  clear hb1
  go_wp2
  go_loopw [3, 21] (fun v i wr => ∃ k : Nat, k ≤ n ∧ i = .int .i64 k ∧ Hid (∃ rv, RB w1 wr v rv (stripTo fs k))) (fun _ i _ => n - (intOf i).toNat)
  case atStart => exact ⟨0, by omega, rfl, [], RB.start w1⟩
  case round =>
    obtain ⟨k, hk, rfl, HX⟩ := hrel
    obtain ⟨w2, rfl⟩ : ∃ w2 : World, w2 = wr := ⟨_, rfl⟩
    obtain ⟨v, rfl⟩ : ∃ v : Value, v = u3 := ⟨_, rfl⟩
    obtain ⟨rv, hrb⟩ := HX.out
    have HRB := Lib.hid hrb
    have HBW2 : Hid (Below w.heap.size w w2) := HB1.out.trans (hrb.bel.mono HB1.out.size)
    clear HX hrb
    by_cases hlt : k < n
    · have hkx : k < fs.length := by have := HN.out; omega
      obtain ⟨ba, off, rfl, p0⟩ := (HA.out.below HBW2.out).hd k hkx
      have HROW := Lib.hid (HA.out.row k hkx)
      rw [ln_get fs k hkx] at p0
      have HST := Lib.hid (stripTo_succ fs k hkx)
      have hll := HLN.out k
      rw [ln_get fs k hkx] at hll
      obtain ⟨l, hl⟩ : ∃ l, l = fs[k] := ⟨_, rfl⟩
      rw [← hl] at p0 HROW HST hll
      obtain ⟨L, hL⟩ : ∃ L, L = l.length := ⟨_, rfl⟩
      rw [← hL] at p0 hll
      have HLL := Lib.hid hL
      have kd : (k : Int) < (n : Int) := by omega
      have k0 : (0 : Int) ≤ (k : Int) := by omega
      have HVL : Hid (rv.length = k) := by have h := HRB.out.r.len; rw [stripTo_len fs k (by omega)] at h; exact h
      clear hl hL
      go_wp2
      clear p0
      go_loopw [6, 27] (fun u j wr => ∃ q : Nat, q ≤ L ∧ j = .int .i64 q ∧ Hid (RU w1 wr v rv (stripTo fs k) u (strip (l.take q)))) (fun _ j _ => L - (intOf j).toNat)
      case atStart => exact ⟨0, by omega, rfl, RU.start HRB.out⟩
      case round =>
        clear HRB
        obtain ⟨q, hq, rfl, HRU⟩ := hrel
        obtain ⟨w4, rfl⟩ : ∃ w4 : World, w4 = wr := ⟨_, rfl⟩
        obtain ⟨u, rfl⟩ : ∃ u : Value, u = u6 := ⟨_, rfl⟩
        by_cases hqt : q < L
        · have hqx : q < l.length := by have := HLL.out; omega
          obtain ⟨bo, oo, hso, i0, i1⟩ := (HROW.out.below (HB1.out.trans (HRU.out.bel.mono HB1.out.size))).pt hqx
          rw [hso]
          have HSS := Lib.hid (strip_succ l q hqx)
          have HSL : Hid ((strip (l.take q)).length ≤ 1048576) := by
            have h1 := strip_len (l.take q)
            rw [List.length_take] at h1
            show _ ≤ _
            omega
          obtain ⟨y, hy⟩ : ∃ y, y = l[q] := ⟨_, rfl⟩
          rw [← hy] at i0 i1 HSS
          obtain ⟨yc, ys⟩ := y
          dsimp only at i0 i1 HSS
          have qd : (q : Int) < (L : Int) := by omega
          have q0 : (0 : Int) ≤ (q : Int) := by omega
          obtain ⟨l0, hl0⟩ : ∃ l0, l0 = strip (l.take q) := ⟨_, rfl⟩
          rw [← hl0] at HRU HSS HSL
          have HR5 := Lib.hid (HRU.out.below (balloc (Below.refl _ w4) (.cells #[.int .i64 yc, .bool ys] 41)))
          clear hy hso hl0 HRU
          by_cases hp : 0 < yc
          · have HSE : Hid (strip (l.take (q + 1)) = l0 ++ [⟨yc, false⟩]) := by
              have h := HSS.out
              rw [if_pos hp] at h
              exact h
            clear HSS
            have HR6 := Lib.hid (HR5.out.below (balloc (Below.refl _ _) (.cells #[.int .i64 yc, .bool false] 41)))
            have HNEW : Hid (∀ (j : Nat) (u : Value), (encPt ⟨yc, false⟩)[j]? = some u → ((w4.alloc (.cells #[.int .i64 yc, .bool ys] 41)).alloc (.cells #[.int .i64 yc, .bool false] 41)).cell? ((⟨w4.heap.size + 1, 0, none⟩ : Addr).add j) = some u) := by
              have h := World.news_of_block (cs := #[.int .i64 yc, .bool false]) (t := 41) (fr := (0, 0)) (heap_alloc_new (w4.alloc (.cells #[.int .i64 yc, .bool ys] 41)) _)
              rw [World.size_alloc] at h
              exact h
            go_wp2_with (at_builtin; refine wpList_appAt rfl (.tmp 34) (.tmp 38) 39 rfl elemPtT Try.underlying39 w1.heap.size u l0 encPt rfl HR6.out.r.ou ⟨yc, false⟩ ⟨w4.heap.size + 1, 0, none⟩ 1 rfl rfl HNEW.out ?c1 ?c2 ?c3 ?c4 ?_)
            case c1 => simp [encPt, Value.oneCell']
            case c2 => have := HSL.out; omega
            case c3 => have := HSL.out; unfold maxLen; omega
            case c4 => exact HR6.out.bel.size
            intro u7 w7 hown7 hg7 hat7
            obtain ⟨l7, hl7⟩ : ∃ l7, l7 = l0 ++ [(⟨yc, false⟩ : Pt)] := ⟨_, rfl⟩
            rw [← hl7] at hown7 HSE
            have HU7 : Hid (RU w1 w7 v rv (stripTo fs k) u7 (strip (l.take (q + 1)))) := by
              show RU _ _ _ _ _ _ _
              rw [HSE.out]
              exact HR6.out.addU hown7 hg7 (by simpa using hat7)
            clear hown7 hg7 hat7 hl7 HR5 HR6 HNEW i0 i1
            go_wp2
            go_roundw
            case rel => exact ⟨q + 1, by omega, by go_num, HU7⟩
            case measure => simp [intOf]; omega
          · have HU7 : Hid (RU w1 (w4.alloc (.cells #[.int .i64 yc, .bool ys] 41)) v rv (stripTo fs k) u (strip (l.take (q + 1)))) := by
              have h := HSS.out
              rw [if_neg hp, List.append_nil] at h
              show RU _ _ _ _ _ _ _
              rw [h]
              exact HR5.out
            clear HSS HR5
            go_wp2
            go_roundw
            case rel => exact ⟨q + 1, by omega, by go_num, HU7⟩
            case measure => simp [intOf]; omega
        · obtain rfl : L = q := by omega
          obtain ⟨ou, lu, cu, rfl⟩ : ∃ ou lu cu, u = .slice ou lu cu := by
            obtain ⟨ou, cu, e, -, -⟩ := HRU.out.r.ou.flat (fun _ => rfl)
            exact ⟨ou, _, cu, e⟩
          have HTK : Hid (l.take L = l) := by show _ = _; rw [HLL.out]; exact List.take_length
          have HU6 : Hid (RU w1 (w4.alloc (.cells #[.slice ou lu cu] 39)) v rv (stripTo fs k) (.slice ou lu cu) (strip l)) := by
            have h := HRU.out.below (balloc (Below.refl _ w4) (.cells #[.slice ou lu cu] 39))
            rw [HTK.out] at h
            exact h
          have HNEW : Hid (∀ (j : Nat) (u : Value), (encV (.slice ou lu cu))[j]? = some u → (w4.alloc (.cells #[.slice ou lu cu] 39)).cell? ((⟨w4.heap.size, 0, none⟩ : Addr).add j) = some u) := World.news_of_block (cs := #[.slice ou lu cu]) (t := 39) (fr := (0, 0)) (heap_alloc_new w4 _)
          clear HRU HTK
          go_wp2_with (at_builtin; refine wpList_appAt rfl (.tmp 41) (.tmp 43) 22 rfl elemRowP Try.underlying22 w1.heap.size v rv encV rfl HU6.out.r.b.op (.slice ou lu cu) ⟨w4.heap.size, 0, none⟩ 1 rfl rfl HNEW.out ?c1 ?c2 ?c3 ?c4 ?_)
          case c1 => simp [encV, Value.oneCell']
          case c2 => have := HVL.out; omega
          case c3 => have := HVL.out; unfold maxLen; omega
          case c4 => exact HU6.out.bel.size
          intro v9 w9 hown9 hg9 hat9
          have HNX : Hid (∃ rv, RB w1 w9 v9 rv (stripTo fs (k + 1))) := by
            refine ⟨rv ++ [.slice ou lu cu], ?_⟩
            rw [HST.out]
            exact HU6.out.addV hown9 hg9 (by simpa using hat9)
          clear hown9 hg9 hat9 HU6 HNEW
          go_wp2
          go_roundw
          case rel => exact ⟨k + 1, by omega, by go_num, HNX⟩
          case measure => simp [intOf]; omega
    · obtain rfl : n = k := by omega
      obtain ⟨G, hG⟩ : ∃ G, G = stripTo fs n := ⟨_, rfl⟩
      have hGl : G.length = n := by rw [hG]; exact stripTo_len fs n (by have := HN.out; omega)
      have hGs : ∀ l ∈ G, ∀ x ∈ l, 0 < x.copy ∧ x.spoil = false := fun l hl x hx => by
        rw [hG] at hl
        unfold stripTo at hl
        obtain ⟨m, _, rfl⟩ := List.mem_map.1 hl
        exact strip_mem hx
      rw [← hG] at HRB
      obtain ⟨oL, cL, soL, scL, hvL, hargs⟩ := HRB.out.r.args
      rw [hGl] at hvL
      subst hvL
      have HGL := Lib.hid hGl
      have HGS := Lib.hid hGs
      have HAG := Lib.hid hargs
      have hcap0 : n = 0 ∨ n ≤ cL := by
        have h := HRB.out.r.op.2
        have hl := HRB.out.r.len
        rcases h with ⟨_, h0⟩ | ⟨g, cap, cur, hv, _, _, h0, _⟩
        · left; omega
        · right
          simp only [Value.slice.injEq] at hv
          omega
      have HB2 := Lib.hid (HB1.out.trans (HRB.out.bel.mono HB1.out.size))
      obtain ⟨V, hV⟩ : ∃ V, V = checkV G := ⟨_, rfl⟩
      have hrun := run_any G [] oL soL scL cL none 0 w2 hargs (by unfold maxLen; omega) (fun i hi => by simp at hi) (by unfold maxLen; simp) (Nat.le_refl _) (fun _ => rfl) V (by rw [runErr_nil, hV])
      rw [hGl] at hrun
      have HR : Hid (Calls Try.prog 9 #[.slice oL n cL, .slice none 0 0] w2 (RetAll G [] V w2)) := hrun
      have HCK : Hid (∀ W, Below w2.heap.size w2 W → Calls Try.prog 11 #[.slice oL n cL] W fun e w' => e = .returned (.int .i64 V) ∧ Below W.heap.size W w') := fun W hb => by
        have h := check_any G oL soL scL cL W (hargs.below hb) (by unfold maxLen; omega)
        rw [hGl, ← hV] at h
        exact h
      have HVV := Lib.hid hV
      clear hG hGl hGs hargs hrun HRB hV
      go_wp2_with fail
      refine HR.out.mono ?_
      rintro e w3 h
      rcases h with ⟨h0, rfl, hb⟩ | ⟨h0, h⟩
      · have hbe : (V != 0) = true := by simpa using h0
        have hVV : (V == V) = true := by simp
        have HB23 := Lib.hid hb
        have HB34 : Hid (Below w3.heap.size w3 (w3.alloc (.cells #[.slice none 0 0, .slice none 0 0, .slice none 0 0, .int .i64 0, .slice none 0 0, .slice none 0 0, .slice none 0 0] 28))) := balloc (Below.refl _ _) _
        clear hb h0 HR
        unfold zeroRep
        go_wp2_with fail
        refine (HCK.out _ (HB23.out.trans (HB34.out.mono HB23.out.size))).mono ?_
        rintro e w5 ⟨rfl, hb5⟩
        have HF : Hid (Below w.heap.size w w5) := HB2.out.trans ((HB23.out.trans ((HB34.out.trans (hb5.mono HB34.out.size)).mono HB23.out.size)).mono HB2.out.size)
        clear hb5 HB23 HB34
        go_wp2
        go_ret
        exact ⟨rfl, HF.out⟩
      · subst h0
        have hok : FeedOk G := checkV_ok HVV.out.symm
        have h1n : 1 ≤ n := by have := hok.one; have := HGL.out; omega
        have h8n : n ≤ 8 := by have := hok.few; have := HGL.out; omega
        obtain ⟨c, a, g, p, og, cg, op, cpq, o0, n0, c0, o1, c1, o2, c2, o3, c3, rv2, Z, rfl, hr, hrep, -, -, -, -, -, hZ, hb⟩ := run_ret h
        rw [HGL.out]
        have HW := Lib.hid (want_is hok HGS.out hr)
        have HOG := Lib.hid hrep.og
        have hgl : g.length ≤ 512 := by
          rw [HW.out]
          have h1 := wantTo_len G (G.getD 0 []).length
          have h2 : (G.getD 0 []).length ≤ 512 := hok.low 0
          omega
        obtain ⟨N, hN⟩ : ∃ N, N = g.length := ⟨_, rfl⟩
        rw [← hN] at HOG ⊢
        have HB23 := Lib.hid hb
        have HB3 : Hid (Below w.heap.size w w3) := HB2.out.trans (hb.mono HB2.out.size)
        have HOK := Lib.hid hok
        have HCELL : Hid (∀ i v, (repC og N cg op cpq o0 n0 c0 c n o1 c1 o2 c2 o3 c3)[i]? = some v → (w3.alloc (.cells (repC og N cg op cpq o0 n0 c0 c n o1 c1 o2 c2 o3 c3) 28)).cell? ⟨w3.heap.size, i, none⟩ = some v) := fun i v hv => by
          rw [cell_of_row _ w3.heap.size i _ _ (0, 0) (heap_alloc_new w3 _)]
          exact hv
        have HSZ : Hid ((w3.alloc (.cells (repC og N cg op cpq o0 n0 c0 c n o1 c1 o2 c2 o3 c3) 28)).heap.size = w3.heap.size + 1) := World.size_alloc _ _
        have HB34 : Hid (Below w3.heap.size w3 (w3.alloc (.cells (repC og N cg op cpq o0 n0 c0 c n o1 c1 o2 c2 o3 c3) 28))) := balloc (Below.refl _ _) _
        have hcap : n ≤ cL := by omega
        have HAG3 := Lib.hid ((HAG.out.below HB23.out).below HB34.out)
        obtain ⟨b, off, hoL, p0⟩ := HAG3.out.hd 0 (by have := HGL.out; omega)
        subst hoL
        simp only [Nat.add_zero] at p0
        have HROW0 := Lib.hid (HAG3.out.row 0 (by have := HGL.out; omega))
        obtain ⟨L, hL⟩ : ∃ L, L = ln G 0 := ⟨_, rfl⟩
        have hL5 : L ≤ 512 := by rw [hL]; exact hok.low 0
        rw [← hL] at p0
        have HLL := Lib.hid hL
        clear hr hrep hZ hb h hok HR HCK hN hL hcap0
        go_wp2
        clear p0
        generalize w3.alloc (.cells (repC og N cg op cpq o0 n0 c0 c n o1 c1 o2 c2 o3 c3) 28) = w4 at *
        generalize hrb : w3.heap.size = rb at *
        have HRBE := Lib.hid hrb
        clear hrb
        have HB24 : Hid (Below w2.heap.size w2 w4) := by
          have h := HB34.out
          rw [← HRBE.out] at h
          exact HB23.out.trans (h.mono HB23.out.size)
        have HBW4 : Hid (Below w.heap.size w w4) := HB2.out.trans (HB24.out.mono HB2.out.size)
        have hrl : rb < w4.heap.size := by have := HSZ.out; omega
        go_loopw [11, 61] (fun wv i wr => ∃ i0 : Nat, i0 ≤ L ∧ i = .int .i64 i0 ∧ Hid (KX w4 wr wv (wantTo G i0))) (fun _ i _ => L - (intOf i).toNat)
        case atStart => exact ⟨0, by omega, rfl, KX.start w4⟩
        case round =>
          obtain ⟨i0, hi, rfl, HK⟩ := hrel
          obtain ⟨w5, rfl⟩ : ∃ w5 : World, w5 = wr := ⟨_, rfl⟩
          obtain ⟨wv, rfl⟩ : ∃ wv : Value, wv = u11 := ⟨_, rfl⟩
          by_cases hit : i0 < L
          · have h0G : 0 < G.length := by have := HGL.out; omega
            have hix : i0 < G[0].length := by have h := HLL.out; rw [ln_get G 0 h0G] at h; omega
            obtain ⟨bo, oo, hso, q0, q1⟩ := (HROW0.out.below HK.out.bel).pt hix
            rw [hso]
            have hD0 : G.getD 0 [] = G[0] := by rw [List.getD_eq_getElem?_getD, List.getElem?_eq_getElem h0G]; rfl
            have HWS : Hid (wantTo G (i0 + 1) = wantTo G i0 ++ (if allTo G G[0][i0].copy (n - 1) = true then [G[0][i0].copy] else [])) := by
              have h := wantTo_succ G i0 (by rw [hD0]; exact hix)
              simp only [hD0, HGL.out] at h
              exact h
            have hsp : G[0][i0].spoil = false := (HGS.out _ (List.getElem_mem h0G) _ (List.getElem_mem hix)).2
            rw [hsp] at q1
            obtain ⟨x, hx⟩ : ∃ x, x = G[0][i0].copy := ⟨_, rfl⟩
            rw [← hx] at q0 HWS
            have id : (i0 : Int) < (L : Int) := by omega
            have i00 : (0 : Int) ≤ (i0 : Int) := by omega
            have HWL : Hid ((wantTo G i0).length ≤ 512) := Nat.le_trans (wantTo_len G i0) (by omega)
            have HK6 := Lib.hid (HK.out.below (balloc (Below.refl _ w5) (.cells #[.int .i64 x, .bool false] 41)))
            have HBX : Hid ((w5.alloc (.cells #[.int .i64 x, .bool false] 41)).cell? ⟨w5.heap.size, 0, none⟩ = some (.int .i64 x) ∧ (w5.alloc (.cells #[.int .i64 x, .bool false] 41)).cell? ⟨w5.heap.size, 1, none⟩ = some (.bool false)) := by
              refine ⟨?_, ?_⟩
              · rw [cell_of_row _ w5.heap.size 0 _ _ (0, 0) (heap_alloc_new w5 _)]; rfl
              · rw [cell_of_row _ w5.heap.size 1 _ _ (0, 0) (heap_alloc_new w5 _)]; rfl
            have c1L : 1 ≤ cL := by omega
            have c1n : 1 ≤ n := h1n
            clear hx hsp hso hD0 hix HK
            have hcc : (cL = 1 ∧ n = 1) ∨ ¬ cL = 1 := by omega
            have hcap1 : n ≤ cL := hcap
            rcases hcc with ⟨hc1, hn1⟩ | hc1
            · have HN1 := Lib.hid hn1
              subst hc1
              clear hn1
              go_wp2
              generalize hw6 : w5.alloc (.cells #[.int .i64 x, .bool false] 41) = w6 at *
              have HW6 := Lib.hid hw6
              clear hw6
              generalize hmn : n - 1 = m at *
              have hm8 : m ≤ 8 := by omega
              have HMN := Lib.hid hmn
              clear hmn
              go_loopw [14, 68] (fun al i wr => ∃ k : Nat, k ≤ m ∧ i = .int .i64 k ∧ al = .bool (allTo G x k) ∧ Hid (Below w6.heap.size w6 wr ∧ wr.cell? ⟨w5.heap.size, 0, none⟩ = some (.int .i64 x) ∧ wr.cell? ⟨w5.heap.size, 1, none⟩ = some (.bool false))) (fun _ i _ => m - (intOf i).toNat)
              case atStart => exact ⟨0, by omega, rfl, rfl, Below.refl _ _, HBX.out.1, HBX.out.2⟩
              case round =>
                clear HBX
                obtain ⟨k, hk, rfl, rfl, HY⟩ := hrel
                by_cases hkt : k < m
                · have h1 := HMN.out; have h2 := HN1.out; omega
                · obtain rfl : m = k := by omega
                  cases hall : allTo G x m with
                  | true =>
                    have HWE : Hid (wantTo G (i0 + 1) = wantTo G i0 ++ [x]) := by
                      have h := HWS.out
                      rw [hall, if_pos rfl] at h
                      exact h
                    have HX0 := Lib.hid HY.out.2.1
                    have HK8 := Lib.hid ((HK6.out.below HY.out.1).below (balloc (Below.refl _ wr) (.cells #[.int .i64 x] 3)))
                    have HNEW : Hid (∀ (j : Nat) (u : Value), (encInt x)[j]? = some u → (wr.alloc (.cells #[.int .i64 x] 3)).cell? ((⟨wr.heap.size, 0, none⟩ : Addr).add j) = some u) := World.news_of_block (cs := #[.int .i64 x]) (t := 3) (fr := (0, 0)) (heap_alloc_new wr _)
                    obtain ⟨w8, rfl⟩ : ∃ w8 : World, w8 = wr := ⟨_, rfl⟩
                    obtain ⟨xs, hxs⟩ : ∃ xs, xs = wantTo G i0 := ⟨_, rfl⟩
                    rw [← hxs] at HK8 HWE HWL
                    have x0 := HX0.out
                    clear hall hxs HY HK6
                    go_wp2_with (at_builtin; refine wpList_appAt rfl (.tmp 80) (.tmp 83) 25 rfl elemIntT Try.underlying25 w4.heap.size wv xs encInt rfl HK8.out.own x ⟨w8.heap.size, 0, none⟩ 1 rfl rfl HNEW.out ?c1 ?c2 ?c3 ?c4 ?_)
                    case c1 => simp [encInt, Value.oneCell']
                    case c2 => have := HWL.out; omega
                    case c3 => have := HWL.out; unfold maxLen; omega
                    case c4 => exact HK8.out.bel.size
                    intro wv9 w9 hown9 hg9 hat9
                    obtain ⟨xs9, hxs9⟩ : ∃ xs9, xs9 = xs ++ [x] := ⟨_, rfl⟩
                    rw [← hxs9] at hown9 HWE
                    have HNX : Hid (KX w4 w9 wv9 (wantTo G (i0 + 1))) := by
                      show KX _ _ _ _
                      rw [HWE.out]
                      exact HK8.out.add hown9 hg9
                    clear hown9 hg9 hat9 hxs9 HK8 HNEW x0
                    go_wp2
                    go_roundw
                    case rel => exact ⟨i0 + 1, by omega, by go_num, HNX⟩
                    case measure => simp [intOf]; omega
                  | false =>
                    have HNX : Hid (KX w4 wr wv (wantTo G (i0 + 1))) := by
                      have h := HWS.out
                      rw [hall, if_neg (by decide), List.append_nil] at h
                      show KX _ _ _ _
                      rw [h]
                      exact HK6.out.below HY.out.1
                    clear hall HY HK6
                    go_wp2
                    go_roundw
                    case rel => exact ⟨i0 + 1, by omega, by go_num, HNX⟩
                    case measure => simp [intOf]; omega
            · skip
              go_wp2
              generalize hw6 : w5.alloc (.cells #[.int .i64 x, .bool false] 41) = w6 at *
              have HW6 := Lib.hid hw6
              clear hw6
              generalize hmn : n - 1 = m at *
              have hm8 : m ≤ 8 := by omega
              have HMN := Lib.hid hmn
              clear hmn
              go_loopw [14, 68] (fun al i wr => ∃ k : Nat, k ≤ m ∧ i = .int .i64 k ∧ al = .bool (allTo G x k) ∧ Hid (Below w6.heap.size w6 wr ∧ wr.cell? ⟨w5.heap.size, 0, none⟩ = some (.int .i64 x) ∧ wr.cell? ⟨w5.heap.size, 1, none⟩ = some (.bool false))) (fun _ i _ => m - (intOf i).toNat)
              case atStart => exact ⟨0, by omega, rfl, rfl, Below.refl _ _, HBX.out.1, HBX.out.2⟩
              case round =>
                clear HBX
                obtain ⟨k, hk, rfl, rfl, HY⟩ := hrel
                by_cases hkt : k < m
                · have hkG : k + 1 < G.length := by have := HGL.out; have := HMN.out; omega
                  have HAGW := Lib.hid (HAG3.out.below (HK6.out.bel.trans (HY.out.1.mono HK6.out.bel.size)))
                  obtain ⟨b', off', e9, p1⟩ := HAGW.out.hd (k + 1) hkG
                  simp only [Option.some.injEq, Addr.mk.injEq, and_true] at e9
                  obtain ⟨rfl, rfl⟩ := e9
                  have p2 : wr.cell? ⟨b, off + 1 + k, none⟩ = some (.slice (soL (k + 1)) (ln G (k + 1)) (scL (k + 1))) := by rw [show off + 1 + k = off + (k + 1) by omega]; exact p1
                  have HCP : Hid (Calls Try.prog 17 #[.slice (soL (k + 1)) (ln G (k + 1)) (scL (k + 1)), .agg #[.int .i64 x, .bool false]] wr fun e w' => e = .returned (.bool (hasC G[k + 1] x)) ∧ Below wr.heap.size wr w') := by
                    have h := containsPt_any (soL (k + 1)) G[k + 1] x (scL (k + 1)) wr (by have := HOK.out.low (k + 1); rw [ln_get G (k + 1) hkG] at this; unfold maxLen; omega) (HAGW.out.row (k + 1) hkG) fun y hy => (HGS.out _ (List.getElem_mem hkG) y hy).2
                    rw [← ln_get G (k + 1) hkG] at h
                    exact h
                  have HAS := Lib.hid (allTo_succ G x k hkG)
                  obtain ⟨hc, hhc⟩ : ∃ hc, hc = hasC G[k + 1] x := ⟨_, rfl⟩
                  rw [← hhc] at HCP HAS
                  obtain ⟨lk, hlk⟩ : ∃ lk, lk = ln G (k + 1) := ⟨_, rfl⟩
                  rw [← hlk] at p2 HCP
                  obtain ⟨ab, hab⟩ : ∃ ab, ab = allTo G x k := ⟨_, rfl⟩
                  rw [← hab] at HAS ⊢
                  have x0 := HY.out.2.1
                  have x1 := HY.out.2.2
                  have kd : (k : Int) < (m : Int) := by omega
                  have k0 : (0 : Int) ≤ (k : Int) := by omega
                  clear p1 hhc hlk hab
                  cases ab with
                  | true =>
                    go_wp2_with fail
                    refine HCP.out.mono ?_
                    rintro e w8 ⟨rfl, hb8⟩
                    have HYN : Hid (Below w6.heap.size w6 w8 ∧ w8.cell? ⟨w5.heap.size, 0, none⟩ = some (.int .i64 x) ∧ w8.cell? ⟨w5.heap.size, 1, none⟩ = some (.bool false)) := ⟨HY.out.1.trans (hb8.mono HY.out.1.size), keepCell hb8 x0, keepCell hb8 x1⟩
                    have HAE : Hid (allTo G x (k + 1) = hc) := by show _ = _; rw [HAS.out]; simp
                    clear hb8 HY HCP HAS x0 x1 p2
                    go_wp2
                    go_roundw
                    case rel => exact ⟨k + 1, by omega, by go_num, (by rw [HAE.out]), HYN⟩
                    case measure => simp [intOf]; omega
                  | false =>
                    have HAE : Hid (allTo G x (k + 1) = false) := by show _ = _; rw [HAS.out]; rfl
                    clear HCP HAS x0 x1
                    go_wp2
                    go_roundw
                    case rel => exact ⟨k + 1, by omega, by go_num, (by rw [HAE.out]), HY⟩
                    case measure => simp [intOf]; omega
                · obtain rfl : m = k := by omega
                  cases hall : allTo G x m with
                  | true =>
                    have HWE : Hid (wantTo G (i0 + 1) = wantTo G i0 ++ [x]) := by
                      have h := HWS.out
                      rw [hall, if_pos rfl] at h
                      exact h
                    have HX0 := Lib.hid HY.out.2.1
                    have HK8 := Lib.hid ((HK6.out.below HY.out.1).below (balloc (Below.refl _ wr) (.cells #[.int .i64 x] 3)))
                    have HNEW : Hid (∀ (j : Nat) (u : Value), (encInt x)[j]? = some u → (wr.alloc (.cells #[.int .i64 x] 3)).cell? ((⟨wr.heap.size, 0, none⟩ : Addr).add j) = some u) := World.news_of_block (cs := #[.int .i64 x]) (t := 3) (fr := (0, 0)) (heap_alloc_new wr _)
                    obtain ⟨w8, rfl⟩ : ∃ w8 : World, w8 = wr := ⟨_, rfl⟩
                    obtain ⟨xs, hxs⟩ : ∃ xs, xs = wantTo G i0 := ⟨_, rfl⟩
                    rw [← hxs] at HK8 HWE HWL
                    have x0 := HX0.out
                    clear hall hxs HY HK6
                    go_wp2_with (at_builtin; refine wpList_appAt rfl (.tmp 80) (.tmp 83) 25 rfl elemIntT Try.underlying25 w4.heap.size wv xs encInt rfl HK8.out.own x ⟨w8.heap.size, 0, none⟩ 1 rfl rfl HNEW.out ?c1 ?c2 ?c3 ?c4 ?_)
                    case c1 => simp [encInt, Value.oneCell']
                    case c2 => have := HWL.out; omega
                    case c3 => have := HWL.out; unfold maxLen; omega
                    case c4 => exact HK8.out.bel.size
                    intro wv9 w9 hown9 hg9 hat9
                    obtain ⟨xs9, hxs9⟩ : ∃ xs9, xs9 = xs ++ [x] := ⟨_, rfl⟩
                    rw [← hxs9] at hown9 HWE
                    have HNX : Hid (KX w4 w9 wv9 (wantTo G (i0 + 1))) := by
                      show KX _ _ _ _
                      rw [HWE.out]
                      exact HK8.out.add hown9 hg9
                    clear hown9 hg9 hat9 hxs9 HK8 HNEW x0
                    go_wp2
                    go_roundw
                    case rel => exact ⟨i0 + 1, by omega, by go_num, HNX⟩
                    case measure => simp [intOf]; omega
                  | false =>
                    have HNX : Hid (KX w4 wr wv (wantTo G (i0 + 1))) := by
                      have h := HWS.out
                      rw [hall, if_neg (by decide), List.append_nil] at h
                      show KX _ _ _ _
                      rw [h]
                      exact HK6.out.below HY.out.1
                    clear hall HY HK6
                    go_wp2
                    go_roundw
                    case rel => exact ⟨i0 + 1, by omega, by go_num, HNX⟩
                    case measure => simp [intOf]; omega
          · obtain rfl : L = i0 := by omega
            have HE : Hid (wantTo G L = g) := by
              have h := HW.out
              show _ = _
              rw [h, HLL.out]
              rfl
            have hkx := HK.out
            rw [HE.out] at hkx
            have r0 : w5.cell? ⟨rb, 0, none⟩ = some (.slice og N cg) := keepCell hkx.bel (HCELL.out 0 _ rfl)
            have HEQ := Lib.hid (equal_any (.slice og N cg) wv g w5 ((HOG.out.below (by
              have h := HB34.out
              rw [← HRBE.out] at h
              exact h.trans (hkx.bel.mono h.size))).isSlice (fun _ => rfl)) (hkx.own.isSlice (fun _ => rfl)))
            have HBF : Hid (Below w.heap.size w w5) := HBW4.out.trans (hkx.bel.mono HBW4.out.size)
            clear hkx HK
            go_wp2_with fail
            refine HEQ.out.mono ?_
            rintro e w7 ⟨rfl, hb7⟩
            have HF : Hid (Below w.heap.size w w7) := HBF.out.trans (hb7.mono HBF.out.size)
            clear hb7 HEQ r0
            go_wp2
            go_ret
            exact ⟨rfl, HF.out⟩
end Go.Proofs.Ytemldminpndemaa
