/-
  The walk of formsRight. Own text.
-/
import Derived.Test.YtobmpleddhcloaaCostW
import Derived.Test.YtobmpleddhcloaaFSuffV
namespace Go.Proofs.Ytobmpleddhcloaa
open Go.RowKit
set_option linter.unusedVariables false
/-- The order of the jobs, as ints. -/
def ltI (ds : List Int) (a b : Int) : Bool := ltD ds a.toNat b.toNat
def idxs (n : Nat) : List Int := (List.range n).map fun x : Nat => (x : Int)
theorem idxs_len (n : Nat) : (idxs n).length = n := by unfold idxs; rw [List.length_map, List.length_range]
theorem idxs_get {n i : Nat} (h : i < (idxs n).length) : (idxs n)[i] = (i : Int) := by simp [idxs]
theorem ordI (ds : List Int) (k : Nat) (hk : k ≤ ds.length) : (sortTo (ltD ds) (List.range ds.length) k).map (fun x : Nat => (x : Int)) = sortTo (ltI ds) (idxs ds.length) k :=
  sortTo_map (fun x y => by simp [ltI]) (List.range ds.length) k (by rw [List.length_range]; exact hk)
theorem sortI_mem {ds : List Int} {k : Nat} (hk : k ≤ ds.length) {x : Int} (hx : x ∈ sortTo (ltI ds) (idxs ds.length) k) : ∃ y : Nat, y < ds.length ∧ x = (y : Int) := by
  rw [← ordI ds k hk] at hx
  obtain ⟨y, hy, rfl⟩ := List.mem_map.1 hx
  have := (sortTo_perm (ltD ds) (List.range ds.length) k (by rw [List.length_range]; exact hk)).mem_iff.1 hy
  exact ⟨y, by simpa using List.mem_of_mem_take this, rfl⟩
theorem sortI_succ {ds : List Int} {i : Nat} (h : i < ds.length) : sortTo (ltI ds) (idxs ds.length) (i + 1) = insL (ltI ds) (i : Int) (sortTo (ltI ds) (idxs ds.length) i) := by
  show insL (ltI ds) ((idxs ds.length).getD i default) _ = _
  rw [getD_at (by rw [idxs_len]; exact h), idxs_get]
theorem ordI_all (ds : List Int) : sortTo (ltI ds) (idxs ds.length) ds.length = (ordV ds).map fun x : Nat => (x : Int) := (ordI ds ds.length (Nat.le_refl _)).symm
/-- The order under way: a row of the call's own. -/
def OwnI (w : World) (v : Value) (xs : List Int) (W : World) : Prop := Own W w.heap.size 3 1 encInt v xs ∧ Below w.heap.size w W
theorem OwnI.drewN {w : World} {v : Value} {xs : List Int} {W : World} (h : OwnI w v xs W) (k : Nat) : OwnI w v xs (W.drewN k) := ⟨h.1.drewN k, bdrewN h.2 k⟩
theorem InsAt.own {w : World} {g cap n : Nat} {lt : Int → Int → Bool} {x : Int} {L : List Int} {W : World} {A : List Int} (h : Arr W w.heap.size 3 (Value.int .i64) g cap A) (hl : A.length = n) (hb : Below w.heap.size w W) : OwnI w (.slice (some ⟨g, 0, none⟩) n cap) A W := by
  subst hl
  exact ⟨h, hb⟩
set_option maxRecDepth 100000 in
set_option maxHeartbeats 4000000 in
theorem formsRight_ok (b0 o0 : Nat) (ds : List Int) (cd : Nat) (s p : Int) (of : Option Addr) (cf m : Nat) (w : World) (B : Nat → Int) (N : Nat → Nat) (hx : Flat w 1 encInt (some ⟨b0, o0, none⟩) ds) (hc : gchk ds s = 0) (hB : BestFrom (vals ds) s p B N 0) (hmn : m ≤ ds.length) (hend : pos N m = ds.length) (hlt : ∀ a, a < m → pos N a < ds.length) (hf : FormsAt w of (formsV ds s N m)) :
    Calls Try.prog 27 #[.slice (some ⟨b0, o0, none⟩) ds.length cd, .int .i64 s, .slice of m cf] w fun e w' => e = .returned (.bool true) ∧ Below w.heap.size w w' := by
  obtain ⟨l1, l2, hd, s1, s2⟩ := gchk_zero hc
  obtain ⟨n, hn⟩ : ∃ n : Nat, ds.length = n := ⟨_, rfl⟩
  have HD := Lib.hid hd; clear hd
  have HX := Lib.hid hx
  have HB := Lib.hid hB; clear hB
  have HC := Lib.hid hc; clear hc
  have HF := Lib.hid hf; clear hf
  have HEND := Lib.hid hend; clear hend
  have HLT := Lib.hid hlt; clear hlt
  rw [hn] at l1 l2 hmn ⊢
  have hcell : Hid (∀ W, Below w.heap.size w W → ∀ i (h : i < n), ∃ d, d = ds.getD i 0 ∧ W.cell? ⟨b0, o0 + i, none⟩ = some (.int .i64 d) ∧ 1 ≤ d ∧ d ≤ 1048576) := fun W hW i h => by
    have h' : i < ds.length := by rw [hn]; exact h
    obtain ⟨b, off, e, hc⟩ := (hx.below hW).int h'
    cases e
    have hdd := HD.out ds[i] (List.getElem_mem h')
    have e : ds.getD i 0 = ds[i] := by rw [List.getD_eq_getElem?_getD, List.getElem?_eq_getElem h']; rfl
    exact ⟨ds[i], e.symm, hc, hdd.1, hdd.2⟩
  have HNN := Lib.hid hn; clear hn hx
  have H0 : Hid (OwnI w (.slice none 0 0) (sortTo (ltI ds) (idxs ds.length) 0) w) := ⟨Own.nil _ _ _ _ _, Below.refl _ _⟩
  go_enter Try.func27, Try.ntmps27
  go_wp2
  go_loopw [7, 18] (fun v t wr => ∃ i : Nat, i ≤ n ∧ t = .int .i64 i ∧ Hid (OwnI w v (sortTo (ltI ds) (idxs ds.length) i) wr)) (fun _ t _ => n - (intOf t).toNat)
  case atStart => exact ⟨0, by omega, rfl, H0⟩
  case round =>
    clear H0
    obtain ⟨i, hi, rfl, HI⟩ := hrel
    by_cases hlt : i < n
    · have hid : i < ds.length := by rw [HNN.out]; exact hlt
      have hLl : (sortTo (ltI ds) (idxs ds.length) i).length = i := sortTo_len _ _ _
      have hmem : Hid (∀ x ∈ sortTo (ltI ds) (idxs ds.length) i, ∃ y : Nat, y < n ∧ x = (y : Int)) := fun x hx => by
        have := sortI_mem (Nat.le_of_lt hid) hx
        rwa [HNN.out] at this
      have hsucc : Hid (sortTo (ltI ds) (idxs ds.length) (i + 1) = insL (ltI ds) (i : Int) (sortTo (ltI ds) (idxs ds.length) i)) := sortI_succ hid
      obtain ⟨L, hL⟩ : ∃ L, L = sortTo (ltI ds) (idxs ds.length) i := ⟨_, rfl⟩
      rw [← hL] at HI hLl hmem hsucc
      clear hL
      obtain ⟨hown, hb⟩ := HI.out
      obtain ⟨ov, cv, rfl, _, _, _⟩ := hown.isSlice (fun _ => rfl)
      rw [hLl] at hown ⊢
      have hbs := hb.size
      go_wp2_with (at_builtin; go_must (refine wpList_app1 rfl (.tmp 23) (.tmp 25) 22 rfl elemInt Try.underlying22 w.heap.size _ _ encInt rfl (hown.alloc _) (i : Int) ⟨wr.heap.size, 0, none⟩ 1 rfl rfl ?c1 ?c2 ?c3 ?c4 ?c5 ?_))
      case c1 => exact cell_one_new _ _ _
      case c2 => simp [encInt, Value.oneCell']
      case c3 => omega
      case c4 => unfold maxLen; omega
      case c5 => simp; omega
      intro v' w3 hown3 hg3
      have hb5 := (hown.alloc _).grown (balloc hb _) (Nat.le_refl _) hg3
      obtain ⟨g, cap, rfl, hA⟩ := Own.arr hown3 (by simp)
      have hlen : (L ++ [(i : Int)]).length = i + 1 := by rw [List.length_append, hLl]; rfl
      rw [hlen]
      have hcap := hA.cap'
      rw [hlen] at hcap
      have hcap1 := hcap.1
      have hstart : Hid (InsAt w w.heap.size g cap (i + 1) (ltI ds) (i : Int) L [] i w3) := by
        refine ⟨_, hA, hlen, ?_, hb5⟩
        have := Ins.start (lt := ltI ds) (x := (i : Int)) (L := L) (R := [])
        rwa [hLl] at this
      clear hown hb hown3 hg3 hb5 hA HI hcap hlen
      go_wp2
      go_loopw [9] (fun t wr => ∃ j : Nat, j ≤ i ∧ t = .int .i64 j ∧ Hid (InsAt w w.heap.size g cap (i + 1) (ltI ds) (i : Int) L [] j wr)) (fun t _ => (intOf t).toNat)
      case atStart => exact ⟨i, Nat.le_refl _, rfl, hstart⟩
      case round =>
        clear hstart
        obtain ⟨j, hj, rfl, HJ⟩ := hrel
        cases j with
        | zero =>
          have HE : Hid (OwnI w (.slice (some ⟨g, 0, none⟩) (i + 1) cap) (sortTo (ltI ds) (idxs ds.length) (i + 1)) wr) := by
            obtain ⟨A, h1, h2, h3, h4⟩ := HJ.out
            rw [hsucc.out]
            have e := h3.zero
            rw [List.append_nil] at e
            rw [← e]
            exact InsAt.own (lt := ltI ds) (x := (i : Int)) (L := L) h1 h2 h4
          clear HJ
          go_wp2
          go_quiet (fail)
          go_wp2
          go_roundw
          case rel => exact ⟨i + 1, by omega, by go_num, HE.out.drewN _⟩
          case measure => simp [intOf]; omega
        | succ q =>
          obtain ⟨A, h1, h2, h3, h4⟩ := HJ.out
          have hqL : q < L.length := by omega
          obtain ⟨a1, a2⟩ := getElem_of h3.at'
          obtain ⟨a3, a4⟩ := getElem_of (h3.prev hqL)
          obtain ⟨y, hy, hLy⟩ := hmem.out _ (List.getElem_mem hqL)
          have t1 : wr.cell? ⟨g, q + 1, none⟩ = some (.int .i64 (i : Int)) := by rw [← a2]; exact h1.cell a1
          have t2 : wr.cell? ⟨g, q, none⟩ = some (.int .i64 (y : Int)) := by rw [← hLy, ← a4]; exact h1.cell a3
          obtain ⟨dy, hdy, t3, dy1, dy2⟩ := hcell.out wr h4 y hy
          obtain ⟨di, hdi, t4, di1, di2⟩ := hcell.out wr h4 i hlt
          have hgtE : ltI ds (i : Int) L[q] = decide (dy < di) := by
            rw [hLy]
            show decide (ds.getD ((y : Int).toNat) 0 < ds.getD ((i : Int).toNat) 0) = _
            rw [Int.toNat_natCast, Int.toNat_natCast, ← hdy, ← hdi]
          have f1 := h1.frozen (q + 1)
          have f2 := h1.frozen q
          have hq2 : ((q + 1 : Nat) : Int) = (q : Int) + 1 := by omega
          have HH := Lib.hid (And.intro h1 (And.intro h2 (And.intro h3 h4)))
          have HLY := Lib.hid hLy
          have HDY := Lib.hid (And.intro hdy hdi)
          clear h1 h2 h3 h4 a1 a2 a3 a4 HJ hLy hdy hdi
          have b1 : (0 : Int) ≤ (q : Int) := by omega
          have b2 : (q : Int) < (i : Int) := by omega
          have b3 : (q : Int) + 1 < (i : Int) + 1 := by omega
          have b4 : (0 : Int) < (q : Int) + 1 := by omega
          have b5 : (y : Int) < (n : Int) := by omega
          have b6 : (i : Int) < (n : Int) := by omega
          have b7 : (q : Int) < (i : Int) + 1 := by omega
          by_cases hgt : dy < di
          · have HE : Hid (∀ k, InsAt w w.heap.size g cap (i + 1) (ltI ds) (i : Int) L [] q (((wr.drewN k).setCell ⟨g, q + 1, none⟩ (.int .i64 (y : Int))).setCell ⟨g, q, none⟩ (.int .i64 (i : Int)))) := fun k => by
              obtain ⟨h1, h2, h3, h4⟩ := HH.out
              replace h1 := h1.drewN k
              replace h4 := bdrewN h4 k
              rw [← HLY.out]
              refine ⟨_, (h1.set (q + 1) L[q]).set q (i : Int), by simp [h2], h3.step hqL (by rw [hgtE]; exact decide_eq_true hgt), ?_⟩
              exact (h1.set (q + 1) L[q]).setBelow (h1.setBelow h4 (Nat.le_refl _) _ _) (Nat.le_refl _) _ _
            clear hgtE
            rw [hq2]
            go_wp2
            go_quiet (fail)
            go_wp2
            go_region
            all_goals
              go_wp2
              go_roundw
              case rel => exact ⟨q, by omega, by go_num, by first | exact HE.out _ | exact (HE.out _).drew⟩
              case measure => simp [intOf]
          · have HE : Hid (OwnI w (.slice (some ⟨g, 0, none⟩) (i + 1) cap) (sortTo (ltI ds) (idxs ds.length) (i + 1)) wr) := by
              obtain ⟨h1, h2, h3, h4⟩ := HH.out
              rw [hsucc.out]
              have e := h3.stop hqL (by rw [hgtE]; simpa using hgt)
              rw [List.append_nil] at e
              rw [← e]
              exact InsAt.own (lt := ltI ds) (x := (i : Int)) (L := L) h1 h2 h4
            clear hgtE
            rw [hq2]
            go_wp2
            go_quiet (fail)
            go_wp2
            go_roundw
            case rel => exact ⟨i + 1, by omega, by go_num, HE.out.drewN _⟩
            case measure => simp [intOf]; omega
    · obtain rfl : i = n := by omega
      obtain ⟨hown, hb⟩ := HI.out
      have e := ordI_all ds
      rw [HNN.out] at e
      rw [HNN.out, e] at hown
      obtain ⟨g, cap, rfl, hA⟩ := Own.arr hown (by rw [List.length_map, ordV_len, HNN.out]; exact l1)
      have hol : ((ordV ds).map fun x : Nat => (x : Int)).length = i := by rw [List.length_map, ordV_len, HNN.out]
      rw [hol]
      have hord : Hid (∀ t, t < i → ∃ y : Nat, y = (ordV ds).getD t 0 ∧ y < i ∧ wr.cell? ⟨g, t, none⟩ = some (.int .i64 (y : Int))) := fun t ht => by
        obtain ⟨h1, h2⟩ := ordV_at ds (i := t) (by rw [HNN.out]; exact ht)
        rw [HNN.out] at h1
        refine ⟨_, rfl, h1, ?_⟩
        have h3 := hA.cell (i := t) (by rw [hol]; exact ht)
        rw [List.getElem_map, ← h2] at h3
        exact h3
      have hgl := hA.lt.2
      have HBW := Lib.hid hb
      have HFW : Hid (FormsAt wr of (formsV ds s N m)) := HF.out.below hb
      clear hA hown hb HI e HF
      have hfl : (formsV ds s N m).length = m := formsV_len _ _ _ _
      obtain ⟨ws, rfl⟩ : ∃ ws : World, ws = wr := ⟨_, rfl⟩
      go_wp2
      go_loopw [10, 68] (fun at' t wr => ∃ a : Nat, a ≤ m ∧ t = .int .i64 a ∧ at' = .int .i64 (pos N a) ∧ Below ws.heap.size ws wr) (fun _ t _ => m - (intOf t).toNat)
      case atStart => exact ⟨0, by omega, rfl, rfl, Below.refl _ _⟩
      case round =>
        obtain ⟨a, ha, rfl, rfl, hb⟩ := hrel
        by_cases hlta : a < m
        · obtain ⟨c1, c2, c3, _⟩ := chain_at HB.out HLT.out hlta
          rw [HNN.out] at c2
          have hal : a < (formsV ds s N m).length := by rw [hfl]; exact hlta
          obtain ⟨b, off, oj, cj, ou, cu, rfl, e0, e1, e2, lj, lu, fj, fu⟩ := (HFW.out.below hb).at hal
          rw [formsV_get hal] at e0 e1 e2 lj lu fj fu
          obtain ⟨p0, hp0⟩ : ∃ p0, p0 = pos N a := ⟨_, rfl⟩
          obtain ⟨p1, hp1⟩ : ∃ p1, p1 = pos N (a + 1) := ⟨_, rfl⟩
          rw [← hp0, ← hp1] at c1 c3 e0 e1 e2 lj lu fj fu
          rw [← hp1] at c2
          rw [← hp0]
          have HP := Lib.hid (And.intro hp0 hp1)
          clear hp0 hp1
          have hjl := formV_jobs_len (ds := ds) (s := s) (i := p0) (k := p1) (by omega) (by rw [HNN.out]; exact c2)
          have hul := formV_ups_len (ds := ds) (s := s) (i := p0) (k := p1) (by omega) (by rw [HNN.out]; exact c2)
          obtain ⟨J, hJ⟩ : ∃ J, J = p1 - p0 := ⟨_, rfl⟩
          have hvl : (vals ds).length = i := by rw [vals_len, HNN.out]
          obtain ⟨_, r1, r2⟩ := runV_least (s := s) (i := p0) (k := p1) (vals_demands HD.out) (by omega) (by rw [hvl]; exact c2) c3
          obtain ⟨R, hR⟩ : ∃ R, R = runV (vals ds) s p0 p1 := ⟨_, rfl⟩
          rw [← hR] at r1 r2
          have hrunE : (formV ds s p0 p1).run = R := hR.symm
          rw [hjl, ← hJ] at e0
          rw [hul, ← hJ] at e1
          rw [hrunE] at e2
          have hJ1 : 1 ≤ J := by omega
          have hJ2 : (p0 : Int) + (J : Int) ≤ (i : Int) := by omega
          have hJ3 : Hid ((p0 : Int) + (J : Int) = (p1 : Int)) := by show _ = _; omega
          have hJ4 : J ≤ 12 := by omega
          have hz0 : ¬ J = 0 := by omega
          have hz1 : ((J : Int) == 0) = false := by simp; omega
          have hz2 : ¬ ((i : Int) < (p0 : Int) + (J : Int)) := by omega
          have hz3 : (0 : Int) ≤ (p0 : Int) + (J : Int) ∧ (p0 : Int) + (J : Int) ≤ 12 := by omega
          have HJB : Hid (∀ q, q < J → ∃ (y : Nat) (d : Int), y < i ∧ y = (ordV ds).getD (p0 + q) 0 ∧ d = ds.getD y 0 ∧ (∃ bj oj', oj = some ⟨bj, oj', none⟩ ∧ wr.cell? ⟨bj, oj' + q, none⟩ = some (.int .i64 (y : Int))) ∧ (∃ bu ou', ou = some ⟨bu, ou', none⟩ ∧ wr.cell? ⟨bu, ou' + q, none⟩ = some (.int .i64 (cl d R)))) := fun q hq => by
            have hq1 : q < (formV ds s p0 p1).jobs.length := by omega
            have hq2 : q < (formV ds s p0 p1).ups.length := by omega
            obtain ⟨bj, oj', ej, hcj⟩ := fj.int hq1
            obtain ⟨bu, ou', eu, hcu⟩ := fu.int hq2
            have hle : p1 ≤ ds.length := by rw [HNN.out]; exact c2
            rw [formV_job (by omega) hle] at hcj
            rw [formV_up (by omega) hle, ← hR] at hcu
            obtain ⟨h1, h2⟩ := ordV_at ds (i := p0 + q) (by omega)
            have e : (vals ds).getD (p0 + q) 0 = ds.getD ((ordV ds).getD (p0 + q) 0) 0 := by
              rw [List.getD_eq_getElem?_getD, List.getElem?_eq_getElem (by omega)]
              rw [vals_get ds (i := p0 + q) (by omega)]
              rw [List.getD_eq_getElem?_getD (l := ds), List.getElem?_eq_getElem h1]
            rw [e] at hcu
            exact ⟨_, _, by rw [HNN.out] at h1; exact h1, rfl, rfl, ⟨bj, oj', ej, hcj⟩, ⟨bu, ou', eu, hcu⟩⟩
          replace hJ := Lib.hid hJ
          have HR := Lib.hid hR
          clear fj fu lj lu hR hrunE hjl hul c3
          obtain ⟨wo, rfl⟩ : ∃ wo : World, wo = wr := ⟨_, rfl⟩
          go_wp2
          have k0 : (wo.alloc (.cells #[.slice oj J cj, .slice ou J cu, .int .i64 R] 42)).cell? ⟨wo.heap.size, 0, none⟩ = some (.slice oj J cj) := by rw [cell_of_row _ wo.heap.size _ _ _ (0, 0) (heap_alloc_new wo _)]; rfl
          have k1 : (wo.alloc (.cells #[.slice oj J cj, .slice ou J cu, .int .i64 R] 42)).cell? ⟨wo.heap.size, 1, none⟩ = some (.slice ou J cu) := by rw [cell_of_row _ wo.heap.size _ _ _ (0, 0) (heap_alloc_new wo _)]; rfl
          have k2 : (wo.alloc (.cells #[.slice oj J cj, .slice ou J cu, .int .i64 R] 42)).cell? ⟨wo.heap.size, 2, none⟩ = some (.int .i64 R) := by rw [cell_of_row _ wo.heap.size _ _ _ (0, 0) (heap_alloc_new wo _)]; rfl
          have hbw := Lib.hid (balloc (Below.refl wo.heap.size wo) (.cells #[.slice oj J cj, .slice ou J cu, .int .i64 R] 42))
          generalize wo.alloc (.cells #[.slice oj J cj, .slice ou J cu, .int .i64 R] 42) = W1 at *
          have HK := Lib.hid (And.intro k0 (And.intro k1 k2))
          clear k0 k1 k2 e0 e1 e2
          have hH0 : Hid (Own W1 W1.heap.size 3 1 encInt (.slice none 0 0) (seg (vals ds) p0 (p0 + 0)) ∧ Below W1.heap.size W1 W1) := by
            have e : seg (vals ds) p0 (p0 + 0) = [] := by unfold seg; simp
            rw [e]
            exact ⟨Own.nil _ _ _ _ _, Below.refl _ _⟩
          go_loopw [13, 98] (fun l t wr => ∃ b : Nat, b ≤ J ∧ t = .int .i64 b ∧ Hid (Own wr W1.heap.size 3 1 encInt l (seg (vals ds) p0 (p0 + b)) ∧ Below W1.heap.size W1 wr)) (fun _ t _ => J - (intOf t).toNat)
          case atStart => exact ⟨0, by omega, rfl, hH0⟩
          case round =>
            clear hH0
            obtain ⟨q, hq, rfl, HQ⟩ := hrel
            have hpJ : p0 + J = p1 := by have := hJ.out; omega
            have hsl : (seg (vals ds) p0 (p0 + q)).length = q := by rw [seg_len (by omega) (by omega)]; omega
            obtain ⟨hown, hb1⟩ := HQ.out
            obtain ⟨ol, cl', rfl, _, _, hfl2⟩ := hown.isSlice (fun _ => rfl)
            rw [hsl] at hown ⊢
            by_cases hltq : q < J
            · obtain ⟨y, d, hy, hyE, hdE, ⟨bj, oj', rfl, hcj⟩, ⟨bu, ou', rfl, hcu⟩⟩ := HJB.out q hltq
              have hcj2 : wr.cell? ⟨bj, oj' + q, none⟩ = some (.int .i64 (y : Int)) := keepCell hb1 (keepCell hbw.out hcj)
              have hcu2 : wr.cell? ⟨bu, ou' + q, none⟩ = some (.int .i64 (cl d R)) := keepCell hb1 (keepCell hbw.out hcu)
              have hk1 : wr.cell? ⟨wo.heap.size, 1, none⟩ = some (.slice (some ⟨bu, ou', none⟩) J cu) := keepCell hb1 HK.out.2.1
              have hk2 : wr.cell? ⟨wo.heap.size, 2, none⟩ = some (.int .i64 R) := keepCell hb1 HK.out.2.2
              have hbws : Below ws.heap.size ws wr := bthen (bthen hb hbw.out) hb1
              obtain ⟨y2, hy2, hy3, ho⟩ := hord.out (p0 + q) (by omega)
              have hyy : y2 = y := by rw [hy2, hyE]
              subst hyy
              have ho2 : wr.cell? ⟨g, p0 + q, none⟩ = some (.int .i64 (y2 : Int)) := by
                have h := ho
                have hlt2 := cell?_lt h
                rw [hbws.cell hlt2]
                exact h
              obtain ⟨d2, hd2, hcd, hd3, hd4⟩ := hcell.out wr (bthen HBW.out hbws) y2 hy
              have hdd : d2 = d := by rw [hd2, hdE]
              subst hdd
              obtain ⟨z, hz⟩ : ∃ z, z = p0 + q := ⟨_, rfl⟩
              have ho3 := ho2
              rw [← hz] at ho2
              have z5 : (0 : Int) ≤ (p0 : Int) + (q : Int) := by omega
              have z6 : (p0 : Int) + (q : Int) < (i : Int) := by omega
              have z7 : ((p0 : Int) + (q : Int)).toNat = p0 + q := by omega
              have g3 : IntKind.i64.wrap ((p0 : Int) + (q : Int)) = (z : Int) := by rw [IntWalk.i64_in _ (by omega)]; omega
              have z1 : (z : Int) < (i : Int) := by omega
              have z2 : (y2 : Int) < (i : Int) := by omega
              have z3 : (q : Int) < (J : Int) := by omega
              have z4 : ¬ R < 1 := by omega
              have hz : Hid (z = p0 + q) := hz
              have HSEG : Hid (seg (vals ds) p0 (p0 + (q + 1)) = seg (vals ds) p0 (p0 + q) ++ [d2]) := by
                have h1 : p0 + q < (vals ds).length := by omega
                have h2 := seg_succ (V := vals ds) (i := p0) (k := p0 + q) (by omega) h1
                show seg (vals ds) p0 (p0 + q + 1) = _
                rw [h2, vals_get ds h1]
                have e : ds[(ordV ds).getD (p0 + q) 0]'(ordV_at ds (by rw [vals_len] at h1; exact h1)).1 = d2 := by
                  rw [hd2, hy2, List.getD_eq_getElem?_getD (l := ds), List.getElem?_eq_getElem]
                  rfl
                rw [e]
              have hbq := Lib.hid hb1
              have hbs1 := hb1.size
              clear hcj hcu hy2 hyE hdE hd2 ho hfl2 HQ hb1 hbws hpJ
              go_wp2
              go_quiet ((go_at_call 15; exact quiet_eq (rceil_any _ _ _ (by omega) (by omega) (by omega) (by omega))))
              go_wp2_with (at_builtin; go_must (refine wpList_app1 rfl (.tmp 131) (.tmp 136) 22 rfl elemInt Try.underlying22 W1.heap.size _ _ encInt rfl ((hown.drewN _).alloc _) d2 ⟨_, 0, none⟩ 1 rfl rfl ?c1 ?c2 ?c3 ?c4 ?c5 ?_))
              case c1 => exact cell_one_new _ _ _
              case c2 => simp [encInt, Value.oneCell']
              case c3 => omega
              case c4 => unfold maxLen; omega
              case c5 => simp; omega
              intro v' w3 hown3 hg3
              have hb5 := ((hown.drewN _).alloc _).grown (balloc (bdrewN hbq.out _) _) (Nat.le_refl _) hg3
              have HN3 : Hid (Own w3 W1.heap.size 3 1 encInt v' (seg (vals ds) p0 (p0 + (q + 1))) ∧ Below W1.heap.size W1 w3) := by
                rw [HSEG.out]
                exact ⟨hown3, hb5⟩
              clear hown3 hg3 hb5 hown
              go_wp2
              go_roundw
              case rel => exact ⟨q + 1, by omega, by go_num, HN3⟩
              case measure => simp [intOf]; omega
            · obtain rfl : q = J := by omega
              rw [hpJ] at hfl2 hsl
              have hk2 : wr.cell? ⟨wo.heap.size, 2, none⟩ = some (.int .i64 R) := keepCell hb1 HK.out.2.2
              have hk0 : wr.cell? ⟨wo.heap.size, 0, none⟩ = some (.slice oj q cj) := keepCell hb1 HK.out.1
              have hbws : Below ws.heap.size ws wr := bthen (bthen hb hbw.out) hb1
              have HRUN : Hid (∀ k, Calls Try.prog 14 #[.slice ol q cl', .int .i64 s] (wr.drewN k) fun e w' => e = .returned (.int .i64 R) ∧ wr.drewN k = w') := fun k => by
                have h := shortestRun_any ol (seg (vals ds) p0 p1) cl' s (wr.drewN k) (by omega) (by omega) (hfl2.below (bdrewN (Below.refl _ _) k)) (fun d hd => vals_demands HD.out d (seg_mem hd)) s1 s2
                rw [hsl] at h
                rw [HR.out]
                exact h
              clear hown hfl2 HQ hb1 hpJ
              go_wp2
              go_quiet ((go_at_call 14; exact quiet_eq (HRUN.out _)))
              go_wp2
              go_roundw
              case rel => exact ⟨a + 1, by omega, by go_num, by rw [← HP.out.2, ← hJ3.out], bdrewN hbws _⟩
              case measure => simp [intOf]; omega
        · obtain rfl : a = m := by omega
          rw [HEND.out, HNN.out]
          have hz : ((i : Int) == (i : Int)) = true := by simp
          go_wp2
          go_ret
          exact ⟨rfl, bthen HBW.out hb⟩
end Go.Proofs.Ytobmpleddhcloaa
