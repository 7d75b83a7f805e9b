/-
  PlanOrderTail: its walk. Own text.
-/
import Derived.Test.YtjggcnpnjnmamaaTailV
import Derived.Test.YtjggcnpnjnmamaaPlans
import Derived.Test.YtjggcnpnjnmamaaVerLaw
namespace Go.Proofs.Ytjggcnpnjnmamaa
open Go.ChangeShapes Go.WideShapes Go.ChangeAt Go.RowKit
set_option linter.unusedVariables false
theorem inK_yes (x lo hi : Int) (w : World) (h1 : lo ≤ x) (h2 : x ≤ hi) :
    Calls Try.prog 33 #[.int .i64 x, .int .i64 lo, .int .i64 hi] w fun e w' => e = .returned (.bool true) ∧ w = w' := by
  go_enter Try.func33, Try.ntmps33
  go_wp2
  go_ret
  exact ⟨rfl, rfl⟩
/-- The rows of the short table, and the costs of the first job, under way. -/
structure TailAt (w9 w : World) (n1 a m : Nat) (R : List (List Int)) (v1 v2 : Value) (vs : List Value) : Prop where
  bel : Below w9.heap.size w9 w
  o1 : Own w w9.heap.size 3 1 encInt v1 (lst m (tF R a))
  o2 : Own w w9.heap.size 25 1 encV v2 vs
  cl : Clones w n1 m (tR R a) vs
  nil : vs = [] → v2 = .slice none 0 0
  s12 : ∀ j, v1.ownBlock = some j → v2.ownBlock ≠ some j
  s1c : SepC v1 vs
theorem TailAt.start (w9 : World) (n1 a : Nat) (R : List (List Int)) : TailAt w9 w9 n1 a 0 R (.slice none 0 0) (.slice none 0 0) [] :=
  ⟨Below.refl _ _, Own.nil _ _ _ _ _, Own.nil _ _ _ _ _, ⟨rfl, fun i h => by simp at h⟩, fun _ => rfl, fun j h => by simp [Value.ownBlock] at h, fun i h => by simp at h⟩
/-- A cost more. -/
theorem TailAt.cost {w9 w w3 : World} {n1 a m i : Nat} {R : List (List Int)} {v1 v1' v2 : Value} {vs : List Value} {C : Int} (h : TailAt w9 w n1 a m R v1 v2 vs) (hm : skp a m = i) (hC : C = cOf R (a + 1) (i + 1))
    (ho : Own w3 w9.heap.size 3 1 encInt v1' (lst m (tF R a) ++ [C])) (hg : (w.alloc (.cells #[.int .i64 C] 3)).grownBy w3 v1.ownBlock) (hat : v1'.ownBlock = v1.ownBlock ∨ v1'.ownBlock = some (w.heap.size + 1)) :
    Below w9.heap.size w9 w3 ∧ Own w3 w9.heap.size 3 1 encInt v1' (lst (m + 1) (tF R a)) ∧ Own w3 w9.heap.size 25 1 encV v2 vs ∧ Clones w3 n1 m (tR R a) vs ∧ (∀ j, v1'.ownBlock = some j → v2.ownBlock ≠ some j) ∧ SepC v1' vs := by
  have hcl := h.cl.below (balloc (Below.refl _ w) (.cells #[.int .i64 C] 3))
  have e1 : lst (m + 1) (tF R a) = lst m (tF R a) ++ [C] := by rw [lst_succ2]; unfold tF; rw [hm, hC]
  refine ⟨(h.o1.alloc _).grown (balloc h.bel _) (Nat.le_refl _) hg, by rw [e1]; exact ho, (h.o2.alloc _).keep hg (fun j hj e => h.s12 j e hj), hcl.grownS h.s1c hg, fun j hj => ?_, h.s1c.at' (sz := w.heap.size + 1) hcl (by rw [World.size_alloc]; exact Nat.le_refl _) hat⟩
  rcases hat with e | e
  · rw [e] at hj; exact h.s12 j hj
  · rw [e] at hj
    cases hj
    intro e2
    have := (h.o2.lt _ e2).2
    omega
/-- A row more. -/
theorem TailAt.row {w9 w3 w5 w6 : World} {n1 a m g cg : Nat} {R : List (List Int)} {v1 v2 v2' : Value} {vs : List Value} (h1 : Below w9.heap.size w9 w3) (o1 : Own w3 w9.heap.size 3 1 encInt v1 (lst (m + 1) (tF R a))) (o2 : Own w3 w9.heap.size 25 1 encV v2 vs) (cl : Clones w3 n1 m (tR R a) vs)
    (nil : vs = [] → v2 = .slice none 0 0) (s12 : ∀ j, v1.ownBlock = some j → v2.ownBlock ≠ some j) (s1c : SepC v1 vs) (hn : 0 < n1) (hb : Below w3.heap.size w3 w5) (hgl : w3.heap.size ≤ g) (hgs : g < w5.heap.size) (ht : FTab (Value.int .i64) w5 g n1 (tR R a m))
    (ho : Own w6 w9.heap.size 25 1 encV v2' (vs ++ [.slice (some ⟨g, 0, none⟩) n1 cg])) (hg : (w5.alloc (.cells #[.slice (some ⟨g, 0, none⟩) n1 cg] 25)).grownBy w6 v2.ownBlock)
    (hat : v2'.ownBlock = v2.ownBlock ∨ v2'.ownBlock = some (w5.heap.size + 1)) :
    TailAt w9 w6 n1 a (m + 1) R v1 v2' (vs ++ [.slice (some ⟨g, 0, none⟩) n1 cg]) := by
  have hba := balloc hb (.cells #[.slice (some ⟨g, 0, none⟩) n1 cg] 25)
  have o1a := o1.below hba
  have o2a := o2.below hba
  have cla := cl.below hba
  have hgs' : g < (w5.alloc (.cells #[.slice (some ⟨g, 0, none⟩) n1 cg] 25)).heap.size := by rw [World.size_alloc]; omega
  have hta := ht.alloc hgs (.cells #[.slice (some ⟨g, 0, none⟩) n1 cg] 25)
  have hne := own_apart o2a nil cl.slices hta hn
  have hbel : Below w9.heap.size w9 (w5.alloc (.cells #[.slice (some ⟨g, 0, none⟩) n1 cg] 25)) := h1.trans (hba.mono h1.size)
  refine ⟨o2a.grown hbel (Nat.le_refl _) hg, o1a.keep hg (fun j hj e => s12 j hj e), ho, (cla.grown hn o2a nil hg).snoc (hta.sameBlock (hg.block g hgs' (fun e => hne e.symm))) (Nat.lt_of_lt_of_le hgs' hg.size), fun e => by simp at e, fun j hj e2 => ?_, s1c.snoc (fun e => ?_)⟩
  · rcases hat with e | e
    · rw [e] at e2; exact s12 j hj e2
    · rw [e] at e2
      cases e2
      have := (o1a.lt _ hj).2
      rw [World.size_alloc] at this
      omega
  · have := (o1.lt _ e).2
    omega
set_option maxRecDepth 100000 in
set_option maxHeartbeats 16000000 in
theorem tail_many (n n1 : Nat) (F : List Int) (R : List (List Int)) (X : Int) (xs : List Int) (v0 v1 : Value) (w : World) (hn : n = n1 + 1) (h1 : 1 ≤ n1) (h7 : n ≤ 7) (hG : GoodWash F R n) (hX : wsh F R n n (bits 0) (-1) = (X, xs))
    (hwash : ∀ w1, Below w.heap.size w w1 → Calls Try.prog 35 #[v0, v1] w1 fun e w' => ∃ gf cf g2 c2, e = .returned (.tuple #[.slice (some ⟨gf, 0, none⟩) n cf, .slice (some ⟨g2, 0, none⟩) n c2]) ∧ Flat w' 1 encInt (some ⟨gf, 0, none⟩) F ∧ Rows1 w' 1 encInt (some ⟨g2, 0, none⟩) R ∧ Below w1.heap.size w1 w') :
    Calls Try.prog 11 #[v0, v1] w fun e w' => e = .returned (.bool true) ∧ Below w.heap.size w w' := by
  have HWA := Lib.hid hwash
  have HG := Lib.hid hG
  obtain ⟨a, han, hhead⟩ := tail_head F R (n1 := n1) (by rw [← hn]; exact hG)
  rw [← hn] at hhead
  rw [hX] at hhead
  rw [hn, tail_eq han] at hhead
  obtain ⟨X', hX'⟩ : ∃ X', X' = (wsh (lst n1 (tF R a)) (tabF n1 n1 (tR R a)) n1 n1 (bits 0) (-1)).1 := ⟨_, rfl⟩
  obtain ⟨ys, hys⟩ : ∃ ys, ys = (wsh (lst n1 (tF R a)) (tabF n1 n1 (tR R a)) n1 n1 (bits 0) (-1)).2 := ⟨_, rfl⟩
  rw [← hX', ← hys] at hhead
  simp only [Prod.mk.injEq] at hhead
  obtain ⟨hXX, hxs⟩ := hhead
  have hG1 := tail_good (F := F) (R := R) (n1 := n1) (a := a) (by rw [← hn]; exact hG) h1
  have hwl := wsh_len (n := n1) hG1.f hG1.g.c (d := n1) (used := bits 0) (last := -1) freeN_zero
  have hwb := wsh_bd (n := n1) hG1.f hG1.g.c (d := n1) (used := bits 0) (last := -1) freeN_zero
  rw [← hys] at hwl
  rw [← hX'] at hwb
  have HWL := Lib.hid hwl
  have HG1 := Lib.hid hG1
  have HO := Lib.hid (fun gf cf g2 c2 w1 hf hx => order_ok gf 0 cf g2 0 c2 F R n w1 hG hf hx (hG.err (by omega)))
  rw [hX] at HO
  have HO1 := Lib.hid (fun gf cf g2 c2 w1 hf hx => order_ok gf 0 cf g2 0 c2 (lst n1 (tF R a)) (tabF n1 n1 (tR R a)) n1 w1 hG1 hf hx (hG1.err h1))
  rw [← hX', ← hys] at HO1
  have HXS := Lib.hid hxs
  have HXX := Lib.hid hXX
  have hxlen : xs.length = n := by rw [hxs, List.length_cons, List.length_map, hwl.1, hn]
  have HXL := Lib.hid hxlen
  have hfa := hG.f a
  have HFA : Hid (F.length = n) := hG.fl
  have HNN := Lib.hid hn
  have e1 : ((n : Int) == 1) = false := by simp; omega
  have e2 : ((n : Int) != (n : Int)) = false := by simp
  have g0 : IntKind.i64.wrap ((n : Int) - 1) = (n1 : Int) := by rw [IntWalk.i64_in _ (by omega)]; omega
  have hn40 : n ≤ 9223372036854775807 := by omega
  have z0 : (0 : Int) < (n : Int) := by omega
  have hn16 : n1 ≤ 6 := by omega
  have HIN : Hid (∀ w', Calls Try.prog 33 #[.int .i64 a, .int .i64 0, .int .i64 (n1 : Int)] w' fun e w'' => e = .returned (.bool true) ∧ w' = w'') := fun w' => inK_yes _ _ _ _ (by omega) (by omega)
  clear hwash hG hX hX' hys hXX hxs hG1 hwl hxlen hn
  go_enter Try.func11, Try.ntmps11
  go_wp2_with (first | (go_at_call 19; (with_reducible refine (plansK_any _).mono ?_); rintro e w1 ⟨rfl, hb1⟩; have HB1 := Lib.hid hb1; clear hb1) | (go_at_call 35; (with_reducible refine (HWA.out _ HB1.out).mono ?_); rintro e w2 ⟨gf, cf, g2, c2, rfl, hf, hr, hb2⟩; have HF2 := Lib.hid hf; have HR2 := Lib.hid hr; have HB2 := Lib.hid (bthen HB1.out hb2); clear hf hr hb2) | (go_at_call 29; (with_reducible refine (HO.out _ _ _ _ _ HF2.out HR2.out).mono ?_); rintro e w3 ⟨oc, cc, rfl, hfc, hb3⟩; have HFC := Lib.hid hfc; have HF3 := Lib.hid (HF2.out.below hb3); have HR3 := Lib.hid (HR2.out.below hb3); have HB3 := Lib.hid (bthen HB2.out hb3); obtain ⟨bo, offo, hoc, kc0⟩ := hfc.int (i := 0) (by rw [HXL.out]; omega); subst hoc; rw [show xs[0]'(by rw [HXL.out]; omega) = (a : Int) by have e := HXS.out; subst e; rfl, Nat.add_zero] at kc0; clear hfc hb3) | (go_at_call 33; (with_reducible refine (HIN.out _).mono ?_); rintro e w' ⟨rfl, rfl⟩))
  obtain ⟨w9, hw9⟩ : ∃ w9 : World, w9 = w3 := ⟨_, rfl⟩
  subst hw9
  have H0 : Hid (∃ v1 v2 vs, Value.slice none 0 0 = v1 ∧ Value.slice none 0 0 = v2 ∧ TailAt w9 w9 n1 a (cntA a 0) R v1 v2 vs) := ⟨_, _, [], rfl, rfl, by unfold cntA; rw [if_pos (by omega)]; exact TailAt.start _ _ _ _⟩
  go_loopw [9, 10, 64] (fun s9 s10 s64 wr => ∃ i : Nat, i ≤ n ∧ s64 = .int .i64 i ∧ Hid (∃ v1 v2 vs, s9 = v1 ∧ s10 = v2 ∧ TailAt w9 wr n1 a (cntA a i) R v1 v2 vs)) (fun _ _ s64 _ => n - (intOf s64).toNat)
  case atStart => exact ⟨0, by omega, rfl, H0⟩
  case round =>
    clear H0
    obtain ⟨i, hi, rfl, HW⟩ := hrel
    obtain ⟨v1, v2, vs, ev1, ev2, hT⟩ := HW.out
    subst ev1 ev2
    have HT := Lib.hid hT
    clear HW hT
    by_cases hlt : i < n
    · by_cases hia : i = a
      · have t1 : ((i : Int) != (a : Int)) = false := by simp [hia]
        have HN : Hid (∃ v1 v2 vs, u9 = v1 ∧ u10 = v2 ∧ TailAt w9 wr n1 a (cntA a (i + 1)) R v1 v2 vs) := ⟨_, _, vs, rfl, rfl, by rw [hia, cntA_self, ← hia]; have h := HT.out; rw [hia] at h ⊢; exact h⟩
        clear hia
        go_wp2
        go_roundw
        case rel => exact ⟨i + 1, by omega, by go_num, HN⟩
        case measure => simp [intOf]; omega
      · have t1 : ((i : Int) != (a : Int)) = true := by simp; omega
        obtain ⟨hc1, hc2⟩ := cntA_next hia
        have hmn : cntA a i < n1 := by unfold cntA; have := HNN.out; split <;> omega
        obtain ⟨m, hm⟩ : ∃ m, m = cntA a i := ⟨_, rfl⟩
        rw [← hm] at hc1 hc2 hmn
        have HC1 := Lib.hid hc1
        have HTm : Hid (TailAt w9 wr n1 a m R u9 u10 vs) := by rw [hm]; exact HT.out
        obtain ⟨bk, offk, capk, kc1, kc2, _⟩ := costCell2 HR3.out HG.out.g HTm.out.bel (r := a) (q := i) (by rw [HG.out.wl]; have := HNN.out; omega) hlt
        obtain ⟨C, hC⟩ : ∃ C, C = cOf R (a + 1) (i + 1) := ⟨_, rfl⟩
        rw [← hC] at kc2
        simp only [Nat.zero_add] at kc1
        have HCC := Lib.hid hC
        have hownA := HTm.out.o1.alloc (.cells #[.int .i64 C] 3)
        have hl1 : (lst m (tF R a)).length = m := lst_length _ _
        have HL1 := Lib.hid hl1
        have HL2 := Lib.hid HTm.out.cl.1
        have hiR : i < R.length := by rw [HG.out.wl]; exact hlt
        obtain ⟨oai, capi, ki0, _, hfi⟩ := HR3.out.at hiR
        rw [HG.out.g.len i hiR] at ki0
        have hli : R[i].length = n := HG.out.g.len i hiR
        obtain ⟨bi, offi, hoi⟩ : ∃ bi offi, oai = some ⟨bi, offi, none⟩ := by
          obtain ⟨bi, offi, hoi, _⟩ := hfi.int (i := 0) (by rw [hli]; omega)
          exact ⟨bi, offi, hoi⟩
        subst hoi
        have HFI := Lib.hid hfi
        have HLI := Lib.hid hli
        have HKI := Lib.hid ki0
        have hai : (a : Int) < (n : Int) := by have := HNN.out; omega
        have hii : (i : Int) < (n : Int) := by omega
        obtain ⟨a1, ha1⟩ : ∃ a1, a1 = a + 1 := ⟨_, rfl⟩
        have ga : IntKind.i64.wrap ((a : Int) + 1) = (a1 : Int) := by rw [IntWalk.i64_in _ (by omega)]; omega
        have HA1 := Lib.hid ha1
        have HM := Lib.hid hm
        have HC2 := Lib.hid hc2
        have hcell : Hid (∀ j, j < n → at0 R[i] j = cOf R (i + 1) (j + 1)) := fun j hj => by rw [cOf_at hiR (by rw [hli]; exact hj), at0_eq]
        clear hC hm hc1 hc2 hl1 hfi hli ki0 ha1 HT hia
        go_wp2_with (at_builtin; go_must (refine wpList_appAt rfl (.tmp 70) (.tmp 78) 25 rfl elemInt Try.underlying25 w9.heap.size _ _ encInt rfl hownA C ⟨wr.heap.size, 0, none⟩ 1 rfl rfl ?c1 ?c2 ?c3 ?c4 ?c5 ?_))
        case c1 => first | exact cell_one_new _ _ _ | exact fun _ _ h => h
        case c2 => simp [encInt, Value.oneCell']
        case c3 => have := HL1.out; omega
        case c4 => have := HL1.out; unfold maxLen; omega
        case c5 => have := HTm.out.bel.size; simp; omega
        intro v1' w4 hown4 hg4 hat4
        have HCO := Lib.hid (HTm.out.cost HC2.out HCC.out hown4 hg4 hat4)
        have ki := keepCell HCO.out.1 HKI.out
        simp only [Nat.zero_add] at ki
        have HCA : Hid (Calls Try.prog 21 #[.slice (some ⟨bi, offi, none⟩) n capi] w4 (RetCloneI R[i] w4)) := by
          have h := cloneInts ⟨bi, offi, none⟩ R[i] capi w4 (by rw [HLI.out]; omega) (by rw [HLI.out]; omega) (HFI.out.below HCO.out.1)
          rw [HLI.out] at h
          exact h
        have HNIL := Lib.hid HTm.out.nil
        clear hown4 hg4 hat4 hownA
        go_wp2_with (first | (go_at_call 21; (with_reducible refine (HCA.out).mono ?_); rintro e w5 ⟨g, cg, rfl, harr, hb5⟩; rw [HLI.out]; obtain ⟨q1, q2, q3, q4, q5⟩ := harr.info (by rw [HLI.out]; omega); rw [HLI.out] at q1 q5; have HQ5 := Lib.hid q5; have HB5 := Lib.hid hb5; clear harr hb5 q5) | (go_at_call 36; (with_reducible refine (delete_a g n cg a a1 _ w5 HQ5.out q1 q2 (by omega) HA1.out).mono ?_); rintro e w6 ⟨rfl, hb6, ht6⟩; have hnn : n - 1 = n1 := (by have := HNN.out; omega); rw [hnn] at ht6 ⊢; have HB6 : Hid (Below w4.heap.size w4 w6) := (by exact HB5.out.trans (hb6.mono q3)); have HT6 := Lib.hid ht6; have HS6 : Hid (g < w6.heap.size) := (by exact Nat.lt_of_lt_of_le q4 hb6.size); have HQ3 := Lib.hid q3; have HO6 := Lib.hid (HCO.out.2.2.1.below HB6.out); clear hb6 ht6 hnn) | (at_builtin; go_must (refine wpList_appAt rfl (.tmp 80) (.tmp 90) 22 rfl elemInts Try.underlying22 w9.heap.size _ vs encV rfl (HO6.out.alloc (.cells #[.slice (some ⟨g, 0, none⟩) n1 cg] 25)) (.slice (some ⟨g, 0, none⟩) n1 cg) ⟨w6.heap.size, 0, none⟩ 1 rfl rfl ?c1 ?c2 ?c3 ?c4 ?c5 ?_)))
        case c1 => first | exact cell_one_new _ _ _ | exact fun _ _ h => h
        case c2 => simp [encV, Value.oneCell']
        case c3 => have := HL2.out; omega
        case c4 => have := HL2.out; unfold maxLen; omega
        case c5 => have h1 := HCO.out.1.size; have h2 := HB6.out.size; simp; omega
        intro v2' w7 hown7 hg7 hat7
        have HT7 : Hid (FTab (Value.int .i64) w6 g n1 (tR R a m)) := HT6.out.congr (fun j hj => by
          have hj2 : skp a j < n := by have := skp_lt (a := a) hj; have := HNN.out; omega
          show at0 R[i] (skp a j) = tR R a m j
          rw [hcell.out _ hj2]
          unfold tR
          rw [HC2.out])
        have HN : Hid (∃ v1 v2 vs, v1' = v1 ∧ v2' = v2 ∧ TailAt w9 w7 n1 a (cntA a (i + 1)) R v1 v2 vs) :=
          ⟨_, _, _, rfl, rfl, by rw [HC1.out]; exact TailAt.row HCO.out.1 HCO.out.2.1 HCO.out.2.2.1 HCO.out.2.2.2.1 HNIL.out HCO.out.2.2.2.2.1 HCO.out.2.2.2.2.2 (by omega) HB6.out HQ3.out HS6.out HT7.out hown7 hg7 hat7⟩
        clear hown7 hg7 hat7
        go_wp2
        go_roundw
        case rel => exact ⟨i + 1, by omega, by go_num, HN⟩
        case measure => simp [intOf]; omega
    · obtain rfl : n = i := by omega
      have hcn : cntA a n = n1 := by unfold cntA; have := HNN.out; rw [if_neg (by omega)]; omega
      have HTn : Hid (TailAt w9 wr n1 a n1 R u9 u10 vs) := by have h := HT.out; rw [hcn] at h; exact h
      clear hcn HT
      rcases HTn.out.o1.ftab with ⟨hz, _⟩ | ⟨g1, cg1, hv1, _, ht1⟩
      · exfalso
        have := lst_length n1 (tF R a)
        rw [hz] at this
        simp at this
        omega
      · rw [lst_length] at hv1
        obtain ⟨oax, capx, ex, _, hfx⟩ := HTn.out.o1.flat (fun _ => rfl)
        rw [hv1, lst_length] at ex
        cases ex
        subst hv1
        obtain ⟨gr, cr, hv2, hRr⟩ := HTn.out.cl.rows (by omega) h1 HTn.out.o2
        subst hv2
        have HFX := Lib.hid hfx
        have HRR := Lib.hid hRr
        have HBR := Lib.hid HTn.out.bel
        have HF9 := Lib.hid (HF3.out.below HBR.out)
        have kcF : Hid (∀ w', Below w9.heap.size w9 w' → w'.cell? ⟨gf, a, none⟩ = some (.int .i64 (at0 F a))) := fun w' hb => by
          obtain ⟨b', off', e, hc⟩ := (HF3.out.below hb).int (i := a) (by rw [HFA.out]; have := HNN.out; omega)
          cases e
          rw [at0_eq, Nat.zero_add] at hc
          exact hc
        obtain ⟨A0, hA0⟩ : ∃ A0, A0 = at0 F a := ⟨_, rfl⟩
        rw [← hA0] at kcF hfa
        have HXA : Hid (X = A0 + X') := by show _ = _; rw [HXX.out, hA0]
        have gX : IntKind.i64.wrap (X' + A0) = X := by rw [IntWalk.i64_in _ (by omega), HXA.out]; omega
        have hX0 : (X != X) = false := by simp
        have hai : (a : Int) < (n : Int) := by have := HNN.out; omega
        clear hfx hRr ht1 hA0
        go_wp2_with (go_at_call 29; (with_reducible refine (HO1.out _ _ _ _ _ HFX.out HRR.out).mono ?_); rintro e w5 ⟨ot, ct, rfl, hft, hb5⟩; have HFT := Lib.hid hft; have HB5 := Lib.hid (bthen HBR.out hb5); have kF := kcF.out _ HB5.out; clear hft hb5)
        have HFO := Lib.hid (HFC.out.below HB5.out)
        go_loopw [114] (fun s114 wr => ∃ q : Nat, q ≤ n1 ∧ s114 = .int .i64 q ∧ w5 = wr) (fun s114 _ => n1 - (intOf s114).toNat)
        case atStart => exact ⟨0, by omega, rfl, rfl⟩
        case round =>
          obtain ⟨q, hq, rfl, rfl⟩ := hrel
          by_cases hltq : q < n1
          · have hqy : q < ys.length := by rw [HWL.out.1]; exact hltq
            obtain ⟨bt, offt, rfl, kt⟩ := HFT.out.int hqy
            have hyb := HWL.out.2 ys[q] (List.getElem_mem hqy)
            have hqx : q + 1 < xs.length := by rw [HXL.out]; have := HNN.out; omega
            obtain ⟨bo', offo', eo, ko⟩ := HFO.out.int hqx
            cases eo
            have ex : xs[q + 1] = skI a ys[q] := by have e := HXS.out; subst e; simp
            rw [ex] at ko
            obtain ⟨q1, hq1⟩ : ∃ q1, q1 = q + 1 := ⟨_, rfl⟩
            rw [← hq1] at ko
            have gq : IntKind.i64.wrap ((q : Int) + 1) = (q1 : Int) := by rw [IntWalk.i64_in _ (by omega)]; omega
            have iq1 : (q1 : Int) < (n : Int) := by have := HNN.out; omega
            have HQ1 := Lib.hid hq1
            clear ex hqx
            generalize ys[q] = y at *
            clear hqy
            by_cases hya : (a : Int) ≤ y
            · have esk : skI a y = y + 1 := by unfold skI; rw [if_neg (by omega)]
              rw [esk] at ko
              have gy : IntKind.i64.wrap (y + 1) = y + 1 := IntWalk.i64_in _ (by omega)
              have t1 : (y + 1 != y + 1) = false := by simp
              have HQ2 : Hid ((q1 : Int) = ((q + 1 : Nat) : Int)) := by show _ = _; rw [hq1]
              clear esk hq1
              go_wp2
              go_roundw
              case rel => exact ⟨q + 1, by omega, by first | go_num | (rw [← HQ2.out]), trivial⟩
              case measure => have := HQ1.out; simp [intOf]; omega
            · have esk : skI a y = y := by unfold skI; rw [if_pos (by omega)]
              rw [esk] at ko
              have t1 : (y != y) = false := by simp
              have HQ2 : Hid ((q1 : Int) = ((q + 1 : Nat) : Int)) := by show _ = _; rw [hq1]
              clear esk hq1
              go_wp2
              go_roundw
              case rel => exact ⟨q + 1, by omega, by first | go_num | (rw [← HQ2.out]), trivial⟩
              case measure => have := HQ1.out; simp [intOf]; omega
          · obtain rfl : n1 = q := by omega
            go_wp2
            go_ret
            exact ⟨rfl, bthen HB3.out HB5.out⟩
set_option maxRecDepth 100000 in
set_option maxHeartbeats 4000000 in
theorem tail_one (n : Nat) (F : List Int) (R : List (List Int)) (v0 v1 : Value) (w : World) (hn : n = 1) (hG : GoodWash F R n)
    (hwash : ∀ w1, Below w.heap.size w w1 → Calls Try.prog 35 #[v0, v1] w1 fun e w' => ∃ gf cf g2 c2, e = .returned (.tuple #[.slice (some ⟨gf, 0, none⟩) n cf, .slice (some ⟨g2, 0, none⟩) n c2]) ∧ Flat w' 1 encInt (some ⟨gf, 0, none⟩) F ∧ Rows1 w' 1 encInt (some ⟨g2, 0, none⟩) R ∧ Below w1.heap.size w1 w') :
    Calls Try.prog 11 #[v0, v1] w fun e w' => e = .returned (.bool true) ∧ Below w.heap.size w w' := by
  have HWA := Lib.hid hwash
  have HG := Lib.hid hG
  obtain ⟨a, han, hhead⟩ := tail_head F R (n1 := 0) (by rw [hn] at hG; exact hG)
  obtain rfl : a = 0 := by omega
  obtain ⟨X, hX⟩ : ∃ X, X = at0 F 0 := ⟨_, rfl⟩
  have hX1 : wsh F R n n (bits 0) (-1) = (X, [0]) := by
    rw [hn]
    have e : wsh F R (0 + 1) (0 + 1) (bits 0) (-1) = (X, [0]) := by
      rw [hhead, hX]
      simp [wsh]
    exact e
  have HO := Lib.hid (fun gf cf g2 c2 w1 hf hx => order_ok gf 0 cf g2 0 c2 F R n w1 hG hf hx (hG.err (by omega)))
  rw [hX1] at HO
  have HFA : Hid (F.length = n) := hG.fl
  have HXX := Lib.hid hX
  have HNN := Lib.hid hn
  have e1 : ((n : Int) == 1) = true := by simp; omega
  have e2 : ((n : Int) != (n : Int)) = false := by simp
  have e3 : (X == X) = true := by simp
  have g0 : IntKind.i64.wrap ((n : Int) - 1) = 0 := by rw [IntWalk.i64_in _ (by omega)]; omega
  have hn40 : n ≤ 9223372036854775807 := by omega
  have z0 : (0 : Int) < (n : Int) := by omega
  have HIN : Hid (∀ w', Calls Try.prog 33 #[.int .i64 0, .int .i64 0, .int .i64 0] w' fun e w'' => e = .returned (.bool true) ∧ w' = w'') := fun w' => inK_yes _ _ _ _ (by omega) (by omega)
  clear hwash hG hX hX1 hhead hn
  go_enter Try.func11, Try.ntmps11
  go_wp2_with (first | (go_at_call 19; (with_reducible refine (plansK_any _).mono ?_); rintro e w1 ⟨rfl, hb1⟩; have HB1 := Lib.hid hb1; clear hb1) | (go_at_call 35; (with_reducible refine (HWA.out _ HB1.out).mono ?_); rintro e w2 ⟨gf, cf, g2, c2, rfl, hf, hr, hb2⟩; have HF2 := Lib.hid hf; have HR2 := Lib.hid hr; have HB2 := Lib.hid (bthen HB1.out hb2); clear hf hr hb2) | (go_at_call 29; (with_reducible refine (HO.out _ _ _ _ _ HF2.out HR2.out).mono ?_); rintro e w3 ⟨oc, cc, rfl, hfc, hb3⟩; have HB3 := Lib.hid (bthen HB2.out hb3); obtain ⟨b', off', ef, kF⟩ := (HF2.out.below hb3).int (i := 0) (by rw [HFA.out]; have := HNN.out; omega); cases ef; rw [at0_eq, ← HXX.out, Nat.zero_add] at kF; obtain ⟨bo, offo, hoc, kc0⟩ := hfc.int (i := 0) (by simp); subst hoc; simp only [List.getElem_cons_zero, Nat.add_zero] at kc0; clear hfc hb3) | (go_at_call 33; (with_reducible refine (HIN.out _).mono ?_); rintro e w' ⟨rfl, rfl⟩))
  go_ret
  exact ⟨rfl, HB3.out⟩
/-- An argument of ints, with room. -/
def IntsArgT (w : World) (v : Value) : Prop := ∃ (xs : List Int) (oa : Option Addr) (cap : Nat), v = .slice oa xs.length cap ∧ xs.length ≤ maxLen ∧ Flat w 1 encInt oa xs
theorem open_intsT {H : Type} {enc : TypeId × Value → H} {w : World} {sp : Nat → Bool} {held : Bool} {r : Reach} {b0 : Nat} {v : Value} {d : DataW H} {ps : List MemPlace}
    (hval : Value.okWide Try.prog w r b0 25 v) (hd : DataW.Trod enc Try.prog w 0 sp held 25 v d ps) : IntsArgT w v := by
  obtain ⟨a0, len, c, rfl⟩ := okWide_slice Try.underlying25 hval
  obtain ⟨fuel, hf⟩ := hd
  obtain ⟨xs, v', h1, ⟨oa, cap, e, _, h3, h4⟩, _⟩ := opens_ints Try.underlying25 cellsInt Try.underlying3 _ _ _ _ _ _ _ hf
  simp [Value.cells] at h1
  subst h1
  rw [e]
  exact ⟨_, oa, cap, rfl, h3, h4⟩
theorem tail_law (v : Value) {w : World} (hv : IntsArgT w v) (u : Value) (hu : RowsArg w u) :
    Calls Try.prog 11 #[v, u] w fun e w' => e = .returned (.bool true) ∧ Below w.heap.size w w' := by
  obtain ⟨first, oa, ca, rfl, hm, hf⟩ := hv
  obtain ⟨W, ob, cb, rfl, hm2, _, _, hx, _⟩ := hu
  obtain ⟨n, hn⟩ : ∃ n, n = (firV first).length := ⟨_, rfl⟩
  have hn2 := firV_len first
  rw [← hn] at hn2
  have hn17 : 1 ≤ n ∧ n ≤ 7 := by
    by_cases h0 : first.length = 0
    · rw [if_pos h0] at hn2; omega
    · rw [if_neg h0] at hn2; omega
  have hwash : ∀ w1, Below w.heap.size w w1 → Calls Try.prog 35 #[.slice oa first.length ca, .slice ob W.length cb] w1 fun e w' => ∃ gf cf g2 c2, e = .returned (.tuple #[.slice (some ⟨gf, 0, none⟩) n cf, .slice (some ⟨g2, 0, none⟩) n c2]) ∧ Flat w' 1 encInt (some ⟨gf, 0, none⟩) (firV first) ∧ Rows1 w' 1 encInt (some ⟨g2, 0, none⟩) (tabF n n (cellV W)) ∧ Below w1.heap.size w1 w' := by
    intro w1 hb
    by_cases h0 : first.length = 0
    · rw [if_pos h0] at hn2
      subst hn2
      exact washes_nil oa ob first W ca cb w1 h0 hm2 (hx.below hb)
    · rw [if_neg h0] at hn2
      exact washes_some oa ob first W ca cb n w1 h0 hn2 hm (hf.below hb) hm2 (hx.below hb)
  have hG := washes_good first W hn hn17.1 hn17.2
  by_cases h1 : n = 1
  · exact tail_one n _ _ _ _ w h1 hG hwash
  · exact tail_many n (n - 1) _ _ _ _ _ _ w (by omega) (by omega) hn17.2 hG rfl hwash
end Go.Proofs.Ytjggcnpnjnmamaa
