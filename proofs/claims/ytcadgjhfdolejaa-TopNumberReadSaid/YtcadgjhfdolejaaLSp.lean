/-
  linear.split: plain, and its walk. Printed by gen_lsp.py. Own text.
-/
import Derived.Test.YtcadgjhfdolejaaDigs
namespace Go.Proofs.Ytcadgjhfdolejaa
open Go.RowKit
set_option linter.unusedVariables false
section
variable {P : Program} {w : World} {ops : Array Oper} {rest : List Oper} {o : Oper} {a : Act} {Q : Exit → Act → World → Prop}
/-- The same in a region that draws its order. -/
theorem step_app1L {α : Type} {K : Act → World → Prop} {E : Prop} (hgd : o.guard = none) (s x : Operand) (t : TypeId)
    (ho : o.op = .call { callee := .builtin .append, args := #[s, x], argTypes := #[t, t] })
    {e : TypeId} {z : Value} {size bytes : Nat} (hE : ElemType P e z size bytes) (ht : P.underlying t = some (.slice e))
    (base : Nat) (v : Value) (xs : List α) (enc : α → List Value) (hs : a.eval s = v) (hown : Own w base e size enc v xs) (y : α)
    (ad : Addr) (c : Nat) (hx : a.eval x = .slice (some ad) 1 c) (hl : (enc y).length = size) (hnews : ∀ j u, (enc y)[j]? = some u → w.cell? (ad.add j) = some u) (h1 : ∀ u ∈ enc y, u.oneCell' = true)
    (hbytes : (xs.length + 1) * bytes ≤ 140737488355328) (h63 : xs.length + 1 ≤ maxLen) (hbase : base ≤ w.heap.size)
    (h : ∀ g cap w', Own w' base e size enc (.slice (some ⟨g, 0, none⟩) (xs.length + 1) cap) (xs ++ [y]) → w.grownBy w' v.ownBlock → (v.ownBlock = some g ∨ g = w.heap.size) → K (a.put o.dst (.slice (some ⟨g, 0, none⟩) (xs.length + 1) cap)) w') : if Region.wanted o (yielded ops a.tmps) = true then Oper.wp P o a w K Q else E := by
  obtain ⟨i, hi, hz, hsz, hby, hzs, h0⟩ := hE
  refine step_append_lies w hgd s x t ho base e i z size bytes ht hi hz hsz hby hzs h0 v xs.length (xs.flatMap enc) hs hown ad 1 c (enc y) hx (by rw [hl, Nat.one_mul]) hnews h1 (by omega) h63 hbytes hbase w.heap.size rfl ?_
  intro g cap w' hown' hg hat _
  refine h g cap w' ?_ hg hat
  unfold Own
  rw [List.length_append, List.flatMap_append]
  simpa using hown'
end
theorem strB_cons (c : UInt8) (l : List UInt8) : (ByteArray.mk #[c]) ++ strB l = strB (c :: l) := by
  apply ByteArray.ext
  simp [strB]
theorem strB_get (l : List UInt8) (k : Nat) (h : k < (strB l).size) : (strB l)[k] = l[k]'(by rw [strB_size] at h; exact h) := rfl
theorem strB_drop (l : List UInt8) (a b : Nat) (h : b = l.length) : (strB l).extract a b = strB (l.drop a) := by
  apply ByteArray.ext
  subst h
  simp only [strB, ByteArray.data_extract, List.extract_toArray, List.extract_eq_take_drop]
  rw [List.take_of_length_le (by rw [List.length_drop]; omega)]
/-- Digits two by two. -/
def pairV : List UInt8 → List Int
  | a :: b :: r => (10 * ((a.toNat : Int) - 48) + ((b.toNat : Int) - 48)) :: pairV r
  | _ => []
theorem pairV_len : ∀ (n : Nat) (l : List UInt8), l.length = 2 * n → (pairV l).length = n
  | 0, [], _ => rfl
  | n + 1, a :: b :: r, h => by
    show (pairV r).length + 1 = n + 1
    rw [pairV_len n r (by simp at h; omega)]
theorem pairV_snoc : ∀ (n : Nat) (l : List UInt8) (h : 2 * n + 1 < l.length), pairV (l.take (2 * (n + 1))) = pairV (l.take (2 * n)) ++ [10 * ((l[2 * n].toNat : Int) - 48) + ((l[2 * n + 1].toNat : Int) - 48)]
  | 0, a :: b :: r, h => rfl
  | n + 1, a :: b :: r, h => by
    have e := pairV_snoc n r (by simp at h; omega)
    have e1 : 2 * (n + 1 + 1) = 2 * (n + 1) + 1 + 1 := by omega
    have e2 : 2 * (n + 1) = 2 * n + 1 + 1 := by omega
    rw [e1, List.take_succ_cons, List.take_succ_cons]
    show _ :: pairV _ = _
    rw [e]
    simp only [e2, List.take_succ_cons, List.getElem_cons_succ]
    rfl
def DigL (l : List UInt8) : Prop := ∀ c ∈ l, 48 ≤ c.toNat ∧ c.toNat ≤ 57
theorem pairV_bd : ∀ (l : List UInt8), DigL l → ∀ x ∈ pairV l, 0 ≤ x ∧ x ≤ 99
  | [], _, x, hx => by cases hx
  | [_], _, x, hx => by cases hx
  | a :: b :: r, h, x, hx => by
    have ha := h a (by simp)
    have hb := h b (by simp)
    rcases List.mem_cons.1 hx with rfl | hx
    · omega
    · exact pairV_bd r (fun c hc => h c (by simp [hc])) x hx
/-- A number's symbols. -/
def symsV (l : List UInt8) : List Int := if l.length % 2 = 1 then 100 :: pairV (48 :: l) else pairV l
def sumL (xs : List Int) : Int := sumV (fun i => xs.getD i 0) xs.length
def strSz : Value → Nat
  | .string b => b.size
  | _ => 0
def RetSyms (xs : List Int) (w : World) (e : Ending) (w' : World) : Prop := ∃ v, e = .returned (.tuple #[v, .int .i64 0]) ∧ Own w' w.heap.size 3 1 encInt v xs ∧ Below w.heap.size w w'
def OwnI (w wr : World) (v : Value) (xs : List Int) : Prop := Below w.heap.size w wr ∧ Own wr w.heap.size 3 1 encInt v xs
set_option maxRecDepth 100000 in
set_option maxHeartbeats 2000000 in
theorem lsplit_even (l : List UInt8) (hl : DigL l) (n0 n : Nat) (hn0 : l.length = n0) (h1 : 1 ≤ n0) (h20 : n0 ≤ 20) (hn : n0 = 2 * n) (w : World) :
    Calls Try.prog 30 #[.string (strB l)] w (RetSyms (symsV l ++ [sumL (symsV l)]) w) := by
  obtain ⟨L, hL⟩ : ∃ L, L = l := ⟨_, rfl⟩
  have hLl : L.length = 2 * n := by rw [hL]; (first | omega | (simp; omega))
  have hLd : DigL L := by rw [hL]; exact hl
  have hSY : symsV l = ([] : List Int) ++ pairV L := by
    unfold symsV
    rw [hL]
    rw [if_neg (by omega)]; rfl
  have HSB : Hid (∀ x ∈ symsV l, 0 ≤ x ∧ x ≤ 1000) := fun x hx => by
    rw [hSY] at hx
    have := pairV_bd L hLd x (by simpa using hx); omega
  have HSL : Hid ((symsV l).length = n + 0) := by show _ = _; rw [hSY, List.length_append, pairV_len n L hLl]; simp
  obtain ⟨S, hS⟩ : ∃ S, S = strB l := ⟨_, rfl⟩
  have hSz : S.size = n0 := by rw [hS, strB_size]; exact hn0
  have HDG : Hid (∀ k (h : k < S.size), 48 ≤ S[k].toNat ∧ S[k].toNat ≤ 57) := by
    subst hS
    intro k h
    rw [strB_get]
    exact hl _ (List.getElem_mem _)
  have HT : Hid (∀ k, k < n → ∃ T, T = strB (L.drop (2 * k)) ∧ T.size = 2 * n - 2 * k ∧ T.extract 2 T.size = strB (L.drop (2 * (k + 1))) ∧ (∃ (a b : Nat) (p0 : 0 < T.size) (p1 : 1 < T.size), 48 ≤ a ∧ a ≤ 57 ∧ 48 ≤ b ∧ b ≤ 57 ∧ T[0].toNat = a ∧ T[1].toNat = b ∧ pairV (L.take (2 * (k + 1))) = pairV (L.take (2 * k)) ++ [10 * ((a : Int) - 48) + ((b : Int) - 48)])) := fun k hk => by
    have z : (strB (L.drop (2 * k))).size = 2 * n - 2 * k := by rw [strB_size, List.length_drop, hLl]
    refine ⟨_, rfl, z, ?_, ?_⟩
    · rw [strB_drop _ _ _ (by rw [strB_size]), List.drop_drop]
      congr 1
    · have g0 := strB_get (L.drop (2 * k)) 0 (by rw [z]; omega)
      have g1 := strB_get (L.drop (2 * k)) 1 (by rw [z]; omega)
      have q0 := hLd L[2 * k] (List.getElem_mem _)
      have q1 := hLd L[2 * k + 1] (List.getElem_mem _)
      refine ⟨_, _, by rw [z]; omega, by rw [z]; omega, q0.1, q0.2, q1.1, q1.2, ?_, ?_, pairV_snoc k L (by omega)⟩
      · rw [g0, List.getElem_drop]; rfl
      · rw [g1, List.getElem_drop]
  have HX0 : Hid (OwnI w w (.slice none 0 0) []) := ⟨Below.refl _ _, Own.nil _ _ _ _ _⟩
  have HS : Hid (S = strB l) := hS
  have HL := Lib.hid hL
  have HLL := Lib.hid hLl
  have HSY := Lib.hid hSY
  rw [← hS]
  have p1 : ¬ n0 = 0 := by omega
  have p2 : ((n0 : Int) == 0) = false := by rw [beq_eq_false_iff_ne]; omega
  have p3 : ¬ (20 : Int) < (n0 : Int) := by omega
  have p3' : ¬ 20 < n0 := by omega
  have p4 : (n0 : Int).tmod 2 = 0 := by rw [Int.tmod_eq_emod_of_nonneg (by omega)]; omega
  have p5 : (n0 : Int) % 2 = 0 := by omega
  have p6 : n0 % 2 = 0 := by omega
  have hn9 : n ≤ 11 := by omega
  have hn1 : 1 ≤ n := by omega
  clear hS hL hLl hLd hSY hl hn0 hn
  go_enter Try.func30, Try.ntmps30
  go_wp2_with fail
  go_loopw [17] (fun i wr => ∃ k : Nat, k ≤ n0 ∧ i = .int .i64 k ∧ w = wr) (fun i _ => n0 - (intOf i).toNat)
  case atStart => exact ⟨0, by omega, rfl, rfl⟩
  case round =>
    obtain ⟨k, hk, rfl, rfl⟩ := hrel
    by_cases hlt : k < n0
    · have kd : (k : Int) < (n0 : Int) := by omega
      have kk : IntKind.i64.wrap ((k : Int) + 1) = (k : Int) + 1 := IntWalk.i64_in _ (by omega)
      have ks : k < S.size := by omega
      obtain ⟨d1, d2⟩ := HDG.out k ks
      obtain ⟨c, hc⟩ : ∃ c, c = S[k].toNat := ⟨_, rfl⟩
      have hc2 : S[k].toNat = c := hc.symm
      rw [← hc] at d1 d2
      have e1 : ¬ (c : Int) < 48 := by omega
      have e2 : ¬ (57 : Int) < (c : Int) := by omega
      have e1' : ¬ c < 48 := by omega
      have e2' : ¬ 57 < c := by omega
      clear hc
      go_wp2_with fail
      go_roundw
      case rel => exact ⟨k + 1, by omega, by go_num, trivial⟩
      case measure => simp [intOf]; omega
    · obtain rfl : n0 = k := by omega
      clear hlt hk
      go_wp2_with fail
      go_loopw [0, 6] (fun s u wr => ∃ k m T oa cap, k ≤ n ∧ s = .string T ∧ u = .slice oa m cap ∧ Hid (T = strB (L.drop (2 * k)) ∧ m = k + 0 ∧ OwnI w wr (.slice oa m cap) (([] : List Int) ++ pairV (L.take (2 * k))))) (fun s _ _ => strSz s)
      case atStart => exact ⟨0, 0, S, none, 0, by omega, rfl, rfl, by rw [HL.out, List.drop_zero]; exact HS.out, rfl, HX0.out⟩
      case round =>
        clear HX0
        obtain ⟨k, m, T, oa, cap, hk, rfl, rfl, HX⟩ := hrel
        obtain ⟨wb, rfl⟩ : ∃ wb : World, wb = wr := ⟨_, rfl⟩
        by_cases hlt : k < n
        · obtain ⟨T', hT', hz, hex, a, b, p0, p1, a0, a9, b0, b9, ta, tb, hpv⟩ := HT.out k hlt
          obtain rfl : T' = T := hT'.trans HX.out.1.symm
          obtain ⟨z, hz2⟩ : ∃ z, z = 2 * n - 2 * k := ⟨_, rfl⟩
          rw [← hz2] at hz
          have z2 : 2 ≤ z := by omega
          obtain ⟨T2, hT2⟩ : ∃ T2, T2 = strB (L.drop (2 * (k + 1))) := ⟨_, rfl⟩
          rw [← hT2] at hex
          have hex2 : T'.extract 2 z = T2 := by rw [← hz]; exact hex
          have q0 : 0 < z := by omega
          have q1 : 1 < z := by omega
          have q0' : (0 : Int) < (z : Int) := by omega
          have q1' : (1 : Int) < (z : Int) := by omega
          have r1 : (1 : Int) < (T'.size : Int) := by omega
          have r1' : 1 < T'.size := by omega
          obtain ⟨x, hx⟩ : ∃ x, x = a - 48 := ⟨_, rfl⟩
          obtain ⟨y, hy⟩ : ∃ y, y = b - 48 := ⟨_, rfl⟩
          have w1 : IntKind.u8.wrap ((a : Int) - 48) = (x : Int) := by rw [show (a : Int) - 48 = (x : Int) by omega]; exact u8_wrap (by omega)
          have w2 : IntKind.u8.wrap ((b : Int) - 48) = (y : Int) := by rw [show (b : Int) - 48 = (y : Int) by omega]; exact u8_wrap (by omega)
          have w3 : IntKind.i64.wrap (x : Int) = (x : Int) := IntWalk.i64_in _ (by omega)
          have w4 : IntKind.i64.wrap (y : Int) = (y : Int) := IntWalk.i64_in _ (by omega)
          have w5 : IntKind.i64.wrap (10 * (x : Int)) = 10 * (x : Int) := IntWalk.i64_in _ (by omega)
          obtain ⟨v, hv⟩ : ∃ v, v = 10 * (x : Int) + (y : Int) := ⟨_, rfl⟩
          have w6 : IntKind.i64.wrap (10 * (x : Int) + (y : Int)) = v := by rw [hv]; exact IntWalk.i64_in _ (by omega)
          have HPV : Hid (([] : List Int) ++ pairV (L.take (2 * (k + 1))) = (([] : List Int) ++ pairV (L.take (2 * k))) ++ [v]) := by
            show _ = _
            rw [hpv, List.append_assoc, hv, show 10 * (x : Int) + (y : Int) = 10 * ((a : Int) - 48) + ((b : Int) - 48) by omega]
          obtain ⟨xs, hxs⟩ : ∃ xs, xs = ([] : List Int) ++ pairV (L.take (2 * k)) := ⟨_, rfl⟩
          have HME := Lib.hid HX.out.2.1
          have hxl : xs.length = m := by
            rw [hxs, List.length_append, pairV_len k _ (by rw [List.length_take, HLL.out]; omega), HX.out.2.1]
            simp
          have HXL := Lib.hid hxl
          have HOW : Hid (Own (wb.drew.alloc (.cells #[.int .i64 v] 3)) w.heap.size 3 1 encInt (.slice oa m cap) xs) := by rw [hxs]; exact (Own.drew HX.out.2.2.2).alloc _
          have HBW := Lib.hid HX.out.2.2.1
          have HNEW : Hid (∀ (j : Nat) (u : Value), (encInt v)[j]? = some u → (wb.drew.alloc (.cells #[.int .i64 v] 3)).cell? ((⟨wb.heap.size, 0, none⟩ : Addr).add j) = some u) := World.news_of_block (cs := #[.int .i64 v]) (t := 3) (fr := (0, 0)) (heap_alloc_new wb.drew _)
          rw [← hxs] at HPV
          have HT2 : Hid (T2 = strB (L.drop (2 * (k + 1)))) := hT2
          have HZ : Hid (z = T'.size ∧ T2.size < z) := ⟨hz.symm, by rw [hT2, strB_size, List.length_drop, HLL.out]; omega⟩
          have HLT := Lib.hid hlt
          clear HX hpv hx hy hv hxs hxl hT2 hT' hz2 hlt hk a0 a9 b0 b9
          go_upto_region 17 with fail
          go_region_law (first | (refine step_app1L (by rfl) (.tmp 45) (.tmp 56) 22 (by rfl) elemI Try.underlying22 w.heap.size (.slice oa m cap) xs encInt (by rfl) HOW.out v ⟨wb.heap.size, 0, none⟩ 1 (by rfl) (by rfl) HNEW.out (by simp [encInt, Value.oneCell']) (by have := HXL.out; have := HME.out; have := HLT.out; omega) (by have := HXL.out; have := HME.out; have := HLT.out; unfold maxLen; omega) (by have := HBW.out.size; show _ ≤ (wb.alloc _).heap.size; rw [World.size_alloc]; omega) ?_; rw [HXL.out]; intro g3 cap3 w3 hown3 hgr3 _))
          all_goals
            have HNX : Hid (T2 = strB (L.drop (2 * (k + 1))) ∧ m + 1 = k + 1 + 0 ∧ OwnI w w3 (.slice (some ⟨g3, 0, none⟩) (m + 1) cap3) (([] : List Int) ++ pairV (L.take (2 * (k + 1))))) := by
              refine ⟨HT2.out, by have := HME.out; omega, Below.grown (balloc (HBW.out.drew) _) hgr3 (by rw [World.size_alloc]; show _ ≤ wb.heap.size + 1; have := HBW.out.size; omega) (fun j e => by have := ownsRow_ge HOW.out e; exact this), ?_⟩
              rw [HPV.out]
              exact hown3
            clear hown3 hgr3 HOW HNEW HPV HXL HBW HME HT2
            go_wp2_with fail
            go_roundw
            case rel => exact ⟨k + 1, m + 1, T2, some ⟨g3, 0, none⟩, cap3, HLT.out, by go_num, by go_num, HNX⟩
            case measure => have := HZ.out; simp [strSz]; omega
        · obtain rfl : n = k := by omega
          have hT := HX.out.1
          have z0 : T.size = 0 := by rw [hT, strB_size, List.length_drop, HLL.out]; omega
          have hm := HX.out.2.1
          obtain ⟨xs, hxs⟩ : ∃ xs, xs = symsV l := ⟨_, rfl⟩
          have hox : OwnI w wb (.slice oa m cap) xs := by
            have e := HX.out.2.2
            rw [List.take_of_length_le (by rw [HLL.out]; omega), ← HSY.out, ← hxs] at e
            exact e
          have hxl : xs.length = m := by rw [hxs, HSL.out]; omega
          have hm0 : 0 < m := by omega
          obtain ⟨g5, cap5, e5, -, -, -, hnr⟩ := NRow.own hox.2 (by intro e; rw [e] at hxl; simp at hxl; omega)
          rw [hxl] at e5
          cases e5
          have HSUM : Hid (Calls Try.prog 33 #[.slice (some ⟨g5, 0, none⟩) m cap] wb (fun e w' => e = .returned (.int .i64 (sumL xs)) ∧ w' = wb)) := by
            rw [hxl] at hnr
            have e := sum_any g5 0 m cap (fun i => xs.getD i 0) (fun i hi => by
              show 0 ≤ xs.getD i 0 ∧ xs.getD i 0 ≤ 1000
              rw [List.getD_eq_getElem?_getD, List.getElem?_eq_getElem (by omega)]
              exact HSB.out _ (by rw [← hxs]; exact List.getElem_mem _)) (by omega) wb hnr
            rw [show sumL xs = sumV (fun i => xs.getD i 0) m by unfold sumL; rw [hxl]]
            exact e
          obtain ⟨v, hv⟩ : ∃ v, v = sumL xs := ⟨_, rfl⟩
          rw [← hv] at HSUM
          have HXL := Lib.hid hxl
          have HM20 : Hid (m ≤ 30) := by show _ ≤ _; omega
          have HOW : Hid (Own (wb.alloc (.cells #[.int .i64 v] 3)) w.heap.size 3 1 encInt (.slice (some ⟨g5, 0, none⟩) m cap) xs) := hox.2.alloc _
          have HBW := Lib.hid hox.1
          have HNEW : Hid (∀ (j : Nat) (u : Value), (encInt v)[j]? = some u → (wb.alloc (.cells #[.int .i64 v] 3)).cell? ((⟨wb.heap.size, 0, none⟩ : Addr).add j) = some u) := World.news_of_block (cs := #[.int .i64 v]) (t := 3) (fr := (0, 0)) (heap_alloc_new wb _)
          have HRX : Hid (symsV l ++ [sumL (symsV l)] = xs ++ [v]) := by show _ = _; rw [hv, hxs]
          clear HX hT hm hox hxl hnr hxs hv
          go_wp2_with fail
          refine HSUM.out.mono ?_
          rintro e w' ⟨rfl, rfl⟩
          clear HSUM
          go_wp2_with (at_builtin; refine wpList_app1L rfl (.tmp 58) (.tmp 61) 22 rfl elemI Try.underlying22 w.heap.size (.slice (some ⟨g5, 0, none⟩) m cap) xs encInt rfl HOW.out v ⟨w'.heap.size, 0, none⟩ 1 rfl rfl HNEW.out ?c1 ?c2 ?c3 ?c4 ?_)
          case c1 => simp [encInt, Value.oneCell']
          case c2 => have := HXL.out; have := HM20.out; omega
          case c3 => have := HXL.out; have := HM20.out; unfold maxLen; omega
          case c4 => have := HBW.out.size; (first | omega | (rw [World.size_alloc]; omega))
          rw [HXL.out]
          intro g3 cap3 w3 hown3 hgr3 _
          have HF : Hid (RetSyms (symsV l ++ [sumL (symsV l)]) w (.returned (.tuple #[.slice (some ⟨g3, 0, none⟩) (m + 1) cap3, .int .i64 0])) w3) := by
            rw [HRX.out]
            exact ⟨_, rfl, hown3, Below.grown (balloc HBW.out _) hgr3 (by rw [World.size_alloc]; have := HBW.out.size; omega) (fun j e => by have := ownsRow_ge HOW.out e; exact this)⟩
          clear hown3 hgr3 HOW HNEW HRX HBW HXL
          go_wp2
          go_ret2
          exact HF.out
set_option maxRecDepth 100000 in
set_option maxHeartbeats 2000000 in
theorem lsplit_odd (l : List UInt8) (hl : DigL l) (n0 n : Nat) (hn0 : l.length = n0) (h1 : 1 ≤ n0) (h20 : n0 ≤ 20) (hn : n0 + 1 = 2 * n) (w : World) :
    Calls Try.prog 30 #[.string (strB l)] w (RetSyms (symsV l ++ [sumL (symsV l)]) w) := by
  obtain ⟨L, hL⟩ : ∃ L, L = 48 :: l := ⟨_, rfl⟩
  have hLl : L.length = 2 * n := by rw [hL]; (first | omega | (simp; omega))
  have hLd : DigL L := by rw [hL]; exact fun c hc => by rcases List.mem_cons.1 hc with rfl | hc; decide; exact hl c hc
  have hSY : symsV l = ([100] : List Int) ++ pairV L := by
    unfold symsV
    rw [hL]
    rw [if_pos (by omega)]; rfl
  have HSB : Hid (∀ x ∈ symsV l, 0 ≤ x ∧ x ≤ 1000) := fun x hx => by
    rw [hSY] at hx
    rcases List.mem_append.1 hx with hx | hx
    · rw [List.mem_singleton.1 hx]; omega
    · have := pairV_bd L hLd x hx; omega
  have HSL : Hid ((symsV l).length = n + 1) := by show _ = _; rw [hSY, List.length_append, pairV_len n L hLl]; simp; omega
  obtain ⟨S, hS⟩ : ∃ S, S = strB l := ⟨_, rfl⟩
  have hSz : S.size = n0 := by rw [hS, strB_size]; exact hn0
  have HDG : Hid (∀ k (h : k < S.size), 48 ≤ S[k].toNat ∧ S[k].toNat ≤ 57) := by
    subst hS
    intro k h
    rw [strB_get]
    exact hl _ (List.getElem_mem _)
  have HT : Hid (∀ k, k < n → ∃ T, T = strB (L.drop (2 * k)) ∧ T.size = 2 * n - 2 * k ∧ T.extract 2 T.size = strB (L.drop (2 * (k + 1))) ∧ (∃ (a b : Nat) (p0 : 0 < T.size) (p1 : 1 < T.size), 48 ≤ a ∧ a ≤ 57 ∧ 48 ≤ b ∧ b ≤ 57 ∧ T[0].toNat = a ∧ T[1].toNat = b ∧ pairV (L.take (2 * (k + 1))) = pairV (L.take (2 * k)) ++ [10 * ((a : Int) - 48) + ((b : Int) - 48)])) := fun k hk => by
    have z : (strB (L.drop (2 * k))).size = 2 * n - 2 * k := by rw [strB_size, List.length_drop, hLl]
    refine ⟨_, rfl, z, ?_, ?_⟩
    · rw [strB_drop _ _ _ (by rw [strB_size]), List.drop_drop]
      congr 1
    · have g0 := strB_get (L.drop (2 * k)) 0 (by rw [z]; omega)
      have g1 := strB_get (L.drop (2 * k)) 1 (by rw [z]; omega)
      have q0 := hLd L[2 * k] (List.getElem_mem _)
      have q1 := hLd L[2 * k + 1] (List.getElem_mem _)
      refine ⟨_, _, by rw [z]; omega, by rw [z]; omega, q0.1, q0.2, q1.1, q1.2, ?_, ?_, pairV_snoc k L (by omega)⟩
      · rw [g0, List.getElem_drop]; rfl
      · rw [g1, List.getElem_drop]
  have HX0 : Hid (OwnI w w (.slice none 0 0) []) := ⟨Below.refl _ _, Own.nil _ _ _ _ _⟩
  have HS : Hid (S = strB l) := hS
  have HL := Lib.hid hL
  have HLL := Lib.hid hLl
  have HSY := Lib.hid hSY
  rw [← hS]
  have p1 : ¬ n0 = 0 := by omega
  have p2 : ((n0 : Int) == 0) = false := by rw [beq_eq_false_iff_ne]; omega
  have p3 : ¬ (20 : Int) < (n0 : Int) := by omega
  have p3' : ¬ 20 < n0 := by omega
  have p4 : (n0 : Int).tmod 2 = 1 := by rw [Int.tmod_eq_emod_of_nonneg (by omega)]; omega
  have p5 : (n0 : Int) % 2 = 1 := by omega
  have p6 : n0 % 2 = 1 := by omega
  have hn9 : n ≤ 11 := by omega
  have hn1 : 1 ≤ n := by omega
  clear hS hL hLl hLd hSY hl hn0 hn
  go_enter Try.func30, Try.ntmps30
  go_wp2_with fail
  go_loopw [17] (fun i wr => ∃ k : Nat, k ≤ n0 ∧ i = .int .i64 k ∧ w = wr) (fun i _ => n0 - (intOf i).toNat)
  case atStart => exact ⟨0, by omega, rfl, rfl⟩
  case round =>
    obtain ⟨k, hk, rfl, rfl⟩ := hrel
    by_cases hlt : k < n0
    · have kd : (k : Int) < (n0 : Int) := by omega
      have kk : IntKind.i64.wrap ((k : Int) + 1) = (k : Int) + 1 := IntWalk.i64_in _ (by omega)
      have ks : k < S.size := by omega
      obtain ⟨d1, d2⟩ := HDG.out k ks
      obtain ⟨c, hc⟩ : ∃ c, c = S[k].toNat := ⟨_, rfl⟩
      have hc2 : S[k].toNat = c := hc.symm
      rw [← hc] at d1 d2
      have e1 : ¬ (c : Int) < 48 := by omega
      have e2 : ¬ (57 : Int) < (c : Int) := by omega
      have e1' : ¬ c < 48 := by omega
      have e2' : ¬ 57 < c := by omega
      clear hc
      go_wp2_with fail
      go_roundw
      case rel => exact ⟨k + 1, by omega, by go_num, trivial⟩
      case measure => simp [intOf]; omega
    · obtain rfl : n0 = k := by omega
      clear hlt hk
      have HOW0 : Hid (Own (w.alloc (.cells #[.int .i64 100] 3)) w.heap.size 3 1 encInt (.slice none 0 0) []) := HX0.out.2.alloc _
      have HNEW0 : Hid (∀ (j : Nat) (u : Value), (encInt 100)[j]? = some u → (w.alloc (.cells #[.int .i64 100] 3)).cell? ((⟨w.heap.size, 0, none⟩ : Addr).add j) = some u) := World.news_of_block (cs := #[.int .i64 100]) (t := 3) (fr := (0, 0)) (heap_alloc_new w _)
      obtain ⟨S2, hS2⟩ : ∃ S2, S2 = strB L := ⟨_, rfl⟩
      have hcat : (ByteArray.mk #[48]) ++ S = S2 := by rw [HS.out, hS2, HL.out, strB_cons]
      have HS2 : Hid (S2 = strB L) := hS2
      clear hS2
      go_wp2_with (at_builtin; refine wpList_app1L rfl (.tmp 35) (.tmp 36) 22 rfl elemI Try.underlying22 w.heap.size (.slice none 0 0) [] encInt rfl HOW0.out 100 ⟨w.heap.size, 0, none⟩ 1 rfl rfl HNEW0.out ?c1 ?c2 ?c3 ?c4 ?_)
      case c1 => simp [encInt, Value.oneCell']
      case c2 => decide
      case c3 => decide
      case c4 => (first | omega | (rw [World.size_alloc]; omega))
      intro g2 cap2 w2 hown2 hgr2 _
      have HX2 : Hid (OwnI w w2 (.slice (some ⟨g2, 0, none⟩) 1 cap2) [100]) := ⟨Below.grown (balloc (Below.refl _ w) _) hgr2 (by rw [World.size_alloc]; omega) (fun j e => by cases e), hown2⟩
      clear hown2 hgr2 HOW0 HNEW0
      try simp only [List.length_nil, Nat.zero_add]
      go_wp2_with fail
      go_loopw [0, 6] (fun s u wr => ∃ k m T oa cap, k ≤ n ∧ s = .string T ∧ u = .slice oa m cap ∧ Hid (T = strB (L.drop (2 * k)) ∧ m = k + 1 ∧ OwnI w wr (.slice oa m cap) (([100] : List Int) ++ pairV (L.take (2 * k))))) (fun s _ _ => strSz s)
      case atStart => exact ⟨0, 1, S2, some ⟨g2, 0, none⟩, cap2, by omega, rfl, rfl, HS2.out, rfl, HX2.out⟩
      case round =>
        clear HX0
        obtain ⟨k, m, T, oa, cap, hk, rfl, rfl, HX⟩ := hrel
        obtain ⟨wb, rfl⟩ : ∃ wb : World, wb = wr := ⟨_, rfl⟩
        by_cases hlt : k < n
        · obtain ⟨T', hT', hz, hex, a, b, p0, p1, a0, a9, b0, b9, ta, tb, hpv⟩ := HT.out k hlt
          obtain rfl : T' = T := hT'.trans HX.out.1.symm
          obtain ⟨z, hz2⟩ : ∃ z, z = 2 * n - 2 * k := ⟨_, rfl⟩
          rw [← hz2] at hz
          have z2 : 2 ≤ z := by omega
          obtain ⟨T2, hT2⟩ : ∃ T2, T2 = strB (L.drop (2 * (k + 1))) := ⟨_, rfl⟩
          rw [← hT2] at hex
          have hex2 : T'.extract 2 z = T2 := by rw [← hz]; exact hex
          have q0 : 0 < z := by omega
          have q1 : 1 < z := by omega
          have q0' : (0 : Int) < (z : Int) := by omega
          have q1' : (1 : Int) < (z : Int) := by omega
          have r1 : (1 : Int) < (T'.size : Int) := by omega
          have r1' : 1 < T'.size := by omega
          obtain ⟨x, hx⟩ : ∃ x, x = a - 48 := ⟨_, rfl⟩
          obtain ⟨y, hy⟩ : ∃ y, y = b - 48 := ⟨_, rfl⟩
          have w1 : IntKind.u8.wrap ((a : Int) - 48) = (x : Int) := by rw [show (a : Int) - 48 = (x : Int) by omega]; exact u8_wrap (by omega)
          have w2 : IntKind.u8.wrap ((b : Int) - 48) = (y : Int) := by rw [show (b : Int) - 48 = (y : Int) by omega]; exact u8_wrap (by omega)
          have w3 : IntKind.i64.wrap (x : Int) = (x : Int) := IntWalk.i64_in _ (by omega)
          have w4 : IntKind.i64.wrap (y : Int) = (y : Int) := IntWalk.i64_in _ (by omega)
          have w5 : IntKind.i64.wrap (10 * (x : Int)) = 10 * (x : Int) := IntWalk.i64_in _ (by omega)
          obtain ⟨v, hv⟩ : ∃ v, v = 10 * (x : Int) + (y : Int) := ⟨_, rfl⟩
          have w6 : IntKind.i64.wrap (10 * (x : Int) + (y : Int)) = v := by rw [hv]; exact IntWalk.i64_in _ (by omega)
          have HPV : Hid (([100] : List Int) ++ pairV (L.take (2 * (k + 1))) = (([100] : List Int) ++ pairV (L.take (2 * k))) ++ [v]) := by
            show _ = _
            rw [hpv, List.append_assoc, hv, show 10 * (x : Int) + (y : Int) = 10 * ((a : Int) - 48) + ((b : Int) - 48) by omega]
          obtain ⟨xs, hxs⟩ : ∃ xs, xs = ([100] : List Int) ++ pairV (L.take (2 * k)) := ⟨_, rfl⟩
          have HME := Lib.hid HX.out.2.1
          have hxl : xs.length = m := by
            rw [hxs, List.length_append, pairV_len k _ (by rw [List.length_take, HLL.out]; omega), HX.out.2.1]
            simp; omega
          have HXL := Lib.hid hxl
          have HOW : Hid (Own (wb.drew.alloc (.cells #[.int .i64 v] 3)) w.heap.size 3 1 encInt (.slice oa m cap) xs) := by rw [hxs]; exact (Own.drew HX.out.2.2.2).alloc _
          have HBW := Lib.hid HX.out.2.2.1
          have HNEW : Hid (∀ (j : Nat) (u : Value), (encInt v)[j]? = some u → (wb.drew.alloc (.cells #[.int .i64 v] 3)).cell? ((⟨wb.heap.size, 0, none⟩ : Addr).add j) = some u) := World.news_of_block (cs := #[.int .i64 v]) (t := 3) (fr := (0, 0)) (heap_alloc_new wb.drew _)
          rw [← hxs] at HPV
          have HT2 : Hid (T2 = strB (L.drop (2 * (k + 1)))) := hT2
          have HZ : Hid (z = T'.size ∧ T2.size < z) := ⟨hz.symm, by rw [hT2, strB_size, List.length_drop, HLL.out]; omega⟩
          have HLT := Lib.hid hlt
          clear HX hpv hx hy hv hxs hxl hT2 hT' hz2 hlt hk a0 a9 b0 b9
          go_upto_region 17 with fail
          go_region_law (first | (refine step_app1L (by rfl) (.tmp 45) (.tmp 56) 22 (by rfl) elemI Try.underlying22 w.heap.size (.slice oa m cap) xs encInt (by rfl) HOW.out v ⟨wb.heap.size, 0, none⟩ 1 (by rfl) (by rfl) HNEW.out (by simp [encInt, Value.oneCell']) (by have := HXL.out; have := HME.out; have := HLT.out; omega) (by have := HXL.out; have := HME.out; have := HLT.out; unfold maxLen; omega) (by have := HBW.out.size; show _ ≤ (wb.alloc _).heap.size; rw [World.size_alloc]; omega) ?_; rw [HXL.out]; intro g3 cap3 w3 hown3 hgr3 _))
          all_goals
            have HNX : Hid (T2 = strB (L.drop (2 * (k + 1))) ∧ m + 1 = k + 1 + 1 ∧ OwnI w w3 (.slice (some ⟨g3, 0, none⟩) (m + 1) cap3) (([100] : List Int) ++ pairV (L.take (2 * (k + 1))))) := by
              refine ⟨HT2.out, by have := HME.out; omega, Below.grown (balloc (HBW.out.drew) _) hgr3 (by rw [World.size_alloc]; show _ ≤ wb.heap.size + 1; have := HBW.out.size; omega) (fun j e => by have := ownsRow_ge HOW.out e; exact this), ?_⟩
              rw [HPV.out]
              exact hown3
            clear hown3 hgr3 HOW HNEW HPV HXL HBW HME HT2
            go_wp2_with fail
            go_roundw
            case rel => exact ⟨k + 1, m + 1, T2, some ⟨g3, 0, none⟩, cap3, HLT.out, by go_num, by go_num, HNX⟩
            case measure => have := HZ.out; simp [strSz]; omega
        · obtain rfl : n = k := by omega
          have hT := HX.out.1
          have z0 : T.size = 0 := by rw [hT, strB_size, List.length_drop, HLL.out]; omega
          have hm := HX.out.2.1
          obtain ⟨xs, hxs⟩ : ∃ xs, xs = symsV l := ⟨_, rfl⟩
          have hox : OwnI w wb (.slice oa m cap) xs := by
            have e := HX.out.2.2
            rw [List.take_of_length_le (by rw [HLL.out]; omega), ← HSY.out, ← hxs] at e
            exact e
          have hxl : xs.length = m := by rw [hxs, HSL.out]; omega
          have hm0 : 0 < m := by omega
          obtain ⟨g5, cap5, e5, -, -, -, hnr⟩ := NRow.own hox.2 (by intro e; rw [e] at hxl; simp at hxl; omega)
          rw [hxl] at e5
          cases e5
          have HSUM : Hid (Calls Try.prog 33 #[.slice (some ⟨g5, 0, none⟩) m cap] wb (fun e w' => e = .returned (.int .i64 (sumL xs)) ∧ w' = wb)) := by
            rw [hxl] at hnr
            have e := sum_any g5 0 m cap (fun i => xs.getD i 0) (fun i hi => by
              show 0 ≤ xs.getD i 0 ∧ xs.getD i 0 ≤ 1000
              rw [List.getD_eq_getElem?_getD, List.getElem?_eq_getElem (by omega)]
              exact HSB.out _ (by rw [← hxs]; exact List.getElem_mem _)) (by omega) wb hnr
            rw [show sumL xs = sumV (fun i => xs.getD i 0) m by unfold sumL; rw [hxl]]
            exact e
          obtain ⟨v, hv⟩ : ∃ v, v = sumL xs := ⟨_, rfl⟩
          rw [← hv] at HSUM
          have HXL := Lib.hid hxl
          have HM20 : Hid (m ≤ 30) := by show _ ≤ _; omega
          have HOW : Hid (Own (wb.alloc (.cells #[.int .i64 v] 3)) w.heap.size 3 1 encInt (.slice (some ⟨g5, 0, none⟩) m cap) xs) := hox.2.alloc _
          have HBW := Lib.hid hox.1
          have HNEW : Hid (∀ (j : Nat) (u : Value), (encInt v)[j]? = some u → (wb.alloc (.cells #[.int .i64 v] 3)).cell? ((⟨wb.heap.size, 0, none⟩ : Addr).add j) = some u) := World.news_of_block (cs := #[.int .i64 v]) (t := 3) (fr := (0, 0)) (heap_alloc_new wb _)
          have HRX : Hid (symsV l ++ [sumL (symsV l)] = xs ++ [v]) := by show _ = _; rw [hv, hxs]
          clear HX hT hm hox hxl hnr hxs hv
          go_wp2_with fail
          refine HSUM.out.mono ?_
          rintro e w' ⟨rfl, rfl⟩
          clear HSUM
          go_wp2_with (at_builtin; refine wpList_app1L rfl (.tmp 58) (.tmp 61) 22 rfl elemI Try.underlying22 w.heap.size (.slice (some ⟨g5, 0, none⟩) m cap) xs encInt rfl HOW.out v ⟨w'.heap.size, 0, none⟩ 1 rfl rfl HNEW.out ?c1 ?c2 ?c3 ?c4 ?_)
          case c1 => simp [encInt, Value.oneCell']
          case c2 => have := HXL.out; have := HM20.out; omega
          case c3 => have := HXL.out; have := HM20.out; unfold maxLen; omega
          case c4 => have := HBW.out.size; (first | omega | (rw [World.size_alloc]; omega))
          rw [HXL.out]
          intro g3 cap3 w3 hown3 hgr3 _
          have HF : Hid (RetSyms (symsV l ++ [sumL (symsV l)]) w (.returned (.tuple #[.slice (some ⟨g3, 0, none⟩) (m + 1) cap3, .int .i64 0])) w3) := by
            rw [HRX.out]
            exact ⟨_, rfl, hown3, Below.grown (balloc HBW.out _) hgr3 (by rw [World.size_alloc]; have := HBW.out.size; omega) (fun j e => by have := ownsRow_ge HOW.out e; exact this)⟩
          clear hown3 hgr3 HOW HNEW HRX HBW HXL
          go_wp2
          go_ret2
          exact HF.out
end Go.Proofs.Ytcadgjhfdolejaa
