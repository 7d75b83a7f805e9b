/-
  plan.Order: its walk. Own text.
-/
import Derived.Test.YtjggcnpnjnmamaaWashed
import Derived.Deep.RegionLaw
import Derived.Test.YtjggcnpnjnmamaaRegion
namespace Go.Proofs.Ytjggcnpnjnmamaa
open Go.RowKit
set_option linter.unusedVariables false
/-- Returns the first cheapest order, and its cost. -/
def RetOrder (X : Int) (xs : List Int) (n : Nat) (w : World) (e : Ending) (w' : World) : Prop :=
  ∃ oc cc, e = .returned (.tuple #[.slice oc n cc, .int .i64 X, .int .i64 0]) ∧ Flat w' 1 encInt oc xs ∧ Below w.heap.size w w'
/-- The table's entry for a set and its last job. -/
def restV (first : List Int) (W : List (List Int)) (n s j : Nat) : Int := (wsh first W n (freeN (bits s) n) (bits s) j).1
/-- The entries of the sets above s stand. -/
def RestOk (first : List Int) (W : List (List Int)) (n : Nat) (T : Nat → Int) (s : Nat) : Prop := ∀ s' j, s < s' → s' < 2 ^ n → j < n → bits s' j = true → T (s' * n + j) = restV first W n s' j
theorem RestOk.start {first : List Int} {W : List (List Int)} {n : Nat} : RestOk first W n (fun _ => 0) (2 ^ n - 2) := by
  intro s' j h1 h2 hj hb
  have e : s' = 2 ^ n - 1 := by omega
  subst e
  unfold restV
  rw [freeN_all]
  rfl
/-- The entries of the set s stand below job j. -/
structure RestTo (first : List Int) (W : List (List Int)) (n : Nat) (T : Nat → Int) (s j : Nat) : Prop where
  a : RestOk first W n T s
  b : ∀ i, i < j → bits s i = true → T (s * n + i) = restV first W n s i
theorem RestTo.zero {first : List Int} {W : List (List Int)} {n s : Nat} {T : Nat → Int} (h : RestOk first W n T s) : RestTo first W n T s 0 := ⟨h, fun i hi => by omega⟩
theorem RestTo.skip {first : List Int} {W : List (List Int)} {n s j : Nat} {T : Nat → Int} (h : RestTo first W n T s j) (hb : bits s j = false) : RestTo first W n T s (j + 1) :=
  ⟨h.a, fun i hi hb2 => by
    by_cases e : i = j
    · rw [e, hb] at hb2; cases hb2
    · exact h.b i (by omega) hb2⟩
theorem RestTo.set {first : List Int} {W : List (List Int)} {n s j : Nat} {T : Nat → Int} (h : RestTo first W n T s j) (hj : j < n) (y : Int) (hy : y = restV first W n s j) : RestTo first W n (fun i => if i = s * n + j then y else T i) s (j + 1) := by
  refine ⟨fun s' i h1 h2 hi hb => ?_, fun i hi hb => ?_⟩
  · have hne : s' * n + i ≠ s * n + j := by
      intro e
      have h3 : (s + 1) * n ≤ s' * n := Nat.mul_le_mul_right n h1
      rw [Nat.add_mul] at h3
      omega
    simp only [if_neg hne]
    exact h.a s' i h1 h2 hi hb
  · by_cases e : i = j
    · subst e; simp only [if_true]; exact hy
    · have : s * n + i ≠ s * n + j := by omega
      simp only [if_neg this]
      exact h.b i (by omega) hb
theorem RestTo.next {first : List Int} {W : List (List Int)} {n s : Nat} {T : Nat → Int} (h : RestTo first W n T (s + 1) n) : RestOk first W n T s := by
  intro s' j h1 h2 hj hb
  by_cases e : s' = s + 1
  · subst e; exact h.b j hj hb
  · exact h.a s' j (by omega) h2 hj hb
/-- Behind a job more. -/
theorem rest_behind {first : List Int} {W : List (List Int)} {n s k : Nat} (hk : k < n) (hb : bits s k = false) : restV first W n (s ||| 2 ^ k) k = (behindW first W n (freeN (bits s) n) (bits s) k).1 := by
  unfold restV behindW
  have h := freeN_use hb hk
  rw [bits_or, show freeN (useC (bits s) k) n = freeN (bits s) n - 1 by omega]
theorem rest_self {first : List Int} {W : List (List Int)} {n s j : Nat} (h0 : 0 < freeN (bits s) n) : restV first W n s j = (wshTo (bits s) (cst first W j) (behindW first W n (freeN (bits s) n) (bits s)) n).1 := by
  unfold restV
  obtain ⟨f, hf⟩ : ∃ f, freeN (bits s) n = f + 1 := ⟨freeN (bits s) n - 1, by omega⟩
  rw [hf]
  rfl
theorem freeN_le {used : Nat → Bool} : ∀ {q : Nat}, freeN used q ≤ q := by
  intro q
  induction q with
  | zero => exact Nat.le_refl _
  | succ q ih => simp only [freeN]; split <;> omega
theorem free_pos {n s : Nat} (h : s < 2 ^ n - 1) : 0 < freeN (bits s) n := by
  by_cases e : freeN (bits s) n = 0
  · have := freeN_full (by omega) e
    omega
  · omega
/-! ### The program's sets -/
theorem wrap62 (x : Int) (h0 : 0 ≤ x) (h1 : x < 2 ^ 62) : IntKind.i64.wrap x = x := IntWalk.i64_in _ (by omega)
theorem lt62 {s : Nat} (h : s ≤ 100000) : s < 2 ^ 62 := by omega
theorem bit_and (s j : Nat) (hs : s ≤ 100000) : Go.bits BinOp.and IntKind.i64 ((s : Int) / 2 ^ j) 1 = ((s / 2 ^ j % 2 : Nat) : Int) := by
  have e : (s : Int) / 2 ^ j = ((s / 2 ^ j : Nat) : Int) := by simp
  have h := (bits_nat .i64 62 (by decide) wrap62 (s / 2 ^ j) 1 (lt62 (Nat.le_trans (Nat.div_le_self _ _) hs)) (by decide)).1
  rw [Nat.and_one_is_mod] at h
  rw [e]
  exact h
theorem bit_yes {s j : Nat} (hs : s ≤ 100000) (h : bits s j = true) : (Go.bits BinOp.and IntKind.i64 ((s : Int) / 2 ^ j) 1 == 0) = false ∧ (Go.bits BinOp.and IntKind.i64 ((s : Int) / 2 ^ j) 1 != 0) = true := by
  rw [bit_and s j hs]
  unfold bits at h
  rw [Nat.testBit_eq_decide_div_mod_eq] at h
  have h2 := of_decide_eq_true h
  rw [h2]
  exact ⟨rfl, rfl⟩
theorem bit_no {s j : Nat} (hs : s ≤ 100000) (h : bits s j = false) : (Go.bits BinOp.and IntKind.i64 ((s : Int) / 2 ^ j) 1 == 0) = true ∧ (Go.bits BinOp.and IntKind.i64 ((s : Int) / 2 ^ j) 1 != 0) = false := by
  rw [bit_and s j hs]
  unfold bits at h
  rw [Nat.testBit_eq_decide_div_mod_eq] at h
  have h2 := of_decide_eq_false h
  have h3 : s / 2 ^ j % 2 = 0 := by omega
  rw [h3]
  exact ⟨rfl, rfl⟩
theorem bit_or (s q : Nat) (hs : s ≤ 100000) (hq : q ≤ 100000) : Go.bits BinOp.or IntKind.i64 (s : Int) (q : Int) = ((s ||| q : Nat) : Int) :=
  (bits_nat .i64 62 (by decide) wrap62 s q (lt62 hs) (lt62 hq)).2
/-! ### The order under way -/
/-- The last job of the first k ones. -/
def lastV (xs : List Int) (k : Nat) : Int := if k = 0 then -1 else at0 xs (k - 1)
/-- k jobs are chosen: xs, the set s. -/
structure OrdAt (first : List Int) (W : List (List Int)) (n k s : Nat) (xs : List Int) : Prop where
  len : xs.length = k
  sl : s < 2 ^ n
  fr : freeN (bits s) n = n - k
  kn : k ≤ n
  lo : (k = 0 ∧ lastV xs k = -1) ∨ (0 < k ∧ ∃ i : Nat, i < n ∧ lastV xs k = i)
  z : k = 0 → s = 0
  whole : (wsh first W n n (bits 0) (-1)).2 = xs ++ (wsh first W n (n - k) (bits s) (lastV xs k)).2
theorem OrdAt.start (first : List Int) (W : List (List Int)) (n : Nat) : OrdAt first W n 0 0 [] :=
  ⟨rfl, Nat.two_pow_pos n, freeN_zero, Nat.zero_le _, .inl ⟨rfl, rfl⟩, fun _ => rfl, rfl⟩
theorem OrdAt.wsh {first : List Int} {W : List (List Int)} {n k s : Nat} {xs : List Int} (h : OrdAt first W n k s xs) (hk : k < n) :
    Go.Proofs.Ytjggcnpnjnmamaa.wsh first W n (n - k) (bits s) (lastV xs k) = wshTo (bits s) (cst first W (lastV xs k)) (behindW first W n (freeN (bits s) n) (bits s)) n := by
  rw [h.fr]
  obtain ⟨f, hf⟩ : ∃ f, n - k = f + 1 := ⟨n - k - 1, by omega⟩
  rw [hf]
  rfl
theorem OrdAt.next {first : List Int} {W : List (List Int)} {n k s j : Nat} {xs : List Int} {y : Int} (h : OrdAt first W n k s xs) (hk : k < n) (hj : j < n) (hb : bits s j = false)
    (he : wshTo (bits s) (cst first W (lastV xs k)) (behindW first W n (freeN (bits s) n) (bits s)) n = (y, (j : Int) :: (behindW first W n (freeN (bits s) n) (bits s) j).2)) :
    OrdAt first W n (k + 1) (s ||| 2 ^ j) (xs ++ [(j : Int)]) ∧ (k = 0 → y = (Go.Proofs.Ytjggcnpnjnmamaa.wsh first W n n (bits 0) (-1)).1) := by
  have hl : lastV (xs ++ [(j : Int)]) (k + 1) = j := by
    unfold lastV
    rw [if_neg (by omega)]
    unfold at0
    rw [List.getD_eq_getElem?_getD, Nat.add_sub_cancel, List.getElem?_append_right (by rw [h.len]; exact Nat.le_refl _)]
    simp [h.len]
  have h1 := h.wsh hk
  rw [he] at h1
  refine ⟨⟨by simp [h.len], bits_or_lt h.sl hj, ?_, hk, .inr ⟨by omega, j, hj, hl⟩, fun e => by omega, ?_⟩, fun e => ?_⟩
  · have := freeN_use hb hj
    have := h.fr
    rw [bits_or]
    omega
  · rw [h.whole, h1, hl, bits_or]
    simp only [List.append_assoc, List.singleton_append]
    unfold behindW
    rw [h.fr, show n - k - 1 = n - (k + 1) by omega]
  · subst e
    have e2 := h.z rfl
    subst e2
    have e3 : lastV xs 0 = -1 := rfl
    rw [e3, Nat.sub_zero] at h1
    rw [h1]
theorem OrdAt.done {first : List Int} {W : List (List Int)} {n s : Nat} {xs : List Int} (h : OrdAt first W n n s xs) : (Go.Proofs.Ytjggcnpnjnmamaa.wsh first W n n (bits 0) (-1)).2 = xs := by
  rw [h.whole, Nat.sub_self]
  simp [Go.Proofs.Ytjggcnpnjnmamaa.wsh]
/-- The total behind k jobs. -/
def totV (k : Nat) (X : Int) : Int := if k = 0 then 0 else X
def lenOf : Value → Nat
  | .slice _ l _ => l
  | _ => 0
section
variable {P : Program} {w : World} {ops : Array Oper} {o : Oper} {a : Act} {K : Act → World → Prop} {Q : Exit → Act → World → Prop} {E : Prop}
/-- An append of one element in a region that draws, and where the new slice lies. -/
theorem step_app1L {α : Type} (hgd : o.guard = none) (s x : Operand) (t : TypeId)
    (ho : o.op = .call { callee := .builtin .append, args := #[s, x], argTypes := #[t, t] })
    {e : TypeId} {z : Value} {size bytes : Nat} (hE : ElemType P e z size bytes) (ht : P.underlying t = some (.slice e))
    (base : Nat) (v : Value) (xs : List α) (enc : α → List Value) (hs : a.eval s = v) (hown : Own w base e size enc v xs) (y : α)
    (ad : Addr) (c : Nat) (hx : a.eval x = .slice (some ad) 1 c) (hl : (enc y).length = size) (hnews : ∀ j u, (enc y)[j]? = some u → w.cell? (ad.add j) = some u) (h1 : ∀ u ∈ enc y, u.oneCell' = true)
    (hbytes : (xs.length + 1) * bytes ≤ 140737488355328) (h63 : xs.length + 1 ≤ maxLen) (hbase : base ≤ w.heap.size)
    (h : ∀ g cap w', Own w' base e size enc (.slice (some ⟨g, 0, none⟩) (xs.length + 1) cap) (xs ++ [y]) → w.grownBy w' v.ownBlock → (v.ownBlock = some g ∨ g = w.heap.size) → K (a.put o.dst (.slice (some ⟨g, 0, none⟩) (xs.length + 1) cap)) w') : if Region.wanted o (yielded ops a.tmps) = true then Oper.wp P o a w K Q else E := by
  obtain ⟨i, hi, hz, hsz, hby, hzs, h0⟩ := hE
  refine step_append_lies w hgd s x t ho base e i z size bytes ht hi hz hsz hby hzs h0 v xs.length (xs.flatMap enc) hs hown ad 1 c (enc y) hx (by rw [hl, Nat.one_mul]) hnews h1 (by omega) h63 hbytes hbase w.heap.size rfl ?_
  intro g cap w' hown' hg hat _
  refine h g cap w' ?_ hg hat
  unfold Own
  rw [List.length_append, List.flatMap_append]
  simpa using hown'
end
theorem checkW_N (oa ob : Option Addr) (first : List Int) (W : List (List Int)) (n ca cb : Nat) (w : World) (h1 : first.length = n) (h2 : W.length = n) (hm : n ≤ 12) (hf : Flat w 1 encInt oa first) (hx : Rows1 w 1 encInt ob W) (hc : washErr first W = 0) :
    Calls Try.prog 31 #[.slice oa n ca, .slice ob n cb] w fun e w' => e = .returned (.int .i64 0) ∧ w = w' := by
  have h := checkWash_any oa ob first W ca cb w (by rw [h1]; unfold maxLen; omega) (by rw [h2]; unfold maxLen; omega) hf hx
  rw [h1, h2, hc] at h
  exact h
set_option maxRecDepth 100000 in
set_option maxHeartbeats 16000000 in
theorem order_ok (bf off cf b offb cap : Nat) (first : List Int) (W : List (List Int)) (n : Nat) (w : World) (hG : GoodWash first W n) (hf : Flat w 1 encInt (some ⟨bf, off, none⟩) first) (hx : Rows1 w 1 encInt (some ⟨b, offb, none⟩) W) (hc : washErr first W = 0) :
    Calls Try.prog 29 #[.slice (some ⟨bf, off, none⟩) n cf, .slice (some ⟨b, offb, none⟩) n cap] w (RetOrder (wsh first W n n (bits 0) (-1)).1 (wsh first W n n (bits 0) (-1)).2 n w) := by
  have hn12 := hG.g.n12
  have hn1 := hG.g.r1
  rw [hG.wl] at hn1
  have HC := Lib.hid (checkW_N (some ⟨bf, off, none⟩) (some ⟨b, offb, none⟩) first W n cf cap w hG.fl hG.wl hn12 hf hx hc)
  obtain ⟨P, hP⟩ : ∃ P, P = 2 ^ n := ⟨_, rfl⟩
  have hP2 : 2 ≤ P ∧ P ≤ 4096 := by
    rw [hP]
    exact ⟨by have := Nat.pow_le_pow_right (n := 2) (by omega) hn1; omega, by have := Nat.pow_le_pow_right (n := 2) (by omega) hn12; omega⟩
  have hPi : (2 : Int) ^ n = (P : Int) := by rw [hP]; simp
  obtain ⟨N1, hN1⟩ : ∃ N1, N1 = n * P := ⟨_, rfl⟩
  have hN1b : N1 ≤ 49152 := by
    rw [hN1]
    exact Nat.le_trans (Nat.mul_le_mul hn12 hP2.2) (by omega)
  have hNi : (n : Int) * 2 ^ n = (N1 : Int) := by rw [hPi, hN1]; simp
  have mk := run_makeArr (P := Try.prog) elemInt Try.underlying25 (.int .i64 0) rfl N1 (by omega) (by omega)
  have g1 : IntKind.i64.wrap ((n : Int) * 2 ^ n) = (N1 : Int) := by rw [hNi]; exact IntWalk.i64_in _ (by omega)
  have g2 : IntKind.i64.wrap ((2 : Int) ^ n) = (P : Int) := by rw [hPi]; exact IntWalk.i64_in _ (by omega)
  have g3 : IntKind.i64.wrap ((P : Int) - 2) = ((P - 2 : Nat) : Int) := by rw [IntWalk.i64_in _ (by omega)]; omega
  have HX := Lib.hid hx
  have HF := Lib.hid hf
  have HG := Lib.hid hG
  replace hP := Lib.hid hP
  replace hN1 := Lib.hid hN1
  have H0 : Hid (Below w.heap.size w (w.alloc (.cells (madeArr (.int .i64 0) N1) 3)) ∧ ∃ T, FTab (Value.int .i64) (w.alloc (.cells (madeArr (.int .i64 0) N1) 3)) w.heap.size N1 T ∧ RestOk first W n T (P - 2)) :=
    ⟨balloc (Below.refl _ _) _, _, FTab.made (Value.int .i64) w N1 0 3, by rw [hP.out]; exact RestOk.start⟩
  clear hc hx hf hG hPi hNi
  go_enter Try.func29, Try.ntmps29
  go_wp2_with (go_at_call 31; (with_reducible refine (HC.out).mono ?_); rintro e w1 ⟨rfl, rfl⟩)
  go_loopw [10] (fun s10 wr => ∃ s : Nat, s ≤ P - 2 ∧ s10 = .int .i64 s ∧ Hid (Below w.heap.size w wr ∧ ∃ T, FTab (Value.int .i64) wr w.heap.size N1 T ∧ RestOk first W n T s)) (fun s10 _ => (intOf s10).toNat)
  case atStart => exact ⟨P - 2, Nat.le_refl _, rfl, H0⟩
  case round =>
    clear H0 g1 g2 g3 mk
    obtain ⟨s, hs, rfl, HW⟩ := hrel
    by_cases hs0 : (0 : Int) < (s : Int)
    · have ts1 : decide ((0 : Int) < (s : Int)) = true := decide_eq_true hs0
      have ts2 : decide (0 < s) = true := decide_eq_true (by omega)
      go_wp2
      clear ts1 ts2
      go_loopw [42] (fun s42 wr => ∃ j : Nat, j ≤ n ∧ s42 = .int .i64 j ∧ Hid (Below w.heap.size w wr ∧ ∃ T, FTab (Value.int .i64) wr w.heap.size N1 T ∧ RestTo first W n T s j)) (fun s42 _ => n - (intOf s42).toNat)
      case atStart => exact ⟨0, by omega, rfl, Lib.hid ⟨HW.out.1, by obtain ⟨T, h1, h2⟩ := HW.out.2; exact ⟨T, h1, RestTo.zero h2⟩⟩⟩
      case round =>
        clear HW
        obtain ⟨j, hj, rfl, HW⟩ := hrel
        by_cases hlt : j < n
        · by_cases hbj : bits s j = true
          · obtain ⟨t1, t2⟩ := bit_yes (by omega) hbj
            obtain ⟨T, hT, hTo⟩ := HW.out.2
            have HT := Lib.hid hT
            have HTO := Lib.hid hTo
            have HBW := Lib.hid HW.out.1
            have hfp : 0 < freeN (bits s) n := free_pos (by rw [← hP.out]; omega)
            have HFP := Lib.hid hfp
            have HBJ := Lib.hid hbj
            obtain ⟨c, hcc⟩ : ∃ c, c = cst first W (j : Int) := ⟨_, rfl⟩
            obtain ⟨r, hr⟩ : ∃ r, r = behindW first W n (freeN (bits s) n) (bits s) := ⟨_, rfl⟩
            have HCC := Lib.hid hcc
            have HR := Lib.hid hr
            clear hT hTo HW hfp hbj hcc hr
            go_wp2
            go_loopw [12, 51] (fun s12 s51 wr => ∃ k : Nat, k ≤ n ∧ s51 = .int .i64 k ∧ s12 = .int .i64 (wshTo (bits s) c r k).1 ∧ Hid (Below w.heap.size w wr ∧ FTab (Value.int .i64) wr w.heap.size N1 T)) (fun _ s51 _ => n - (intOf s51).toNat)
            case atStart => exact ⟨0, by omega, rfl, rfl, Lib.hid ⟨HBW.out, HT.out⟩⟩
            case round =>
              clear t1 t2
              obtain ⟨k, hk, rfl, rfl, HW⟩ := hrel
              obtain ⟨A, hA⟩ : ∃ A, A = (wshTo (bits s) c r k).1 := ⟨_, rfl⟩
              rw [← hA]
              by_cases hltk : k < n
              · by_cases hbk : bits s k = true
                · obtain ⟨t1, t2⟩ := bit_yes (by omega) hbk
                  have HS : Hid ((wshTo (bits s) c r (k + 1)).1 = A) := by show _ = _; simp only [wshTo]; rw [if_pos hbk, hA]
                  clear hA hbk
                  go_wp2
                  go_roundw
                  case rel => exact ⟨k + 1, by omega, by go_num, by rw [HS.out], HW⟩
                  case measure => simp [intOf]; omega
                · have hbk2 : bits s k = false := by simpa using hbk
                  obtain ⟨t1, t2⟩ := bit_no (by omega) hbk2
                  obtain ⟨Q, hQ⟩ : ∃ Q, Q = 2 ^ k := ⟨_, rfl⟩
                  have hQb : Q ≤ 4096 := by rw [hQ]; have := Nat.pow_le_pow_right (n := 2) (by omega) (show k ≤ 12 by omega); omega
                  obtain ⟨S, hS⟩ : ∃ S, S = s ||| 2 ^ k := ⟨_, rfl⟩
                  have hSP : S < P := by rw [hS, hP.out]; exact bits_or_lt (by rw [← hP.out]; omega) hltk
                  have hSs : s < S := by rw [hS]; exact bits_or_gt hbk2
                  have hSk : bits S k = true := by rw [hS, bits_or]; unfold useC; rw [if_pos rfl]
                  have o1 : Go.bits BinOp.or IntKind.i64 (s : Int) (Q : Int) = (S : Int) := by rw [bit_or s Q (by omega) (by omega), hS, hQ]
                  obtain ⟨M, hM⟩ : ∃ M, M = S * n := ⟨_, rfl⟩
                  obtain ⟨I, hI⟩ : ∃ I, I = M + k := ⟨_, rfl⟩
                  have hIN : I < N1 := by
                    have h1 : (S + 1) * n ≤ P * n := Nat.mul_le_mul_right n (by omega)
                    rw [Nat.add_mul] at h1
                    have h2 : N1 = P * n := by rw [hN1.out, Nat.mul_comm]
                    omega
                  have e1 : (2 : Int) ^ k = (Q : Int) := by rw [hQ]; simp
                  have e2 : (S : Int) * (n : Int) = (M : Int) := by rw [hM]; simp
                  have g1 : IntKind.i64.wrap ((2 : Int) ^ k) = (Q : Int) := by rw [e1]; exact IntWalk.i64_in _ (by omega)
                  have g2 : IntKind.i64.wrap ((S : Int) * (n : Int)) = (M : Int) := by rw [e2]; exact IntWalk.i64_in _ (by omega)
                  have g3 : IntKind.i64.wrap ((M : Int) + (k : Int)) = (I : Int) := by rw [IntWalk.i64_in _ (by omega)]; omega
                  obtain ⟨bk, offk, capk, kc1, kc2, _⟩ := costCell2 HX.out HG.out.g HW.out.1 (r := j) (q := k) (by rw [HG.out.wl]; exact hlt) hltk
                  have hck : cOf W (j + 1) (k + 1) = c k := by rw [HCC.out]; unfold cst; rw [if_neg (by omega)]; simp
                  rw [hck] at kc2
                  have kT := HW.out.2.at' I hIN
                  have hTI : T I = (r k).1 := by
                    rw [hI, hM, HTO.out.a S k hSs (by rw [← hP.out]; exact hSP) hltk hSk, hS, rest_behind hltk hbk2, HR.out]
                  rw [hTI] at kT
                  have hcb : 0 ≤ c k ∧ c k ≤ 1048576 := by rw [HCC.out]; exact cst_bd HG.out.f HG.out.g.c _ _
                  have hrb : 0 ≤ (r k).1 ∧ (r k).1 ≤ 13631488 := by
                    have hfu := freeN_use hbk2 hltk
                    have := wsh_bd (first := first) (W := W) (n := n) HG.out.f HG.out.g.c (d := freeN (bits s) n - 1) (used := useC (bits s) k) (last := (k : Int)) (by omega)
                    have hfn : freeN (bits s) n ≤ n := freeN_le
                    rw [HR.out]
                    unfold behindW
                    omega
                  have HS : Hid ((wshTo (bits s) c r (k + 1)).1 = if A < 0 ∨ c k + (r k).1 < A then c k + (r k).1 else A) := by
                    show _ = _
                    simp only [wshTo]
                    rw [if_neg hbk, ← hA]
                    split
                    · rfl
                    · exact hA.symm
                  generalize c k = C at *
                  generalize (r k).1 = R at *
                  have g4 : IntKind.i64.wrap (C + R) = C + R := IntWalk.i64_in _ (by omega)
                  have i1 : (j : Int) < (n : Int) := by omega
                  have i2 : (k : Int) < (n : Int) := by omega
                  have i3 : (I : Int) < (N1 : Int) := by omega
                  clear hA hbk hbk2 hQ hS hSs hSk hM hI e1 e2 hck hTI
                  by_cases hA0 : A < 0
                  · have HN : Hid ((wshTo (bits s) c r (k + 1)).1 = C + R) := by show _ = _; rw [HS.out, if_pos (.inl hA0)]
                    go_wp2
                    go_quiet (fail)
                    go_wp2
                    go_roundw
                    case rel => exact ⟨k + 1, by omega, by go_num, by rw [HN.out], Lib.hid ⟨bdrewN HW.out.1 _, HW.out.2.drewN _⟩⟩
                    case measure => simp [intOf]; omega
                  · by_cases hl2 : C + R < A
                    · have HN : Hid ((wshTo (bits s) c r (k + 1)).1 = C + R) := by show _ = _; rw [HS.out, if_pos (.inr hl2)]
                      go_wp2
                      go_quiet (fail)
                      go_wp2
                      go_roundw
                      case rel => exact ⟨k + 1, by omega, by go_num, by rw [HN.out], Lib.hid ⟨bdrewN HW.out.1 _, HW.out.2.drewN _⟩⟩
                      case measure => simp [intOf]; omega
                    · have HN : Hid ((wshTo (bits s) c r (k + 1)).1 = A) := by show _ = _; rw [HS.out, if_neg (by omega)]
                      go_wp2
                      go_quiet (fail)
                      go_wp2
                      go_roundw
                      case rel => exact ⟨k + 1, by omega, by go_num, by rw [HN.out], Lib.hid ⟨bdrewN HW.out.1 _, HW.out.2.drewN _⟩⟩
                      case measure => simp [intOf]; omega
              · obtain rfl : n = k := by omega
                have hRV : A = restV first W n s j := by rw [hA, rest_self HFP.out, HCC.out, HR.out]
                obtain ⟨M, hM⟩ : ∃ M, M = s * n := ⟨_, rfl⟩
                obtain ⟨I, hI⟩ : ∃ I, I = M + j := ⟨_, rfl⟩
                have hIN : I < N1 := by
                  have h1 : (s + 1) * n ≤ P * n := Nat.mul_le_mul_right n (by omega)
                  rw [Nat.add_mul] at h1
                  have h2 : N1 = P * n := by rw [hN1.out, Nat.mul_comm]
                  omega
                have e2 : (s : Int) * (n : Int) = (M : Int) := by rw [hM]; simp
                have g2 : IntKind.i64.wrap ((s : Int) * (n : Int)) = (M : Int) := by rw [e2]; exact IntWalk.i64_in _ (by omega)
                have g3 : IntKind.i64.wrap ((M : Int) + (j : Int)) = (I : Int) := by rw [IntWalk.i64_in _ (by omega)]; omega
                have kT := HW.out.2.at' I hIN
                have zT := HW.out.2.fz I
                have i3 : (I : Int) < (N1 : Int) := by omega
                have HN : Hid (Below w.heap.size w (wr.setCell ⟨w.heap.size, I, none⟩ (.int .i64 A)) ∧ ∃ T, FTab (Value.int .i64) (wr.setCell ⟨w.heap.size, I, none⟩ (.int .i64 A)) w.heap.size N1 T ∧ RestTo first W n T s (j + 1)) := by
                  refine ⟨HW.out.1.setCell (p := ⟨w.heap.size, I, none⟩) (Nat.le_refl _) _, _, HW.out.2.set hIN A, ?_⟩
                  rw [hI, hM]
                  exact HTO.out.set hlt A hRV
                generalize T I = TI at *
                clear hM hI e2 hA hRV HW
                go_wp2
                go_roundw
                case rel => exact ⟨j + 1, by omega, by go_num, HN⟩
                case measure => simp [intOf]; omega
          · have hbj2 : bits s j = false := by simpa using hbj
            obtain ⟨t1, t2⟩ := bit_no (by omega) hbj2
            have HN : Hid (Below w.heap.size w wr ∧ ∃ T, FTab (Value.int .i64) wr w.heap.size N1 T ∧ RestTo first W n T s (j + 1)) := ⟨HW.out.1, by obtain ⟨T, h1, h2⟩ := HW.out.2; exact ⟨T, h1, h2.skip hbj2⟩⟩
            clear hbj hbj2 HW
            go_wp2
            go_roundw
            case rel => exact ⟨j + 1, by omega, by go_num, HN⟩
            case measure => simp [intOf]; omega
        · obtain rfl : n = j := by omega
          obtain ⟨s1, hs1⟩ : ∃ s1, s = s1 + 1 := ⟨s - 1, by omega⟩
          have HN : Hid (Below w.heap.size w wr ∧ ∃ T, FTab (Value.int .i64) wr w.heap.size N1 T ∧ RestOk first W n T s1) := ⟨HW.out.1, by obtain ⟨T, h1, h2⟩ := HW.out.2; exact ⟨T, h1, RestTo.next (by rw [← hs1]; exact h2)⟩⟩
          have g1 : IntKind.i64.wrap ((s : Int) - 1) = (s1 : Int) := by rw [IntWalk.i64_in _ (by omega)]; omega
          have hm1 : s1 < s := by omega
          have hsP : s1 ≤ P - 2 := by omega
          clear hs1 HW
          go_wp2
          go_roundw
          case rel => exact ⟨s1, hsP, rfl, HN⟩
          case measure => simp [intOf]; omega
    · have hs1 : s = 0 := by omega
      have ts1 : decide ((0 : Int) < (s : Int)) = false := decide_eq_false hs0
      have ts2 : decide (0 < s) = false := decide_eq_false (by omega)
      obtain ⟨T, hT, hOk⟩ := HW.out.2
      have HOK : Hid (RestOk first W n T 0) := by rw [← hs1]; exact hOk
      have HTW := Lib.hid hT
      have HBW := Lib.hid HW.out.1
      clear hs1 hT hOk HW
      obtain ⟨w7, hw7⟩ : ∃ w7 : World, w7 = wr := ⟨_, rfl⟩
      subst hw7
      have HLT : Hid (w.heap.size < w7.heap.size) := HTW.out.lt (by have := hN1.out; have := Nat.mul_le_mul hn1 hP2.1; omega)
      obtain ⟨X0, hX0⟩ : ∃ X0, X0 = (wsh first W n n (bits 0) (-1)).1 := ⟨_, rfl⟩
      have HX0 := Lib.hid hX0
      have H6 : Hid (OrdAt first W n 0 0 [] ∧ Below w7.heap.size w7 w7 ∧ Own w7 w7.heap.size 3 1 encInt (.slice none 0 0) []) := ⟨OrdAt.start _ _ _, Below.refl _ _, Own.nil _ _ _ _ _⟩
      clear hX0
      go_wp2
      clear ts1 ts2
      go_loopw [15, 16, 17] (fun s15 s16 s17 wr => ∃ (k s2 : Nat) (ov : Option Addr) (cv : Nat) (xs : List Int), s15 = .slice ov k cv ∧ s16 = .int .i64 (totV k X0) ∧ s17 = .int .i64 s2 ∧ Hid (OrdAt first W n k s2 xs ∧ Below w7.heap.size w7 wr ∧ Own wr w7.heap.size 3 1 encInt (.slice ov k cv) xs)) (fun s15 _ _ _ => n - lenOf s15)
      case atStart => exact ⟨0, 0, none, 0, [], rfl, rfl, rfl, H6⟩
      case round =>
        clear H6
        obtain ⟨k, s2, ov, cv, xs, rfl, rfl, rfl, HW⟩ := hrel
        have HO := Lib.hid HW.out.1
        have hkn := HO.out.kn
        have hsP : s2 < P := by rw [hP.out]; exact HO.out.sl
        by_cases hltk : k < n
        · have hlk : (k : Int) < (n : Int) := by omega
          have HBw : Hid (Below w.heap.size w wr) := HBW.out.trans (HW.out.2.1.mono (by have := HLT.out; omega))
          have HTw : Hid (FTab (Value.int .i64) wr w.heap.size N1 T) := HTW.out.below HW.out.2.1 HLT.out
          obtain ⟨oax, capx, ex, _, hfx⟩ := HW.out.2.2.flat (fun _ => rfl)
          have HFV : Hid (Flat wr 1 encInt ov xs) := by cases ex; exact hfx
          obtain ⟨c, hcc⟩ : ∃ c, c = cst first W (lastV xs k) := ⟨_, rfl⟩
          obtain ⟨r, hr⟩ : ∃ r, r = behindW first W n (freeN (bits s2) n) (bits s2) := ⟨_, rfl⟩
          obtain ⟨X, hXX⟩ : ∃ X : Nat → Int, X = fun j => c j + (r j).1 := ⟨_, rfl⟩
          have HCC := Lib.hid hcc
          have HR := Lib.hid hr
          have HXX := Lib.hid hXX
          have hbd : ∀ q, q < n → bits s2 q = false → 0 ≤ c q ∧ c q ≤ 1048576 ∧ 0 ≤ (r q).1 ∧ (r q).1 ≤ 13631488 := by
            intro q hq hb
            have h1 := cst_bd (first := first) (W := W) HG.out.f HG.out.g.c (lastV xs k) q
            have hfu := freeN_use hb hq
            have h2 := wsh_bd (first := first) (W := W) (n := n) HG.out.f HG.out.g.c (d := freeN (bits s2) n - 1) (used := useC (bits s2) q) (last := (q : Int)) (by omega)
            have hfn : freeN (bits s2) n ≤ n := freeN_le
            rw [hcc, hr]
            unfold behindW
            omega
          have HBD := Lib.hid hbd
          clear ex hfx hcc hr hXX hbd
          obtain ⟨wo, hwo⟩ : ∃ wo : World, wo = wr := ⟨_, rfl⟩
          subst hwo
          go_wp2
          go_loopw [18, 19, 101] (fun s18 s19 s101 wx => ∃ q : Nat, q ≤ n ∧ s101 = .int .i64 q ∧ s18 = .int .i64 (stpTo (bits s2) X q).1 ∧ s19 = .int .i64 (stpTo (bits s2) X q).2 ∧ wo = wx) (fun _ _ s101 _ => n - (intOf s101).toNat)
          case atStart => exact ⟨0, by omega, rfl, rfl, rfl, rfl⟩
          case round =>
            obtain ⟨q, hq, rfl, rfl, rfl, rfl⟩ := hrel
            obtain ⟨A1, hA1⟩ : ∃ A1, A1 = (stpTo (bits s2) X q).1 := ⟨_, rfl⟩
            obtain ⟨A2, hA2⟩ : ∃ A2, A2 = (stpTo (bits s2) X q).2 := ⟨_, rfl⟩
            rw [← hA1, ← hA2]
            by_cases hltq : q < n
            · by_cases hbq : bits s2 q = true
              · obtain ⟨t1, t2⟩ := bit_yes (s := s2) (by omega) hbq
                have HS : Hid (stpTo (bits s2) X (q + 1) = (A1, A2)) := by show _ = _; simp only [stpTo]; rw [if_pos hbq, hA1, hA2]
                clear hA1 hA2 hbq
                go_wp2
                go_roundw
                case rel => exact ⟨q + 1, by omega, by go_num, by rw [HS.out], by rw [HS.out], trivial⟩
                case measure => simp [intOf]; omega
              · have hbq2 : bits s2 q = false := by simpa using hbq
                obtain ⟨t1, t2⟩ := bit_no (s := s2) (by omega) hbq2
                obtain ⟨Q, hQ⟩ : ∃ Q, Q = 2 ^ q := ⟨_, rfl⟩
                have hQb : Q ≤ 4096 := by rw [hQ]; have := Nat.pow_le_pow_right (n := 2) (by omega) (show q ≤ 12 by omega); omega
                obtain ⟨S, hS⟩ : ∃ S, S = s2 ||| 2 ^ q := ⟨_, rfl⟩
                have hSP : S < P := by rw [hS, hP.out]; exact bits_or_lt HO.out.sl hltq
                have hSs : s2 < S := by rw [hS]; exact bits_or_gt hbq2
                have hSk : bits S q = true := by rw [hS, bits_or]; unfold useC; rw [if_pos rfl]
                have o1 : Go.bits BinOp.or IntKind.i64 (s2 : Int) (Q : Int) = (S : Int) := by rw [bit_or s2 Q (by omega) (by omega), hS, hQ]
                obtain ⟨M, hM⟩ : ∃ M, M = S * n := ⟨_, rfl⟩
                obtain ⟨I, hI⟩ : ∃ I, I = M + q := ⟨_, rfl⟩
                have hIN : I < N1 := by
                  have h1 : (S + 1) * n ≤ P * n := Nat.mul_le_mul_right n (by omega)
                  rw [Nat.add_mul] at h1
                  have h2 : N1 = P * n := by rw [hN1.out, Nat.mul_comm]
                  omega
                have e1 : (2 : Int) ^ q = (Q : Int) := by rw [hQ]; simp
                have e2 : (S : Int) * (n : Int) = (M : Int) := by rw [hM]; simp
                have g1 : IntKind.i64.wrap ((2 : Int) ^ q) = (Q : Int) := by rw [e1]; exact IntWalk.i64_in _ (by omega)
                have g2 : IntKind.i64.wrap ((S : Int) * (n : Int)) = (M : Int) := by rw [e2]; exact IntWalk.i64_in _ (by omega)
                have g3 : IntKind.i64.wrap ((M : Int) + (q : Int)) = (I : Int) := by rw [IntWalk.i64_in _ (by omega)]; omega
                have kT := HTw.out.at' I hIN
                have hTI : T I = (r q).1 := by
                  rw [hI, hM, HOK.out S q (by omega) (by rw [← hP.out]; exact hSP) hltq hSk, hS, rest_behind hltq hbq2, HR.out]
                rw [hTI] at kT
                obtain ⟨bf', off', ef, kf0⟩ := HF.out.int (i := q) (by rw [HG.out.fl]; exact hltq)
                cases ef
                have kf := keepCell HBw.out kf0
                rw [at0_eq] at kf
                have hbd := HBD.out q hltq hbq2
                obtain ⟨C, hC⟩ : ∃ C, C = c q := ⟨_, rfl⟩
                obtain ⟨R, hR⟩ : ∃ R, R = (r q).1 := ⟨_, rfl⟩
                have HC : Hid (C = cst first W (lastV xs k) q) := by show _ = _; rw [hC, HCC.out]
                have HS : Hid (stpTo (bits s2) X (q + 1) = if A1 < 0 ∨ C + R < A2 then ((q : Int), C + R) else (A1, A2)) := by
                  have e5 : X q = C + R := by rw [HXX.out, hC, hR]
                  show _ = _
                  simp only [stpTo]
                  rw [if_neg hbq, ← hA1, ← hA2, e5]
                  split
                  · rfl
                  · rw [hA1, hA2]
                rw [← hC, ← hR] at hbd
                rw [← hR] at kT
                have g4 : IntKind.i64.wrap (C + R) = C + R := IntWalk.i64_in _ (by omega)
                have i2 : (q : Int) < (n : Int) := by omega
                have i3 : (I : Int) < (N1 : Int) := by omega
                clear hA1 hA2 hbq hbq2 hQ hS hSs hSk hM hI e1 e2 hTI hC hR kf0
                rcases HO.out.lo with ⟨hk0, hl⟩ | ⟨hk0, i, hi, hl⟩
                · have e0 : at0 first q = C := by rw [HC.out, hl]; unfold cst; rw [if_pos (by decide)]
                  rw [e0] at kf
                  have tk1 : decide ((0 : Int) < (k : Int)) = false := decide_eq_false (by omega)
                  have tk2 : decide (0 < k) = false := decide_eq_false (by omega)
                  have tk3 : ¬ 0 < k := by omega
                  clear e0 hk0 hl
                  by_cases hA0 : A1 < 0
                  · skip
                    have HN : Hid (stpTo (bits s2) X (q + 1) = ((q : Int), C + R)) := by show _ = _; rw [HS.out, if_pos (.inl hA0)]
                    go_wp2
                    go_roundw
                    case rel => exact ⟨q + 1, by omega, by go_num, by rw [HN.out], by rw [HN.out], trivial⟩
                    case measure => simp [intOf]; omega
                  · by_cases hl2 : C + R < A2
                    · skip
                      have HN : Hid (stpTo (bits s2) X (q + 1) = ((q : Int), C + R)) := by show _ = _; rw [HS.out, if_pos (.inr hl2)]
                      go_wp2
                      go_roundw
                      case rel => exact ⟨q + 1, by omega, by go_num, by rw [HN.out], by rw [HN.out], trivial⟩
                      case measure => simp [intOf]; omega
                    · skip
                      have HN : Hid (stpTo (bits s2) X (q + 1) = (A1, A2)) := by show _ = _; rw [HS.out, if_neg (by omega)]
                      go_wp2
                      go_roundw
                      case rel => exact ⟨q + 1, by omega, by go_num, by rw [HN.out], by rw [HN.out], trivial⟩
                      case measure => simp [intOf]; omega
                · obtain ⟨bk, offk, capk, kc1, kc2, _⟩ := costCell2 HX.out HG.out.g HBw.out (r := i) (q := q) (by rw [HG.out.wl]; exact hi) hltq
                  have e0 : cOf W (i + 1) (q + 1) = C := by rw [HC.out, hl]; unfold cst; rw [if_neg (by omega)]; simp
                  rw [e0] at kc2
                  obtain ⟨k1, hk1⟩ : ∃ k1, k = k1 + 1 := ⟨k - 1, by omega⟩
                  obtain ⟨bv, offv, rfl, kv⟩ := HFV.out.int (i := k1) (by rw [HO.out.len]; omega)
                  have e1 : xs[k1]'(by rw [HO.out.len]; omega) = (i : Int) := by rw [at0_eq]; unfold lastV at hl; rw [if_neg (by omega)] at hl; rw [← hl, hk1]; rfl
                  rw [e1] at kv
                  have gk : IntKind.i64.wrap ((k : Int) - 1) = (k1 : Int) := by rw [IntWalk.i64_in _ (by omega)]; omega
                  have tk1 : decide ((0 : Int) < (k : Int)) = true := decide_eq_true (by omega)
                  have tk2 : decide (0 < k) = true := decide_eq_true (by omega)
                  have ik1 : (k1 : Int) < (k : Int) := by omega
                  have ii : (i : Int) < (n : Int) := by omega
                  have HK1 := Lib.hid hk1
                  generalize at0 first q = F0 at *
                  clear e0 e1 hl hk1
                  by_cases hA0 : A1 < 0
                  · skip
                    have HN : Hid (stpTo (bits s2) X (q + 1) = ((q : Int), C + R)) := by show _ = _; rw [HS.out, if_pos (.inl hA0)]
                    go_wp2
                    go_roundw
                    case rel => exact ⟨q + 1, by omega, by go_num, by rw [HN.out], by rw [HN.out], trivial⟩
                    case measure => simp [intOf]; omega
                  · by_cases hl2 : C + R < A2
                    · skip
                      have HN : Hid (stpTo (bits s2) X (q + 1) = ((q : Int), C + R)) := by show _ = _; rw [HS.out, if_pos (.inr hl2)]
                      go_wp2
                      go_roundw
                      case rel => exact ⟨q + 1, by omega, by go_num, by rw [HN.out], by rw [HN.out], trivial⟩
                      case measure => simp [intOf]; omega
                    · skip
                      have HN : Hid (stpTo (bits s2) X (q + 1) = (A1, A2)) := by show _ = _; rw [HS.out, if_neg (by omega)]
                      go_wp2
                      go_roundw
                      case rel => exact ⟨q + 1, by omega, by go_num, by rw [HN.out], by rw [HN.out], trivial⟩
                      case measure => simp [intOf]; omega
            · obtain rfl : n = q := by omega
              have hspec := stpTo_spec (used := bits s2) (c := c) (r := r) (x := X) (q := n) (fun j _ _ => by rw [HXX.out]) (fun j hj hb => by have := HBD.out j hj hb; rw [HXX.out]; show 0 ≤ c j + (r j).1; omega)
              have hfr := HO.out.fr
              rcases hspec with ⟨_, _, hall⟩ | ⟨j, hj, hbj, hst, hws⟩
              · exfalso
                obtain ⟨j, h1, h2⟩ := freeN_pos (used := bits s2) (q := n) (by omega)
                have := hall j h1
                rw [h2] at this; cases this
              · have hA1' : A1 = (j : Int) := by rw [hA1, hst]
                have hA2' : A2 = X j := by rw [hA2, hst]
                rw [hA1']
                obtain ⟨hnx, htot⟩ := HO.out.next hltk hj hbj (y := X j) (by rw [← HCC.out, ← HR.out]; exact hws)
                obtain ⟨Q, hQ⟩ : ∃ Q, Q = 2 ^ j := ⟨_, rfl⟩
                have hQb : Q ≤ 4096 := by rw [hQ]; have := Nat.pow_le_pow_right (n := 2) (by omega) (show j ≤ 12 by omega); omega
                obtain ⟨S, hS⟩ : ∃ S, S = s2 ||| 2 ^ j := ⟨_, rfl⟩
                have o1 : Go.bits BinOp.or IntKind.i64 (s2 : Int) (Q : Int) = (S : Int) := by rw [bit_or s2 Q (by omega) (by omega), hS, hQ]
                have e1 : (2 : Int) ^ j = (Q : Int) := by rw [hQ]; simp
                have g1 : IntKind.i64.wrap ((2 : Int) ^ j) = (Q : Int) := by rw [e1]; exact IntWalk.i64_in _ (by omega)
                rw [← hS] at hnx
                have HNX := Lib.hid hnx
                have HTOT : Hid (k = 0 → A2 = X0) := fun e => by rw [hA2', htot e, HX0.out]
                have hown := HW.out.2.2
                have HBO := Lib.hid HW.out.2.1
                have hlen := HO.out.len
                have HSZ : Hid (w7.heap.size ≤ wo.heap.size) := HW.out.2.1.size
                clear hA1 hA2 hA1' hA2' hst hws hbj hnx htot hQ hS e1 hfr
                by_cases hk0 : k = 0
                · have tk : ((k : Int) == 0) = true := by simp; omega
                  have HT1 : Hid (totV (k + 1) X0 = A2) := by show _ = _; unfold totV; rw [if_neg (by omega), HTOT.out hk0]
                  clear hk0
                  go_wp2
                  go_region_law (first | (refine step_app1L (by rfl) (.tmp 155) (.tmp 157) 25 (by rfl) elemInt Try.underlying25 w7.heap.size _ xs encInt (by rfl) (hown.alloc (.cells #[.int .i64 (j : Int)] 3)) (j : Int) ⟨wo.heap.size, 0, none⟩ 1 (by rfl) (by rfl) (World.news_of_block (cs := #[.int .i64 (j : Int)]) (t := 3) (fr := (0, 0)) (heap_alloc_new wo _)) (by simp [encInt, Value.oneCell']) (by omega) (by unfold maxLen; omega) (by have := HSZ.out; simp; omega) ?_; intro g5 cap5 w5 hown5 hg5 hat5) | fail)
                  all_goals
                    have HB5 : Hid (Below w7.heap.size w7 w5) := (by first | exact (hown.alloc _).grown (balloc HBO.out _) (Nat.le_refl _) hg5 | exact (hown.drew.alloc _).grown (balloc HBO.out.drew _) (Nat.le_refl _) hg5 | exact (hown.alloc _).drew.grown (balloc HBO.out _).drew (Nat.le_refl _) hg5)
                    rw [HO.out.len] at hown5
                    have HO5 := Lib.hid hown5
                    clear hown5 hg5 hat5
                    go_simp
                    go_wp2
                    go_roundw
                    case rel => exact ⟨k + 1, S, some ⟨g5, 0, none⟩, cap5, xs ++ [(j : Int)], by first | rfl | rw [HO.out.len], by rw [HT1.out], rfl, Lib.hid ⟨HNX.out, by first | exact HB5.out | exact HB5.out.drew, by first | exact HO5.out | exact HO5.out.drew⟩⟩
                    case measure => simp [lenOf]; omega
                · have tk : ((k : Int) == 0) = false := by simp; omega
                  have HT1 : Hid (totV (k + 1) X0 = totV k X0) := by show _ = _; unfold totV; rw [if_neg (by omega), if_neg hk0]
                  clear hk0
                  go_wp2
                  go_region_law (first | (refine step_app1L (by rfl) (.tmp 155) (.tmp 157) 25 (by rfl) elemInt Try.underlying25 w7.heap.size _ xs encInt (by rfl) (hown.alloc (.cells #[.int .i64 (j : Int)] 3)) (j : Int) ⟨wo.heap.size, 0, none⟩ 1 (by rfl) (by rfl) (World.news_of_block (cs := #[.int .i64 (j : Int)]) (t := 3) (fr := (0, 0)) (heap_alloc_new wo _)) (by simp [encInt, Value.oneCell']) (by omega) (by unfold maxLen; omega) (by have := HSZ.out; simp; omega) ?_; intro g5 cap5 w5 hown5 hg5 hat5) | fail)
                  all_goals
                    have HB5 : Hid (Below w7.heap.size w7 w5) := (by first | exact (hown.alloc _).grown (balloc HBO.out _) (Nat.le_refl _) hg5 | exact (hown.drew.alloc _).grown (balloc HBO.out.drew _) (Nat.le_refl _) hg5 | exact (hown.alloc _).drew.grown (balloc HBO.out _).drew (Nat.le_refl _) hg5)
                    rw [HO.out.len] at hown5
                    have HO5 := Lib.hid hown5
                    clear hown5 hg5 hat5
                    go_simp
                    go_wp2
                    go_roundw
                    case rel => exact ⟨k + 1, S, some ⟨g5, 0, none⟩, cap5, xs ++ [(j : Int)], by first | rfl | rw [HO.out.len], by rw [HT1.out], rfl, Lib.hid ⟨HNX.out, by first | exact HB5.out | exact HB5.out.drew, by first | exact HO5.out | exact HO5.out.drew⟩⟩
                    case measure => simp [lenOf]; omega
        · obtain rfl : n = k := by omega
          have HD := Lib.hid HO.out.done
          have eT : totV n X0 = X0 := by unfold totV; rw [if_neg (by omega)]
          rw [eT]
          have hfv := (HW.out.2.2.flatW HO.out.len)
          obtain ⟨ov', cv', e9, hfx⟩ := hfv
          cases e9
          have HFX := Lib.hid hfx
          have HBF : Hid (Below w.heap.size w wr) := HBW.out.trans (HW.out.2.1.mono (by have := HLT.out; omega))
          clear eT hfx
          go_wp2
          go_returns
          exact ⟨ov, cv, by rw [HX0.out]; rfl, by rw [HD.out]; exact HFX.out, HBF.out⟩
end Go.Proofs.Ytjggcnpnjnmamaa
