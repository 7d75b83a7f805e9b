/-
  The walks of the reference's unletter and jobText. Own text.
-/
import Derived.Test.YtnnnihjagjfkdaaGreatDoorRefT
import Derived.Deep.DeepCutAuto
namespace Go.Proofs.YtnnnihjagjfkdaaGreatDoor
open Go.RowKit
set_option linter.unusedVariables false
section
variable {P : Program} {w : World} {ops : Array Oper} {rest : List Oper} {o : Oper} {a : Act} {Q : Exit → Act → World → Prop}
/-- Bytes that lie in another row are appended. -/
theorem wpList_appB (hgd : o.guard = none) (s x : Operand) (t e : TypeId)
    (ho : o.op = .call { callee := .builtin .append, args := #[s, x], argTypes := #[t, t] })
    (hE : ElemType P e (.int .u8 0) 1 1) (ht : P.underlying t = some (.slice e))
    (base : Nat) (v : Value) (xs : List UInt8) (hs : a.eval s = v) (hown : Own w base e 1 encB v xs) (ys : List UInt8) (n : Nat) (hn : ys.length = n)
    (ad : Addr) (c : Nat) (hx : a.eval x = .slice (some ad) n c) (hnews : ∀ j (h : j < ys.length), w.cell? (ad.add j) = some (.int .u8 (ys[j].toNat : Int)))
    (hpos : 0 < n) (h63 : xs.length + n ≤ 140737488355328) (hbase : base ≤ w.heap.size)
    (h : ∀ g cap w', Own w' base e 1 encB (.slice (some ⟨g, 0, none⟩) (xs.length + n) cap) (xs ++ ys) → w.grownBy w' v.ownBlock → wpList P ops Q rest (a.put o.dst (.slice (some ⟨g, 0, none⟩) (xs.length + n) cap)) w') : wpList P ops Q (o :: rest) a w := by
  obtain ⟨i, hi, hz, hsz, hby, hzs, h0⟩ := hE
  subst hn
  have hfl : ys.flatMap encB = ys.map fun y => Value.int .u8 (y.toNat : Int) := by
    clear hnews hpos h63 h hx
    induction ys with
    | nil => rfl
    | cons y ys ih => rw [List.flatMap_cons, ih]; rfl
  refine wpList_append_lies w hgd s x t ho base e i (.int .u8 0) 1 1 ht hi hz hsz hby hzs h0 v xs.length (xs.flatMap encB) hs hown ad ys.length c (ys.flatMap encB) hx (by rw [hfl]; simp) ?_ ?_ hpos (by unfold maxLen; omega) (by omega) hbase w.heap.size rfl ?_
  · intro j u hu
    rw [hfl, List.getElem?_map] at hu
    obtain ⟨y, hy, rfl⟩ := Option.map_eq_some_iff.1 hu
    obtain ⟨hj, rfl⟩ := List.getElem?_eq_some_iff.1 hy
    exact hnews j hj
  · intro u hu
    rw [hfl] at hu
    obtain ⟨y, _, rfl⟩ := List.mem_map.1 hu
    rfl
  · intro g cap w' hown' hg hat _
    refine h g cap w' ?_ hg
    unfold Own
    rw [List.length_append, List.flatMap_append]
    simpa using hown'
end
/-- What unletter returns. -/
def RetUnl (l : List UInt8) (w : World) (e : Ending) (w' : World) : Prop :=
  ((∃ t, unText l = some t ∧ e = .returned (.tuple #[.string (strB t), .int .i64 0])) ∨ (∃ c, c ≠ 0 ∧ (∀ t, unText l = some t → 256 < t.length) ∧ e = .returned (.tuple #[.string ⟨#[]⟩, .int .i64 c]))) ∧ Below w.heap.size w w'
/-- The state behind k characters: what was read, and that the rest decides. -/
def UnlAt (w wr : World) (L : List UInt8) (k n : Nat) (u : Value) : Prop := ∃ done, BytesAt w wr u done ∧ done.length = n ∧ unText L = (unText (L.drop k)).map (fun t => done ++ t)
theorem UnlAt.bad {w wr : World} {L : List UInt8} {k n : Nat} {u : Value} (h : UnlAt w wr L k n u) (hn : unText (L.drop k) = none) : ∀ t, unText L = some t → 256 < t.length := fun t ht => by
  obtain ⟨d, _, _, e⟩ := h
  rw [hn] at e
  rw [e] at ht
  cases ht
theorem UnlAt.long {w wr : World} {L : List UInt8} {k n : Nat} {u : Value} (h : UnlAt w wr L k n u) (hn : 65536 < n) : ∀ t, unText L = some t → 256 < t.length := fun t ht => by
  obtain ⟨d, _, hd, e⟩ := h
  rw [e] at ht
  obtain ⟨t2, _, rfl⟩ := Option.map_eq_some_iff.1 ht
  rw [List.length_append]
  omega
theorem drop_z {L : List UInt8} {k : Nat} (hk : k < L.length) (h : L.getD k 0 = 122) : unText (L.drop k) = (unText (L.drop (k + 1))).map fun t => [0, 0, 0, 0] ++ t := by
  rw [List.drop_eq_getElem_cons hk]
  have e : L[k] = 122 := by
    rw [List.getD_eq_getElem?_getD, List.getElem?_eq_getElem hk] at h
    exact h
  rw [e, unText_z]
theorem drop_g {L : List UInt8} {k : Nat} (hk : k < L.length) (h : L.getD k 0 ≠ 122) : unText (L.drop k) = match ungV ((L.drop k).take 5) with
    | none => none
    | some b => (unText ((L.drop k).drop 5)).map fun t => b ++ t := by
  refine unText_g (fun e => by have := congrArg List.length e; simp at this; omega) ?_
  rw [List.getD_eq_getElem?_getD, List.getElem?_drop, Nat.add_zero, ← List.getD_eq_getElem?_getD]
  exact h
/-- The four bytes of a number below 256^4 in memory. -/
theorem b8_int (v : Int) : ((b8 v).toNat : Int) = v % 256 := b8_toNat v
set_option maxRecDepth 100000 in
set_option maxHeartbeats 8000000 in
theorem unletter_any (s : ByteArray) (w : World) (hs : s.size ≤ 100000) :
    Calls Tryz.prog 61 #[.string s] w (RetUnl s.data.toList w) := by
  obtain ⟨L, hL⟩ : ∃ L, L = s.data.toList := ⟨_, rfl⟩
  have hLl : L.length = s.size := by rw [hL]; simp
  have HLE := Lib.hid hL
  have HLL := Lib.hid hLl
  have HBS : Hid (∀ k (h : k < s.size), L.getD k 0 = s[k]) := fun k h => by
    rw [hL, List.getD_eq_getElem?_getD, List.getElem?_eq_getElem (by simpa using h)]
    rfl
  rw [← hL]
  clear hL hLl
  have HU0 : Hid (UnlAt w w L 0 0 (.slice none 0 0)) := ⟨[], ⟨Below.refl _ _, Own.nil _ _ _ _ _⟩, rfl, by rw [List.drop_zero]; cases unText L <;> rfl⟩
  go_enter Tryz.func61, Tryz.ntmps61
  go_wp2
  go_loopw [4, 5] (fun u i wr => ∃ (k n : Nat) (oa : Option Addr) (cap : Nat), k ≤ s.size ∧ i = .int .i64 k ∧ u = .slice oa n cap ∧ n ≤ 65536 ∧ Hid (UnlAt w wr L k n (.slice oa n cap))) (fun _ i _ => s.size - (intOf i).toNat)
  case atStart => exact ⟨0, 0, none, 0, by omega, rfl, rfl, by omega, HU0.out⟩
  case round =>
    clear HU0
    obtain ⟨k, n, oa, cap, hk, rfl, rfl, hn, HR⟩ := hrel
    by_cases hlt : k < s.size
    · have kd : (k : Int) < (s.size : Int) := by omega
      have k0 : (0 : Int) ≤ (k : Int) := by omega
      have hcc : (s[k].toNat : Int) < 256 := by have := s[k].toNat_lt; omega
      by_cases hz : s[k] = 122
      · have e1 : ((s[k].toNat : Int) == 122) = true := by rw [hz]; rfl
        obtain ⟨done, hd⟩ := HR.out
        have HD := Lib.hid hd
        have HOW := Lib.hid (hd.1.2.below (balloc (Below.refl _ wr) (.cells #[.int .u8 0, .int .u8 0, .int .u8 0, .int .u8 0] 5)))
        have HSZ : Hid (w.heap.size ≤ (wr.alloc (.cells #[.int .u8 0, .int .u8 0, .int .u8 0, .int .u8 0] 5)).heap.size) := by show _ ≤ _; have h1 := hd.1.1.size; rw [World.size_alloc]; omega
        have HNEW : Hid (∀ j (h : j < ([0, 0, 0, 0] : List UInt8).length), (wr.alloc (.cells #[.int .u8 0, .int .u8 0, .int .u8 0, .int .u8 0] 5)).cell? ((⟨wr.heap.size, 0, none⟩ : Addr).add j) = some (.int .u8 ((([0, 0, 0, 0] : List UInt8)[j]).toNat : Int))) := fun j h => by
          rw [add_none, Nat.zero_add, cell_of_row _ wr.heap.size j _ _ (0, 0) (heap_alloc_new wr _)]
          match j, h with
          | 0, _ => rfl
          | 1, _ => rfl
          | 2, _ => rfl
          | 3, _ => rfl
        have HZ : Hid (unText (L.drop k) = (unText (L.drop (k + 1))).map fun t => [0, 0, 0, 0] ++ t) := drop_z (by rw [HLL.out]; exact hlt) (by rw [HBS.out k hlt, hz])
        clear hd hz HR
        go_wp2_with (at_builtin; refine wpList_appB rfl (.tmp 19) (.tmp 20) 121 5 rfl elemU8 Tryz.underlying121 w.heap.size _ done rfl HOW.out [0, 0, 0, 0] 4 rfl ⟨wr.heap.size, 0, none⟩ 4 rfl HNEW.out (by omega) ?c2 HSZ.out ?_)
        case c2 => rw [HD.out.2.1]; omega
        intro g7 cap7 w7 hown7 hg7
        rw [HD.out.2.1] at hown7
        have HNX : Hid (UnlAt w w7 L (k + 1) (n + 4) (.slice (some ⟨g7, 0, none⟩) (n + 4) cap7)) := by
          refine ⟨done ++ [0, 0, 0, 0], ⟨Below.grown (balloc HD.out.1.1 _) hg7 HSZ.out (fun j e => (HOW.out.blk e).1), hown7⟩, by rw [List.length_append, HD.out.2.1]; rfl, ?_⟩
          rw [HD.out.2.2, HZ.out, Option.map_map]
          congr 1
          funext t
          simp
        rw [HD.out.2.1]
        obtain ⟨m, hm⟩ : ∃ m, m = n + 4 := ⟨_, rfl⟩
        rw [← hm] at HNX
        rw [← hm]
        clear hown7 hg7 HOW HNEW HSZ HZ HD hm hn
        by_cases hbig : 65536 < m
        · have hb : (65536 : Int) < (m : Int) := by omega
          have HF : Hid (RetUnl L w (.returned (.tuple #[.string ⟨#[]⟩, .int .i64 2])) w7) := by
            have h := HNX.out
            obtain ⟨d, hbw, _⟩ := h
            exact ⟨.inr ⟨2, by decide, HNX.out.long hbig, rfl⟩, hbw.1⟩
          go_wp2
          go_ret2
          exact HF.out
        · have hb : ¬ (65536 : Int) < (m : Int) := by omega
          have HMM : Hid (m ≤ 65536) := by show _ ≤ _; omega
          clear hbig
          go_wp2
          go_roundw
          case rel => exact ⟨k + 1, m, _, _, by omega, by go_num, rfl, HMM.out, HNX.out⟩
          case measure => simp [intOf]; omega
      · have e1 : ((s[k].toNat : Int) == 122) = false := by
          rw [beq_eq_false_iff_ne]
          exact fun e => hz (UInt8.toNat_inj.1 (by have : (122 : UInt8).toNat = 122 := rfl; omega))
        have HZ : Hid (unText (L.drop k) = match ungV ((L.drop k).take 5) with | none => none | some b => (unText ((L.drop k).drop 5)).map fun t => b ++ t) := drop_g (by rw [HLL.out]; exact hlt) (by rw [HBS.out k hlt]; exact hz)
        obtain ⟨q, hq⟩ : ∃ q, q = min s.size (k + 5) := ⟨_, rfl⟩
        have hmin : min (s.size : Int) ((k : Int) + 5) = (q : Int) := by omega
        have hkq : (k : Int) ≤ (q : Int) := by omega
        have hqs : (q : Int) ≤ (s.size : Int) := by omega
        obtain ⟨S, hS⟩ : ∃ S, S = s.extract k q := ⟨_, rfl⟩
        have hSz : S.size = q - k := by rw [hS]; exact extractL_size s k q (by omega)
        obtain ⟨G, hG⟩ : ∃ G, G = S.data.toList := ⟨_, rfl⟩
        have hGd : G = (L.drop k).take 5 := by
          rw [hG, hS, extractL, ← HLE.out]
          by_cases h5 : k + 5 ≤ s.size
          · rw [show q - k = 5 by omega]
          · rw [List.take_of_length_le (by rw [List.length_drop, HLL.out]; omega), List.take_of_length_le (by rw [List.length_drop, HLL.out]; omega)]
        have hGl : G.length = S.size := by rw [hG]; simp
        have hS5 : 1 ≤ S.size ∧ S.size ≤ 5 := by omega
        have HKQ : Hid (k + S.size = q ∧ q ≤ s.size) := ⟨by omega, by omega⟩
        have HGS : Hid (∀ j (h : j < S.size), G.getD j 0 = S[j]) := fun j h => by
          rw [hG, List.getD_eq_getElem?_getD, List.getElem?_eq_getElem (by simpa using h)]
          rfl
        have HGL := Lib.hid hGl
        have HGE := Lib.hid hG
        rw [← hGd] at HZ
        have HG5 : Hid ((L.drop k).drop 5 = L.drop (k + S.size)) := by
          show _ = _
          rw [List.drop_drop]
          by_cases h5 : k + 5 ≤ s.size
          · rw [show k + S.size = k + 5 by omega]
          · rw [List.drop_of_length_le (by rw [HLL.out]; omega), List.drop_of_length_le (by rw [HLL.out]; omega)]
        have HSS := Lib.hid hS
        have HB0 : Hid (Below w.heap.size w wr) := by obtain ⟨d, hbw, _⟩ := HR.out; exact hbw.1
        clear hz hq hS hSz hG hGd hGl
        go_upto_region 8 with fail
        rw [← HSS.out]
        go_wp2
        go_loopw [7, 32] (fun v i wx => ∃ j : Nat, j ≤ 5 ∧ i = .int .i64 j ∧ v = .int .i64 (accV G j) ∧ wr = wx ∧ Hid (∀ t, t < G.length → t < j → inDig (G.getD t 0) = true)) (fun _ i _ => 5 - (intOf i).toNat)
        case atStart => exact ⟨0, by omega, rfl, rfl, rfl, fun t h1 h2 => by omega⟩
        case round =>
          obtain ⟨j, hj, rfl, rfl, rfl, HI⟩ := hrel
          by_cases hj5 : j < 5
          · have jd : (j : Int) < 5 := by omega
            have j0 : (0 : Int) ≤ (j : Int) := by omega
            obtain ⟨a0, a1⟩ := accV_lt5 hj5 HI.out
            have hsucc : accV G (j + 1) = accV G j * 85 + dAt G j := rfl
            by_cases hjs : j < S.size
            · have js : (j : Int) < (S.size : Int) := by omega
              have hdt : dAt G j = ((G.getD j 0).toNat : Int) - 33 := dAt_in (by rw [HGL.out]; exact hjs)
              rw [HGS.out j hjs] at hdt
              have hsc : (S[j].toNat : Int) < 256 := by have := S[j].toNat_lt; omega
              by_cases hin : inDig S[j] = true
              · have h2 := inDig_yes hin
                have HNX : Hid (accV G (j + 1) = accV G j * 85 + ((S[j].toNat : Int) - 33)) := by show _ = _; rw [hsucc, hdt]
                have HNI : Hid (∀ t, t < G.length → t < j + 1 → inDig (G.getD t 0) = true) := fun t h3 h4 => by
                  by_cases e : t = j
                  · rw [e, HGS.out j hjs]; exact hin
                  · exact HI.out t h3 (by omega)
                have d0 : ¬ (S[j].toNat : Int) - 33 < 0 := by omega
                have d1 : ¬ (84 : Int) < (S[j].toNat : Int) - 33 := by omega
                obtain ⟨x, hx⟩ : ∃ x, x = accV G j := ⟨_, rfl⟩
                rw [← hx] at a0 a1 HNX
                rw [← hx]
                have g1 : IntKind.i64.wrap (x * 85) = x * 85 := IntWalk.i64_in _ (by omega)
                clear hsucc hdt hx hin
                go_wp2
                go_roundw
                case rel => exact ⟨j + 1, by omega, by go_num, by rw [HNX.out], by first | rfl | trivial, HNI.out⟩
                case measure => simp [intOf]; omega
              · have hin2 : inDig (G.getD j 0) = false := by rw [HGS.out j hjs]; simpa using hin
                have hbad := ungV_bad (l := G) (k := j) (by rw [HGL.out]; exact hjs) hin2
                have HF : Hid (RetUnl L w (.returned (.tuple #[.string ⟨#[]⟩, .int .i64 5])) wr) := ⟨.inr ⟨5, by decide, HR.out.bad (by rw [HZ.out, hbad]), rfl⟩, HB0.out⟩
                have hd : (S[j].toNat : Int) - 33 < 0 ∨ ¬ (S[j].toNat : Int) - 33 < 0 ∧ (84 : Int) < (S[j].toNat : Int) - 33 := by
                  unfold inDig at hin
                  rw [Bool.and_eq_true, decide_eq_true_eq, decide_eq_true_eq] at hin
                  omega
                clear hsucc hdt hin hin2 hbad
                rcases hd with hd | ⟨hd1, hd2⟩
                · go_wp2
                  go_ret2
                  exact HF.out
                · go_wp2
                  go_ret2
                  exact HF.out
            · have js : ¬ (j : Int) < (S.size : Int) := by omega
              have hdt : dAt G j = 84 := dAt_out (by rw [HGL.out]; exact hjs)
              have HNX : Hid (accV G (j + 1) = accV G j * 85 + 84) := by show _ = _; rw [hsucc, hdt]
              have HNI : Hid (∀ t, t < G.length → t < j + 1 → inDig (G.getD t 0) = true) := fun t h3 h4 => by
                by_cases e : t = j
                · rw [e, HGL.out] at h3; exact absurd h3 hjs
                · exact HI.out t h3 (by omega)
              obtain ⟨x, hx⟩ : ∃ x, x = accV G j := ⟨_, rfl⟩
              rw [← hx] at a0 a1 HNX
              rw [← hx]
              have g1 : IntKind.i64.wrap (x * 85) = x * 85 := IntWalk.i64_in _ (by omega)
              clear hsucc hdt hx
              go_wp2
              go_roundw
              case rel => exact ⟨j + 1, by omega, by go_num, by rw [HNX.out], by first | rfl | trivial, HNI.out⟩
              case measure => simp [intOf]; omega
          · obtain rfl : j = 5 := by omega
            rw [show ((5 : Nat) : Int) = 5 from rfl]
            obtain ⟨v0, v1⟩ := accV_bd (l := G) HI.out 5 (by omega)
            simp only [p85] at v1
            have hall : G.all inDig = true := by
              rw [List.all_eq_true]
              intro x hx
              obtain ⟨t, ht, rfl⟩ := List.getElem_of_mem hx
              have h := HI.out t ht (by rw [HGL.out] at ht; omega)
              rw [List.getD_eq_getElem?_getD, List.getElem?_eq_getElem ht] at h
              exact h
            have HUG : Hid (ungV G = if G.all inDig = true ∧ G.length ≠ 1 ∧ accV G 5 < 4294967296 ∧ groupV ((by4 (accV G 5)).take (G.length - 1)) = G then some ((by4 (accV G 5)).take (G.length - 1)) else none) := rfl
            obtain ⟨V, hV⟩ : ∃ V, V = accV G 5 := ⟨_, rfl⟩
            rw [← hV] at v0 v1 HUG
            rw [← hV]
            have HAL := Lib.hid hall
            clear hV hall
            have hbad : ungV G = none → ∀ c, c ≠ 0 → RetUnl L w (.returned (.tuple #[.string ⟨#[]⟩, .int .i64 c])) wr := fun h c hc => ⟨.inr ⟨c, hc, HR.out.bad (by rw [HZ.out, h]), rfl⟩, HB0.out⟩
            have HBAD := Lib.hid hbad
            clear hbad
            by_cases hs1 : S.size = 1
            · have e2 : ((S.size : Int) == 1) = true := by rw [beq_iff_eq]; omega
              have HF := Lib.hid (HBAD.out (by rw [HUG.out, if_neg (fun h => h.2.1 (by rw [HGL.out]; exact hs1))]) 12 (by decide))
              clear hs1
              go_wp2
              go_ret2
              exact HF.out
            · have e2 : ((S.size : Int) == 1) = false := by rw [beq_eq_false_iff_ne]; omega
              by_cases hv : 4294967296 ≤ V
              · have HF := Lib.hid (HBAD.out (by rw [HUG.out, if_neg (fun h => by have := h.2.2.1; omega)]) 3 (by decide))
                go_wp2
                go_ret2
                exact HF.out
              · have hv2 : V < 4294967296 := by omega
                have q0 : 0 ≤ V / 16777216 ∧ V / 16777216 < 256 := by omega
                obtain ⟨m, hm⟩ : ∃ m, m = S.size - 1 := ⟨_, rfl⟩
                have hm1 : 1 ≤ m ∧ m ≤ 4 := by omega
                have em : (S.size : Int) - 1 = (m : Int) := by omega
                have m0 : (0 : Int) ≤ (m : Int) := by omega
                have m4 : (m : Int) ≤ 4 := by omega
                have mS : m + 1 = S.size := by omega
                obtain ⟨T, hT⟩ : ∃ T, T = (by4 V).take m := ⟨_, rfl⟩
                have hTl : T.length = m := by rw [hT, List.length_take]; show min m 4 = m; omega
                have HUG2 : Hid (ungV G = if groupV T = G then some T else none) := by
                  show _ = _
                  rw [HUG.out, HGL.out, ← hm, ← hT]
                  by_cases hg : groupV T = G
                  · rw [if_pos hg, if_pos ⟨HAL.out, hs1, hv2, hg⟩]
                  · rw [if_neg hg, if_neg (fun h => hg h.2.2.2)]
                obtain ⟨W1, hW1⟩ : ∃ W1, W1 = wr.alloc (.cells #[.int .u8 (V / 16777216), .int .u8 (V / 65536 % 256), .int .u8 (V / 256 % 256), .int .u8 (V % 256)] 5) := ⟨_, rfl⟩
                have hb1 : Below wr.heap.size wr W1 := by rw [hW1]; exact balloc (Below.refl _ wr) _
                have hcell : ∀ j (h : j < T.length), W1.cell? ⟨wr.heap.size, j, none⟩ = some (.int .u8 (T[j].toNat : Int)) := fun j h => by
                  have hj4 : j < 4 := by omega
                  have e : T[j] = (by4 V)[j]'(by show j < 4; omega) := by simp only [hT, List.getElem_take]
                  rw [e, hW1, cell_of_row _ wr.heap.size j _ _ (0, 0) (heap_alloc_new wr _)]
                  match j, hj4 with
                  | 0, _ => show some (Value.int .u8 (V / 16777216)) = some (Value.int .u8 ((b8 (V / 16777216)).toNat : Int)); rw [b8_toNat]; congr 2; omega
                  | 1, _ => show some (Value.int .u8 (V / 65536 % 256)) = some (Value.int .u8 ((b8 (V / 65536)).toNat : Int)); rw [b8_toNat]
                  | 2, _ => show some (Value.int .u8 (V / 256 % 256)) = some (Value.int .u8 ((b8 (V / 256)).toNat : Int)); rw [b8_toNat]
                  | 3, _ => show some (Value.int .u8 (V % 256)) = some (Value.int .u8 ((b8 V).toNat : Int)); rw [b8_toNat]
                have hcv : (convert 121 9 (.slice (some ⟨wr.heap.size, 0, none⟩) m 4)).run Tryz.prog W1 = .ok (.string (strB T)) W1 := by
                  have h := run_convert_bytes_back (P := Tryz.prog) W1 121 9 5 ⟨wr.heap.size, 0, none⟩ 4 T Tryz.underlying121 Tryz.underlying5 Tryz.underlying9 (fun j hj => by rw [add_none, Nat.zero_add]; exact hcell j hj)
                  rw [hTl] at h
                  exact h
                have HLT := Lib.hid (lettered_any (strB T) W1 (by rw [strB_size]; omega) (by rw [strB_size]; omega))
                have HB1 := Lib.hid hb1
                have HCE := Lib.hid hcell
                have HTL := Lib.hid hTl
                have HMS := Lib.hid mS
                have HW1 := Lib.hid hW1
                clear hm hT hTl hs1 hv hb1 hcell mS HUG HAL hW1
                go_upto_region 24 with fail
                rw [← HW1.out]
                clear hv2 q0 v0 v1
                obtain ⟨R, hR⟩ : ∃ R, R = strB (groupV T) := ⟨_, rfl⟩
                have HLT2 : Hid (Calls Tryz.prog 79 #[.string (strB T)] W1 (fun e w' => e = .returned (.string R) ∧ Below W1.heap.size W1 w')) := by
                  show Calls _ _ _ _ _
                  rw [hR]
                  exact HLT.out
                have HRE := Lib.hid hR
                clear hR HLT
                by_cases hg : groupV T = G
                · have hRS : R = S := by
                    rw [HRE.out, hg, HGE.out, strB_eq]
                  have f1 : (R.toList == S.toList) = true := by rw [hRS, beq_iff_eq]
                  have HG := Lib.hid hg
                  clear hg hRS
                  go_wp2_with fail
                  refine HLT2.out.mono ?_
                  rintro e w2 ⟨rfl, hb2⟩
                  have HB2 := Lib.hid (bthen HB1.out hb2)
                  obtain ⟨done, hd⟩ := HR.out
                  have HD := Lib.hid hd
                  have HOW := Lib.hid (hd.1.2.below HB2.out)
                  have HSZ : Hid (w.heap.size ≤ w2.heap.size) := Nat.le_trans hd.1.1.size HB2.out.size
                  have HNEW : Hid (∀ j (h : j < T.length), w2.cell? ((⟨wr.heap.size, 0, none⟩ : Addr).add j) = some (.int .u8 (T[j].toNat : Int))) := fun j h => by
                    rw [add_none, Nat.zero_add]
                    exact keepCell hb2 (HCE.out j h)
                  clear hd hb2
                  go_wp2_with (at_builtin; refine wpList_appB rfl (.tmp 84) (.tmp 89) 121 5 rfl elemU8 Tryz.underlying121 w.heap.size _ done rfl HOW.out T m HTL.out ⟨wr.heap.size, 0, none⟩ 4 rfl HNEW.out (by omega) ?c2 HSZ.out ?_)
                  case c2 => rw [HD.out.2.1]; omega
                  intro g7 cap7 w7 hown7 hg7
                  rw [HD.out.2.1] at hown7
                  have HNX : Hid (UnlAt w w7 L (k + S.size) (n + m) (.slice (some ⟨g7, 0, none⟩) (n + m) cap7)) := by
                    refine ⟨done ++ T, ⟨Below.grown (bthen HB0.out HB2.out) hg7 HSZ.out (fun j e => (HOW.out.blk e).1), hown7⟩, by rw [List.length_append, HD.out.2.1, HTL.out], ?_⟩
                    rw [HD.out.2.2, HZ.out, HUG2.out, if_pos HG.out, HG5.out]
                    show Option.map _ (Option.map _ _) = _
                    rw [Option.map_map]
                    congr 1
                    funext t
                    simp
                  rw [HD.out.2.1]
                  obtain ⟨m9, hm9⟩ : ∃ m9, m9 = n + m := ⟨_, rfl⟩
                  rw [← hm9] at HNX
                  rw [← hm9]
                  have hkS : k + S.size ≤ s.size := by have := HKQ.out; omega
                  clear hown7 hg7 HOW HNEW HSZ HZ HD hm9 hn hm1 em m0 m4
                  by_cases hbig : 65536 < m9
                  · have hb : (65536 : Int) < (m9 : Int) := by omega
                    have HF : Hid (RetUnl L w (.returned (.tuple #[.string ⟨#[]⟩, .int .i64 2])) w7) := by
                      have h := HNX.out
                      obtain ⟨d, hbw, _⟩ := h
                      exact ⟨.inr ⟨2, by decide, HNX.out.long hbig, rfl⟩, hbw.1⟩
                    go_wp2
                    go_ret2
                    exact HF.out
                  · have hb : ¬ (65536 : Int) < (m9 : Int) := by omega
                    have HMM : Hid (m9 ≤ 65536) := by show _ ≤ _; omega
                    clear hbig
                    go_wp2
                    go_roundw
                    case rel => exact ⟨k + S.size, m9, _, _, hkS, by go_num, rfl, HMM.out, HNX.out⟩
                    case measure => simp [intOf]; omega
                · have hRS : R ≠ S := fun e => hg (by
                    have h := congrArg (fun z : ByteArray => z.data.toList) (HRE.out.symm.trans e)
                    rw [HGE.out]
                    exact h)
                  have f1 : (R.toList == S.toList) = false := by
                    rw [beq_eq_false_iff_ne]
                    exact fun e => hRS (toList_inj.1 e)
                  have HF : Hid (∀ W, Below wr.heap.size wr W → RetUnl L w (.returned (.tuple #[.string ⟨#[]⟩, .int .i64 4])) W) := fun W hb => by
                    have h := HBAD.out (by rw [HUG2.out, if_neg hg]) 4 (by decide)
                    exact ⟨h.1, bthen HB0.out hb⟩
                  clear hg hRS
                  go_wp2_with fail
                  refine HLT2.out.mono ?_
                  rintro e w2 ⟨rfl, hb2⟩
                  have HB2 := Lib.hid (bthen HB1.out hb2)
                  have HF2 := Lib.hid (HF.out w2 HB2.out)
                  clear hb2
                  go_wp2
                  go_ret2
                  exact HF2.out
    · obtain rfl : s.size = k := by omega
      obtain ⟨done, hd⟩ := HR.out
      have hcv := conv_own hd.1.2
      have HF : Hid (RetUnl L w (.returned (.tuple #[.string (strB done), .int .i64 0])) wr) := by
        refine ⟨.inl ⟨done, ?_, rfl⟩, hd.1.1⟩
        rw [hd.2.2, List.drop_of_length_le (by rw [HLL.out]; exact Nat.le_refl _), unText_nil]
        simp
      clear hd
      go_wp2
      go_ret2
      exact HF.out
end Go.Proofs.YtnnnihjagjfkdaaGreatDoor
