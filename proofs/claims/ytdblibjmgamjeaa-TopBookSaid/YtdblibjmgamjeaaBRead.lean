/-
  bind.Read, plain, and its walks. Printed by gen_bread.py. Own text.
-/
import Derived.Test.YtdblibjmgamjeaaBinds
import Derived.Test.YtdblibjmgamjeaaConcatI
namespace Go.Proofs.Ytdblibjmgamjeaa
open Go.RowKit
set_option linter.unusedVariables false
def secAt (ys : List (List Int)) (k : Nat) : List Int := ys.getD k []
def stackV (ys : List (List Int)) (ks : List Nat) : List Int := (ks.map (secAt ys)).flatten
def headsV (ys : List (List Int)) (ks : List Nat) : List Int := (ks.map fun k => (secAt ys k).take ((secAt ys k).length / 2)).flatten
def tailsV (ys : List (List Int)) (ks : List Nat) : List Int := (ks.reverse.map fun k => (secAt ys k).drop ((secAt ys k).length / 2)).flatten
def readV (nest : Bool) (ys : List (List Int)) (ks : List Nat) : List Int := if nest then headsV ys ks ++ tailsV ys ks else stackV ys ks
theorem flat_len {f : Nat → List Int} {m : Nat} (h : ∀ k, (f k).length ≤ m) : ∀ ks : List Nat, ((ks.map f).flatten).length ≤ m * ks.length
  | [] => by simp
  | k :: ks => by
    have h1 := flat_len h ks
    have h2 := h k
    simp only [List.map_cons, List.flatten_cons, List.length_append, List.length_cons, Nat.mul_add, Nat.mul_one]
    omega
theorem stackV_snoc (ys : List (List Int)) (ks : List Nat) (k : Nat) : stackV ys (ks ++ [k]) = stackV ys ks ++ secAt ys k := by
  unfold stackV
  rw [List.map_append, List.flatten_append]; simp
theorem headsV_snoc (ys : List (List Int)) (ks : List Nat) (k : Nat) : headsV ys (ks ++ [k]) = headsV ys ks ++ (secAt ys k).take ((secAt ys k).length / 2) := by
  unfold headsV
  rw [List.map_append, List.flatten_append]; simp
theorem tailsV_snoc (ys : List (List Int)) (ks : List Nat) (k : Nat) : tailsV ys (ks ++ [k]) = (secAt ys k).drop ((secAt ys k).length / 2) ++ tailsV ys ks := by
  unfold tailsV
  rw [List.reverse_append]; simp
/-- A section in memory, with room for what it holds. -/
def SecC (w : World) (v : Value) (xs : List Int) : Prop := IsSlice w 1 encInt v xs ∧ ∃ o c, v = .slice o xs.length c ∧ xs.length ≤ c
theorem stabC : Stab SecC blkV := ⟨fun ⟨h1, h2⟩ hb => ⟨(stab_slice 1 encInt).keep h1 hb, h2⟩⟩
abbrev SecW (w : World) (oa : Option Addr) (us : List Value) (ys : List (List Int)) : Prop := RowsV encV blkV SecC 1 w oa us ys
theorem SecW.get {w : World} {oa : Option Addr} {us : List Value} {ys : List (List Int)} (h : SecW w oa us ys) {i : Nat} (hi : i < ys.length) : ∃ b off o c, oa = some ⟨b, off, none⟩ ∧ w.cell? ⟨b, off + i, none⟩ = some (.slice o ys[i].length c) ∧ IsSlice w 1 encInt (.slice o ys[i].length c) ys[i] ∧ ys[i].length ≤ c := by
  have hi' : i < us.length := by rw [h.len]; exact hi
  have hr := h.row i hi' hi
  obtain ⟨v0, h0, b, off, e0, c0⟩ := h.flat i hi' 0 (by omega)
  simp only [encV, List.getElem?_cons_zero, Option.some.injEq] at h0
  obtain ⟨hr1, o, c, e, hle⟩ := hr
  rw [← h0, e] at c0
  rw [e] at hr1
  exact ⟨b, off, o, c, e0, by simpa using c0, hr1, hle⟩
theorem IsSlice.part {w : World} {b off n c : Nat} {xs : List Int} (h : IsSlice w 1 encInt (.slice (some ⟨b, off, none⟩) n c) xs) (k : Nat) (hk : k ≤ xs.length) (c1 c2 : Nat) :
    IsSlice w 1 encInt (.slice (some ⟨b, off, none⟩) k c1) (xs.take k) ∧ IsSlice w 1 encInt (.slice (some ⟨b, off + k, none⟩) (xs.length - k) c2) (xs.drop k) := by
  obtain ⟨oa, cap, e, -, hm, hf⟩ := h
  simp only [Value.slice.injEq] at e
  obtain ⟨rfl, hn, -⟩ := e
  refine ⟨⟨_, c1, by rw [List.length_take, Nat.min_eq_left hk], fun e => (by cases e), by rw [List.length_take]; omega, fun i hi j hj => ?_⟩, ⟨_, c2, by rw [List.length_drop], fun e => (by cases e), by rw [List.length_drop]; omega, fun i hi j hj => ?_⟩⟩
  · rw [List.length_take] at hi
    obtain ⟨v, hv, b', off', e, hc⟩ := hf i (by omega) j hj
    refine ⟨v, ?_, b', off', e, hc⟩
    rw [List.getElem_take]; exact hv
  · rw [List.length_drop] at hi
    obtain ⟨v, hv, b', off', e, hc⟩ := hf (k + i) (by omega) j hj
    simp only [Option.some.injEq, Addr.mk.injEq, and_true] at e
    obtain ⟨rfl, rfl⟩ := e
    refine ⟨v, ?_, b, off + k, rfl, ?_⟩
    · rw [List.getElem_drop]; exact hv
    · rw [show off + k + (i * 1 + j) = off + ((k + i) * 1 + j) by omega]; exact hc
theorem IsSlice.form {w : World} {v : Value} {xs : List Int} (h : IsSlice w 1 encInt v xs) : ∃ o c, v = .slice o xs.length c := by
  obtain ⟨o, c, e, -⟩ := h
  exact ⟨o, c, e⟩
def RetRead (xs : List Int) (w : World) (e : Ending) (w' : World) : Prop := ∃ o c, e = .returned (.tuple #[.slice o xs.length c, .int .i64 0]) ∧ IsSlice w' 1 encInt (.slice o xs.length c) xs ∧ Below w.heap.size w w'
set_option maxRecDepth 100000 in
set_option maxHeartbeats 16000000 in
theorem bread0_any (ys : List (List Int)) (ks : List Nat) (hl : ys.length ≤ 64) (hk : ks.length ≤ 64) (hin : ∀ k ∈ ks, k < ys.length) (hs : ∀ s ∈ ys, 2 ≤ s.length ∧ s.length ≤ 64 ∧ s.length % 2 = 0) (oa ob : Option Addr) (ca cb : Nat) (us : List Value) (w : World)
    (ha : SecW w oa us ys) (hb : IsSlice w 1 encInt (.slice ob ks.length cb) (ks.map fun (k : Nat) => (k : Int))) :
    Calls Try.prog 17 #[.slice oa ys.length ca, .slice ob ks.length cb, .int .i64 0] w (RetRead (readV false ys ks) w) := by
  have HSL : Hid (∀ k, (secAt ys k).length ≤ 64) := fun k => by
    unfold secAt
    rw [List.getD_eq_getElem?_getD]
    by_cases h : k < ys.length
    · rw [List.getElem?_eq_getElem h]; exact (hs _ (List.getElem_mem h)).2.1
    · rw [List.getElem?_eq_none (by omega)]; simp
  have HSA : Hid (∀ k (h : k < ys.length), secAt ys k = ys[k]) := fun k h => by
    unfold secAt
    rw [List.getD_eq_getElem?_getD, List.getElem?_eq_getElem h]; rfl
  have HA := Lib.hid ha
  have HBK := Lib.hid hb
  have HS := Lib.hid hs
  have HI := Lib.hid hin
  obtain ⟨n, hn⟩ : ∃ n, n = ys.length := ⟨_, rfl⟩
  obtain ⟨nk, hnk⟩ : ∃ n, n = ks.length := ⟨_, rfl⟩
  have HN := Lib.hid hn
  have HNK := Lib.hid hnk
  rw [← hn] at hl ⊢
  rw [← hnk] at hk ⊢
  clear ha hb hs hin hn hnk
  go_enter Try.func17, Try.ntmps17
  go_wp2_with fail
  go_loop [25] (fun i => ∃ k : Nat, k ≤ n ∧ i = .int .i64 k) (fun i => n - (intOf i).toNat)
  case atStart => exact ⟨0, by omega, rfl⟩
  case round =>
    obtain ⟨k, hk', rfl⟩ := hrel
    by_cases hlt : k < n
    · have kd : (k : Int) < (n : Int) := by omega
      have hky : k < ys.length := by rw [← HN.out]; exact hlt
      obtain ⟨b, off, o, c, rfl, hc, -, -⟩ := SecW.get HA.out hky
      have hsk := HS.out _ (List.getElem_mem hky)
      obtain ⟨Q, hQ⟩ : ∃ q, q = ys[k].length := ⟨_, rfl⟩
      rw [← hQ] at hc hsk
      have xr : ((Q : Int) % 2 == 1) = false := by
        have e : (Q : Int) % 2 = 0 := by omega
        rw [e]; rfl
      have xr2 : ¬ ((Q : Int) % 2 = 1) := by omega
      have xq : (Q : Int) ≤ 64 := by omega
      clear hQ hsk
      go_wp2_with fail
      go_round
      case rel => exact ⟨k + 1, by omega, by go_num⟩
      case measure => simp [intOf]; omega
    · obtain rfl : n = k := by omega
      clear hlt hk'
      go_wp2_with fail
      go_loopw [10, 11, 47] (fun v t i wr => ∃ j : Nat, j ≤ nk ∧ i = .int .i64 j ∧ t = .slice none 0 0 ∧ ∃ N o c, v = .slice o N c ∧ Hid (Below w.heap.size w wr ∧ OwnI wr w.heap.size (.slice o N c) (stackV ys (ks.take j)) ∧ N = (stackV ys (ks.take j)).length)) (fun _ _ i _ => nk - (intOf i).toNat)
      case atStart => exact ⟨0, by omega, rfl, rfl, 0, none, 0, rfl, Below.refl _ _, Own.nil _ _ _ _ _, rfl⟩
      case round =>
        obtain ⟨j, hj, rfl, rfl, N, o, c, rfl, HY⟩ := hrel
        obtain ⟨wa, rfl⟩ : ∃ wa : World, wa = wr := ⟨_, rfl⟩
        by_cases hlj : j < nk
        · have kd : (j : Int) < (nk : Int) := by omega
          have hjl : j < ks.length := by rw [← HNK.out]; exact hlj
          have hbw := HY.out.1
          obtain ⟨b, off, rfl, hcj⟩ := IsSlice.getI (HBK.out.below hbw) (k := j) (by rw [List.length_map]; exact hjl)
          rw [List.getElem_map] at hcj
          have hkin := HI.out _ (List.getElem_mem hjl)
          have htk : ks.take (j + 1) = ks.take j ++ [ks[j]] := List.take_succ_eq_append_getElem hjl
          obtain ⟨K, hK⟩ : ∃ q, q = ks[j] := ⟨_, rfl⟩
          rw [← hK] at hcj hkin htk
          obtain ⟨b2, off2, os, cs, rfl, hcs, hsl, hle⟩ := SecW.get (HA.out.below stabC hbw) hkin
          have hsk := HS.out _ (List.getElem_mem hkin)
          have hsa := HSA.out K hkin
          obtain ⟨X, hX⟩ : ∃ q, q = ys[K] := ⟨_, rfl⟩
          rw [← hX] at hcs hsl hle hsk hsa
          obtain ⟨Q, hQ⟩ : ∃ q, q = X.length := ⟨_, rfl⟩
          rw [← hQ] at hcs hsl hle hsk
          have hKn : (K : Int) < (n : Int) := by have := HN.out; omega
          have HTK : Hid (stackV ys (ks.take (j + 1)) = stackV ys (ks.take j) ++ X) := by show _ = _; rw [htk, stackV_snoc, hsa]
          have hnb : N ≤ 64 * 64 := by
            have h := flat_len HSL.out (ks.take j)
            have h2 : (ks.take j).length ≤ 64 := by rw [List.length_take]; omega
            have h3 : 64 * (ks.take j).length ≤ 64 * 64 := Nat.mul_le_mul_left _ h2
            have h4 : (stackV ys (ks.take j)).length ≤ 64 * (ks.take j).length := h
            have h5 := HY.out.2.2
            omega
          have HOW := Lib.hid HY.out.2.1
          have HNN := Lib.hid HY.out.2.2
          have HBW := Lib.hid hbw
          have HSL2 := Lib.hid hsl
          have HQQ := Lib.hid hQ
          obtain ⟨xs, hxs⟩ : ∃ xs, xs = stackV ys (ks.take j) := ⟨_, rfl⟩
          rw [← hxs] at HOW HNN HTK
          clear hxs HY hbw hK hX hQ htk hsa hsl hle hkin hjl
          go_wp2_with (at_builtin; go_must (refine wpList_appRow rfl (.tmp 65) (.tmp 66) 51 rfl elemI64 Try.underlying51 w.heap.size (.slice o N c) xs encInt rfl HOW.out X _ rfl HSL2.out (fun _ => rfl) ?c1 ?c2 ?c3 ?c4 ?_))
          case c1 => intro y; simp [encInt, Value.oneCell']
          case c2 => rw [← HNN.out, ← HQQ.out]; omega
          case c3 => rw [← HNN.out, ← HQQ.out]; unfold maxLen; omega
          case c4 => exact HBW.out.size
          intro v' w3 hown3 hg3
          have HNX : Hid (∃ N o c, v' = .slice o N c ∧ Hid (Below w.heap.size w w3 ∧ OwnI w3 w.heap.size (.slice o N c) (stackV ys (ks.take (j + 1))) ∧ N = (stackV ys (ks.take (j + 1))).length)) := by
            obtain ⟨o', c', e', -⟩ := hown3.isSlc
            refine ⟨(xs ++ X).length, o', c', e', HBW.out.grown hg3 HBW.out.size (fun q hq => (HOW.out.blk hq).1), ?_, ?_⟩
            · rw [HTK.out, ← e']; exact hown3
            · rw [HTK.out]
          clear hown3 hg3 HOW HTK HNN
          obtain ⟨N', o', c', rfl, HN'⟩ := HNX.out
          clear HNX
          go_wp2_with fail
          go_roundw
          case rel => exact ⟨j + 1, by omega, by go_num, rfl, N', o', c', rfl, HN'⟩
          case measure => simp [intOf]; omega
        · obtain rfl : nk = j := by omega
          have hte : ks.take nk = ks := by rw [HNK.out]; exact List.take_length
          rw [hte] at HY
          have hbw := HY.out.1
          have hnb : N ≤ 64 * 64 := by
            have h := flat_len HSL.out ks
            have h2 := HNK.out
            have h3 : 64 * ks.length ≤ 64 * 64 := Nat.mul_le_mul_left _ (by omega)
            have h4 : (stackV ys ks).length ≤ 64 * ks.length := h
            have h5 := HY.out.2.2
            omega
          have HOW := Lib.hid HY.out.2.1
          have HNN := Lib.hid HY.out.2.2
          have HBW := Lib.hid hbw
          have HNI : Hid (IsSlice wa 1 encInt (.slice none 0 0) []) := ⟨none, 0, rfl, fun _ => rfl, by simp, fun i h => (by simp at h)⟩
          have HRV : Hid (readV false ys ks = stackV ys ks) := rfl
          obtain ⟨xs, hxs⟩ : ∃ xs, xs = stackV ys ks := ⟨_, rfl⟩
          rw [← hxs] at HOW HNN HRV
          clear hxs HY hbw hte
          go_wp2_with (at_builtin; go_must (refine wpList_appRow rfl (.tmp 84) (.tmp 85) 51 rfl elemI64 Try.underlying51 w.heap.size (.slice o N c) xs encInt rfl HOW.out [] _ rfl HNI.out (fun _ => rfl) ?c1 ?c2 ?c3 ?c4 ?_))
          case c1 => intro y; simp [encInt, Value.oneCell']
          case c2 => rw [← HNN.out]; simp; omega
          case c3 => rw [← HNN.out]; unfold maxLen; simp; omega
          case c4 => exact HBW.out.size
          intro v' w3 hown3 hg3
          have HF : Hid (RetRead (readV false ys ks) w (.returned (.tuple #[v', .int .i64 0])) w3) := by
            rw [HRV.out]
            obtain ⟨o', c', e', -⟩ := hown3.isSlc
            exact ⟨o', c', by rw [e'], by rw [← e']; exact hown3.isSlice (fun _ => rfl), HBW.out.grown hg3 HBW.out.size (fun q hq => (HOW.out.blk hq).1)⟩
          clear hown3 hg3 HOW HNN HNI
          go_wp2_with fail
          go_ret2
          exact HF.out
set_option maxRecDepth 100000 in
set_option maxHeartbeats 16000000 in
theorem bread1_any (ys : List (List Int)) (ks : List Nat) (hl : ys.length ≤ 64) (hk : ks.length ≤ 64) (hin : ∀ k ∈ ks, k < ys.length) (hs : ∀ s ∈ ys, 2 ≤ s.length ∧ s.length ≤ 64 ∧ s.length % 2 = 0) (oa ob : Option Addr) (ca cb : Nat) (us : List Value) (w : World)
    (ha : SecW w oa us ys) (hb : IsSlice w 1 encInt (.slice ob ks.length cb) (ks.map fun (k : Nat) => (k : Int))) :
    Calls Try.prog 17 #[.slice oa ys.length ca, .slice ob ks.length cb, .int .i64 1] w (RetRead (readV true ys ks) w) := by
  have HSL : Hid (∀ k, (secAt ys k).length ≤ 64) := fun k => by
    unfold secAt
    rw [List.getD_eq_getElem?_getD]
    by_cases h : k < ys.length
    · rw [List.getElem?_eq_getElem h]; exact (hs _ (List.getElem_mem h)).2.1
    · rw [List.getElem?_eq_none (by omega)]; simp
  have HSA : Hid (∀ k (h : k < ys.length), secAt ys k = ys[k]) := fun k h => by
    unfold secAt
    rw [List.getD_eq_getElem?_getD, List.getElem?_eq_getElem h]; rfl
  have HA := Lib.hid ha
  have HBK := Lib.hid hb
  have HS := Lib.hid hs
  have HI := Lib.hid hin
  obtain ⟨n, hn⟩ : ∃ n, n = ys.length := ⟨_, rfl⟩
  obtain ⟨nk, hnk⟩ : ∃ n, n = ks.length := ⟨_, rfl⟩
  have HN := Lib.hid hn
  have HNK := Lib.hid hnk
  rw [← hn] at hl ⊢
  rw [← hnk] at hk ⊢
  clear ha hb hs hin hn hnk
  go_enter Try.func17, Try.ntmps17
  go_wp2_with fail
  go_loop [25] (fun i => ∃ k : Nat, k ≤ n ∧ i = .int .i64 k) (fun i => n - (intOf i).toNat)
  case atStart => exact ⟨0, by omega, rfl⟩
  case round =>
    obtain ⟨k, hk', rfl⟩ := hrel
    by_cases hlt : k < n
    · have kd : (k : Int) < (n : Int) := by omega
      have hky : k < ys.length := by rw [← HN.out]; exact hlt
      obtain ⟨b, off, o, c, rfl, hc, -, -⟩ := SecW.get HA.out hky
      have hsk := HS.out _ (List.getElem_mem hky)
      obtain ⟨Q, hQ⟩ : ∃ q, q = ys[k].length := ⟨_, rfl⟩
      rw [← hQ] at hc hsk
      have xr : ((Q : Int) % 2 == 1) = false := by
        have e : (Q : Int) % 2 = 0 := by omega
        rw [e]; rfl
      have xr2 : ¬ ((Q : Int) % 2 = 1) := by omega
      have xq : (Q : Int) ≤ 64 := by omega
      clear hQ hsk
      go_wp2_with fail
      go_round
      case rel => exact ⟨k + 1, by omega, by go_num⟩
      case measure => simp [intOf]; omega
    · obtain rfl : n = k := by omega
      clear hlt hk'
      go_wp2_with fail
      go_loopw [10, 11, 47] (fun v t i wr => ∃ j : Nat, j ≤ nk ∧ i = .int .i64 j ∧ ∃ N o c, v = .slice o N c ∧ ∃ N2 o2 c2, t = .slice o2 N2 c2 ∧ Hid (Below w.heap.size w wr ∧ OwnI wr w.heap.size (.slice o N c) (headsV ys (ks.take j)) ∧ N = (headsV ys (ks.take j)).length ∧ IsSlice wr 1 encInt (.slice o2 N2 c2) (tailsV ys (ks.take j)) ∧ N2 = (tailsV ys (ks.take j)).length ∧ ∀ g, (Value.slice o2 N2 c2).ownBlock = some g → (Value.slice o N c).ownBlock ≠ some g ∧ g < wr.heap.size)) (fun _ _ i _ => nk - (intOf i).toNat)
      case atStart => exact ⟨0, by omega, rfl, 0, none, 0, rfl, 0, none, 0, rfl, Below.refl _ _, Own.nil _ _ _ _ _, rfl, ⟨none, 0, rfl, fun _ => rfl, by simp [tailsV], fun i h => (by simp [tailsV] at h)⟩, rfl, fun g hg => (by cases hg)⟩
      case round =>
        obtain ⟨j, hj, rfl, N, o, c, rfl, N2, o2, c2, rfl, HY⟩ := hrel
        obtain ⟨wa, rfl⟩ : ∃ wa : World, wa = wr := ⟨_, rfl⟩
        by_cases hlj : j < nk
        · have kd : (j : Int) < (nk : Int) := by omega
          have hjl : j < ks.length := by rw [← HNK.out]; exact hlj
          have hbw := HY.out.1
          obtain ⟨b, off, rfl, hcj⟩ := IsSlice.getI (HBK.out.below hbw) (k := j) (by rw [List.length_map]; exact hjl)
          rw [List.getElem_map] at hcj
          have hkin := HI.out _ (List.getElem_mem hjl)
          have htk : ks.take (j + 1) = ks.take j ++ [ks[j]] := List.take_succ_eq_append_getElem hjl
          obtain ⟨K, hK⟩ : ∃ q, q = ks[j] := ⟨_, rfl⟩
          rw [← hK] at hcj hkin htk
          obtain ⟨b2, off2, os, cs, rfl, hcs, hsl, hle⟩ := SecW.get (HA.out.below stabC hbw) hkin
          have hsk := HS.out _ (List.getElem_mem hkin)
          have hsa := HSA.out K hkin
          obtain ⟨X, hX⟩ : ∃ q, q = ys[K] := ⟨_, rfl⟩
          rw [← hX] at hcs hsl hle hsk hsa
          obtain ⟨Q, hQ⟩ : ∃ q, q = X.length := ⟨_, rfl⟩
          rw [← hQ] at hcs hsl hle hsk
          have hKn : (K : Int) < (n : Int) := by have := HN.out; omega
          obtain ⟨h, hh⟩ : ∃ h, h = Q / 2 := ⟨_, rfl⟩
          have xh : (Q : Int) / 2 = (h : Int) := by omega
          have hQ2 : Q = h + h := by omega
          have y1 : h ≤ cs := by omega
          have y2 : ¬ cs = h := by omega
          have y3 : h ≤ Q := by omega
          have y4 : Q ≤ cs := hle
          obtain ⟨ad, rfl⟩ : ∃ ad, os = some ad := by
            obtain ⟨b', off', e', -⟩ := IsSlice.getI (n := Q) hsl (k := 0) (by omega)
            exact ⟨_, e'⟩
          obtain ⟨b3, off3, rfl⟩ : ∃ b off, ad = ⟨b, off, none⟩ := by
            obtain ⟨b', off', e', -⟩ := IsSlice.getI (n := Q) hsl (k := 0) (by omega)
            exact ⟨_, _, Option.some.inj e'⟩
          have hpt := IsSlice.part hsl h (by omega) cs (cs - h)
          rw [← hQ] at hpt
          have HT1 : Hid (headsV ys (ks.take (j + 1)) = headsV ys (ks.take j) ++ X.take h) := by show _ = _; rw [htk, headsV_snoc, hsa, ← hQ, ← hh]
          have HT2 : Hid (tailsV ys (ks.take (j + 1)) = X.drop h ++ tailsV ys (ks.take j)) := by show _ = _; rw [htk, tailsV_snoc, hsa, ← hQ, ← hh]
          have hl2 : (ks.take j).length ≤ 64 := by rw [List.length_take]; omega
          have hnb : N ≤ 64 * 64 := by
            have h1 := flat_len (f := fun k => (secAt ys k).take ((secAt ys k).length / 2)) (m := 64) (fun k => by rw [List.length_take]; have := HSL.out k; omega) (ks.take j)
            have h3 : 64 * (ks.take j).length ≤ 64 * 64 := Nat.mul_le_mul_left _ hl2
            have h4 : (headsV ys (ks.take j)).length ≤ 64 * (ks.take j).length := h1
            have h5 := HY.out.2.2.1
            omega
          have hnb2 : N2 ≤ 64 * 64 := by
            have h1 := flat_len (f := fun k => (secAt ys k).drop ((secAt ys k).length / 2)) (m := 64) (fun k => by rw [List.length_drop]; have := HSL.out k; omega) (ks.take j).reverse
            rw [List.length_reverse] at h1
            have h3 : 64 * (ks.take j).length ≤ 64 * 64 := Nat.mul_le_mul_left _ hl2
            have h4 : (tailsV ys (ks.take j)).length ≤ 64 * (ks.take j).length := h1
            have h5 := HY.out.2.2.2.2.1
            omega
          have HOW := Lib.hid HY.out.2.1
          have HNN := Lib.hid HY.out.2.2.1
          have HTL := Lib.hid HY.out.2.2.2.1
          have HN2 := Lib.hid HY.out.2.2.2.2.1
          have HNE := Lib.hid HY.out.2.2.2.2.2
          have HBW := Lib.hid hbw
          have HP1 := Lib.hid hpt.1
          have HP2 : Hid (∀ W, Below w.heap.size w W → IsSlice W 1 encInt (.slice (some ⟨b3, off3 + h, none⟩) (Q - h) (cs - h)) (X.drop h)) := fun W hbW => by
            obtain ⟨b2', off2', os', cs', e1, hcs', hsl', hle'⟩ := SecW.get (HA.out.below stabC hbW) hkin
            rw [← hX] at hcs' hsl' hle'
            simp only [Option.some.injEq, Addr.mk.injEq, and_true] at e1
            obtain ⟨rfl, rfl⟩ := e1
            obtain ⟨b0', off0', os0, cs0, e0, hcs0, hsl0, -⟩ := SecW.get HA.out hkin
            rw [← hX] at hcs0 hsl0
            simp only [Option.some.injEq, Addr.mk.injEq, and_true] at e0
            obtain ⟨rfl, rfl⟩ := e0
            have u1 := keepCell hbw hcs0
            have u2 := keepCell hbW hcs0
            rw [hQ] at hcs
            rw [hcs] at u1
            simp only [Option.some.injEq, Value.slice.injEq] at u1
            rw [← u1.1] at hsl0
            have h9 := IsSlice.part (hsl0.below hbW) h (by omega) cs (cs - h)
            rw [← hQ] at h9
            exact h9.2
          have HXL : Hid ((X.take h).length = h ∧ (X.drop h).length = Q - h) := ⟨by rw [List.length_take]; omega, by rw [List.length_drop]; omega⟩
          obtain ⟨xs, hxs⟩ : ∃ xs, xs = headsV ys (ks.take j) := ⟨_, rfl⟩
          obtain ⟨ts, hts⟩ : ∃ xs, xs = tailsV ys (ks.take j) := ⟨_, rfl⟩
          rw [← hxs] at HOW HNN HT1
          rw [← hts] at HTL HN2 HT2
          have HQ2 := Lib.hid hQ2
          clear hxs hts HY hbw hK hX hQ htk hsa hsl hle hkin hjl hpt hl2 hh hQ2
          go_wp2_with (at_builtin; go_must (refine wpList_appRow rfl (.tmp 68) (.tmp 73) 51 rfl elemI64 Try.underlying51 w.heap.size (.slice o N c) xs encInt rfl HOW.out (X.take h) _ rfl HP1.out (fun _ => rfl) ?c1 ?c2 ?c3 ?c4 ?_))
          case c1 => intro y; simp [encInt, Value.oneCell']
          case c2 => rw [← HNN.out, HXL.out.1]; have := HQ2.out; omega
          case c3 => rw [← HNN.out, HXL.out.1]; unfold maxLen; have := HQ2.out; omega
          case c4 => exact HBW.out.size
          intro v' w3 hown3 hg3
          have HB3 : Hid (Below w.heap.size w w3) := HBW.out.grown hg3 HBW.out.size (fun q hq => (HOW.out.blk hq).1)
          have HTL3 : Hid (IsSlice w3 1 encInt (.slice o2 N2 c2) ts) := (stab_slice 1 encInt).keep HTL.out (fun g hg => hg3.block g (HNE.out g hg).2 (fun e => (HNE.out g hg).1 e.symm))
          have HP3 := Lib.hid (HP2.out w3 HB3.out)
          have HO3 := Lib.hid hown3
          obtain ⟨o', c', hv', -⟩ := hown3.isSlc
          obtain ⟨N', hN'⟩ : ∃ q, q = (xs ++ X.take h).length := ⟨_, rfl⟩
          rw [← hN'] at hv'
          subst hv'
          have HNN' := Lib.hid hN'
          clear hown3 hg3 hN' HOW HNN HTL HNE HP1 HP2
          have hb4 := balloc (Below.refl _ w3) (.cells #[.slice (some ⟨b3, off3 + h, none⟩) (Q - h) (cs - h), .slice o2 N2 c2] 51)
          have hrows : Rows1 (w3.alloc (.cells #[.slice (some ⟨b3, off3 + h, none⟩) (Q - h) (cs - h), .slice o2 N2 c2] 51)) 1 encInt (some ⟨w3.heap.size, 0, none⟩) [X.drop h, ts] := fun i hi => by
            have hc : ∀ q, _ := fun q => cell_of_row (w3.alloc (.cells #[.slice (some ⟨b3, off3 + h, none⟩) (Q - h) (cs - h), .slice o2 N2 c2] 51)) w3.heap.size q #[.slice (some ⟨b3, off3 + h, none⟩) (Q - h) (cs - h), .slice o2 N2 c2] 51 (0, 0) (heap_alloc_new w3 _)
            match i, hi with
            | 0, _ => exact ⟨w3.heap.size, 0, _, rfl, (hc 0).trans rfl, HP3.out.below hb4⟩
            | 1, _ => exact ⟨w3.heap.size, 0, _, rfl, (hc 1).trans rfl, HTL3.out.below hb4⟩
          have HCC : Hid (Calls Try.prog 35 #[.slice (some ⟨w3.heap.size, 0, none⟩) 2 2] (w3.alloc (.cells #[.slice (some ⟨b3, off3 + h, none⟩) (Q - h) (cs - h), .slice o2 N2 c2] 51)) (RetSliceInts [X.drop h, ts].flatten (w3.alloc (.cells #[.slice (some ⟨b3, off3 + h, none⟩) (Q - h) (cs - h), .slice o2 N2 c2] 51)))) :=
            concatInts (some ⟨w3.heap.size, 0, none⟩) [X.drop h, ts] 2 _ (by simp) hrows (by
              have h1 := HXL.out.2
              have h2 := HN2.out
              have h3 := HQ2.out
              unfold total
              simp only [List.map_cons, List.map_nil, List.sum_cons, List.sum_nil]
              omega)
          have hfl : [X.drop h, ts].flatten = X.drop h ++ ts := by simp
          rw [hfl] at HCC
          have HB4 := Lib.hid hb4
          clear hrows hfl hb4
          go_wp2_with fail
          refine HCC.out.mono ?_
          intro e w5 hret
          obtain ⟨vt, rfl, hst, hb5, hfr⟩ := hret
          obtain ⟨o5, c5, hv5⟩ := hst.form
          obtain ⟨N5, hN5⟩ : ∃ q, q = (X.drop h ++ ts).length := ⟨_, rfl⟩
          rw [← hN5] at hv5
          subst hv5
          have HNX : Hid (Below w.heap.size w w5 ∧ OwnI w5 w.heap.size (.slice o' N' c') (headsV ys (ks.take (j + 1))) ∧ N' = (headsV ys (ks.take (j + 1))).length ∧ IsSlice w5 1 encInt (.slice o5 N5 c5) (tailsV ys (ks.take (j + 1))) ∧ N5 = (tailsV ys (ks.take (j + 1))).length ∧ ∀ g, (Value.slice o5 N5 c5).ownBlock = some g → (Value.slice o' N' c').ownBlock ≠ some g ∧ g < w5.heap.size) := by
            rw [HT1.out, HT2.out]
            have hb35 : Below w3.heap.size w3 w5 := bthen HB4.out hb5
            have ho5 := HO3.out.below hb35
            refine ⟨HB3.out.trans (hb35.mono HB3.out.size), ho5, HNN'.out, hst, hN5, fun g hg => ⟨fun e => ?_, ?_⟩⟩
            · have h1 := (HO3.out.blk e).2
              have h2 := hfr g hg
              simp at h2
              omega
            · have h1 : 0 < (X.drop h ++ ts).length := by rw [List.length_append, HXL.out.2]; have := HQ2.out; omega
              obtain ⟨b', off', e', hc'⟩ := hst.getI h1
              rw [e'] at hg
              cases hg
              exact cell?_lt hc'
          clear hst hb5 hfr hN5 HCC
          go_wp2_with fail
          go_roundw
          case rel => exact ⟨j + 1, by omega, by go_num, N', o', c', rfl, N5, o5, c5, rfl, HNX⟩
          case measure => simp [intOf]; omega
        · obtain rfl : nk = j := by omega
          have hte : ks.take nk = ks := by rw [HNK.out]; exact List.take_length
          rw [hte] at HY
          have hbw := HY.out.1
          have hkk : 64 * ks.length ≤ 64 * 64 := Nat.mul_le_mul_left _ (by have := HNK.out; omega)
          have hnb : N ≤ 64 * 64 := by
            have h1 := flat_len (f := fun k => (secAt ys k).take ((secAt ys k).length / 2)) (m := 64) (fun k => by rw [List.length_take]; have := HSL.out k; omega) ks
            have h4 : (headsV ys ks).length ≤ 64 * ks.length := h1
            have h5 := HY.out.2.2.1
            omega
          have hnb2 : N2 ≤ 64 * 64 := by
            have h1 := flat_len (f := fun k => (secAt ys k).drop ((secAt ys k).length / 2)) (m := 64) (fun k => by rw [List.length_drop]; have := HSL.out k; omega) ks.reverse
            rw [List.length_reverse] at h1
            have h4 : (tailsV ys ks).length ≤ 64 * ks.length := h1
            have h5 := HY.out.2.2.2.2.1
            omega
          have HOW := Lib.hid HY.out.2.1
          have HNN := Lib.hid HY.out.2.2.1
          have HTL := Lib.hid HY.out.2.2.2.1
          have HN2 := Lib.hid HY.out.2.2.2.2.1
          have HBW := Lib.hid hbw
          have HRV : Hid (readV true ys ks = headsV ys ks ++ tailsV ys ks) := rfl
          obtain ⟨xs, hxs⟩ : ∃ xs, xs = headsV ys ks := ⟨_, rfl⟩
          obtain ⟨ts, hts⟩ : ∃ xs, xs = tailsV ys ks := ⟨_, rfl⟩
          rw [← hxs] at HOW HNN HRV
          rw [← hts] at HTL HN2 HRV
          clear hxs hts HY hbw hte hkk
          go_wp2_with (at_builtin; go_must (refine wpList_appRow rfl (.tmp 84) (.tmp 85) 51 rfl elemI64 Try.underlying51 w.heap.size (.slice o N c) xs encInt rfl HOW.out ts _ rfl HTL.out (fun _ => rfl) ?c1 ?c2 ?c3 ?c4 ?_))
          case c1 => intro y; simp [encInt, Value.oneCell']
          case c2 => rw [← HNN.out, ← HN2.out]; omega
          case c3 => rw [← HNN.out, ← HN2.out]; unfold maxLen; omega
          case c4 => exact HBW.out.size
          intro v' w3 hown3 hg3
          have HF : Hid (RetRead (readV true ys ks) w (.returned (.tuple #[v', .int .i64 0])) w3) := by
            rw [HRV.out]
            obtain ⟨o', c', e', -⟩ := hown3.isSlc
            exact ⟨o', c', by rw [e'], by rw [← e']; exact hown3.isSlice (fun _ => rfl), HBW.out.grown hg3 HBW.out.size (fun q hq => (HOW.out.blk hq).1)⟩
          clear hown3 hg3 HOW HNN HTL HN2
          go_wp2_with fail
          go_ret2
          exact HF.out
end Go.Proofs.Ytdblibjmgamjeaa
