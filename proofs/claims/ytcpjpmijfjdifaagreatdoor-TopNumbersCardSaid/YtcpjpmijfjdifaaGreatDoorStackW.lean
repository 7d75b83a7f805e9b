/-
  The walk of vary.Stack. Own text.
-/
import Derived.Test.YtcpjpmijfjdifaaGreatDoorTNumP
import Derived.Test.YtcpjpmijfjdifaaGreatDoorRowsN
import Derived.Test.YtcpjpmijfjdifaaGreatDoorRowsB
import Derived.Test.YtcpjpmijfjdifaaGreatDoorCycle
namespace Go.Proofs.YtcpjpmijfjdifaaGreatDoor
open Go.RowKit
set_option linter.unusedVariables false
def RetStack (c p S : Nat) (w : World) (e : Ending) (w' : World) : Prop := ∃ v rv, e = .returned (.tuple #[v, .int .i64 0]) ∧ NB w w' v rv (stackS c p S S)
theorem placeV_big {c S s q : Nat} (h : c < q * S + s + 1) : ((placeV c S s q : Nat) : Int) = 0 := by unfold placeV; rw [if_pos h]; rfl
theorem placeV_is {c S s q : Nat} (h : ¬ c < q * S + s + 1) : ((placeV c S s q : Nat) : Int) = ((q * S : Nat) : Int) + (s : Int) + 1 := by unfold placeV; rw [if_neg h]; omega
set_option maxRecDepth 100000 in
set_option maxHeartbeats 8000000 in
theorem stack_any (c p : Nat) (w1 : World) (h1 : 1 ≤ c) (h2 : c ≤ 4096) (h3 : 1 ≤ p) (h4 : p ≤ 64) :
    Calls Tryz.prog 4 #[.int .i64 c, .int .i64 p] w1 (RetStack c p (sheetsV c p) w1) := by
  have hsb := sheets_bd (c := c) h3 h1
  have x1 : IntKind.i64.wrap ((c : Int) + (p : Int)) = (c : Int) + (p : Int) := IntWalk.i64_in _ (by omega)
  have x2 : IntKind.i64.wrap ((c : Int) + (p : Int) - 1) = (c : Int) + (p : Int) - 1 := IntWalk.i64_in _ (by omega)
  have x3 : IntKind.i64.wrap (((c : Int) + (p : Int) - 1).tdiv (p : Int)) = (sheetsV c p : Int) := by
    have e : (c : Int) + (p : Int) - 1 = ((c + p - 1 : Nat) : Int) := by omega
    have e2 : (((c + p - 1 : Nat) : Int)).tdiv (p : Int) = (sheetsV c p : Int) := by
      rw [Int.tdiv_eq_ediv_of_nonneg (by omega)]
      rfl
    rw [e, e2]
    exact IntWalk.i64_in _ (by omega)
  have hp0 : ¬ ((p : Int) = 0) := by omega
  generalize sheetsV c p = S at *
  go_enter Tryz.func4, Tryz.ntmps4
  go_wp2
  clear x1 x2 x3
  go_loopw [7, 33] (fun v i wr => ∃ s : Nat, s ≤ S ∧ i = .int .i64 s ∧ Hid (∃ rv, NB w1 wr v rv (stackS c p S s))) (fun _ i _ => S - (intOf i).toNat)
  case atStart => exact ⟨0, by omega, rfl, [], NB.start w1⟩
  case round =>
    obtain ⟨s, hs, rfl, HX⟩ := hrel
    obtain ⟨w2, rfl⟩ : ∃ w2 : World, w2 = wr := ⟨_, rfl⟩
    obtain ⟨v, rfl⟩ : ∃ v : Value, v = u7 := ⟨_, rfl⟩
    obtain ⟨rv, hrb⟩ := HX.out
    have HRB := Lib.hid hrb
    clear HX hrb
    by_cases hlt : s < S
    · have sd : (s : Int) < (S : Int) := by omega
      have HVL : Hid (rv.length = s) := by have h := HRB.out.r.len; rw [stackS_len] at h; exact h
      go_wp2
      go_loopw [9, 37] (fun u j wr => ∃ q : Nat, q ≤ p ∧ j = .int .i64 q ∧ Hid (NU w1 wr v rv (stackS c p S s) u (rowS c q S s))) (fun _ j _ => p - (intOf j).toNat)
      case atStart => exact ⟨0, by omega, rfl, NU.start HRB.out⟩
      case round =>
        clear HRB
        obtain ⟨q, hq, rfl, HRU⟩ := hrel
        obtain ⟨w4, rfl⟩ : ∃ w4 : World, w4 = wr := ⟨_, rfl⟩
        obtain ⟨u, rfl⟩ : ∃ u : Value, u = u9 := ⟨_, rfl⟩
        by_cases hqt : q < p
        · have qd : (q : Int) < (p : Int) := by omega
          have hm : q * S ≤ 64 * 4096 := Nat.mul_le_mul (by omega) (by omega)
          have HPV := Lib.hid (fun h => placeV_big (c := c) (S := S) (s := s) (q := q) h)
          have HPS := Lib.hid (fun h => placeV_is (c := c) (S := S) (s := s) (q := q) h)
          have HNR : Hid (rowS c (q + 1) S s = rowS c q S s ++ [((placeV c S s q : Nat) : Int)]) := rowS_succ c q S s
          have HNL : Hid ((rowS c q S s).length ≤ 64) := by show _ ≤ _; rw [rowS_len]; omega
          have x1 : IntKind.i64.wrap ((q : Int) * (S : Int)) = ((q * S : Nat) : Int) := by rw [Int.natCast_mul]; exact IntWalk.i64_in _ (by rw [← Int.natCast_mul]; omega)
          obtain ⟨m, hmm⟩ : ∃ m, m = q * S := ⟨_, rfl⟩
          rw [← hmm] at x1 hm HPV HPS
          have x2 : IntKind.i64.wrap ((m : Int) + (s : Int)) = (m : Int) + (s : Int) := IntWalk.i64_in _ (by omega)
          have x3 : IntKind.i64.wrap ((m : Int) + (s : Int) + 1) = (m : Int) + (s : Int) + 1 := IntWalk.i64_in _ (by omega)
          have x4 : IntKind.i64.wrap ((q : Int) + 1) = (q : Int) + 1 := IntWalk.i64_in _ (by omega)
          obtain ⟨P, hP⟩ : ∃ P : Int, P = ((placeV c S s q : Nat) : Int) := ⟨_, rfl⟩
          rw [← hP] at HPV HPS HNR
          obtain ⟨l0, hl0⟩ : ∃ l0, l0 = rowS c q S s := ⟨_, rfl⟩
          rw [← hl0] at HRU HNR HNL
          clear hmm hP hl0
          have hgt : c < m + s + 1 ∨ ¬ c < m + s + 1 := by omega
          rcases hgt with hgt | hgt
          · have HE : Hid (P = 0) := HPV.out hgt
            have HU6 := Lib.hid (HRU.out.below (balloc (Below.refl _ w4) (.cells #[.int .i64 (0)] 3)))
            have HNEW : Hid (∀ (j : Nat) (u : Value), (encInt (0))[j]? = some u → (w4.alloc (.cells #[.int .i64 (0)] 3)).cell? ((⟨w4.heap.size, 0, none⟩ : Addr).add j) = some u) := World.news_of_block (cs := #[.int .i64 (0)]) (t := 3) (fr := (0, 0)) (heap_alloc_new w4 _)
            have gd : (c : Int) < (m : Int) + (s : Int) + 1 := by omega
            clear HRU HPV HPS hgt
            go_wp2_with (at_builtin; refine wpList_appAt rfl (.tmp 49) (.tmp 51) 27 rfl elemIntT Tryz.underlying27 w1.heap.size u l0 encInt rfl HU6.out.r.ou (0) ⟨w4.heap.size, 0, none⟩ 1 rfl rfl HNEW.out ?c1 ?c2 ?c3 ?c4 ?_)
            case c1 => simp [encInt, Value.oneCell']
            case c2 => have := HNL.out; omega
            case c3 => have := HNL.out; unfold maxLen; omega
            case c4 => have := HU6.out.bel.size; simpa using this
            intro u7 w7 hown7 hg7 hat7
            rw [← HE.out] at hown7
            obtain ⟨l7, hl7⟩ : ∃ l7, l7 = l0 ++ [P] := ⟨_, rfl⟩
            rw [← hl7] at hown7 HNR
            have HU7 : Hid (NU w1 w7 v rv (stackS c p S s) u7 (rowS c (q + 1) S s)) := by
              show NU _ _ _ _ _ _ _
              rw [HNR.out]
              exact HU6.out.addU hown7 hg7 (by simpa using hat7)
            clear hown7 hg7 hat7 hl7 HU6 HNEW gd
            go_wp2
            go_roundw
            case rel => exact ⟨q + 1, by omega, by go_num, HU7⟩
            case measure => simp [intOf]; omega
          · have HE : Hid (P = (m : Int) + (s : Int) + 1) := HPS.out hgt
            have HU6 := Lib.hid (HRU.out.below (balloc (Below.refl _ w4) (.cells #[.int .i64 ((m : Int) + (s : Int) + 1)] 3)))
            have HNEW : Hid (∀ (j : Nat) (u : Value), (encInt ((m : Int) + (s : Int) + 1))[j]? = some u → (w4.alloc (.cells #[.int .i64 ((m : Int) + (s : Int) + 1)] 3)).cell? ((⟨w4.heap.size, 0, none⟩ : Addr).add j) = some u) := World.news_of_block (cs := #[.int .i64 ((m : Int) + (s : Int) + 1)]) (t := 3) (fr := (0, 0)) (heap_alloc_new w4 _)
            have gd : ¬ ((c : Int) < (m : Int) + (s : Int) + 1) := by omega
            clear HRU HPV HPS hgt
            go_wp2_with (at_builtin; refine wpList_appAt rfl (.tmp 49) (.tmp 51) 27 rfl elemIntT Tryz.underlying27 w1.heap.size u l0 encInt rfl HU6.out.r.ou ((m : Int) + (s : Int) + 1) ⟨w4.heap.size, 0, none⟩ 1 rfl rfl HNEW.out ?c1 ?c2 ?c3 ?c4 ?_)
            case c1 => simp [encInt, Value.oneCell']
            case c2 => have := HNL.out; omega
            case c3 => have := HNL.out; unfold maxLen; omega
            case c4 => have := HU6.out.bel.size; simpa using this
            intro u7 w7 hown7 hg7 hat7
            rw [← HE.out] at hown7
            obtain ⟨l7, hl7⟩ : ∃ l7, l7 = l0 ++ [P] := ⟨_, rfl⟩
            rw [← hl7] at hown7 HNR
            have HU7 : Hid (NU w1 w7 v rv (stackS c p S s) u7 (rowS c (q + 1) S s)) := by
              show NU _ _ _ _ _ _ _
              rw [HNR.out]
              exact HU6.out.addU hown7 hg7 (by simpa using hat7)
            clear hown7 hg7 hat7 hl7 HU6 HNEW gd
            go_wp2
            go_roundw
            case rel => exact ⟨q + 1, by omega, by go_num, HU7⟩
            case measure => simp [intOf]; omega
        · obtain rfl : p = q := by omega
          obtain ⟨ou, lu, cu, rfl⟩ : ∃ ou lu cu, u = .slice ou lu cu := by
            obtain ⟨ou, cu, e, -, -⟩ := HRU.out.r.ou.flat (fun _ => rfl)
            exact ⟨ou, _, cu, e⟩
          have HU6 := Lib.hid (HRU.out.below (balloc (Below.refl _ w4) (.cells #[.slice ou lu cu] 27)))
          have HNEW : Hid (∀ (j : Nat) (u : Value), (encV (.slice ou lu cu))[j]? = some u → (w4.alloc (.cells #[.slice ou lu cu] 27)).cell? ((⟨w4.heap.size, 0, none⟩ : Addr).add j) = some u) := World.news_of_block (cs := #[.slice ou lu cu]) (t := 27) (fr := (0, 0)) (heap_alloc_new w4 _)
          clear HRU
          go_wp2_with (at_builtin; refine wpList_appAt rfl (.tmp 54) (.tmp 56) 22 rfl elemRowT Tryz.underlying22 w1.heap.size v rv encV rfl HU6.out.r.b.op (.slice ou lu cu) ⟨w4.heap.size, 0, none⟩ 1 rfl rfl HNEW.out ?c1 ?c2 ?c3 ?c4 ?_)
          case c1 => simp [encV, Value.oneCell']
          case c2 => have := HVL.out; omega
          case c3 => have := HVL.out; unfold maxLen; omega
          case c4 => have := HU6.out.bel.size; simpa using this
          intro v9 w9 hown9 hg9 hat9
          have HNX : Hid (∃ rv, NB w1 w9 v9 rv (stackS c p S (s + 1))) := by
            refine ⟨rv ++ [.slice ou lu cu], ?_⟩
            rw [stackS_succ]
            exact HU6.out.addV hown9 hg9 (by simpa using hat9)
          clear hown9 hg9 hat9 HU6 HNEW
          go_wp2
          go_roundw
          case rel => exact ⟨s + 1, by omega, by go_num, HNX⟩
          case measure => simp [intOf]; omega
    · obtain rfl : S = s := by omega
      go_wp2
      go_ret2
      exact ⟨v, rv, rfl, HRB.out⟩
end Go.Proofs.YtcpjpmijfjdifaaGreatDoor
