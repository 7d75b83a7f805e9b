/-
  plan.CheckTasks and the reference's TasksError: their walks. Own text.
-/
import Derived.Test.YtjggcnpnjnmamaaRows
import Derived.Test.YtjggcnpnjnmamaaProofV
import Derived.Test.YtjggcnpnjnmamaaFTab
import Derived.Test.YtjggcnpnjnmamaaIn
import Derived.Handy
namespace Go.Proofs.Ytjggcnpnjnmamaa
open Go.RowKit
set_option linter.unusedVariables false
structure Task where
  len : Int
  after : List Int
/-- The tasks in memory: two cells a task. -/
def TasksAt (w : World) (oa : Option Addr) (l : List Task) : Prop :=
  ∀ i (h : i < l.length), ∃ b off oa' cap, oa = some ⟨b, off, none⟩ ∧ w.cell? ⟨b, off + i * 2, none⟩ = some (.int .i64 l[i].len) ∧ w.cell? ⟨b, off + i * 2 + 1, none⟩ = some (.slice oa' l[i].after.length cap) ∧ l[i].after.length ≤ maxLen ∧ Flat w 1 encInt oa' l[i].after
theorem TasksAt.below {w w' : World} {oa : Option Addr} {l : List Task} (h : TasksAt w oa l) (hb : Below w.heap.size w w') : TasksAt w' oa l := by
  intro i hi
  obtain ⟨b, off, oa', cap, e, h1, h2, h3, h4⟩ := h i hi
  exact ⟨b, off, oa', cap, e, keepCell hb h1, keepCell hb h2, h3, h4.below hb⟩
def afterAt (n i : Nat) (after : List Int) (q : Nat) : Int := if at0 after q < 0 ∨ (n : Int) ≤ at0 after q then 8 else if (i : Int) ≤ at0 after q then 13 else 0
def taskErr (n i : Nat) (t : Task) : Int := if ¬ (0 ≤ t.len ∧ t.len ≤ 1048576) then 3 else if 40 < t.after.length then 2 else firstErr (afterAt n i t.after) t.after.length
def taskAt (l : List Task) (i : Nat) : Int := taskErr l.length i (l.getD i ⟨0, []⟩)
theorem taskAt_eq {l : List Task} {i : Nat} (h : i < l.length) : taskAt l i = taskErr l.length i l[i] := by
  unfold taskAt
  simp [List.getD_eq_getElem?_getD, h]
/-- The first error of a network. -/
def tasksErr (l : List Task) : Int := if 40 < l.length then 2 else firstErr (taskAt l) l.length
set_option maxHeartbeats 2000000 in
theorem checkTasks_any (oa : Option Addr) (l : List Task) (cap : Nat) (w : World) (hm : l.length ≤ maxLen) (hx : TasksAt w oa l) :
    Calls Try.prog 26 #[.slice oa l.length cap] w fun e w' => e = .returned (.int .i64 (tasksErr l)) ∧ Below w.heap.size w w' := by
  obtain ⟨n, hn⟩ : ∃ n, n = l.length := ⟨_, rfl⟩
  have HN := Lib.hid hn
  have HX := Lib.hid hx
  have hn9 : n ≤ 9223372036854775807 := by unfold maxLen at hm; omega
  rw [← hn]
  by_cases h40 : 40 < n
  · have HE : Hid (tasksErr l = 2) := by show _ = _; unfold tasksErr; rw [if_pos (by omega)]
    clear hn hx hm
    go_enter Try.func26, Try.ntmps26
    go_wp2
    go_ret
    exact ⟨by rw [HE.out]; rfl, Below.refl _ _⟩
  · have E : Hid (tasksErr l = firstErr (taskAt l) n) := by show _ = _; unfold tasksErr; rw [if_neg (by omega), hn]
    clear hn hx hm
    go_enter Try.func26, Try.ntmps26
    go_wp2
    go_loopw [12] (fun s12 wr => ∃ k : Nat, k ≤ n ∧ s12 = .int .i64 k ∧ Hid (NoErr (taskAt l) k ∧ Below w.heap.size w wr)) (fun s12 _ => n - (intOf s12).toNat)
    case atStart => exact ⟨0, by omega, rfl, Lib.hid ⟨NoErr.zero _, Below.refl _ _⟩⟩
    case round =>
      obtain ⟨k, hk, rfl, HK⟩ := hrel
      by_cases hlt : k < n
      · have hkl : k < l.length := by rw [← HN.out]; exact hlt
        obtain ⟨b, off, oak, capk, e, kc0, kc1, km, kf⟩ := (HX.out.below HK.out.2) k hkl
        subst e
        obtain ⟨m, hmm⟩ : ∃ m, m = l[k].after.length := ⟨_, rfl⟩
        obtain ⟨L, hL⟩ : ∃ L, L = l[k].len := ⟨_, rfl⟩
        have hm9 : m ≤ 9223372036854775807 := by rw [hmm]; unfold maxLen at km; omega
        rw [← hL] at kc0
        rw [← hmm] at kc1
        have HT : Hid (taskAt l k = taskErr n k l[k]) := by show _ = _; rw [taskAt_eq hkl, HN.out]
        have HM : Hid (m = l[k].after.length) := hmm
        have HL : Hid (L = l[k].len) := hL
        have HB1 := Lib.hid (balloc HK.out.2 (.cells #[.int .i64 L, .slice oak m capk] 49))
        have HF := Lib.hid (kf.below (balloc (Below.refl _ wr) (.cells #[.int .i64 L, .slice oak m capk] 49)))
        clear hmm hL kf km
        by_cases hr : 0 ≤ L ∧ L ≤ 1048576
        · obtain ⟨r1, r2⟩ := hr
          by_cases h41 : 40 < m
          · have HE : Hid (tasksErr l = 2) := by rw [E.out]; exact HK.out.1.bad (k := k) (by rw [HT.out]; unfold taskErr; rw [if_neg (by rw [← HL.out]; omega), if_pos (by rw [← HM.out]; exact h41)]) (by decide) hlt
            go_wp2
            go_ret
            exact ⟨by rw [HE.out]; rfl, HB1.out⟩
          · have HT2 : Hid (taskErr n k l[k] = firstErr (afterAt n k l[k].after) m) := by show _ = _; unfold taskErr; rw [if_neg (by rw [← HL.out]; omega), if_neg (by rw [← HM.out]; exact h41), HM.out]
            go_wp2
            go_loop [32] (fun s32 => ∃ q : Nat, q ≤ m ∧ s32 = .int .i64 q ∧ Hid (NoErr (afterAt n k l[k].after) q)) (fun s32 => m - (intOf s32).toNat)
            case atStart => exact ⟨0, by omega, rfl, Lib.hid (NoErr.zero _)⟩
            case round =>
              obtain ⟨q, hq, rfl, HQ⟩ := hrel
              by_cases hltq : q < m
              · obtain ⟨ba, offa, e2, ka⟩ := HF.out.int (i := q) (by rw [← HM.out]; exact hltq)
                subst e2
                rw [at0_eq] at ka
                obtain ⟨A, hA⟩ : ∃ A, A = at0 l[k].after q := ⟨_, rfl⟩
                rw [← hA] at ka
                by_cases h8 : A < 0 ∨ (n : Int) ≤ A
                · have HE : Hid (tasksErr l = 8) := by
                    rw [E.out]
                    exact HK.out.1.bad (k := k) (by rw [HT.out, HT2.out]; exact HQ.out.bad (k := q) (by unfold afterAt; rw [← hA, if_pos h8]) (by decide) hltq) (by decide) hlt
                  clear hA
                  rcases h8 with h8 | h8
                  · go_wp2
                    go_ret
                    exact ⟨by rw [HE.out]; rfl, HB1.out⟩
                  · by_cases hneg : A < 0
                    · go_wp2
                      go_ret
                      exact ⟨by rw [HE.out]; rfl, HB1.out⟩
                    · go_wp2
                      go_ret
                      exact ⟨by rw [HE.out]; rfl, HB1.out⟩
                · have a1 : 0 ≤ A := by omega
                  have a2 : A < (n : Int) := by omega
                  by_cases h13 : (k : Int) ≤ A
                  · have HE : Hid (tasksErr l = 13) := by
                      rw [E.out]
                      exact HK.out.1.bad (k := k) (by rw [HT.out, HT2.out]; exact HQ.out.bad (k := q) (by unfold afterAt; rw [← hA, if_neg h8, if_pos h13]) (by decide) hltq) (by decide) hlt
                    clear hA h8
                    go_wp2
                    go_ret
                    exact ⟨by rw [HE.out]; rfl, HB1.out⟩
                  · have HQ2 : Hid (NoErr (afterAt n k l[k].after) (q + 1)) := HQ.out.succ (by unfold afterAt; rw [← hA, if_neg h8, if_neg h13])
                    clear hA h8
                    go_wp2
                    go_round
                    case rel => exact ⟨q + 1, by omega, by go_num, HQ2⟩
                    case measure => simp [intOf]; omega
              · obtain rfl : m = q := by omega
                have HK2 : Hid (NoErr (taskAt l) (k + 1) ∧ Below w.heap.size w (wr.alloc (.cells #[.int .i64 L, .slice oak m capk] 49))) := ⟨HK.out.1.succ (by rw [HT.out, HT2.out]; exact HQ.out.all), HB1.out⟩
                go_wp2
                go_roundw
                case rel => exact ⟨k + 1, by omega, by go_num, HK2⟩
                case measure => simp [intOf]; omega
        · have HE : Hid (tasksErr l = 3) := by rw [E.out]; exact HK.out.1.bad (k := k) (by rw [HT.out]; unfold taskErr; rw [if_pos (by rw [← HL.out]; exact hr)]) (by decide) hlt
          by_cases hneg : L < 0
          · clear hr
            go_wp2
            go_ret
            exact ⟨by rw [HE.out]; rfl, HB1.out⟩
          · have hbig : 1048576 < L := by omega
            clear hr
            go_wp2
            go_ret
            exact ⟨by rw [HE.out]; rfl, HB1.out⟩
      · obtain rfl : n = k := by omega
        have HE : Hid (tasksErr l = 0) := by rw [E.out]; exact HK.out.1.all
        go_wp2
        go_ret
        exact ⟨by rw [HE.out]; rfl, HK.out.2⟩
set_option maxHeartbeats 2000000 in
theorem tasksError_any (oa : Option Addr) (l : List Task) (cap : Nat) (w : World) (hm : l.length ≤ maxLen) (hx : TasksAt w oa l) :
    Calls Try.prog 25 #[.slice oa l.length cap] w fun e w' => e = .returned (.int .i64 (tasksErr l)) ∧ Below w.heap.size w w' := by
  obtain ⟨n, hn⟩ : ∃ n, n = l.length := ⟨_, rfl⟩
  have HN := Lib.hid hn
  have HX := Lib.hid hx
  have hn9 : n ≤ 9223372036854775807 := by unfold maxLen at hm; omega
  rw [← hn]
  by_cases h40 : 40 < n
  · have HE : Hid (tasksErr l = 2) := by show _ = _; unfold tasksErr; rw [if_pos (by omega)]
    clear hn hx hm
    go_enter Try.func25, Try.ntmps25
    go_wp2
    go_ret
    exact ⟨by rw [HE.out]; rfl, Below.refl _ _⟩
  · have E : Hid (tasksErr l = firstErr (taskAt l) n) := by show _ = _; unfold tasksErr; rw [if_neg (by omega), hn]
    clear hn hx hm
    go_enter Try.func25, Try.ntmps25
    go_wp2
    go_loopw [12] (fun s12 wr => ∃ k : Nat, k ≤ n ∧ s12 = .int .i64 k ∧ Hid (NoErr (taskAt l) k ∧ Below w.heap.size w wr)) (fun s12 _ => n - (intOf s12).toNat)
    case atStart => exact ⟨0, by omega, rfl, Lib.hid ⟨NoErr.zero _, Below.refl _ _⟩⟩
    case round =>
      obtain ⟨k, hk, rfl, HK⟩ := hrel
      by_cases hlt : k < n
      · have hkl : k < l.length := by rw [← HN.out]; exact hlt
        obtain ⟨b, off, oak, capk, e, kc0, kc1, km, kf⟩ := (HX.out.below HK.out.2) k hkl
        subst e
        obtain ⟨m, hmm⟩ : ∃ m, m = l[k].after.length := ⟨_, rfl⟩
        obtain ⟨L, hL⟩ : ∃ L, L = l[k].len := ⟨_, rfl⟩
        have hm9 : m ≤ 9223372036854775807 := by rw [hmm]; unfold maxLen at km; omega
        rw [← hL] at kc0
        rw [← hmm] at kc1
        have HT : Hid (taskAt l k = taskErr n k l[k]) := by show _ = _; rw [taskAt_eq hkl, HN.out]
        have HM : Hid (m = l[k].after.length) := hmm
        have HL : Hid (L = l[k].len) := hL
        have HB1 := Lib.hid (balloc HK.out.2 (.cells #[.int .i64 L, .slice oak m capk] 49))
        have HF := Lib.hid (kf.below (balloc (Below.refl _ wr) (.cells #[.int .i64 L, .slice oak m capk] 49)))
        clear hmm hL kf km
        by_cases hr : 0 ≤ L ∧ L ≤ 1048576
        · obtain ⟨r1, r2⟩ := hr
          by_cases h41 : 40 < m
          · have HE : Hid (tasksErr l = 2) := by rw [E.out]; exact HK.out.1.bad (k := k) (by rw [HT.out]; unfold taskErr; rw [if_neg (by rw [← HL.out]; omega), if_pos (by rw [← HM.out]; exact h41)]) (by decide) hlt
            go_wp2
            go_ret
            exact ⟨by rw [HE.out]; rfl, HB1.out⟩
          · have HT2 : Hid (taskErr n k l[k] = firstErr (afterAt n k l[k].after) m) := by show _ = _; unfold taskErr; rw [if_neg (by rw [← HL.out]; omega), if_neg (by rw [← HM.out]; exact h41), HM.out]
            go_wp2
            go_loop [32] (fun s32 => ∃ q : Nat, q ≤ m ∧ s32 = .int .i64 q ∧ Hid (NoErr (afterAt n k l[k].after) q)) (fun s32 => m - (intOf s32).toNat)
            case atStart => exact ⟨0, by omega, rfl, Lib.hid (NoErr.zero _)⟩
            case round =>
              obtain ⟨q, hq, rfl, HQ⟩ := hrel
              by_cases hltq : q < m
              · obtain ⟨ba, offa, e2, ka⟩ := HF.out.int (i := q) (by rw [← HM.out]; exact hltq)
                subst e2
                rw [at0_eq] at ka
                obtain ⟨A, hA⟩ : ∃ A, A = at0 l[k].after q := ⟨_, rfl⟩
                rw [← hA] at ka
                by_cases h8 : A < 0 ∨ (n : Int) ≤ A
                · have HE : Hid (tasksErr l = 8) := by
                    rw [E.out]
                    exact HK.out.1.bad (k := k) (by rw [HT.out, HT2.out]; exact HQ.out.bad (k := q) (by unfold afterAt; rw [← hA, if_pos h8]) (by decide) hltq) (by decide) hlt
                  clear hA
                  rcases h8 with h8 | h8
                  · go_wp2
                    go_ret
                    exact ⟨by rw [HE.out]; rfl, HB1.out⟩
                  · by_cases hneg : A < 0
                    · go_wp2
                      go_ret
                      exact ⟨by rw [HE.out]; rfl, HB1.out⟩
                    · go_wp2
                      go_ret
                      exact ⟨by rw [HE.out]; rfl, HB1.out⟩
                · have a1 : 0 ≤ A := by omega
                  have a2 : A < (n : Int) := by omega
                  by_cases h13 : (k : Int) ≤ A
                  · have HE : Hid (tasksErr l = 13) := by
                      rw [E.out]
                      exact HK.out.1.bad (k := k) (by rw [HT.out, HT2.out]; exact HQ.out.bad (k := q) (by unfold afterAt; rw [← hA, if_neg h8, if_pos h13]) (by decide) hltq) (by decide) hlt
                    clear hA h8
                    go_wp2
                    go_ret
                    exact ⟨by rw [HE.out]; rfl, HB1.out⟩
                  · have HQ2 : Hid (NoErr (afterAt n k l[k].after) (q + 1)) := HQ.out.succ (by unfold afterAt; rw [← hA, if_neg h8, if_neg h13])
                    clear hA h8
                    go_wp2
                    go_round
                    case rel => exact ⟨q + 1, by omega, by go_num, HQ2⟩
                    case measure => simp [intOf]; omega
              · obtain rfl : m = q := by omega
                have HK2 : Hid (NoErr (taskAt l) (k + 1) ∧ Below w.heap.size w (wr.alloc (.cells #[.int .i64 L, .slice oak m capk] 49))) := ⟨HK.out.1.succ (by rw [HT.out, HT2.out]; exact HQ.out.all), HB1.out⟩
                go_wp2
                go_roundw
                case rel => exact ⟨k + 1, by omega, by go_num, HK2⟩
                case measure => simp [intOf]; omega
        · have HE : Hid (tasksErr l = 3) := by rw [E.out]; exact HK.out.1.bad (k := k) (by rw [HT.out]; unfold taskErr; rw [if_pos (by rw [← HL.out]; exact hr)]) (by decide) hlt
          by_cases hneg : L < 0
          · clear hr
            go_wp2
            go_ret
            exact ⟨by rw [HE.out]; rfl, HB1.out⟩
          · have hbig : 1048576 < L := by omega
            clear hr
            go_wp2
            go_ret
            exact ⟨by rw [HE.out]; rfl, HB1.out⟩
      · obtain rfl : n = k := by omega
        have HE : Hid (tasksErr l = 0) := by rw [E.out]; exact HK.out.1.all
        go_wp2
        go_ret
        exact ⟨by rw [HE.out]; rfl, HK.out.2⟩
end Go.Proofs.Ytjggcnpnjnmamaa
