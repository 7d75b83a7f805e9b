/-
  The queues that SpoolLeasesExclusive passes through. Plain but for the operations' contracts. Own text.
-/
import Derived.Test.YtnnnihjagjfkdaaDoorDone
import Derived.Test.YtnnnihjagjfkdaaDoorTick
import Derived.Test.YtnnnihjagjfkdaaDoorKeep
namespace Go.Proofs.YtnnnihjagjfkdaaDoor
open Go.RowKit
set_option linter.unusedVariables false
def eStr : ByteArray := ⟨#[]⟩
def jobX (l t : Nat → Int) (i : Nat) : Jb := ⟨(i : Int) + 1, eStr, l i, t i⟩
def jobsX (n : Nat) (l t : Nat → Int) : List Jb := (List.range n).map (jobX l t)
theorem jobsX_len (n : Nat) (l t : Nat → Int) : (jobsX n l t).length = n := by simp [jobsX]
theorem jobsX_get (n : Nat) (l t : Nat → Int) (i : Nat) (h : i < (jobsX n l t).length) : (jobsX n l t)[i] = jobX l t i := by simp [jobsX]
theorem jobsX_congr {n : Nat} {l t l' t' : Nat → Int} (h : ∀ i, i < n → l i = l' i ∧ t i = t' i) : jobsX n l t = jobsX n l' t' := by
  unfold jobsX
  refine List.map_congr_left fun i hi => ?_
  have := h i (List.mem_range.1 hi)
  simp [jobX, this.1, this.2]
theorem jobsX_set (n : Nat) (l t : Nat → Int) (k : Nat) (a c : Int) : (jobsX n l t).set k ⟨(k : Int) + 1, eStr, a, c⟩ = jobsX n (fun i => if i = k then a else l i) (fun i => if i = k then c else t i) := by
  refine List.ext_getElem (by simp [jobsX]) fun i h1 h2 => ?_
  rw [List.getElem_set]
  rw [jobsX_get]
  by_cases e : k = i
  · subst e; rw [if_pos rfl, jobsX_get]; simp [jobX]
  · have e' : ¬ i = k := fun h => e h.symm
    simp only [if_neg e]
    rw [jobsX_get]
    simp [jobX, e']
def putN : Nat → Que
  | 0 => newQ
  | k + 1 => putQ (putN k) eStr
structure PutOk (k : Nat) (q : Que) : Prop where
  area : q.area = 0
  ep : q.epoch = 1
  nx : q.next = (k : Int) + 1
  ls : q.leases = 0
  nw : q.now = 0
  sz : 21 ≤ q.size ∧ q.size ≤ 21 + 410 * (k : Int)
  sq : q.seq = (k : Int) + 1
  wl : q.writes.length = k
  jl : q.jobs = jobsX k (fun _ => 0) (fun _ => 0)
theorem putN_ok : ∀ k, k ≤ 20 → PutOk k (putN k)
  | 0, _ => ⟨rfl, rfl, rfl, rfl, rfl, by decide, rfl, rfl, rfl⟩
  | k + 1, h => by
    have ih := putN_ok k (by omega)
    have h1 := putL_len (putN k).next eStr (by rw [ih.nx]; omega) (by rw [ih.nx]; omega) (by decide)
    have h2 := lineV_len (putN k).epoch (putN k).seq (putL (putN k).next eStr)
    refine ⟨ih.area, ih.ep, ?_, ih.ls, ih.nw, ?_, ?_, ?_, ?_⟩
    · show (putN k).next + 1 = _
      rw [ih.nx]; omega
    · show 21 ≤ (putN k).size + ((lineV _ _ _).length : Int) ∧ (putN k).size + ((lineV _ _ _).length : Int) ≤ _
      have := ih.sz
      omega
    · show (putN k).seq + 1 = _
      rw [ih.sq]; omega
    · show ((putN k).writes ++ [_]).length = _
      rw [List.length_append, ih.wl]; rfl
    · show (putN k).jobs ++ [(⟨(putN k).next, eStr, 0, 0⟩ : Jb)] = _
      rw [ih.jl, ih.nx]
      unfold jobsX
      rw [List.range_succ, List.map_append]
      rfl
theorem PutOk.qok {k : Nat} {q : Que} (h : PutOk k q) (hk : k ≤ 20) : QOk q := by
  obtain ⟨h1, h2, h3, h4, h5, h6, h7, h8, h9⟩ := h
  refine ⟨.inl h1, by omega, by omega, by omega, by omega, by omega, by omega, by omega, ?_⟩
  rw [h9, jobsX_len]; omega
def upL (k : Nat) (i : Nat) : Int := if i < k then (i : Int) + 1 else 0
def upT (H : Int) (k : Nat) (i : Nat) : Int := if i < k then H else 0
/-- The queue of n jobs of which the first k are leased. -/
def takeN (n : Nat) (H : Int) (k : Nat) : Que := { putN n with leases := (k : Int), jobs := jobsX n (upL k) (upT H k) }
theorem takeN_zero (n : Nat) (H : Int) (h : n ≤ 20) : takeN n H 0 = putN n := by
  have ho := putN_ok n h
  unfold takeN
  have e1 : jobsX n (upL 0) (upT H 0) = (putN n).jobs := by
    rw [ho.jl]
    exact jobsX_congr fun i hi => ⟨by simp [upL], by simp [upT]⟩
  rw [e1]
  have e2 : ((0 : Nat) : Int) = (putN n).leases := by rw [ho.ls]; rfl
  rw [e2]
theorem takeN_next (n : Nat) (H : Int) (k : Nat) (h : n ≤ 20) (hk : k < n) : takeQ (takeN n H k) k (leaseJ (jobX (upL k) (upT H k) k) ((takeN n H k).leases + 1) ((takeN n H k).now + H)) = takeN n H (k + 1) := by
  have ho := putN_ok n h
  have e0 : (takeN n H k).now = 0 := ho.nw
  have e1 : (takeN n H k).leases = (k : Int) := rfl
  rw [e0, e1]
  have e2 : leaseJ (jobX (upL k) (upT H k) k) ((k : Int) + 1) (0 + H) = ⟨(k : Int) + 1, eStr, (k : Int) + 1, H⟩ := by simp [leaseJ, jobX]
  rw [e2]
  unfold takeQ
  have e3 : (takeN n H k).jobs.set k ⟨(k : Int) + 1, eStr, (k : Int) + 1, H⟩ = jobsX n (upL (k + 1)) (upT H (k + 1)) := by
    show (jobsX n (upL k) (upT H k)).set k _ = _
    rw [jobsX_set]
    refine jobsX_congr fun i hi => ?_
    unfold upL upT
    by_cases e : i = k
    · subst e; simp
    · by_cases e' : i < k
      · have : i < k + 1 := by omega
        simp [e, e', this]
      · have : ¬ i < k + 1 := by omega
        simp [e, e', this]
  rw [e3, e1]
  have e4 : ((k + 1 : Nat) : Int) = (k : Int) + 1 := by omega
  unfold takeN
  rw [e4]
/-- The queue behind the tick. -/
def tickN (n : Nat) (H T : Int) : Que := tickQ (takeN n H n) T
def idsN (n : Nat) : List Int := (List.range n).map fun (i : Nat) => (i : Int) + 1
theorem idsN_len (n : Nat) : (idsN n).length = n := by simp [idsN]
theorem idsN_get (n i : Nat) (h : i < (idsN n).length) : (idsN n)[i] = (i : Int) + 1 := by simp [idsN]
theorem idsN_succ (n : Nat) : idsN (n + 1) = idsN n ++ [(n : Int) + 1] := by unfold idsN; rw [List.range_succ, List.map_append]; rfl
theorem tick_early (n : Nat) (H T : Int) (h : T < H) : (tickN n H T).jobs = jobsX n (upL n) (upT H n) ∧ tickIds (takeN n H n).jobs T = [] := by
  have hx : ∀ j ∈ jobsX n (upL n) (upT H n), expJ T j = false := by
    intro j hj
    obtain ⟨i, hi, rfl⟩ := List.mem_map.1 hj
    have hi' := List.mem_range.1 hi
    simp [expJ, jobX, upT, hi']
    omega
  refine ⟨?_, ?_⟩
  · show (jobsX n (upL n) (upT H n)).map (tickJ T) = _
    conv => rhs; rw [← List.map_id (jobsX n (upL n) (upT H n))]
    refine List.map_congr_left fun j hj => ?_
    simp [tickJ, hx j hj]
  · show ((jobsX n (upL n) (upT H n)).filter (expJ T)).map Jb.id = []
    rw [List.filter_eq_nil_iff.2 (fun j hj => by simp [hx j hj])]
    rfl
theorem tick_late (n : Nat) (H T : Int) (h : H ≤ T) : (tickN n H T).jobs = jobsX n (fun _ => 0) (fun _ => 0) ∧ tickIds (takeN n H n).jobs T = idsN n := by
  have hx : ∀ i, i < n → expJ T (jobX (upL n) (upT H n) i) = true := by
    intro i hi
    simp [expJ, jobX, upT, upL, hi]
    omega
  refine ⟨?_, ?_⟩
  · show ((List.range n).map (jobX (upL n) (upT H n))).map (tickJ T) = (List.range n).map _
    rw [List.map_map]
    refine List.map_congr_left fun i hi => ?_
    show tickJ T (jobX (upL n) (upT H n) i) = _
    unfold tickJ
    rw [hx i (List.mem_range.1 hi)]
    rfl
  · show (((List.range n).map (jobX (upL n) (upT H n))).filter (expJ T)).map Jb.id = _
    rw [List.filter_eq_self.2 (fun j hj => by obtain ⟨i, hi, rfl⟩ := List.mem_map.1 hj; exact hx i (List.mem_range.1 hi)), List.map_map]
    rfl
/-- The queue of which the first m jobs are done. -/
def doneN (n : Nat) (H T : Int) : Nat → Que
  | 0 => tickN n H T
  | m + 1 => doneQ (doneN n H T m) ((m : Int) + 1) 0
structure DoneOk (n m : Nat) (H T : Int) (q : Que) : Prop where
  area : q.area = 0
  ep : q.epoch = 1
  nx : q.next = (n : Int) + 1
  ls : q.leases = (n : Int)
  nw : q.now = T
  sz : 21 ≤ q.size ∧ q.size ≤ 21 + 410 * (n : Int) + 410 * (m : Int)
  sq : q.seq = (n : Int) + 1 + m
  wl : q.writes.length = n + m
  jl : q.jobs = (jobsX n (upL n) (upT H n)).drop m
theorem doneN_ok (n : Nat) (H T : Int) (hn : n ≤ 20) (h : T < H) : ∀ m, m ≤ n → DoneOk n m H T (doneN n H T m)
  | 0, _ => by
    have ho := putN_ok n hn
    refine ⟨ho.area, ho.ep, ho.nx, rfl, rfl, ?_, ?_, ho.wl, (tick_early n H T h).1⟩
    · have := ho.sz
      show 21 ≤ (putN n).size ∧ (putN n).size ≤ _
      omega
    · show (putN n).seq = _
      rw [ho.sq]; omega
  | m + 1, hm => by
    have ih := doneN_ok n H T hn h m (by omega)
    have h1 := doneL_len ((m : Int) + 1) (by omega) (by omega)
    have h2 := lineV_len (doneN n H T m).epoch (doneN n H T m).seq (doneL ((m : Int) + 1))
    refine ⟨ih.area, ih.ep, ih.nx, ih.ls, ih.nw, ?_, ?_, ?_, ?_⟩
    · show 21 ≤ (doneN n H T m).size + ((lineV _ _ _).length : Int) ∧ (doneN n H T m).size + ((lineV _ _ _).length : Int) ≤ _
      have := ih.sz
      omega
    · show (doneN n H T m).seq + 1 = _
      rw [ih.sq]; omega
    · show ((doneN n H T m).writes ++ [_]).length = _
      rw [List.length_append, ih.wl]; rfl
    · show (doneN n H T m).jobs.eraseIdx 0 = _
      rw [ih.jl, List.eraseIdx_zero, List.tail_drop]
theorem DoneOk.qok {n m : Nat} {H T : Int} {q : Que} (h : DoneOk n m H T q) (hn : n ≤ 20) (hm : m ≤ n) (h0 : 0 ≤ T) (h1 : T ≤ 60) : QOk q := by
  obtain ⟨h1, h2, h3, h4, h5, h6, h7, h8, h9⟩ := h
  refine ⟨.inl h1, by omega, by omega, by omega, by omega, by omega, by omega, by omega, ?_⟩
  rw [h9, List.length_drop, jobsX_len]; omega
theorem leased_early (n m : Nat) (H T : Int) (hm : m < n) (i c : Int) (h : LeasedAt ((jobsX n (upL n) (upT H n)).drop m) ((m : Int) + 1) ((m : Int) + 1) i c) : i = 0 ∧ c = 0 := by
  have hl : 0 < ((jobsX n (upL n) (upT H n)).drop m).length := by rw [List.length_drop, jobsX_len]; omega
  have e0 : ((jobsX n (upL n) (upT H n)).drop m)[0] = jobX (upL n) (upT H n) m := by
    rw [List.getElem_drop]
    simp only [Nat.add_zero]
    exact jobsX_get _ _ _ _ _
  have hid : hasId ((m : Int) + 1) (((jobsX n (upL n) (upT H n)).drop m)[0]) = true := by rw [e0]; simp [hasId, jobX]
  rcases h with ⟨_, _, hno⟩ | ⟨k, hk, hyes, hno, hh⟩
  · have := hno 0 hl
    rw [hid] at this
    exact absurd this (by simp)
  · have hk0 : k = 0 := by
      by_cases e : k = 0
      · exact e
      · have := hno 0 (by omega)
        rw [hid] at this
        exact absurd this (by simp)
    subst hk0
    rcases hh with ⟨h1, _⟩ | ⟨_, _, h3, h4⟩
    · exfalso
      rcases h1 with h1 | h1
      · omega
      · apply h1
        rw [e0]
        simp [jobX, upL, hm]
    · exact ⟨by simpa using h3, h4⟩
theorem leased_late (n m : Nat) (hm : m < n) (i c : Int) (h : LeasedAt (jobsX n (fun _ => 0) (fun _ => 0)) ((m : Int) + 1) ((m : Int) + 1) i c) : c = 9 := by
  rcases h with ⟨_, _, hno⟩ | ⟨k, hk, hyes, hno, hh⟩
  · have := hno m (by rw [jobsX_len]; exact hm)
    rw [jobsX_get] at this
    simp [hasId, jobX] at this
  · rcases hh with ⟨_, _, h1⟩ | ⟨_, h2, _⟩
    · exact h1
    · exfalso
      rw [jobsX_get] at h2
      simp [jobX] at h2
      omega
end Go.Proofs.YtnnnihjagjfkdaaDoor
