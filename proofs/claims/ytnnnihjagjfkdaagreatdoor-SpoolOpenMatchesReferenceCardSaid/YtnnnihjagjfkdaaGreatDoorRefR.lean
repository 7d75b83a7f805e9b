/-
  The reference's reading of an area, line by line, beside the program's: plain, no program in sight. Own text.
-/
import Derived.Test.YtnnnihjagjfkdaaGreatDoorRefQ
namespace Go.Proofs.YtnnnihjagjfkdaaGreatDoor
open Go.RowKit
set_option linter.unusedVariables false
/-- The state behind i lines. -/
structure AreaI (S : List UInt8) (ps : List (List UInt8)) (ep : Int) (many i : Nat) (q : Que) (s : Sc) (L : Int) : Prop where
  ln : Lines S ps
  m64 : many ≤ 64
  go1 : i < many → begunV S = keepsV (many - i) q s
  go2 : many ≤ i → ∃ q0 s0, begunV S = some (q0, s0) ∧ q0.epoch = ep ∧ ∃ m, runV (s0.rest.length + 1) q0 s0 = runV m q s ∧ s.rest.length < m
  rest : s.rest = tailV ps (i + 1)
  seq : s.seq = (i : Int) + 1
  sep : s.epoch = ep
  qep : q.epoch = ep
  ids : Ids q.jobs q.next
  nx : 1 ≤ q.next ∧ q.next ≤ 1073741825
  la : 0 ≤ L ∧ L < q.next
  la2 : i ≤ many → L = lastId q.jobs
  jl : q.jobs.length ≤ 64
  jl2 : i ≤ many → q.jobs.length = i
  rd : 0 ≤ s.read
  sm : Sums s S.length
theorem AreaI.start {S : List UInt8} {ps : List (List UInt8)} (hL : Lines S ps) (h1 : 1 < ps.length) (hh : HeadOk ps (wordsV (ps.getD 0 []))) :
    AreaI S ps (bigV ((wordsV (ps.getD 0 [])).getD 1 [])) (bigV ((wordsV (ps.getD 0 [])).getD 3 [])).toNat 0 (emptyQ (bigV ((wordsV (ps.getD 0 [])).getD 1 [])) (bigV ((wordsV (ps.getD 0 [])).getD 2 []))) ⟨tailV ps 1, bigV ((wordsV (ps.getD 0 [])).getD 1 []), 1, (ps.getD 0 []).length + 1⟩ 0 := by
  have hb := head_yes hL h1 hh
  have hm := hh.m0
  have hm1 := hh.m1
  have hx0 := hh.x0
  refine ⟨hL, by omega, fun h => by rw [Nat.sub_zero]; exact hb, fun h => ?_, rfl, rfl, rfl, rfl, ⟨fun i h => by simp [emptyQ] at h, fun i j hij h => by simp [emptyQ] at h⟩, ⟨hh.x0, hh.x1⟩, ⟨by omega, by show 0 < bigV _; omega⟩, fun _ => rfl, by simp [emptyQ], fun _ => rfl, by show (0 : Int) ≤ ((ps.getD 0 []).length : Int) + 1; omega, ?_⟩
  · have e : (bigV ((wordsV (ps.getD 0 [])).getD 3 [])).toNat = 0 := by omega
    rw [e] at hb
    exact ⟨_, _, hb, rfl, _, rfl, Nat.lt_succ_self _⟩
  · unfold Sums
    have h : tailV ps 0 = ps[0] ++ 10 :: tailV ps 1 := tailV_step h1
    rw [hL.all] at h
    have h2 := congrArg List.length h
    rw [List.length_append, List.length_cons] at h2
    have e : ps[0] = ps.getD 0 [] := by rw [List.getD_eq_getElem?_getD, List.getElem?_eq_getElem (by omega)]; rfl
    rw [e] at h2
    show ((ps.getD 0 []).length : Int) + 1 + ((tailV ps 1).length : Int) = (S.length : Int)
    omega
theorem lastId_max {xs : List Jb} {next : Int} (h : Ids xs next) {i : Nat} (hi : i < xs.length) : xs[i].id ≤ lastId xs := by
  obtain ⟨m, hm⟩ : ∃ m, xs.length = m + 1 := ⟨xs.length - 1, by omega⟩
  rw [lastId_at hm]
  by_cases e : i = m
  · subst e; exact Int.le_refl _
  · exact Int.le_of_lt (h.up i m (by omega) (by omega))
theorem Ids.keep {xs : List Jb} {next n : Int} (h : Ids xs next) (h1 : lastId xs < n) (h2 : n < next) (h0 : 1 ≤ n) (t : ByteArray) : Ids (xs ++ [⟨n, t, 0, 0⟩]) next := by
  refine ⟨fun i hi => ?_, fun i j hij hj => ?_⟩
  · rw [List.length_append, List.length_singleton] at hi
    by_cases e : i < xs.length
    · rw [List.getElem_append_left e]; exact h.low i e
    · have e2 : i = xs.length := by omega
      subst e2
      rw [List.getElem_append_right (Nat.le_refl _)]
      simp only [Nat.sub_self, List.getElem_singleton]
      exact ⟨h0, h2⟩
  · rw [List.length_append, List.length_singleton] at hj
    by_cases e : j < xs.length
    · rw [List.getElem_append_left e, List.getElem_append_left (by omega)]
      exact h.up i j hij e
    · have e2 : j = xs.length := by omega
      subst e2
      rw [List.getElem_append_left (by omega), List.getElem_append_right (Nat.le_refl _)]
      simp only [Nat.sub_self, List.getElem_singleton]
      have := lastId_max h (i := i) (by omega)
      omega
theorem Ids.erase {xs : List Jb} {next : Int} (h : Ids xs next) (m : Nat) : Ids (xs.eraseIdx m) next := by
  refine ⟨fun i hi => ?_, fun i j hij hj => ?_⟩
  · have hle := List.length_eraseIdx_le xs m
    by_cases hm : m < xs.length
    · have hl : (xs.eraseIdx m).length = xs.length - 1 := List.length_eraseIdx_of_lt hm
      rw [List.getElem_eraseIdx]
      split
      · exact h.low i (by omega)
      · exact h.low (i + 1) (by omega)
    · simp only [List.eraseIdx_of_length_le (Nat.le_of_not_lt hm)] at hi ⊢
      exact h.low i hi
  · by_cases hm : m < xs.length
    · have hl : (xs.eraseIdx m).length = xs.length - 1 := List.length_eraseIdx_of_lt hm
      rw [List.getElem_eraseIdx, List.getElem_eraseIdx]
      split
      · split
        · exact h.up i j hij (by omega)
        · exact h.up i (j + 1) (by omega) (by omega)
      · split
        · omega
        · exact h.up (i + 1) (j + 1) (by omega) (by omega)
    · simp only [List.eraseIdx_of_length_le (Nat.le_of_not_lt hm)] at hj ⊢
      exact h.up i j hij hj
/-- The jobs without one. -/
theorem filter_erase (n : Int) : ∀ (xs : List Jb) (m : Nat) (hm : m < xs.length), xs[m].id = n → (∀ j (h : j < xs.length), j ≠ m → xs[j].id ≠ n) → xs.filter (fun j => decide (j.id ≠ n)) = xs.eraseIdx m
  | x :: xs, 0, _, h1, h2 => by
    have hx : x.id = n := h1
    rw [List.filter_cons_of_neg (by simp [hx])]
    show xs.filter _ = xs
    rw [List.filter_eq_self]
    intro y hy
    obtain ⟨j, hj, rfl⟩ := List.getElem_of_mem hy
    have := h2 (j + 1) (by simpa using hj) (by omega)
    simpa using this
  | x :: xs, m + 1, hm, h1, h2 => by
    have hx : x.id ≠ n := by
      have := h2 0 (by simp) (by omega)
      simpa using this
    rw [List.filter_cons_of_pos (by simpa using hx)]
    show x :: xs.filter _ = x :: xs.eraseIdx m
    rw [filter_erase n xs m (by simpa using hm) (by simpa using h1) (fun j hj hne => by
      have := h2 (j + 1) (by simpa using hj) (by omega)
      simpa using this)]
section
variable {S : List UInt8} {ps : List (List UInt8)} {ep : Int} {many i : Nat} {q : Que} {s : Sc} {L : Int}
/-- The line is a record. -/
theorem AreaI.rec1 (h : AreaI S ps ep many i q s L) (hk : i + 2 < ps.length) {ws : List (List UInt8)} (hw : wordsOfV (ps[i + 1]'(by omega)) (Lib.itoa ep) (i + 1) = some ws) : recV s = (some ws, ⟨tailV ps (i + 2), ep, s.seq + 1, s.read + ((ps[i + 1]'(by omega)).length : Nat) + 1⟩) := by
  have hr := rec_yes h.ln (k := i + 1) (sq := i + 1) (by omega) h.rest (by rw [h.seq]; omega) (by omega) (ws := ws) (by rw [h.sep]; exact hw)
  rw [hr, h.sep]
theorem AreaI.rec0 (h : AreaI S ps ep many i q s L) (hk : i + 2 < ps.length) (hw : wordsOfV (ps[i + 1]'(by omega)) (Lib.itoa ep) (i + 1) = none) : ∃ s', recV s = (none, s') :=
  rec_not h.ln (k := i + 1) (sq := i + 1) (by omega) h.rest (by rw [h.seq]; omega) (by omega) (by rw [h.sep]; exact hw)
theorem AreaI.sums (h : AreaI S ps ep many i q s L) (hk : i + 2 < ps.length) {ws : List (List UInt8)} (hw : wordsOfV (ps[i + 1]'(by omega)) (Lib.itoa ep) (i + 1) = some ws) : Sums ⟨tailV ps (i + 2), ep, s.seq + 1, s.read + ((ps[i + 1]'(by omega)).length : Nat) + 1⟩ S.length := (recV_sum (h.rec1 hk hw) h.sm).1
/-- A kept job. -/
theorem AreaI.keepGood (h : AreaI S ps ep many i q s L) (hk : i + 2 < ps.length) (him : i < many) {ws : List (List UInt8)} (hw : wordsOfV (ps[i + 1]'(by omega)) (Lib.itoa ep) (i + 1) = some ws) (h3 : ws.length = 3) (h0 : ws.getD 0 [] = keepB) {t : List UInt8} (ht : decV (ws.getD 2 []) = (t, true)) (h1 : L < bigV (ws.getD 1 [])) (h2 : bigV (ws.getD 1 []) < q.next) :
    AreaI S ps ep many (i + 1) { q with jobs := q.jobs ++ [⟨bigV (ws.getD 1 []), strB t, 0, 0⟩] } ⟨tailV ps (i + 2), ep, s.seq + 1, s.read + ((ps[i + 1]'(by omega)).length : Nat) + 1⟩ (bigV (ws.getD 1 [])) := by
  have hla := h.la
  have hnx := h.nx
  have hjl := h.jl2 (by omega)
  have hm64 := h.m64
  obtain ⟨n1, _⟩ := big_some (l := ws.getD 1 []) (by omega)
  have hkp : keepV q (ws.getD 1 []) (ws.getD 2 []) false = some { q with jobs := q.jobs ++ [⟨bigV (ws.getD 1 []), strB t, 0, 0⟩] } := by
    unfold keepV
    rw [n1, ht]
    rw [if_pos ⟨rfl, rfl, by show lastId q.jobs < bigV _; rw [← h.la2 (by omega)]; exact h1, by show bigV _ ≤ 1073741824; omega, by rw [if_neg (by decide)]; exact h2, by omega⟩]
    show some (keepQ q _ t false) = _
    unfold keepQ
    rw [if_neg (by decide)]
    rfl
  have hrec := h.rec1 hk hw
  have hgo : begunV S = keepsV (many - (i + 1)) { q with jobs := q.jobs ++ [⟨bigV (ws.getD 1 []), strB t, 0, 0⟩] } ⟨tailV ps (i + 2), ep, s.seq + 1, s.read + ((ps[i + 1]'(by omega)).length : Nat) + 1⟩ := by
    rw [h.go1 him, show many - i = (many - (i + 1)) + 1 by omega]
    exact keeps_yes hrec ⟨h3, h0⟩ hkp
  refine ⟨h.ln, h.m64, fun _ => hgo, fun hge => ?_, rfl, by show s.seq + 1 = _; rw [h.seq]; omega, rfl, h.qep, h.ids.keep (by rw [← h.la2 (by omega)]; exact h1) h2 (by omega) _, h.nx, ⟨by omega, h2⟩, fun _ => by rw [lastId_snoc], ?_, fun _ => by simp [hjl], ?_, h.sums hk hw⟩
  · rw [show many - (i + 1) = 0 by omega] at hgo
    exact ⟨_, _, hgo, h.qep, _, rfl, Nat.lt_succ_self _⟩
  · simp [hjl]; omega
  · have := h.rd
    show 0 ≤ s.read + _ + 1
    omega
/-- No kept job where one should be. -/
theorem AreaI.keepBad (h : AreaI S ps ep many i q s L) (hk : i + 2 < ps.length) (him : i < many) (hb : ∀ ws, wordsOfV (ps[i + 1]'(by omega)) (Lib.itoa ep) (i + 1) = some ws → ws.length = 3 → ws.getD 0 [] = keepB → ¬ ((decV (ws.getD 2 [])).2 = true ∧ L < bigV (ws.getD 1 []) ∧ bigV (ws.getD 1 []) < q.next)) : begunV S = none := by
  rw [h.go1 him, show many - i = (many - (i + 1)) + 1 by omega]
  cases hw : wordsOfV (ps[i + 1]'(by omega)) (Lib.itoa ep) (i + 1) with
  | none =>
    obtain ⟨s', hs'⟩ := h.rec0 hk hw
    exact keeps_none hs'
  | some ws =>
    have hrec := h.rec1 hk hw
    by_cases hc : ws.length = 3 ∧ ws.getD 0 [] = keepB
    · refine keeps_bad hrec ?_
      cases hkp : keepV q (ws.getD 1 []) (ws.getD 2 []) false with
      | none => rfl
      | some q' =>
        exfalso
        obtain ⟨⟨k1, k2, k3, k4, k5, k6⟩, _⟩ := keepV_some hkp
        rw [if_neg (by decide)] at k5
        have hbg := big_of k1 (by omega)
        refine hb ws hw hc.1 hc.2 ⟨k2, ?_, by rw [hbg]; exact k5⟩
        rw [hbg, h.la2 (by omega)]
        exact k3
    · exact keeps_no hrec hc
/-- A record behind the beginning. -/
theorem AreaI.apply (h : AreaI S ps ep many i q s L) (hk : i + 2 < ps.length) (him : many ≤ i) {ws : List (List UInt8)} (hw : wordsOfV (ps[i + 1]'(by omega)) (Lib.itoa ep) (i + 1) = some ws) {q' : Que} (ha : applyV q ws = some q') {L' : Int} (hids : Ids q'.jobs q'.next) (hL : 0 ≤ L' ∧ L' < q'.next) :
    AreaI S ps ep many (i + 1) q' ⟨tailV ps (i + 2), ep, s.seq + 1, s.read + ((ps[i + 1]'(by omega)).length : Nat) + 1⟩ L' := by
  have hrec := h.rec1 hk hw
  have ho := applyV_ok ha h.jl (by have := h.nx; omega) h.nx.2
  have hsm := applyV_same ha
  refine ⟨h.ln, h.m64, fun hlt => by omega, fun hge => ?_, rfl, by show s.seq + 1 = _; rw [h.seq]; omega, rfl, hsm.ep.trans h.qep, hids, ⟨by omega, ho.2.2.1⟩, hL, fun he => by omega, ho.1, fun he => by omega, ?_, h.sums hk hw⟩
  · obtain ⟨q0, s0, g1, g2, m, g3, g4⟩ := h.go2 him
    obtain ⟨m, rfl⟩ : ∃ m', m = m' + 1 := ⟨m - 1, by omega⟩
    refine ⟨q0, s0, g1, g2, m, by rw [g3, run_yes hrec ha], ?_⟩
    have := (recV_sum hrec h.sm).2
    omega
  · have := h.rd
    show 0 ≤ s.read + _ + 1
    omega
/-- The records end here. -/
theorem AreaI.stop (h : AreaI S ps ep many i q s L) (him : many ≤ i) (hs : (∃ s', recV s = (none, s')) ∨ ∃ ws s', recV s = (some ws, s') ∧ applyV q ws = none) : ∃ q0 s0, begunV S = some (q0, s0) ∧ q0.epoch = ep ∧ runV (s0.rest.length + 1) q0 s0 = (q, s) := by
  obtain ⟨q0, s0, g1, g2, m, g3, g4⟩ := h.go2 him
  obtain ⟨m, rfl⟩ : ∃ m', m = m' + 1 := ⟨m - 1, by omega⟩
  refine ⟨q0, s0, g1, g2, ?_⟩
  rw [g3]
  rcases hs with ⟨s', hs⟩ | ⟨ws, s', hs, ha⟩
  · exact run_none hs
  · exact run_bad hs ha
theorem AreaI.fin (h : AreaI S ps ep many i q s L) (him : many ≤ i) (hk : i + 2 = ps.length) : ∃ q0 s0, begunV S = some (q0, s0) ∧ q0.epoch = ep ∧ runV (s0.rest.length + 1) q0 s0 = (q, s) :=
  h.stop him (.inl ⟨s, rec_end h.ln (k := i + 1) (by omega) h.rest⟩)
theorem AreaI.putGood (h : AreaI S ps ep many i q s L) {ws : List (List UInt8)} (h3 : ws.length = 3) (h0 : ws.getD 0 [] = putB) {t : List UInt8} (ht : decV (ws.getD 2 []) = (t, true)) (h1 : L < bigV (ws.getD 1 [])) (h2 : bigV (ws.getD 1 []) = q.next) (h4 : bigV (ws.getD 1 []) ≤ 1073741824) (h5 : q.jobs.length < 64) :
    applyV q ws = some { q with jobs := q.jobs ++ [⟨q.next, strB t, 0, 0⟩], next := q.next + 1 } := by
  have hnx := h.nx
  obtain ⟨n1, _⟩ := big_some (l := ws.getD 1 []) (by omega)
  unfold applyV
  rw [if_pos ⟨h3, h0⟩]
  unfold keepV
  rw [n1, ht]
  rw [if_pos ⟨rfl, rfl, by show lastId q.jobs < bigV _; rw [h2]; exact lastId_lt h.ids hnx.1, h4, by rw [if_pos rfl]; exact h2, by omega⟩]
  show some (keepQ q _ t true) = _
  unfold keepQ
  rw [if_pos rfl, h2]
  rfl
theorem AreaI.putBad (h : AreaI S ps ep many i q s L) {ws : List (List UInt8)} (h3 : ws.length = 3) (h0 : ws.getD 0 [] = putB) (hb : ¬ ((decV (ws.getD 2 [])).2 = true ∧ L < bigV (ws.getD 1 []) ∧ bigV (ws.getD 1 []) = q.next ∧ bigV (ws.getD 1 []) ≤ 1073741824 ∧ q.jobs.length < 64)) : applyV q ws = none := by
  unfold applyV
  rw [if_pos ⟨h3, h0⟩]
  cases hkp : keepV q (ws.getD 1 []) (ws.getD 2 []) true with
  | none => rfl
  | some q' =>
    exfalso
    obtain ⟨⟨k1, k2, k3, k4, k5, k6⟩, _⟩ := keepV_some hkp
    rw [if_pos rfl] at k5
    have hbg := big_of k1 (by omega)
    have := h.la
    have := h.jl
    exact hb ⟨k2, by rw [hbg, k5]; omega, by rw [hbg]; exact k5, by rw [hbg]; exact k4, by omega⟩
theorem AreaI.doneGood (h : AreaI S ps ep many i q s L) {ws : List (List UInt8)} (h3 : ws.length = 2) (h0 : ws.getD 0 [] = doneB) (hj : ∃ m, ∃ hm : m < q.jobs.length, q.jobs[m].id = bigV (ws.getD 1 [])) :
    ∃ q', applyV q ws = some q' ∧ q'.jobs = q.jobs.filter (fun j => decide (j.id ≠ bigV (ws.getD 1 []))) ∧ q'.next = q.next ∧ Ids q'.jobs q'.next := by
  obtain ⟨m, hm, hid⟩ := hj
  have hlow := h.ids.low m hm
  obtain ⟨n1, _⟩ := big_some (l := ws.getD 1 []) (by omega)
  have huniq : ∀ j (hj : j < q.jobs.length), j ≠ m → q.jobs[j].id ≠ bigV (ws.getD 1 []) := fun j hj hne e => by
    rcases Nat.lt_or_gt_of_ne hne with hlt | hgt
    · have := h.ids.up j m hlt hm; omega
    · have := h.ids.up m j hgt hj; omega
  have hf : q.jobs.findIdx? (hasId (bigV (ws.getD 1 []))) = some m := by
    rw [List.findIdx?_eq_some_iff_getElem]
    exact ⟨hm, by simp [hasId, hid], fun j hj => by
      have := huniq j (by omega) (by omega)
      unfold hasId
      rw [beq_iff_eq]
      exact this⟩
  refine ⟨{ q with jobs := q.jobs.eraseIdx m }, ?_, (filter_erase _ _ m hm hid huniq).symm, rfl, h.ids.erase m⟩
  unfold applyV
  rw [if_neg (fun e => by have := e.1; omega), if_pos ⟨h3, h0⟩]
  unfold dropV
  rw [n1, if_pos rfl]
  simp only
  rw [hf]
theorem AreaI.doneBad (h : AreaI S ps ep many i q s L) {ws : List (List UInt8)} (h3 : ws.length = 2) (h0 : ws.getD 0 [] = doneB) (hj : ∀ m (hm : m < q.jobs.length), q.jobs[m].id ≠ bigV (ws.getD 1 [])) : applyV q ws = none := by
  unfold applyV
  rw [if_neg (fun e => by have := e.1; omega), if_pos ⟨h3, h0⟩]
  unfold dropV
  by_cases hn : (numV (ws.getD 1 [])).2 = true
  · rw [if_pos hn]
    have hf : q.jobs.findIdx? (hasId (numV (ws.getD 1 [])).1) = none := by
      rw [List.findIdx?_eq_none_iff]
      intro x hx
      obtain ⟨j, hjl, rfl⟩ := List.getElem_of_mem hx
      have hlow := h.ids.low j hjl
      have hnx := h.nx
      by_cases e : q.jobs[j].id = (numV (ws.getD 1 [])).1
      · have hbg := big_of hn (by omega)
        exact absurd (e.trans hbg.symm) (hj j hjl)
      · unfold hasId
        rw [beq_eq_false_iff_ne]
        exact e
    rw [hf]
  · rw [if_neg hn]
theorem applyV_other {q : Que} {ws : List (List UInt8)} (h1 : ¬ (ws.length = 3 ∧ ws.getD 0 [] = putB)) (h2 : ¬ (ws.length = 2 ∧ ws.getD 0 [] = doneB)) : applyV q ws = none := by
  unfold applyV
  rw [if_neg h1, if_neg h2]
end
end Go.Proofs.YtnnnihjagjfkdaaGreatDoor
