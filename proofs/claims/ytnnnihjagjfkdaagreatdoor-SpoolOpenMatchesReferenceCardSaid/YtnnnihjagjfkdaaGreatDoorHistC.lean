/-
  What Open restores of a queue's records behind a crash. Plain, no program in sight. What Open restores behind a compaction and a crash. Plain, no program in sight. Own text.
-/
import Derived.Test.YtnnnihjagjfkdaaGreatDoorHist
import Derived.Test.YtnnnihjagjfkdaaGreatDoorReo
import Derived.Test.YtnnnihjagjfkdaaGreatDoorComp
namespace Go.Proofs.YtnnnihjagjfkdaaGreatDoor
open Go.RowKit
set_option linter.unusedVariables false
theorem itoa_one : Lib.itoa 1 = [49] := by
  show Lib.decDigits 1 = _
  rw [Lib.decDigits_one (by omega)]
  rfl
theorem itoa_zero : Lib.itoa 0 = [48] := by
  show Lib.decDigits 0 = _
  rw [Lib.decDigits_one (by omega)]
  rfl
theorem beginL_is : beginL = beginLn 1 1 0 := by
  have e : beginLn 1 1 0 = [[98, 101, 103, 105, 110], Lib.itoa 1, Lib.itoa 1, Lib.itoa 0] := rfl
  rw [e, itoa_one, itoa_zero]
  rfl
/-- The beginning of an area. -/
theorem begun_line {ep nx : Int} {n : Nat} {r : List UInt8} (e0 : 1 ≤ ep) (e1 : ep ≤ 1073741824) (x0 : 1 ≤ nx) (x1 : nx ≤ 1073741825) (hn : n ≤ 64) :
    begunV (lineV ep 0 (beginLn ep nx n) ++ r) = keepsV n (emptyQ ep nx) ⟨r, ep, 1, ((lineV ep 0 (beginLn ep nx n)).length : Nat)⟩ := by
  have hg := beginLn_good ep nx n
  have n1 := numV_itoa (n := ep) (by omega) (by omega)
  have n2 := numV_itoa (n := nx) (by omega) (by omega)
  have n3 := numV_itoa (n := (n : Int)) (by omega) (by omega)
  have e : beginLn ep nx n = [[98, 101, 103, 105, 110], Lib.itoa ep, Lib.itoa nx, Lib.itoa n] := rfl
  have hrec := recV_line (s := ⟨lineV ep 0 (beginLn ep nx n) ++ r, 0, 0, 0⟩) (ws := beginLn ep nx n) (r := r) (ep := ep) hg.1 hg.2 rfl (by
    rw [if_pos rfl, e]
    show (numV (Lib.itoa ep)).1 = ep
    rw [n1])
  have hd1 : (beginLn ep nx n).getD 1 [] = Lib.itoa ep := rfl
  have hd2 : (beginLn ep nx n).getD 2 [] = Lib.itoa nx := rfl
  have hd3 : (beginLn ep nx n).getD 3 [] = Lib.itoa n := rfl
  rw [begun_yes hrec]
  · rw [hd2, hd3, n2, n3]
    show keepsV ((n : Int)).toNat _ ⟨r, ep, 0 + 1, 0 + ((lineV ep 0 (beginLn ep nx n)).length : Nat)⟩ = _
    rw [Int.toNat_natCast, Int.zero_add, Int.zero_add]
  · rw [hd1, hd2, hd3, n1, n2, n3]
    exact ⟨rfl, rfl, rfl, rfl, rfl, e0, e1, x0, x1, by show (n : Int) ≤ 64; omega⟩
theorem begun_part {ep nx : Int} {n m : Nat} (hm : m < (lineV ep 0 (beginLn ep nx n)).length) : begunV ((lineV ep 0 (beginLn ep nx n)).take m) = none :=
  begun_none (recV_part (s := ⟨(lineV ep 0 (beginLn ep nx n)).take m, 0, 0, 0⟩) (beginLn_good ep nx n).2 rfl hm)
theorem begun_nil : begunV [] = none := begun_none (recV_nil rfl)
def keepWs (xs : List Jb) : List (List (List UInt8)) := xs.map fun j => keepLn j.id j.text
theorem keepWs_good (xs : List Jb) : Words (keepWs xs) := fun ws h => by
  obtain ⟨j, _, rfl⟩ := List.mem_map.1 h
  exact keepLn_good _ _
/-- A job that was kept. -/
def kept (xs : List Jb) : List Jb := xs.map fun j => ⟨j.id, j.text, 0, 0⟩
theorem keep_one {q : Que} {x : Jb} (h1 : lastId q.jobs < x.id) (h0 : 0 ≤ x.id) (h2 : x.id < q.next) (h3 : q.next ≤ 1073741825) (hj : q.jobs.length < 64) (hs : x.text.size ≤ 256) : keepV q (Lib.itoa x.id) (codedV x.text.data.toList) false = some { q with jobs := q.jobs ++ [⟨x.id, x.text, 0, 0⟩] } := by
  unfold keepV
  rw [numV_itoa h0 (by omega), decV_coded (by simpa using hs)]
  rw [if_pos ⟨rfl, rfl, h1, by show x.id ≤ 1073741824; omega, by rw [if_neg (by decide)]; exact h2, by omega⟩]
  show some (keepQ q x.id x.text.data.toList false) = _
  unfold keepQ
  rw [if_neg (by decide)]
theorem lastId_snoc (xs : List Jb) (x : Jb) : lastId (xs ++ [x]) = x.id := by
  rw [lastId_at (m := xs.length) (by simp)]
  simp
/-- The jobs of a beginning, whole. -/
theorem keeps_whole (ep : Int) : ∀ (xs : List Jb) (k : Nat) (q : Que) (s : Sc) (r : List UInt8), s.seq = k → s.epoch = ep → 1 ≤ k → s.rest = linesV ep k (keepWs xs) ++ r → (∀ x ∈ xs, lastId q.jobs < x.id ∧ 0 ≤ x.id ∧ x.text.size ≤ 256) → Ids xs q.next → q.next ≤ 1073741825 → q.jobs.length + xs.length ≤ 64 →
    keepsV xs.length q s = some ({ q with jobs := q.jobs ++ kept xs }, ⟨r, ep, k + xs.length, s.read + ((linesV ep k (keepWs xs)).length : Nat)⟩)
  | [], k, q, s, r, hk, he, h1, hr, hx, hI, hn, hj => by
    show some (q, s) = _
    simp only [kept, List.map_nil, List.append_nil]
    congr 2
    cases s
    simp only at hk he hr
    simp only [linesV, keepWs, List.map_nil, List.nil_append] at hr
    simp [linesV, keepWs, hk, he, hr]
  | x :: xs, k, q, s, r, hk, he, h1, hr, hx, hI, hn, hj => by
    have hg := keepLn_good x.id x.text
    obtain ⟨x1, x2, x3⟩ := hx x (by simp)
    have hlow := hI.low 0 (by simp)
    have hlow' : x.id < q.next := by simpa using hlow.2
    have hrec := recV_line (s := s) (ws := keepLn x.id x.text) (r := linesV ep (k + 1) (keepWs xs) ++ r) (ep := ep) hg.1 hg.2 (by rw [hr, hk]; show lineV ep k _ ++ linesV ep (k + 1) _ ++ r = _; rw [List.append_assoc]; rfl) (by rw [if_neg (by omega)]; exact he)
    have hj2 : q.jobs.length + (xs.length + 1) ≤ 64 := hj
    have hkeep : keepV q ((keepLn x.id x.text).getD 1 []) ((keepLn x.id x.text).getD 2 []) false = some { q with jobs := q.jobs ++ [⟨x.id, x.text, 0, 0⟩] } := keep_one x1 x2 hlow' hn (by omega) x3
    show keepsV (xs.length + 1) q s = _
    rw [keeps_yes hrec ⟨rfl, rfl⟩ hkeep]
    have ih := keeps_whole ep xs (k + 1) { q with jobs := q.jobs ++ [⟨x.id, x.text, 0, 0⟩] } ⟨linesV ep (k + 1) (keepWs xs) ++ r, ep, s.seq + 1, s.read + ((lineV ep s.seq (keepLn x.id x.text)).length : Nat)⟩ r (by show s.seq + 1 = _; rw [hk]; omega) rfl (by omega) rfl (fun y hy => by
      obtain ⟨i, hi, rfl⟩ := List.getElem_of_mem hy
      have hu := hI.up 0 (i + 1) (by omega) (by simp; omega)
      have hu' : x.id < xs[i].id := by simpa using hu
      refine ⟨by show lastId (q.jobs ++ _) < _; rw [lastId_snoc]; exact hu', (hx _ (by simp)).2.1, (hx _ (by simp)).2.2⟩) hI.tail hn (by show (q.jobs ++ _).length + _ ≤ _; rw [List.length_append, List.length_singleton]; omega)
    rw [ih]
    congr 2
    · show Que.mk _ _ _ _ _ (q.jobs ++ [_] ++ kept xs) _ _ _ _ _ = _
      rw [List.append_assoc]
      rfl
    · have e : linesV ep k (keepWs (x :: xs)) = lineV ep k (keepLn x.id x.text) ++ linesV ep (k + 1) (keepWs xs) := rfl
      rw [e, List.length_append, hk, List.length_cons]
      simp only [Sc.mk.injEq, true_and]
      constructor
      · omega
      · omega
/-- .. and cut off. -/
theorem keeps_less (ep : Int) : ∀ (xs : List Jb) (k : Nat) (q : Que) (s : Sc) (m : Nat), s.seq = k → s.epoch = ep → 1 ≤ k → s.rest = (linesV ep k (keepWs xs)).take m → m < (linesV ep k (keepWs xs)).length → keepsV xs.length q s = none
  | [], k, q, s, m, hk, he, h1, hr, hm => by simp [linesV, keepWs] at hm
  | x :: xs, k, q, s, m, hk, he, h1, hr, hm => by
    have hg := keepLn_good x.id x.text
    have e : linesV ep k (keepWs (x :: xs)) = lineV ep k (keepLn x.id x.text) ++ linesV ep (k + 1) (keepWs xs) := rfl
    rw [e] at hr hm
    rw [List.length_append] at hm
    show keepsV (xs.length + 1) q s = none
    by_cases hl : (lineV ep k (keepLn x.id x.text)).length ≤ m
    · have hr2 : s.rest = lineV ep s.seq (keepLn x.id x.text) ++ (linesV ep (k + 1) (keepWs xs)).take (m - (lineV ep k (keepLn x.id x.text)).length) := by
        rw [hr, hk]
        have e2 : m = (lineV ep k (keepLn x.id x.text)).length + (m - (lineV ep k (keepLn x.id x.text)).length) := by omega
        conv => lhs; rw [e2]
        rw [List.take_length_add_append]
      have hrec := recV_line (s := s) hg.1 hg.2 hr2 (by rw [if_neg (by omega)]; exact he)
      cases hkp : keepV q ((keepLn x.id x.text).getD 1 []) ((keepLn x.id x.text).getD 2 []) false with
      | none => exact keeps_bad hrec hkp
      | some q' =>
        rw [keeps_yes hrec ⟨rfl, rfl⟩ hkp]
        exact keeps_less ep xs (k + 1) q' _ (m - (lineV ep k (keepLn x.id x.text)).length) (by show s.seq + 1 = _; rw [hk]; omega) rfl (by omega) rfl (by omega)
    · have hr2 : s.rest = (lineV ep s.seq (keepLn x.id x.text)).take m := by
        rw [hr, hk, List.take_append_of_le_length (by omega)]
      exact keeps_none (recV_part hg.2 hr2 (by rw [hk]; omega))
theorem run_read : ∀ (n : Nat) (q : Que) (s : Sc), s.read ≤ (runV n q s).2.read
  | 0, q, s => Int.le_refl _
  | n + 1, q, s => by
    unfold runV
    cases hr : recV s with
    | mk o s1 =>
      cases o with
      | none => exact Int.le_refl _
      | some l =>
        simp only
        split
        · exact Int.le_refl _
        · refine Int.le_trans ?_ (run_read n _ s1)
          unfold recV at hr
          cases hc : cutNl s.rest with
          | none => rw [hc] at hr; cases hr
          | some p =>
            rw [hc] at hr
            simp only at hr
            split at hr
            · simp only [Prod.mk.injEq, Option.some.injEq] at hr
              rw [← hr.2]
              show s.read ≤ s.read + (p.1.length : Int) + 1
              omega
            · cases hr
/-- What the records leave of the other fields. -/
structure Same (q q' : Que) : Prop where
  area : q'.area = q.area
  ep : q'.epoch = q.epoch
  ls : q'.leases = q.leases
  nw : q'.now = q.now
  wr : q'.writes = q.writes
theorem Same.trans {a b c : Que} (h : Same a b) (k : Same b c) : Same a c := ⟨k.area.trans h.area, k.ep.trans h.ep, k.ls.trans h.ls, k.nw.trans h.nw, k.wr.trans h.wr⟩
theorem applyV_same {q q' : Que} {l : List (List UInt8)} (h : applyV q l = some q') : Same q q' := by
  unfold applyV at h
  split at h
  · obtain ⟨_, rfl⟩ := keepV_some h
    exact ⟨rfl, rfl, rfl, rfl, rfl⟩
  · split at h
    · unfold dropV at h
      split at h
      · split at h
        · cases h
        · obtain rfl := Option.some.inj h
          exact ⟨rfl, rfl, rfl, rfl, rfl⟩
      · cases h
    · cases h
theorem run_same : ∀ (n : Nat) (q : Que) (s : Sc), Same q (runV n q s).1
  | 0, q, s => ⟨rfl, rfl, rfl, rfl, rfl⟩
  | n + 1, q, s => by
    unfold runV
    cases hr : recV s with
    | mk o s1 =>
      cases o with
      | none => exact ⟨rfl, rfl, rfl, rfl, rfl⟩
      | some l =>
        simp only
        cases ha : applyV q l with
        | none => exact ⟨rfl, rfl, rfl, rfl, rfl⟩
        | some q' => exact (applyV_same ha).trans (run_same n q' s1)
/-- A queue that Open has restored, for a further Put. -/
structure Fresh (q : Que) : Prop where
  ok : QOk q
  sz : q.size ≤ 30000
/-- The area with some first bytes of the records. -/
def areaC (wss : List (List (List UInt8))) (m : Nat) : List UInt8 := lineV 1 0 beginL ++ (linesV 1 1 wss).take m
theorem beginL_ln : lineV 1 0 beginL = lineV 1 0 (beginLn 1 1 (0 : Nat)) := by rw [beginL_is]; rfl
theorem begun_areaC (wss : List (List (List UInt8))) (m : Nat) : begunV (areaC wss m) = some (emptyQ 1 1, ⟨(linesV 1 1 wss).take m, 1, 1, 21⟩) := by
  unfold areaC
  rw [beginL_ln, begun_line (by omega) (by omega) (by omega) (by omega) (by omega), ← beginL_ln, beginL_len]
  rfl
theorem areaC_len (wss : List (List (List UInt8))) (m : Nat) (hf : (linesV 1 1 wss).length ≤ 411 * wss.length) (hn : wss.length ≤ 62) : (areaC wss m).length ≤ 25503 := by
  unfold areaC
  rw [List.length_append, beginL_len, List.length_take]
  omega
theorem foldV_jobs {q qe : Que} {a : List (List (List UInt8))} (h : foldV q a = some qe) : qe.jobs.length ≤ q.jobs.length + a.length := by
  induction a generalizing q with
  | nil => simp only [foldV, Option.some.injEq] at h; rw [h]; simp
  | cons ws a ih =>
    unfold foldV at h
    cases e : applyV q ws with
    | none => rw [e] at h; cases h
    | some q1 =>
      rw [e] at h
      have := ih h
      have h2 : q1.jobs.length ≤ q.jobs.length + 1 := by
        unfold applyV at e
        split at e
        · obtain ⟨_, rfl⟩ := keepV_some e
          show (q.jobs ++ [_]).length ≤ _
          simp
        · split at e
          · unfold dropV at e
            split at e
            · split at e
              · cases e
              · obtain rfl := Option.some.inj e
                show (q.jobs.eraseIdx _).length ≤ _
                have := List.length_eraseIdx_le q.jobs (by assumption)
                omega
            · cases e
          · cases e
      rw [List.length_cons]
      omega
/-- What is restored behind a crash without a compaction. -/
theorem open_areaC {wss : List (List (List UInt8))} {qe : Que} (m : Nat) (hW : Words wss) (hf : (linesV 1 1 wss).length ≤ 411 * wss.length) (hn : wss.length ≤ 62) (hq : foldV (emptyQ 1 1) wss = some qe) {C : List UInt8} (hC : begunV C = none) (hCl : C.length ≤ 65536) :
    ∃ q' j, openV (areaC wss m) C = .ok q' ∧ j ≤ wss.length ∧ (∃ qj, foldV (emptyQ 1 1) (wss.take j) = some qj ∧ q'.jobs = qj.jobs ∧ q'.next = qj.next) ∧ (∀ c, c ≤ wss.length → (linesV 1 1 (wss.take c)).length ≤ m → c ≤ j) ∧ Fresh q' := by
  have hl := areaC_len wss m hf hn
  have hb : bestAB (areaC wss m) C = some (emptyQ 1 1, ⟨(linesV 1 1 wss).take m, 1, 1, 21⟩) := by
    unfold bestAB
    rw [begun_areaC, hC]
    rfl
  obtain ⟨j, hj, h1, h2, h3⟩ := run_part 1 wss 1 (emptyQ 1 1) qe ⟨(linesV 1 1 wss).take m, 1, 1, 21⟩ m (((linesV 1 1 wss).take m).length + 1) hW rfl rfl (Nat.le_refl _) rfl hq (Nat.lt_succ_self _)
  have hS := run_sum (((linesV 1 1 wss).take m).length + 1) (emptyQ 1 1) ⟨(linesV 1 1 wss).take m, 1, 1, 21⟩ (begun_sum (begun_areaC wss m))
  have hR := run_read (((linesV 1 1 wss).take m).length + 1) (emptyQ 1 1) ⟨(linesV 1 1 wss).take m, 1, 1, 21⟩
  have hM := run_same (((linesV 1 1 wss).take m).length + 1) (emptyQ 1 1) ⟨(linesV 1 1 wss).take m, 1, 1, 21⟩
  have ho := openV_ok (A := areaC wss m) (B := C) (by omega) hb
  have hk := open_ok ho
  have hjl := foldV_jobs h1
  refine ⟨_, j, ho, hj, ⟨_, h1, rfl, rfl⟩, h3, ?_⟩
  obtain ⟨p, hp⟩ : ∃ p, p = runV (((linesV 1 1 wss).take m).length + 1) (emptyQ 1 1) ⟨(linesV 1 1 wss).take m, 1, 1, 21⟩ := ⟨_, rfl⟩
  rw [← hp] at h2 hS hR hM hk
  show Fresh (endQ (areaC wss m) C (runV (((linesV 1 1 wss).take m).length + 1) (emptyQ 1 1) ⟨(linesV 1 1 wss).take m, 1, 1, 21⟩))
  rw [← hp]
  unfold Sums at hS
  have hR' : (21 : Int) ≤ p.2.read := hR
  have hsz : 0 ≤ p.2.read ∧ p.2.read ≤ 30000 := by omega
  refine ⟨⟨.inl hM.area, ?_, ?_, ?_, ?_, ?_, ?_, ?_, ?_⟩, hsz.2⟩
  · show 0 ≤ p.1.epoch ∧ p.1.epoch ≤ 2147483648
    rw [hM.ep]; exact ⟨by decide, by decide⟩
  · exact ⟨hk.2.1, by have := hk.2.2; omega⟩
  · show 0 ≤ p.1.leases ∧ p.1.leases ≤ 4611686018427387904
    rw [hM.ls]; exact ⟨by decide, by decide⟩
  · show 0 ≤ p.1.now ∧ p.1.now ≤ 1099511627776
    rw [hM.nw]; exact ⟨by decide, by decide⟩
  · exact ⟨hsz.1, by show p.2.read ≤ 65536; omega⟩
  · show 0 ≤ p.2.seq ∧ p.2.seq ≤ 2147483648
    rw [h2]; omega
  · show p.1.writes.length ≤ _
    rw [hM.wr]; decide
  · exact hk.1
/-- The first part of a list with a part of the rest. -/
theorem take_app (a b : List UInt8) (n : Nat) : a ++ b.take n = (a ++ b).take (a.length + n) := by
  rw [List.take_length_add_append]
theorem Hist.arrive {q : Que} {wss : List (List (List UInt8))} {c : Nat} (h : Hist q wss c) (n : Nat) : (arvV ⟨n, q.a0.data.toList, q.a1.data.toList⟩ q.writes).a = areaC wss ((linesV 1 1 (wss.take c)).length + n) ∧ (arvV ⟨n, q.a0.data.toList, q.a1.data.toList⟩ q.writes).b = [] := by
  have hc : c ≤ wss.length := by have := h.wl; omega
  obtain ⟨h1, h2⟩ := arv_zero q.writes h.wa ⟨n, q.a0.data.toList, q.a1.data.toList⟩
  rw [h1, h2, h.a1]
  refine ⟨?_, rfl⟩
  show q.a0.data.toList ++ (dataW q.writes).take n = _
  rw [h.a0, h.wr, List.append_assoc, take_app]
  unfold areaC
  congr 2
  conv => rhs; rw [← List.take_append_drop c wss]
  rw [linesV_app, List.length_take, Nat.min_eq_left hc, Nat.add_comm 1 c]
/-- Behind a crash: a queue as it was behind some of its writes, at least behind those that were certain. -/
theorem Hist.crash {q : Que} {wss : List (List (List UInt8))} {c : Nat} (h : Hist q wss c) (hn : wss.length ≤ 62) (n : Nat) :
    ∃ q' j, openV (arvV ⟨n, q.a0.data.toList, q.a1.data.toList⟩ q.writes).a (arvV ⟨n, q.a0.data.toList, q.a1.data.toList⟩ q.writes).b = .ok q' ∧ c ≤ j ∧ j ≤ wss.length ∧ (∃ qj, foldV (emptyQ 1 1) (wss.take j) = some qj ∧ q'.jobs = qj.jobs ∧ q'.next = qj.next) ∧ Fresh q' := by
  have hc : c ≤ wss.length := by have := h.wl; omega
  obtain ⟨h1, h2⟩ := h.arrive n
  rw [h1, h2]
  obtain ⟨qe, hf, _, _⟩ := h.fold
  obtain ⟨q', j, ho, hj, hq, hcm, hF⟩ := open_areaC ((linesV 1 1 (wss.take c)).length + n) h.good h.fit hn hf begun_nil (by simp)
  exact ⟨q', j, ho, hcm c hc (Nat.le_add_right _ _), hj, hq, hF⟩
end Go.Proofs.YtnnnihjagjfkdaaGreatDoor
namespace Go.Proofs.YtnnnihjagjfkdaaGreatDoor
open Go.RowKit
set_option linter.unusedVariables false
theorem arv_one (l : List Wr) (h : ∀ x ∈ l, x.area = 1) : ∀ s : Arv, (arvV s l).a = s.a ∧ (arvV s l).b = s.b ++ (dataW l).take s.left := by
  induction l with
  | nil => intro s; simp [arvV, dataW]
  | cons x l ih =>
    intro s
    have hx : ¬ x.area = 0 := by rw [h x (by simp)]; decide
    have h2 := ih (fun y hy => h y (by simp [hy])) (arvStep s x)
    show (arvV (arvStep s x) l).a = _ ∧ (arvV (arvStep s x) l).b = _
    rw [h2.1, h2.2]
    unfold arvStep
    simp only [if_neg hx]
    refine ⟨trivial, ?_⟩
    have e : dataW (x :: l) = x.data.data.toList ++ dataW l := by simp [dataW]
    have e2 : x.data.data.toList.length = x.data.size := by simp
    rw [e, List.append_assoc, List.take_append]
    congr 2
    · rw [← e2, ← List.take_take, List.take_length]
    · rw [e2]
      congr 1
      omega
theorem dataW_comp (ar : Int) (ls : List (List UInt8)) : dataW (compWs ar ls) = ls.flatten := by
  induction ls with
  | nil => rfl
  | cons x ls ih =>
    have e : dataW (compWs ar (x :: ls)) = x ++ dataW (compWs ar ls) := by simp [dataW, compWs, strB]
    rw [e, ih]
    rfl
theorem keepLs_lines (ep : Int) : ∀ (k : Nat) (xs : List Jb), (keepLs ep k xs).flatten = linesV ep (k + 1) (keepWs xs)
  | k, [] => rfl
  | k, x :: xs => by
    show lineV ep ((k : Int) + 1) (keepLn x.id x.text) ++ (keepLs ep (k + 1) xs).flatten = lineV ep ((k + 1 : Nat) : Int) (keepLn x.id x.text) ++ linesV ep (k + 1 + 1) (keepWs xs)
    rw [keepLs_lines ep (k + 1) xs]
    rfl
theorem sumL_flatten (ls : List (List UInt8)) : sumL ls = ls.flatten.length := by simp [sumL, List.length_flatten]
theorem kept_show (xs : List Jb) : (kept xs).map showJ = xs.map showJ := by
  unfold kept
  rw [List.map_map]
  rfl
theorem sizeW_data (l : List Wr) : sizeW l = (dataW l).length := by
  induction l with
  | nil => rfl
  | cons x l ih =>
    have e1 : sizeW (x :: l) = x.data.size + sizeW l := by simp [sizeW]
    have e2 : dataW (x :: l) = x.data.data.toList ++ dataW l := by simp [dataW]
    rw [e1, e2, List.length_append, ih]
    simp
theorem Hist.all {q : Que} {wss : List (List (List UInt8))} {c : Nat} (h : Hist q wss c) : q.a0.data.toList ++ dataW q.writes = areaC wss (linesV 1 1 wss).length := by
  have hc : c ≤ wss.length := by have := h.wl; omega
  rw [h.a0, h.wr, List.append_assoc]
  unfold areaC
  rw [List.take_length]
  congr 1
  conv => rhs; rw [← List.take_append_drop c wss]
  rw [linesV_app, List.length_take, Nat.min_eq_left hc, Nat.add_comm 1 c]
theorem Hist.small {q : Que} {wss : List (List (List UInt8))} {c : Nat} (h : Hist q wss c) (hn : wss.length ≤ 62) : q.a0.size + q.a1.size + sizeW q.writes ≤ 30000 := by
  have h1 := congrArg List.length h.all
  have h2 := areaC_len wss (linesV 1 1 wss).length h.fit hn
  rw [List.length_append] at h1
  have h3 : q.a0.data.toList.length = q.a0.size := by simp
  have h4 : q.a1.size = 0 := by rw [h.a1]; rfl
  rw [sizeW_data]
  omega
theorem Hist.areas {q : Que} {wss : List (List (List UInt8))} {c : Nat} (h : Hist q wss c) : q.writes.all okArea = true := by
  rw [List.all_eq_true]
  intro x hx
  unfold okArea
  rw [decide_eq_true_eq]
  exact .inl (h.wa x hx)
theorem Hist.jobsOk {q : Que} {wss : List (List (List UInt8))} {c : Nat} (h : Hist q wss c) (hn : wss.length ≤ 62) : JobsOk q.jobs := fun j hj => by
  obtain ⟨i, hi, rfl⟩ := List.getElem_of_mem hj
  have h1 := h.ids.low i hi
  have h2 := h.nx
  exact ⟨by omega, by omega, h.text _ (List.getElem_mem hi)⟩
theorem Hist.sumC {q : Que} {wss : List (List (List UInt8))} {c : Nat} (h : Hist q wss c) (hn : wss.length ≤ 62) : sumL (compLs q q.jobs.length) ≤ 26000 := by
  have h1 := h.nx
  have h2 := h.jl
  have := compLs_le q q.jobs.length (h.jobsOk hn) (Nat.le_refl _) (by omega) (by rw [h.ep]; omega) (by rw [h.ep]; omega) (by omega) (by omega)
  omega
theorem Hist.compIn {q : Que} {wss : List (List (List UInt8))} {c : Nat} (h : Hist q wss c) (hn : wss.length ≤ 62) {w : World} {B b : Nat} {vj vw : Value} (hq : QAt w B b q vj vw) (hB : B ≤ w.heap.size) (ht : Tabs w) : CompIn w B b q vj vw :=
  ⟨hq, h.ok hn, ht, hB, h.jobsOk hn, by rw [h.ep]; omega, by have := h.sumC hn; omega, h.areas, by have := h.small hn; omega⟩
theorem Hist.compOk {q : Que} {wss : List (List (List UInt8))} {c : Nat} (h : Hist q wss c) (hn : wss.length ≤ 62) : Fresh (compQ q) := by
  have h1 := h.sumC hn
  have h2 := h.jl
  have h3 := h.nx
  have h4 := h.ls
  have e : (compQ q).writes.length = q.jobs.length + 1 := by
    show (compWs _ _).length = _
    unfold compWs
    rw [List.length_map, compLs_len q q.jobs.length (Nat.le_refl _)]
  refine ⟨⟨.inr (by show 1 - q.area = 1; rw [h.area]; rfl), ?_, ?_, ?_, ?_, ?_, ?_, ?_, ?_⟩, ?_⟩
  · show 0 ≤ q.epoch + 1 ∧ q.epoch + 1 ≤ _
    rw [h.ep]; exact ⟨by decide, by decide⟩
  · exact ⟨by show 0 ≤ q.next; omega, by show q.next ≤ _; omega⟩
  · exact ⟨by show 0 ≤ q.leases; omega, by show q.leases ≤ _; omega⟩
  · show 0 ≤ q.now ∧ q.now ≤ _
    rw [h.nw]; exact ⟨by decide, by decide⟩
  · exact ⟨by show (0 : Int) ≤ (sumL _ : Nat); omega, by show ((sumL _ : Nat) : Int) ≤ 65536; omega⟩
  · exact ⟨by show (0 : Int) ≤ (q.jobs.length : Int) + 1; omega, by show (q.jobs.length : Int) + 1 ≤ _; omega⟩
  · rw [e]; omega
  · show q.jobs.length ≤ 64; omega
  · show ((sumL _ : Nat) : Int) ≤ 30000; omega
/-- Behind a compaction and a crash: the jobs, and the next number. -/
theorem Hist.comp {q : Que} {wss : List (List (List UInt8))} {c : Nat} (h : Hist q wss c) (hn : wss.length ≤ 62) (n : Nat) :
    ∃ q', openV (arvV ⟨n, (compQ q).a0.data.toList, (compQ q).a1.data.toList⟩ (compQ q).writes).a (arvV ⟨n, (compQ q).a0.data.toList, (compQ q).a1.data.toList⟩ (compQ q).writes).b = .ok q' ∧ q'.jobs.map showJ = q.jobs.map showJ ∧ q'.next = q.next ∧ Fresh q' := by
  have hc : c ≤ wss.length := by have := h.wl; omega
  have hnx := h.nx
  have hjl := h.jl
  have hw : ∀ x ∈ (compQ q).writes, x.area = 1 := fun x hx => by
    have hx2 : x ∈ compWs (1 - q.area) (compLs q q.jobs.length) := hx
    unfold compWs at hx2
    obtain ⟨l, _, rfl⟩ := List.mem_map.1 hx2
    show 1 - q.area = 1
    rw [h.area]; rfl
  have e : syncP q = (q.a0.data.toList ++ dataW q.writes, q.a1.data.toList) := synV_zero _ _ h.wa
  have ea0 : (compQ q).a0.data.toList = areaC wss (linesV 1 1 wss).length := by
    show (if q.area = 0 then strB (syncP q).1 else ⟨#[]⟩).data.toList = _
    rw [if_pos h.area, e]
    exact h.all
  have ea1 : (compQ q).a1.data.toList = [] := by
    show (if q.area = 0 then (⟨#[]⟩ : ByteArray) else strB (syncP q).2).data.toList = _
    rw [if_pos h.area]
  obtain ⟨h1, h2⟩ := arv_one (compQ q).writes hw ⟨n, (compQ q).a0.data.toList, (compQ q).a1.data.toList⟩
  have ed : dataW (compQ q).writes = lineV 2 0 (beginLn 2 q.next q.jobs.length) ++ linesV 2 1 (keepWs q.jobs) := by
    show dataW (compWs _ (compLs q q.jobs.length)) = _
    rw [dataW_comp]
    unfold compLs
    rw [h.ep, List.take_length, List.flatten_cons, keepLs_lines]
    rfl
  rw [h1, h2, ed]
  show ∃ q', openV (compQ q).a0.data.toList ((compQ q).a1.data.toList ++ (lineV 2 0 (beginLn 2 q.next q.jobs.length) ++ linesV 2 1 (keepWs q.jobs)).take n) = .ok q' ∧ _
  rw [ea0, ea1, List.nil_append]
  have hl := areaC_len wss (linesV 1 1 wss).length h.fit hn
  have hsum := h.sumC hn
  have hlen : (lineV 2 0 (beginLn 2 q.next q.jobs.length) ++ linesV 2 1 (keepWs q.jobs)).length ≤ 26000 := by
    rw [← ed]
    show (dataW (compWs _ _)).length ≤ _
    rw [dataW_comp, ← sumL_flatten]
    exact hsum
  obtain ⟨qe, hf, hej, hen⟩ := h.fold
  have old : begunV ((lineV 2 0 (beginLn 2 q.next q.jobs.length) ++ linesV 2 1 (keepWs q.jobs)).take n) = none → ∃ q', openV (areaC wss (linesV 1 1 wss).length) ((lineV 2 0 (beginLn 2 q.next q.jobs.length) ++ linesV 2 1 (keepWs q.jobs)).take n) = .ok q' ∧ q'.jobs.map showJ = q.jobs.map showJ ∧ q'.next = q.next ∧ Fresh q' := fun hb => by
    obtain ⟨q', j, ho, hj, ⟨qj, k1, k2, k3⟩, hcm, hF⟩ := open_areaC (linesV 1 1 wss).length h.good h.fit hn hf hb (by rw [List.length_take]; omega)
    have hj2 := hcm wss.length (Nat.le_refl _) (by rw [List.take_length]; exact Nat.le_refl _)
    have ej : j = wss.length := by omega
    rw [ej, List.take_length, hf] at k1
    obtain rfl := Option.some.inj k1
    exact ⟨q', ho, by rw [k2, hej], by rw [k3, hen], hF⟩
  by_cases ht : (lineV 2 0 (beginLn 2 q.next q.jobs.length) ++ linesV 2 1 (keepWs q.jobs)).length ≤ n
  · rw [List.take_of_length_le ht]
    have hids : ∀ x ∈ q.jobs, lastId (emptyQ 2 q.next).jobs < x.id ∧ 0 ≤ x.id ∧ x.text.size ≤ 256 := fun x hx => by
      obtain ⟨i, hi, rfl⟩ := List.getElem_of_mem hx
      have := h.ids.low i hi
      exact ⟨by show (0 : Int) < _; omega, by omega, h.text _ (List.getElem_mem hi)⟩
    have hk := keeps_whole 2 q.jobs 1 (emptyQ 2 q.next) ⟨linesV 2 1 (keepWs q.jobs), 2, 1, ((lineV 2 0 (beginLn 2 q.next q.jobs.length)).length : Nat)⟩ [] rfl rfl (Nat.le_refl _) (by rw [List.append_nil]) hids h.ids (by show q.next ≤ _; omega) (by show ([] : List Jb).length + _ ≤ _; simp; omega)
    have hb : begunV (lineV 2 0 (beginLn 2 q.next q.jobs.length) ++ linesV 2 1 (keepWs q.jobs)) = _ := (begun_line (by omega) (by omega) hnx.1 (by omega) (by omega)).trans hk
    have hbest : bestAB (areaC wss (linesV 1 1 wss).length) (lineV 2 0 (beginLn 2 q.next q.jobs.length) ++ linesV 2 1 (keepWs q.jobs)) = some ({ emptyQ 2 q.next with jobs := (emptyQ 2 q.next).jobs ++ kept q.jobs, area := 1 }, ⟨[], 2, (1 : Nat) + (q.jobs.length : Nat), ((lineV 2 0 (beginLn 2 q.next q.jobs.length)).length : Nat) + ((linesV 2 1 (keepWs q.jobs)).length : Nat)⟩) := by
      unfold bestAB
      rw [hb, begun_areaC]
      rfl
    have ho := openV_ok (A := areaC wss (linesV 1 1 wss).length) (B := lineV 2 0 (beginLn 2 q.next q.jobs.length) ++ linesV 2 1 (keepWs q.jobs)) (by omega) hbest
    rw [run_stop _ _ _ rfl] at ho
    refine ⟨_, ho, ?_, rfl, ⟨⟨.inr rfl, ⟨by show (0 : Int) ≤ 2; decide, by show (2 : Int) ≤ 2147483648; decide⟩, ⟨by show 0 ≤ q.next; omega, by show q.next ≤ _; omega⟩, ⟨by show (0 : Int) ≤ 0; decide, by show (0 : Int) ≤ 4611686018427387904; decide⟩, ⟨by show (0 : Int) ≤ 0; decide, by show (0 : Int) ≤ 1099511627776; decide⟩, ?_, ?_, by show ([] : List Wr).length ≤ 1000000000; decide, ?_⟩, ?_⟩⟩
    · show ([] ++ kept q.jobs).map showJ = _
      rw [List.nil_append, kept_show]
    · rw [List.length_append] at hlen
      constructor
      · show (0 : Int) ≤ ((lineV 2 0 (beginLn 2 q.next q.jobs.length)).length : Nat) + ((linesV 2 1 (keepWs q.jobs)).length : Nat)
        omega
      · show (((lineV 2 0 (beginLn 2 q.next q.jobs.length)).length : Nat) + ((linesV 2 1 (keepWs q.jobs)).length : Nat) : Int) ≤ 65536
        omega
    · show (0 : Int) ≤ (1 : Nat) + (q.jobs.length : Nat) ∧ ((1 : Nat) + (q.jobs.length : Nat) : Int) ≤ 2147483648
      omega
    · show ([] ++ kept q.jobs).length ≤ 64
      unfold kept
      simp
      omega
    · rw [List.length_append] at hlen
      show (((lineV 2 0 (beginLn 2 q.next q.jobs.length)).length : Nat) + ((linesV 2 1 (keepWs q.jobs)).length : Nat) : Int) ≤ 30000
      omega
  · refine old ?_
    rw [List.length_append] at ht
    by_cases h0 : (lineV 2 0 (beginLn 2 q.next q.jobs.length)).length ≤ n
    · have e2 : n = (lineV 2 0 (beginLn 2 q.next q.jobs.length)).length + (n - (lineV 2 0 (beginLn 2 q.next q.jobs.length)).length) := by omega
      rw [e2, List.take_length_add_append, begun_line (by omega) (by omega) hnx.1 (by omega) (by omega)]
      exact keeps_less 2 q.jobs 1 _ _ (n - (lineV 2 0 (beginLn 2 q.next q.jobs.length)).length) rfl rfl (Nat.le_refl _) rfl (by omega)
    · rw [List.take_append_of_le_length (by omega)]
      exact begun_part (by omega)
theorem Hist.compAreas {q : Que} {wss : List (List (List UInt8))} {c : Nat} (h : Hist q wss c) : (compQ q).writes.all okArea = true := by
  rw [List.all_eq_true]
  intro x hx
  have hx2 : x ∈ compWs (1 - q.area) (compLs q q.jobs.length) := hx
  unfold compWs at hx2
  obtain ⟨l, _, rfl⟩ := List.mem_map.1 hx2
  unfold okArea
  rw [decide_eq_true_eq]
  right
  show 1 - q.area = 1
  rw [h.area]; rfl
theorem Hist.compSmall {q : Que} {wss : List (List (List UInt8))} {c : Nat} (h : Hist q wss c) (hn : wss.length ≤ 62) : (compQ q).a0.size + (compQ q).a1.size + sizeW (compQ q).writes ≤ 2000000 := by
  have e : syncP q = (q.a0.data.toList ++ dataW q.writes, q.a1.data.toList) := synV_zero _ _ h.wa
  have ea0 : (compQ q).a0.data.toList = areaC wss (linesV 1 1 wss).length := by
    show (if q.area = 0 then strB (syncP q).1 else ⟨#[]⟩).data.toList = _
    rw [if_pos h.area, e]
    exact h.all
  have ea1 : (compQ q).a1.data.toList = [] := by
    show (if q.area = 0 then (⟨#[]⟩ : ByteArray) else strB (syncP q).2).data.toList = _
    rw [if_pos h.area]
  have h1 := congrArg List.length ea0
  have h2 := congrArg List.length ea1
  have h3 : (compQ q).a0.data.toList.length = (compQ q).a0.size := by simp
  have h4 : (compQ q).a1.data.toList.length = (compQ q).a1.size := by simp
  have hl := areaC_len wss (linesV 1 1 wss).length h.fit hn
  have hsum := h.sumC hn
  have e2 : sizeW (compQ q).writes = sumL (compLs q q.jobs.length) := by
    rw [sizeW_data]
    show (dataW (compWs _ _)).length = _
    rw [dataW_comp, sumL_flatten]
  simp only [List.length_nil] at h2
  omega
end Go.Proofs.YtnnnihjagjfkdaaGreatDoor
