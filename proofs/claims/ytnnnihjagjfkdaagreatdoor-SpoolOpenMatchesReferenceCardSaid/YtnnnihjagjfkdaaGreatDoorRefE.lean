/-
  Which area is taken: plain. Own text.
-/
import Derived.Test.YtnnnihjagjfkdaaGreatDoorRefS
import Derived.Test.YtnnnihjagjfkdaaGreatDoorHistC
namespace Go.Proofs.YtnnnihjagjfkdaaGreatDoor
open Go.RowKit
set_option linter.unusedVariables false
def inArea (q : Que) (k : Int) : Que := { q with area := k }
theorem keepV_area (q : Que) (k : Int) (id tx : List UInt8) (fresh : Bool) : keepV (inArea q k) id tx fresh = (keepV q id tx fresh).map (fun r => inArea r k) := by
  unfold keepV
  by_cases h : keepOk q (numV id) (decV tx) fresh
  · rw [if_pos h, if_pos (show keepOk (inArea q k) (numV id) (decV tx) fresh from h)]
    rfl
  · rw [if_neg h, if_neg (show ¬ keepOk (inArea q k) (numV id) (decV tx) fresh from h)]
    rfl
theorem dropV_area (q : Que) (k : Int) (n : Int × Bool) : dropV (inArea q k) n = (dropV q n).map (fun r => inArea r k) := by
  unfold dropV
  by_cases h : n.2 = true
  · rw [if_pos h, if_pos h]
    show (match q.jobs.findIdx? (hasId n.1) with
      | none => none
      | some m => some (inArea { q with jobs := q.jobs.eraseIdx m } k)) = _
    cases q.jobs.findIdx? (hasId n.1) with
    | none => rfl
    | some m => rfl
  · rw [if_neg h, if_neg h]; rfl
theorem applyV_area (q : Que) (k : Int) (l : List (List UInt8)) : applyV (inArea q k) l = (applyV q l).map (fun r => inArea r k) := by
  unfold applyV
  by_cases h1 : l.length = 3 ∧ l.getD 0 [] = putB
  · rw [if_pos h1, if_pos h1]; exact keepV_area q k _ _ _
  · rw [if_neg h1, if_neg h1]
    by_cases h2 : l.length = 2 ∧ l.getD 0 [] = doneB
    · rw [if_pos h2, if_pos h2]; exact dropV_area q k _
    · rw [if_neg h2, if_neg h2]; rfl
theorem runV_area : ∀ (n : Nat) (q : Que) (k : Int) (s : Sc), runV n (inArea q k) s = (inArea (runV n q s).1 k, (runV n q s).2)
  | 0, q, k, s => rfl
  | n + 1, q, k, s => by
    unfold runV
    cases hr : recV s with
    | mk o s1 =>
      cases o with
      | none => rfl
      | some l =>
        simp only
        rw [applyV_area]
        cases ha : applyV q l with
        | none => rfl
        | some q' => exact runV_area n q' k s1
theorem takeB (a : ByteArray) (n : Nat) : strB (a.data.toList.take n) = a.extract 0 n := by
  apply ByteArray.ext
  apply Array.ext'
  rw [extractL]
  rfl
theorem open_first {a b : ByteArray} (hl : ¬ (65536 < a.size ∨ 65536 < b.size)) {q0 q : Que} {s0 s : Sc} (h : begunV a.data.toList = some (q0, s0)) (hr : runV (s0.rest.length + 1) q0 s0 = (q, s)) (hb : begunV b.data.toList = none ∨ ∃ p, begunV b.data.toList = some p ∧ ¬ q0.epoch < p.1.epoch) :
    ∃ Q, openV a.data.toList b.data.toList = .ok Q ∧ Q.jobs = q.jobs ∧ Q.next = q.next ∧ Q.a0 = a.extract 0 s.read.toNat ∧ Q.a1 = b := by
  have hal : a.data.toList.length = a.size := by simp
  have hbl : b.data.toList.length = b.size := by simp
  have hbb : bestAB a.data.toList b.data.toList = some (inArea q0 0, s0) := by
    unfold bestAB
    rw [h]
    show bestV (some (inArea q0 0, s0)) 1 (begunV b.data.toList) = _
    rcases hb with e | ⟨p, e, hn⟩
    · rw [e]; rfl
    · rw [e]
      obtain ⟨p1, p2⟩ := p
      show (if (inArea q0 0).epoch < p1.epoch then some ({ p1 with area := 1 }, p2) else some (inArea q0 0, s0)) = _
      exact if_neg hn
  refine ⟨_, openV_ok (by rw [hal, hbl]; exact hl) hbb, ?_⟩
  rw [runV_area, hr]
  refine ⟨rfl, rfl, ?_, ?_⟩
  · show (if (0 : Int) = 0 then strB (a.data.toList.take s.read.toNat) else strB a.data.toList) = _
    rw [if_pos rfl, takeB]
  · show (if (0 : Int) = 0 then strB b.data.toList else strB (b.data.toList.take s.read.toNat)) = _
    rw [if_pos rfl]
    exact strB_eq _
theorem open_second {a b : ByteArray} (hl : ¬ (65536 < a.size ∨ 65536 < b.size)) {q0 q : Que} {s0 s : Sc} (h : begunV b.data.toList = some (q0, s0)) (hr : runV (s0.rest.length + 1) q0 s0 = (q, s)) (hb : begunV a.data.toList = none ∨ ∃ p, begunV a.data.toList = some p ∧ p.1.epoch < q0.epoch) :
    ∃ Q, openV a.data.toList b.data.toList = .ok Q ∧ Q.jobs = q.jobs ∧ Q.next = q.next ∧ Q.a0 = a ∧ Q.a1 = b.extract 0 s.read.toNat := by
  have hal : a.data.toList.length = a.size := by simp
  have hbl : b.data.toList.length = b.size := by simp
  have hbb : bestAB a.data.toList b.data.toList = some (inArea q0 1, s0) := by
    unfold bestAB
    rw [h]
    rcases hb with e | ⟨p, e, hn⟩
    · rw [e]; rfl
    · rw [e]
      obtain ⟨p1, p2⟩ := p
      show (if p1.epoch < q0.epoch then some (inArea q0 1, s0) else some ({ p1 with area := 0 }, p2)) = _
      exact if_pos hn
  refine ⟨_, openV_ok (by rw [hal, hbl]; exact hl) hbb, ?_⟩
  rw [runV_area, hr]
  refine ⟨rfl, rfl, ?_, ?_⟩
  · show (if (1 : Int) = 0 then strB (a.data.toList.take s.read.toNat) else strB a.data.toList) = _
    rw [if_neg (by decide)]
    exact strB_eq _
  · show (if (1 : Int) = 0 then strB b.data.toList else strB (b.data.toList.take s.read.toNat)) = _
    rw [if_neg (by decide), takeB]
theorem open_lost {a b : ByteArray} (hl : ¬ (65536 < a.size ∨ 65536 < b.size)) (ha : begunV a.data.toList = none) (hb : begunV b.data.toList = none) : openV a.data.toList b.data.toList = .error 21 := by
  have hal : a.data.toList.length = a.size := by simp
  have hbl : b.data.toList.length = b.size := by simp
  refine openV_lost (by rw [hal, hbl]; exact hl) ?_
  unfold bestAB
  rw [ha, hb]
  rfl
theorem best_from {A C : List UInt8} {q0 : Que} {s0 : Sc} (h : bestAB A C = some (q0, s0)) : ∃ q', (begunV A = some (q', s0) ∧ q0 = inArea q' 0) ∨ (begunV C = some (q', s0) ∧ q0 = inArea q' 1) := by
  unfold bestAB at h
  cases ha : begunV A with
  | none =>
    rw [ha] at h
    cases hc : begunV C with
    | none => rw [hc] at h; cases h
    | some p =>
      obtain ⟨qc, sc⟩ := p
      rw [hc] at h
      simp only [bestV, Option.some.injEq, Prod.mk.injEq] at h
      obtain ⟨rfl, rfl⟩ := h
      exact ⟨qc, .inr ⟨rfl, rfl⟩⟩
  | some p =>
    obtain ⟨qa, sa⟩ := p
    rw [ha] at h
    cases hc : begunV C with
    | none =>
      rw [hc] at h
      simp only [bestV, Option.some.injEq, Prod.mk.injEq] at h
      obtain ⟨rfl, rfl⟩ := h
      exact ⟨qa, .inl ⟨rfl, rfl⟩⟩
    | some p =>
      obtain ⟨qc, sc⟩ := p
      rw [hc] at h
      simp only [bestV] at h
      split at h
      · simp only [Option.some.injEq, Prod.mk.injEq] at h
        obtain ⟨rfl, rfl⟩ := h
        exact ⟨qc, .inr ⟨rfl, rfl⟩⟩
      · simp only [Option.some.injEq, Prod.mk.injEq] at h
        obtain ⟨rfl, rfl⟩ := h
        exact ⟨qa, .inl ⟨rfl, rfl⟩⟩
/-- A queue that was just read. -/
structure InitQ (q : Que) : Prop where
  e1 : 1 ≤ q.epoch
  e2 : q.epoch ≤ 1073741824
  ls : q.leases = 0
  nw : q.now = 0
  wr : q.writes = []
structure ScUp (s : Sc) : Prop where
  s0 : 0 ≤ s.seq
  s1 : s.seq ≤ s.read
theorem recV_up {s s' : Sc} {l : List (List UInt8)} (h : recV s = (some l, s')) (hs : ScUp s) : ScUp s' := by
  unfold recV at h
  cases hc : cutNl s.rest with
  | none => rw [hc] at h; cases h
  | some p =>
    rw [hc] at h
    simp only at h
    split at h
    · simp only [Prod.mk.injEq, Option.some.injEq] at h
      obtain ⟨-, rfl⟩ := h
      have h1 := hs.s0
      have h2 := hs.s1
      exact ⟨by show 0 ≤ s.seq + 1; omega, by show s.seq + 1 ≤ s.read + (p.1.length : Int) + 1; omega⟩
    · cases h
theorem keeps_up : ∀ (n : Nat) {q q' : Que} {s s' : Sc}, keepsV n q s = some (q', s') → ScUp s → InitQ q → ScUp s' ∧ InitQ q'
  | 0, q, q', s, s', h, hs, hq => by
    simp only [keepsV, Option.some.injEq, Prod.mk.injEq] at h
    rw [← h.2, ← h.1]; exact ⟨hs, hq⟩
  | n + 1, q, q', s, s', h, hs, hq => by
    unfold keepsV at h
    cases hr : recV s with
    | mk o s1 =>
      rw [hr] at h
      cases o with
      | none => cases h
      | some l =>
        simp only at h
        split at h
        · split at h
          · cases h
          · rename_i q1 hk
            obtain ⟨-, rfl⟩ := keepV_some hk
            exact keeps_up n h (recV_up hr hs) ⟨hq.e1, hq.e2, hq.ls, hq.nw, hq.wr⟩
        · cases h
theorem begun_up {a : List UInt8} {q : Que} {s : Sc} (h : begunV a = some (q, s)) : ScUp s ∧ InitQ q := by
  unfold begunV at h
  cases hr : recV ⟨a, 0, 0, 0⟩ with
  | mk o s1 =>
    rw [hr] at h
    cases o with
    | none => cases h
    | some l =>
      simp only at h
      split at h
      · rename_i hb
        exact keeps_up _ h (recV_up hr ⟨Int.le_refl _, Int.le_refl _⟩) ⟨hb.e0, hb.e1, rfl, rfl, rfl⟩
      · cases h
theorem run_up : ∀ (n : Nat) (q : Que) (s : Sc), ScUp s → ScUp (runV n q s).2
  | 0, q, s, hs => hs
  | n + 1, q, s, hs => by
    unfold runV
    cases hr : recV s with
    | mk o s1 =>
      cases o with
      | none => exact hs
      | some l =>
        simp only
        split
        · exact hs
        · exact run_up n _ _ (recV_up hr hs)
/-- The area that was taken has the queue's size, and the queue's numbers are in range. -/
theorem open_sizes {A C : List UInt8} {q : Que} (h : openV A C = .ok q) : QOk q ∧ (q.size = q.a0.size ∨ q.size = q.a1.size) ∧ q.writes = [] := by
  have hok := open_ok h
  by_cases hl : 65536 < A.length ∨ 65536 < C.length
  · rw [openV_large hl] at h; cases h
  cases hb : bestAB A C with
  | none => rw [openV_lost hl hb] at h; cases h
  | some p =>
    obtain ⟨q0, s0⟩ := p
    rw [openV_ok hl hb] at h
    obtain rfl := (Except.ok.inj h).symm
    obtain ⟨q', hq'⟩ := best_from hb
    have hkey : ∃ X : List UInt8, X.length ≤ 65536 ∧ begunV X = some (q', s0) ∧ ((X = A ∧ q0 = inArea q' 0) ∨ (X = C ∧ q0 = inArea q' 1)) := by
      rcases hq' with ⟨h1, h2⟩ | ⟨h1, h2⟩
      · exact ⟨A, by omega, h1, .inl ⟨rfl, h2⟩⟩
      · exact ⟨C, by omega, h1, .inr ⟨rfl, h2⟩⟩
    obtain ⟨X, hX, hbg, hc⟩ := hkey
    have hsum := run_sum (s0.rest.length + 1) q0 s0 (begun_sum hbg)
    obtain ⟨hup, hin⟩ := begun_up hbg
    have hup2 := run_up (s0.rest.length + 1) q0 s0 hup
    have hsm := run_same (s0.rest.length + 1) q0 s0
    have hin0 : InitQ q0 := by
      rcases hc with ⟨-, e⟩ | ⟨-, e⟩
      · rw [e]; exact ⟨hin.e1, hin.e2, hin.ls, hin.nw, hin.wr⟩
      · rw [e]; exact ⟨hin.e1, hin.e2, hin.ls, hin.nw, hin.wr⟩
    have har : q0.area = 0 ∧ X = A ∨ q0.area = 1 ∧ X = C := by
      rcases hc with ⟨e1, e⟩ | ⟨e1, e⟩
      · exact .inl ⟨by rw [e]; rfl, e1⟩
      · exact .inr ⟨by rw [e]; rfl, e1⟩
    obtain ⟨p, hp⟩ : ∃ p, p = runV (s0.rest.length + 1) q0 s0 := ⟨_, rfl⟩
    rw [← hp] at hsum hup2 hsm hok ⊢
    obtain ⟨u0, u1⟩ := hup2
    unfold Sums at hsum
    have rd1 : p.2.read ≤ 65536 := by omega
    have hpa : p.1.area = q0.area := hsm.area
    have hlen : (strB (X.take p.2.read.toNat)).size = p.2.read.toNat := by
      rw [strB_size, List.length_take]; omega
    have he := hsm.ep
    have h1 := hin0.e1
    have h2 := hin0.e2
    refine ⟨⟨?_, ⟨?_, ?_⟩, ⟨hok.2.1, by show p.1.next ≤ _; have := hok.2.2; have e : (endQ A C p).next = p.1.next := rfl; omega⟩, ⟨?_, ?_⟩, ⟨?_, ?_⟩, ⟨by show 0 ≤ p.2.read; omega, rd1⟩, ⟨u0, by show p.2.seq ≤ _; omega⟩, ?_, hok.1⟩, ?_, ?_⟩
    · show p.1.area = 0 ∨ p.1.area = 1
      rw [hpa]
      rcases har with ⟨e, -⟩ | ⟨e, -⟩
      · exact .inl e
      · exact .inr e
    · show 0 ≤ p.1.epoch; omega
    · show p.1.epoch ≤ _; omega
    · show 0 ≤ p.1.leases; rw [hsm.ls, hin0.ls]; decide
    · show p.1.leases ≤ _; rw [hsm.ls, hin0.ls]; decide
    · show 0 ≤ p.1.now; rw [hsm.nw, hin0.nw]; decide
    · show p.1.now ≤ _; rw [hsm.nw, hin0.nw]; decide
    · show p.1.writes.length ≤ _; rw [hsm.wr, hin0.wr]; decide
    · rcases har with ⟨e, eX⟩ | ⟨e, eX⟩
      · left
        show p.2.read = ((if p.1.area = 0 then strB (A.take p.2.read.toNat) else strB A).size : Int)
        rw [hpa, if_pos e, ← eX, hlen]
        omega
      · right
        show p.2.read = ((if p.1.area = 0 then strB C else strB (C.take p.2.read.toNat)).size : Int)
        rw [hpa, if_neg (by rw [e]; decide), ← eX, hlen]
        omega
    · show p.1.writes = []
      rw [hsm.wr, hin0.wr]
/-- The record of a job "x". -/
theorem putX_len (ep sq n : Int) (h0 : 0 ≤ n) (h1 : n ≤ 1073741824) : (lineV ep sq (putL n ⟨#[120]⟩)).length ≤ 60 := by
  rw [lineV_len]
  have h2 := Lib.itoa_length_le n (by omega) (by omega)
  obtain ⟨X, hX⟩ : ∃ X : ByteArray, X = ⟨#[120]⟩ := ⟨_, rfl⟩
  have h4 : X.data.toList.length = 1 := by rw [hX]; rfl
  rw [← hX]
  clear hX
  have h3 := codedV_len X.data.toList
  rw [h4] at h3
  have h := Lib.join_length [112, 117, 116] [Lib.itoa n, codedV X.data.toList] [32]
  have e : bodyV (putL n X) = Lib.join [[112, 117, 116], Lib.itoa n, codedV X.data.toList] [32] := rfl
  rw [e, h]
  simp only [List.length_cons, List.length_nil, Lib.lens, List.map_cons, List.map_nil, List.sum_cons, List.sum_nil]
  omega
end Go.Proofs.YtnnnihjagjfkdaaGreatDoor
