/-
  What Sync and Compact leave: plain. Own text.
-/
import Derived.Test.YtnnnihjagjfkdaaDoorCrashV
namespace Go.Proofs.YtnnnihjagjfkdaaDoor
open Go.RowKit
set_option linter.unusedVariables false
/-- A write arrives whole. -/
def synStep (s : List UInt8 × List UInt8) (x : Wr) : List UInt8 × List UInt8 :=
  if x.area = 0 then (s.1 ++ x.data.data.toList, s.2) else (s.1, s.2 ++ x.data.data.toList)
def synV (s : List UInt8 × List UInt8) (l : List Wr) : List UInt8 × List UInt8 := l.foldl synStep s
theorem synV_succ (s : List UInt8 × List UInt8) {l : List Wr} {k : Nat} (h : k < l.length) : synV s (l.take (k + 1)) = synStep (synV s (l.take k)) l[k] := by
  unfold synV
  rw [List.take_succ_eq_append_getElem h, List.foldl_append]
  rfl
theorem synV_len (s : List UInt8 × List UInt8) (l : List Wr) : (synV s l).1.length + (synV s l).2.length = s.1.length + s.2.length + sizeW l := by
  induction l generalizing s with
  | nil => simp [synV, sizeW]
  | cons x l ih =>
    have h := ih (synStep s x)
    have e1 : synV s (x :: l) = synV (synStep s x) l := rfl
    have e2 : sizeW (x :: l) = x.data.size + sizeW l := by simp [sizeW]
    have e3 : x.data.data.toList.length = x.data.size := by simp
    rw [e1, e2, h]
    unfold synStep
    split
    · simp only [List.length_append]; omega
    · simp only [List.length_append]; omega
def syncP (q : Que) : List UInt8 × List UInt8 := synV (q.a0.data.toList, q.a1.data.toList) q.writes
def syncQ (q : Que) : Que := { q with a0 := strB (syncP q).1, a1 := strB (syncP q).2, writes := [] }
def beginW (ep nx n : Int) : List ByteArray := [⟨#[98, 101, 103, 105, 110]⟩, strB (Lib.itoa ep), strB (Lib.itoa nx), strB (Lib.itoa n)]
def beginLn (ep nx n : Int) : List (List UInt8) := (beginW ep nx n).map (·.data.toList)
def keepW (n : Int) (s : ByteArray) : List ByteArray := [⟨#[107, 101, 101, 112]⟩, strB (Lib.itoa n), strB (codedV s.data.toList)]
def keepLn (n : Int) (s : ByteArray) : List (List UInt8) := (keepW n s).map (·.data.toList)
/-- The records of the jobs, the first one with the number k + 1. -/
def keepLs (ep : Int) : Nat → List Jb → List (List UInt8)
  | _, [] => []
  | k, j :: r => lineV ep ((k : Int) + 1) (keepLn j.id j.text) :: keepLs ep (k + 1) r
theorem keepLs_len (ep : Int) (k : Nat) (xs : List Jb) : (keepLs ep k xs).length = xs.length := by
  induction xs generalizing k with
  | nil => rfl
  | cons x xs ih => simp [keepLs, ih]
theorem keepLs_snoc (ep : Int) (k : Nat) (xs : List Jb) (y : Jb) : keepLs ep k (xs ++ [y]) = keepLs ep k xs ++ [lineV ep ((k + xs.length : Nat) + 1 : Int) (keepLn y.id y.text)] := by
  induction xs generalizing k with
  | nil => simp [keepLs]
  | cons x xs ih =>
    have e : k + 1 + xs.length = k + (xs.length + 1) := by omega
    simp only [List.cons_append, keepLs, ih, List.length_cons, e]
def compLs (q : Que) (k : Nat) : List (List UInt8) := lineV (q.epoch + 1) 0 (beginLn (q.epoch + 1) q.next q.jobs.length) :: keepLs (q.epoch + 1) 0 (q.jobs.take k)
theorem compLs_succ (q : Que) {k : Nat} (h : k < q.jobs.length) : compLs q (k + 1) = compLs q k ++ [lineV (q.epoch + 1) ((k : Int) + 1) (keepLn q.jobs[k].id q.jobs[k].text)] := by
  unfold compLs
  rw [List.take_succ_eq_append_getElem h, keepLs_snoc, List.length_take, Nat.min_eq_left (by omega), Nat.zero_add]
  rfl
theorem compLs_len (q : Que) (k : Nat) (h : k ≤ q.jobs.length) : (compLs q k).length = k + 1 := by
  unfold compLs
  rw [List.length_cons, keepLs_len, List.length_take, Nat.min_eq_left h]
def sumL (l : List (List UInt8)) : Nat := (l.map List.length).sum
theorem sumL_snoc (l : List (List UInt8)) (x : List UInt8) : sumL (l ++ [x]) = sumL l + x.length := by simp [sumL]
theorem beginLn_len (ep nx n : Int) (a0 : 0 ≤ ep) (a1 : ep ≤ 9223372036854775807) (b0 : 0 ≤ nx) (b1 : nx ≤ 9223372036854775807) (c0 : 0 ≤ n) (c1 : n ≤ 9223372036854775807) : (bodyV (beginLn ep nx n)).length ≤ 80 := by
  have h1 := Lib.itoa_length_le ep (by omega) a1
  have h2 := Lib.itoa_length_le nx (by omega) b1
  have h3 := Lib.itoa_length_le n (by omega) c1
  have h := Lib.join_length [98, 101, 103, 105, 110] [Lib.itoa ep, Lib.itoa nx, Lib.itoa n] [32]
  have e : bodyV (beginLn ep nx n) = Lib.join [[98, 101, 103, 105, 110], Lib.itoa ep, Lib.itoa nx, Lib.itoa n] [32] := rfl
  rw [e, h]
  simp only [List.length_cons, List.length_nil, Lib.lens, List.map_cons, List.map_nil, List.sum_cons, List.sum_nil]
  omega
theorem keepLn_len (n : Int) (s : ByteArray) (h0 : 0 ≤ n) (h1 : n ≤ 9223372036854775807) (hs : s.size ≤ 256) : (bodyV (keepLn n s)).length ≤ 400 := by
  have h2 := Lib.itoa_length_le n (by omega) h1
  have h3 := codedV_len s.data.toList
  have h4 : s.data.toList.length = s.size := by simp
  have h := Lib.join_length [107, 101, 101, 112] [Lib.itoa n, codedV s.data.toList] [32]
  have e : bodyV (keepLn n s) = Lib.join [[107, 101, 101, 112], Lib.itoa n, codedV s.data.toList] [32] := rfl
  rw [e, h]
  simp only [List.length_cons, List.length_nil, Lib.lens, List.map_cons, List.map_nil, List.sum_cons, List.sum_nil]
  omega
/-- What is asked of the jobs. -/
def JobsOk (xs : List Jb) : Prop := ∀ j ∈ xs, 0 ≤ j.id ∧ j.id ≤ 2147483648 ∧ j.text.size ≤ 256
theorem keepLs_le (ep : Int) (k : Nat) (xs : List Jb) (h : JobsOk xs) : sumL (keepLs ep k xs) ≤ 410 * xs.length := by
  induction xs generalizing k with
  | nil => simp [keepLs, sumL]
  | cons x xs ih =>
    have hx := h x (by simp)
    have h1 := keepLn_len x.id x.text hx.1 (by omega) hx.2.2
    have h2 := lineV_len ep ((k : Int) + 1) (keepLn x.id x.text)
    have h3 := ih (k + 1) (fun j hj => h j (by simp [hj]))
    have e : sumL (keepLs ep k (x :: xs)) = (lineV ep ((k : Int) + 1) (keepLn x.id x.text)).length + sumL (keepLs ep (k + 1) xs) := by simp [sumL, keepLs]
    rw [e, List.length_cons]
    omega
theorem compLs_le (q : Que) (k : Nat) (h : JobsOk q.jobs) (hk : k ≤ q.jobs.length) (hj : q.jobs.length ≤ 64) (a0 : 0 ≤ q.epoch) (a1 : q.epoch ≤ 2147483648) (b0 : 0 ≤ q.next) (b1 : q.next ≤ 2147483648) : sumL (compLs q k) ≤ 90 + 410 * k := by
  have h1 := beginLn_len (q.epoch + 1) q.next q.jobs.length (by omega) (by omega) b0 (by omega) (by omega) (by omega)
  have h2 := lineV_len (q.epoch + 1) 0 (beginLn (q.epoch + 1) q.next q.jobs.length)
  have h3 := keepLs_le (q.epoch + 1) 0 (q.jobs.take k) (fun j hj => h j (List.mem_of_mem_take hj))
  rw [List.length_take, Nat.min_eq_left hk] at h3
  have e : sumL (compLs q k) = (lineV (q.epoch + 1) 0 (beginLn (q.epoch + 1) q.next q.jobs.length)).length + sumL (keepLs (q.epoch + 1) 0 (q.jobs.take k)) := by simp [sumL, compLs]
  rw [e]
  omega
def compWs (ar : Int) (ls : List (List UInt8)) : List Wr := ls.map fun s => ⟨ar, strB s⟩
/-- The queue behind Compact. -/
def compQ (q : Que) : Que :=
  { q with area := 1 - q.area, epoch := q.epoch + 1, a0 := if q.area = 0 then strB (syncP q).1 else ⟨#[]⟩, a1 := if q.area = 0 then ⟨#[]⟩ else strB (syncP q).2,
           writes := compWs (1 - q.area) (compLs q q.jobs.length), size := sumL (compLs q q.jobs.length), seq := q.jobs.length + 1 }
end Go.Proofs.YtnnnihjagjfkdaaDoor
