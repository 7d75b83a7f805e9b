/-
  The walk of the queue's keep. Own text.
-/
import Derived.Test.YtnnnihjagjfkdaaGreatDoorDec
import Derived.Test.YtnnnihjagjfkdaaGreatDoorNumb
import Derived.Test.YtnnnihjagjfkdaaGreatDoorFind
namespace Go.Proofs.YtnnnihjagjfkdaaGreatDoor
open Go.RowKit
set_option linter.unusedVariables false
section
variable {P : Program} {w : World} {ops : Array Oper} {rest : List Oper} {o : Oper} {a : Act} {Q : Exit → Act → World → Prop}
theorem wpList_app1L {α : Type} (hgd : o.guard = none) (s x : Operand) (t : TypeId)
    (ho : o.op = .call { callee := .builtin .append, args := #[s, x], argTypes := #[t, t] })
    {e : TypeId} {z : Value} {size bytes : Nat} (hE : ElemType P e z size bytes) (ht : P.underlying t = some (.slice e))
    (base : Nat) (v : Value) (xs : List α) (enc : α → List Value) (hs : a.eval s = v) (hown : Own w base e size enc v xs) (y : α)
    (ad : Addr) (c : Nat) (hx : a.eval x = .slice (some ad) 1 c) (hl : (enc y).length = size) (hnews : ∀ j u, (enc y)[j]? = some u → w.cell? (ad.add j) = some u) (h1 : ∀ u ∈ enc y, u.oneCell' = true)
    (hbytes : (xs.length + 1) * bytes ≤ 140737488355328) (h63 : xs.length + 1 ≤ maxLen) (hbase : base ≤ w.heap.size)
    (h : ∀ g cap w', Own w' base e size enc (.slice (some ⟨g, 0, none⟩) (xs.length + 1) cap) (xs ++ [y]) → w.grownBy w' v.ownBlock → (v.ownBlock = some g ∨ g = w.heap.size) → wpList P ops Q rest (a.put o.dst (.slice (some ⟨g, 0, none⟩) (xs.length + 1) cap)) w') : wpList P ops Q (o :: rest) a w := by
  obtain ⟨i, hi, hz, hsz, hby, hzs, h0⟩ := hE
  refine wpList_append_lies w hgd s x t ho base e i z size bytes ht hi hz hsz hby hzs h0 v xs.length (xs.flatMap enc) hs hown ad 1 c (enc y) hx (by rw [hl, Nat.one_mul]) hnews h1 (by omega) h63 hbytes hbase w.heap.size rfl ?_
  intro g cap w' hown' hg hat _
  refine h g cap w' ?_ hg hat
  unfold Own
  rw [List.length_append, List.flatMap_append]
  simpa using hown'
end
/-- The number of the last job. -/
def lastId (xs : List Jb) : Int := match xs.getLast? with | none => 0 | some j => j.id
theorem lastId_nil : lastId [] = 0 := rfl
theorem lastId_at {xs : List Jb} {m : Nat} (h : xs.length = m + 1) : lastId xs = (xs[m]'(by omega)).id := by
  unfold lastId
  have e : xs.length - 1 = m := by omega
  rw [List.getLast?_eq_getElem?, e, List.getElem?_eq_getElem (by omega)]
def keepOk (q : Que) (n : Int × Bool) (t : List UInt8 × Bool) (fresh : Bool) : Prop :=
  n.2 = true ∧ t.2 = true ∧ lastId q.jobs < n.1 ∧ n.1 ≤ 1073741824 ∧ (if fresh = true then n.1 = q.next else n.1 < q.next) ∧ q.jobs.length ≠ 64
instance (q : Que) (n : Int × Bool) (t : List UInt8 × Bool) (fresh : Bool) : Decidable (keepOk q n t fresh) := by unfold keepOk; infer_instance
def keepQ (q : Que) (n : Int) (t : List UInt8) (fresh : Bool) : Que := { q with jobs := q.jobs ++ [⟨n, ⟨t.toArray⟩, 0, 0⟩], next := if fresh = true then q.next + 1 else q.next }
/-- What keep makes of the queue. -/
def keepV (q : Que) (id tx : List UInt8) (fresh : Bool) : Option Que :=
  if keepOk q (numV id) (decV tx) fresh then some (keepQ q (numV id).1 (decV tx).1 fresh) else none
def RetKeep (B b : Nat) (r : Option Que) (vj vw : Value) (w : World) (e : Ending) (w' : World) : Prop :=
  (r = none ∧ e = .returned (.bool false) ∧ Below w.heap.size w w') ∨ ∃ q' vj' vw', r = some q' ∧ e = .returned (.bool true) ∧ QAt w' B b q' vj' vw' ∧ Turn b vj vw vj' vw' w w'
set_option maxRecDepth 100000 in
set_option maxHeartbeats 8000000 in
theorem keep_any (B b : Nat) (q : Que) (vj vw : Value) (id tx : ByteArray) (fresh : Bool) (w : World) (hq : QAt w B b q vj vw) (hB : B ≤ w.heap.size) (ht : Tabz w) (hid : id.size ≤ 1000000) (hj : q.jobs.length ≤ 64) (hn0 : 0 ≤ q.next) (hn1 : q.next ≤ 1073741825) :
    Calls Tryz.prog 36 #[.pointer (some ⟨b, 0, none⟩), .string id, .string tx, .bool fresh] w (RetKeep B b (keepV q id.data.toList tx.data.toList fresh) vj vw w) := by
  have hnu := number_any id w hid ht
  have hdc := fun W => decoded_any tx W
  have hnb := numV_bd id.data.toList
  have HV : Hid (keepV q id.data.toList tx.data.toList fresh = if keepOk q (numV id.data.toList) (decV tx.data.toList) fresh then some (keepQ q (numV id.data.toList).1 (decV tx.data.toList).1 fresh) else none) := rfl
  obtain ⟨⟨n, ok⟩, hnv⟩ : ∃ p, p = numV id.data.toList := ⟨_, rfl⟩
  obtain ⟨⟨t, fine⟩, htv⟩ : ∃ p, p = decV tx.data.toList := ⟨_, rfl⟩
  have HNU : Hid (Calls Tryz.prog 35 #[.string id] w (fun e w' => e = .returned (.tuple #[.int .i64 n, .bool ok]) ∧ Below w.heap.size w w')) := hnu.mono fun e w' h => ⟨by rw [h.1, ← hnv], h.2⟩
  have HDC : Hid (∀ W, Calls Tryz.prog 52 #[.string tx] W (fun e w' => e = .returned (.tuple #[.string ⟨t.toArray⟩, .bool fine]) ∧ Below W.heap.size W w')) := fun W => (hdc W).mono fun e w' h => ⟨by rw [h.1, ← htv], h.2⟩
  rw [← hnv, ← htv] at HV
  rw [← hnv] at hnb
  obtain ⟨n0, n1⟩ := hnb
  simp only at n0 n1
  obtain ⟨T, hT⟩ : ∃ T, T = ByteArray.mk t.toArray := ⟨_, rfl⟩
  rw [← hT] at HDC
  have HTT := Lib.hid hT
  generalize keepV q id.data.toList tx.data.toList fresh = r at *
  obtain ⟨oj, cj, hvj, hjm, hjf⟩ := hq.jobs.flat (fun _ => rfl)
  have HVJ := Lib.hid hvj
  have hlt := hq.lt
  have HQ := Lib.hid hq
  have HJF := Lib.hid hjf
  clear hq hjf ht hnv htv hnu hdc hT hvj
  go_enter Tryz.func36, Tryz.ntmps36
  go_wp2_with fail
  refine HNU.out.mono ?_
  rintro e w2 ⟨rfl, hb2⟩
  have HB2 := Lib.hid hb2
  clear hb2
  go_wp2_with fail
  refine (HDC.out w2).mono ?_
  rintro e w3 ⟨rfl, hb3⟩
  have HB3 := Lib.hid (bthen HB2.out hb3)
  have HQ3 := Lib.hid (HQ.out.below HB3.out)
  clear hb3
  have c5 : w3.cell? ⟨b, 5, none⟩ = some (.slice oj q.jobs.length cj) := by rw [← HVJ.out]; exact HQ3.out.tab.at' 5 (by omega)
  obtain ⟨last, hla⟩ : ∃ last, last = lastId q.jobs := ⟨_, rfl⟩
  by_cases he : q.jobs.length = 0
  · have e0 : decide ((0 : Int) < (q.jobs.length : Int)) = false := decide_eq_false (by omega)
    have e0n : ¬ 0 < q.jobs.length := by omega
    have HLA : Hid (last = lastId q.jobs) := hla
    have hl0 : last = 0 := by rw [hla, List.eq_nil_of_length_eq_zero he]; rfl
    clear hla he
    subst hl0
    obtain ⟨w4, hw4⟩ : ∃ w4, w4 = w3 := ⟨_, rfl⟩
    have HB4 : Hid (Below w.heap.size w w4) := by rw [hw4]; exact HB3
    have HQ4 : Hid (QAt w4 B b q vj vw) := by rw [hw4]; exact HQ3
    go_upto_region 6 with fail
    subst hw4
    clear c5 HB3 HQ3 HQ HB2
    have d5 : w4.cell? ⟨b, 5, none⟩ = some (.slice oj q.jobs.length cj) := by rw [← HVJ.out]; exact HQ4.out.tab.at' 5 (by omega)
    have d2 : w4.cell? ⟨b, 2, none⟩ = some (.int .i64 q.next) := HQ4.out.tab.at' 2 (by omega)
    have NO : ∀ (h : ¬ keepOk q (n, ok) (t, fine) fresh), RetKeep B b r vj vw w (.returned (.bool false)) w4 := fun h => .inl ⟨by rw [HV.out, if_neg h], rfl, HB4.out⟩
    have NOH := Lib.hid NO
    clear NO
    cases ok with
    | false =>
      have HF := Lib.hid (NOH.out (fun h => by cases h.1))
      go_wp2
      go_ret
      exact HF.out
    | true =>
      cases fine with
      | false =>
        have HF := Lib.hid (NOH.out (fun h => by cases h.2.1))
        go_wp2
        go_ret
        exact HF.out
      | true =>
        by_cases h3 : n ≤ 0
        · have HF := Lib.hid (NOH.out (fun h => by have h7 := h.2.2.1; rw [← HLA.out] at h7; exact absurd h7 (by show ¬ (_ < n); omega)))
          go_wp2
          go_ret
          exact HF.out
        · by_cases h4 : 1073741824 < n
          · have HF := Lib.hid (NOH.out (fun h => by have := h.2.2.2.1; simp only at this; omega))
            go_wp2
            go_ret
            exact HF.out
          · cases fresh with
            | true =>
              by_cases h5 : n = q.next
              · have t5 : (n != q.next) = false := by simpa using h5
                by_cases h6 : q.jobs.length = 64
                · have t6 : ((q.jobs.length : Int) == 64) = true := by rw [h6]; rfl
                  have HF := Lib.hid (NOH.out (fun h => h.2.2.2.2.2 h6))
                  clear h6
                  go_wp2
                  go_ret
                  exact HF.out
                · have t6 : ((q.jobs.length : Int) == 64) = false := by rw [beq_eq_false_iff_ne]; omega
                  have HGD : Hid (r = some (keepQ q n t true)) := by
                    show r = _
                    rw [HV.out, if_pos (show keepOk q (n, true) (t, true) true from ⟨rfl, rfl, by rw [← HLA.out]; show 0 < n; omega, by show n ≤ 1073741824; omega, (by rw [if_pos rfl]; exact h5), h6⟩)]
                  have hB4 : B ≤ w4.heap.size := Nat.le_trans hB HB4.out.size
                  have hlt4 := HQ4.out.lt
                  have HQA := Lib.hid (HQ4.out.below (balloc (Below.refl _ w4) (.cells #[.int .i64 n, .string T, .int .i64 0, .int .i64 0] 73)))
                  have HTA := Lib.hid (Turn.ofBelow (b := b) (vj := vj) (vw := vw) (bthen HB4.out (balloc (Below.refl _ w4) (.cells #[.int .i64 n, .string T, .int .i64 0, .int .i64 0] 73))))
                  have HNEW : Hid (∀ j u, (encJb ⟨n, T, 0, 0⟩)[j]? = some u → (w4.alloc (.cells #[.int .i64 n, .string T, .int .i64 0, .int .i64 0] 73)).cell? ((⟨w4.heap.size, 0, none⟩ : Addr).add j) = some u) := World.news_of_block (cs := #[.int .i64 n, .string T, .int .i64 0, .int .i64 0]) (t := 73) (fr := (0, 0)) (heap_alloc_new w4 _)
                  clear NOH h6 h5
                  go_wp2_with (at_builtin; refine wpList_app1L rfl (.tmp 94) (.tmp 99) 59 rfl elemJb Tryz.underlying59 B _ q.jobs encJb rfl (by rw [← HVJ.out]; exact HQA.out.jobs) ⟨n, T, 0, 0⟩ ⟨w4.heap.size, 0, none⟩ 1 rfl rfl HNEW.out ?c1 ?c2 ?c3 ?c4 ?_)
                  case c1 => simp [encJb, Value.oneCell']
                  case c2 => omega
                  case c3 => unfold maxLen; omega
                  case c4 => first | omega | (simp; omega)
                  intro g6 cap6 w6 hown6 hg6 hat6
                  rw [← HVJ.out] at hg6 hat6
                  have hft := HQA.out.tab.ofBlock (grown_block hg6 HQA.out.lt HQA.out.nj)
                  have n5 : w6.cell? ⟨b, 5, none⟩ = some (.slice oj q.jobs.length cj) := by rw [← HVJ.out]; exact hft.at' 5 (by omega)
                  have nf := hft.fz 5
                  have HQ7 := Lib.hid (HQA.out.growJ (y := ⟨n, T, 0, 0⟩) (cap := cap6) (g := g6) hg6 hown6 (by first | exact hat6 | (rw [World.size_alloc]; exact hat6)))
                  have HT7 := Lib.hid ((HTA.out.growJ (n := q.jobs.length + 1) (cap := cap6) hg6 (by first | exact hat6 | (rw [World.size_alloc]; exact hat6))).set 5 (.slice (some ⟨g6, 0, none⟩) (q.jobs.length + 1) cap6))
                  clear hft hown6 hg6 hat6 HNEW HQA HTA d5 d2 t6
                  go_upto_region 9 with fail
                  clear n5 nf
                  generalize w6.setCell ⟨b, 5, none⟩ (.slice (some ⟨g6, 0, none⟩) (q.jobs.length + 1) cap6) = w7 at *
                  have e2 : w7.cell? ⟨b, 2, none⟩ = some (.int .i64 q.next) := HQ7.out.tab.at' 2 (by omega)
                  have ef := HQ7.out.tab.fz 2
                  have HF : Hid (RetKeep B b r vj vw w (.returned (.bool true)) (w7.setCell ⟨b, 2, none⟩ (.int .i64 (q.next + 1)))) := by
                    refine .inr ⟨_, _, _, HGD.out, rfl, ?_, HT7.out.set 2 (.int .i64 (q.next + 1))⟩
                    rw [show keepQ q n t true = { q with jobs := q.jobs ++ [⟨n, T, 0, 0⟩], next := q.next + 1 } by rw [HTT.out]; rfl]
                    exact QAt.put HQ7.out (i := 2) (by omega) _ rfl rfl fun j hj => by
                      match j, hj with
                      | 0, _ => rfl
                      | 1, _ => rfl
                      | 2, _ => rfl
                      | 3, _ => rfl
                      | 4, _ => rfl
                      | 5, _ => rfl
                      | 6, _ => rfl
                      | 7, _ => rfl
                      | 8, _ => rfl
                      | 9, _ => rfl
                      | 10, _ => rfl
                  clear HQ7 HT7
                  go_wp2
                  go_ret
                  exact HF.out
              · have t5 : (n != q.next) = true := by simpa using h5
                have HF := Lib.hid (NOH.out (fun h => h5 (by have := h.2.2.2.2.1; simp at this; omega)))
                go_wp2
                go_ret
                exact HF.out
            | false =>
              by_cases h5 : n < q.next
              · by_cases h6 : q.jobs.length = 64
                · have t6 : ((q.jobs.length : Int) == 64) = true := by rw [h6]; rfl
                  have HF := Lib.hid (NOH.out (fun h => h.2.2.2.2.2 h6))
                  clear h6
                  go_wp2
                  go_ret
                  exact HF.out
                · have t6 : ((q.jobs.length : Int) == 64) = false := by rw [beq_eq_false_iff_ne]; omega
                  have HGD : Hid (r = some (keepQ q n t false)) := by
                    show r = _
                    rw [HV.out, if_pos (show keepOk q (n, true) (t, true) false from ⟨rfl, rfl, by rw [← HLA.out]; show 0 < n; omega, by show n ≤ 1073741824; omega, (by rw [if_neg (by decide)]; exact h5), h6⟩)]
                  have hB4 : B ≤ w4.heap.size := Nat.le_trans hB HB4.out.size
                  have hlt4 := HQ4.out.lt
                  have HQA := Lib.hid (HQ4.out.below (balloc (Below.refl _ w4) (.cells #[.int .i64 n, .string T, .int .i64 0, .int .i64 0] 73)))
                  have HTA := Lib.hid (Turn.ofBelow (b := b) (vj := vj) (vw := vw) (bthen HB4.out (balloc (Below.refl _ w4) (.cells #[.int .i64 n, .string T, .int .i64 0, .int .i64 0] 73))))
                  have HNEW : Hid (∀ j u, (encJb ⟨n, T, 0, 0⟩)[j]? = some u → (w4.alloc (.cells #[.int .i64 n, .string T, .int .i64 0, .int .i64 0] 73)).cell? ((⟨w4.heap.size, 0, none⟩ : Addr).add j) = some u) := World.news_of_block (cs := #[.int .i64 n, .string T, .int .i64 0, .int .i64 0]) (t := 73) (fr := (0, 0)) (heap_alloc_new w4 _)
                  clear NOH h6
                  go_wp2_with (at_builtin; refine wpList_app1L rfl (.tmp 94) (.tmp 99) 59 rfl elemJb Tryz.underlying59 B _ q.jobs encJb rfl (by rw [← HVJ.out]; exact HQA.out.jobs) ⟨n, T, 0, 0⟩ ⟨w4.heap.size, 0, none⟩ 1 rfl rfl HNEW.out ?c1 ?c2 ?c3 ?c4 ?_)
                  case c1 => simp [encJb, Value.oneCell']
                  case c2 => omega
                  case c3 => unfold maxLen; omega
                  case c4 => first | omega | (simp; omega)
                  intro g6 cap6 w6 hown6 hg6 hat6
                  rw [← HVJ.out] at hg6 hat6
                  have hft := HQA.out.tab.ofBlock (grown_block hg6 HQA.out.lt HQA.out.nj)
                  have n5 : w6.cell? ⟨b, 5, none⟩ = some (.slice oj q.jobs.length cj) := by rw [← HVJ.out]; exact hft.at' 5 (by omega)
                  have nf := hft.fz 5
                  have HQ7 := Lib.hid (HQA.out.growJ (y := ⟨n, T, 0, 0⟩) (cap := cap6) (g := g6) hg6 hown6 (by first | exact hat6 | (rw [World.size_alloc]; exact hat6)))
                  have HT7 := Lib.hid ((HTA.out.growJ (n := q.jobs.length + 1) (cap := cap6) hg6 (by first | exact hat6 | (rw [World.size_alloc]; exact hat6))).set 5 (.slice (some ⟨g6, 0, none⟩) (q.jobs.length + 1) cap6))
                  clear hft hown6 hg6 hat6 HNEW HQA HTA d5 d2 t6
                  go_upto_region 9 with fail
                  clear n5 nf
                  generalize w6.setCell ⟨b, 5, none⟩ (.slice (some ⟨g6, 0, none⟩) (q.jobs.length + 1) cap6) = w7 at *
                  have HF : Hid (RetKeep B b r vj vw w (.returned (.bool true)) w7) := by
                    refine .inr ⟨_, _, _, HGD.out, rfl, ?_, HT7.out⟩
                    rw [show keepQ q n t false = { q with jobs := q.jobs ++ [⟨n, T, 0, 0⟩] } by rw [HTT.out]; rfl]
                    exact HQ7.out
                  clear HQ7 HT7
                  go_wp2
                  go_ret
                  exact HF.out
              · have HF := Lib.hid (NOH.out (fun h => h5 (by have := h.2.2.2.2.1; simp at this; omega)))
                go_wp2
                go_ret
                exact HF.out
  · obtain ⟨M, hM⟩ : ∃ M, q.jobs.length = M + 1 := ⟨q.jobs.length - 1, by omega⟩
    have e0 : decide ((0 : Int) < (q.jobs.length : Int)) = true := decide_eq_true (by omega)
    have e0n : 0 < q.jobs.length := by omega
    obtain ⟨bj, offj, hoj, i0, -, -, -⟩ := (HJF.out.below HB3.out).jb (i := M) (by omega)
    rw [← lastId_at hM, ← hla] at i0
    have HLA : Hid (last = lastId q.jobs) := hla
    have x1 : IntKind.i64.wrap ((q.jobs.length : Int) - 1) = (M : Int) := by rw [show (q.jobs.length : Int) - 1 = (M : Int) by omega]; exact IntWalk.i64_in _ (by omega)
    have x2 : (M : Int) < (q.jobs.length : Int) := by omega
    have x3 : (0 : Int) ≤ (M : Int) := by omega
    rw [hoj] at c5
    clear hla he
    go_upto_region 5 with fail
    go_quiet (fail)
    have HB4 := Lib.hid (bdrewN HB3.out nq)
    have HQ4 := Lib.hid (HQ3.out.drewN nq)
    clear c5 HB3 HQ3 HQ HB2 i0 x1 x2 x3 hoj hM
    generalize w3.drewN nq = w4 at *
    have d5 : w4.cell? ⟨b, 5, none⟩ = some (.slice oj q.jobs.length cj) := by rw [← HVJ.out]; exact HQ4.out.tab.at' 5 (by omega)
    have d2 : w4.cell? ⟨b, 2, none⟩ = some (.int .i64 q.next) := HQ4.out.tab.at' 2 (by omega)
    have NO : ∀ (h : ¬ keepOk q (n, ok) (t, fine) fresh), RetKeep B b r vj vw w (.returned (.bool false)) w4 := fun h => .inl ⟨by rw [HV.out, if_neg h], rfl, HB4.out⟩
    have NOH := Lib.hid NO
    clear NO
    cases ok with
    | false =>
      have HF := Lib.hid (NOH.out (fun h => by cases h.1))
      go_wp2
      go_ret
      exact HF.out
    | true =>
      cases fine with
      | false =>
        have HF := Lib.hid (NOH.out (fun h => by cases h.2.1))
        go_wp2
        go_ret
        exact HF.out
      | true =>
        by_cases h3 : n ≤ last
        · have HF := Lib.hid (NOH.out (fun h => by have h7 := h.2.2.1; rw [← HLA.out] at h7; exact absurd h7 (by show ¬ (_ < n); omega)))
          go_wp2
          go_ret
          exact HF.out
        · by_cases h4 : 1073741824 < n
          · have HF := Lib.hid (NOH.out (fun h => by have := h.2.2.2.1; simp only at this; omega))
            go_wp2
            go_ret
            exact HF.out
          · cases fresh with
            | true =>
              by_cases h5 : n = q.next
              · have t5 : (n != q.next) = false := by simpa using h5
                by_cases h6 : q.jobs.length = 64
                · have t6 : ((q.jobs.length : Int) == 64) = true := by rw [h6]; rfl
                  have HF := Lib.hid (NOH.out (fun h => h.2.2.2.2.2 h6))
                  clear h6
                  go_wp2
                  go_ret
                  exact HF.out
                · have t6 : ((q.jobs.length : Int) == 64) = false := by rw [beq_eq_false_iff_ne]; omega
                  have HGD : Hid (r = some (keepQ q n t true)) := by
                    show r = _
                    rw [HV.out, if_pos (show keepOk q (n, true) (t, true) true from ⟨rfl, rfl, by rw [← HLA.out]; show last < n; omega, by show n ≤ 1073741824; omega, (by rw [if_pos rfl]; exact h5), h6⟩)]
                  have hB4 : B ≤ w4.heap.size := Nat.le_trans hB HB4.out.size
                  have hlt4 := HQ4.out.lt
                  have HQA := Lib.hid (HQ4.out.below (balloc (Below.refl _ w4) (.cells #[.int .i64 n, .string T, .int .i64 0, .int .i64 0] 73)))
                  have HTA := Lib.hid (Turn.ofBelow (b := b) (vj := vj) (vw := vw) (bthen HB4.out (balloc (Below.refl _ w4) (.cells #[.int .i64 n, .string T, .int .i64 0, .int .i64 0] 73))))
                  have HNEW : Hid (∀ j u, (encJb ⟨n, T, 0, 0⟩)[j]? = some u → (w4.alloc (.cells #[.int .i64 n, .string T, .int .i64 0, .int .i64 0] 73)).cell? ((⟨w4.heap.size, 0, none⟩ : Addr).add j) = some u) := World.news_of_block (cs := #[.int .i64 n, .string T, .int .i64 0, .int .i64 0]) (t := 73) (fr := (0, 0)) (heap_alloc_new w4 _)
                  clear NOH h6 h5
                  go_wp2_with (at_builtin; refine wpList_app1L rfl (.tmp 94) (.tmp 99) 59 rfl elemJb Tryz.underlying59 B _ q.jobs encJb rfl (by rw [← HVJ.out]; exact HQA.out.jobs) ⟨n, T, 0, 0⟩ ⟨w4.heap.size, 0, none⟩ 1 rfl rfl HNEW.out ?c1 ?c2 ?c3 ?c4 ?_)
                  case c1 => simp [encJb, Value.oneCell']
                  case c2 => omega
                  case c3 => unfold maxLen; omega
                  case c4 => first | omega | (simp; omega)
                  intro g6 cap6 w6 hown6 hg6 hat6
                  rw [← HVJ.out] at hg6 hat6
                  have hft := HQA.out.tab.ofBlock (grown_block hg6 HQA.out.lt HQA.out.nj)
                  have n5 : w6.cell? ⟨b, 5, none⟩ = some (.slice oj q.jobs.length cj) := by rw [← HVJ.out]; exact hft.at' 5 (by omega)
                  have nf := hft.fz 5
                  have HQ7 := Lib.hid (HQA.out.growJ (y := ⟨n, T, 0, 0⟩) (cap := cap6) (g := g6) hg6 hown6 (by first | exact hat6 | (rw [World.size_alloc]; exact hat6)))
                  have HT7 := Lib.hid ((HTA.out.growJ (n := q.jobs.length + 1) (cap := cap6) hg6 (by first | exact hat6 | (rw [World.size_alloc]; exact hat6))).set 5 (.slice (some ⟨g6, 0, none⟩) (q.jobs.length + 1) cap6))
                  clear hft hown6 hg6 hat6 HNEW HQA HTA d5 d2 t6
                  go_upto_region 9 with fail
                  clear n5 nf
                  generalize w6.setCell ⟨b, 5, none⟩ (.slice (some ⟨g6, 0, none⟩) (q.jobs.length + 1) cap6) = w7 at *
                  have e2 : w7.cell? ⟨b, 2, none⟩ = some (.int .i64 q.next) := HQ7.out.tab.at' 2 (by omega)
                  have ef := HQ7.out.tab.fz 2
                  have HF : Hid (RetKeep B b r vj vw w (.returned (.bool true)) (w7.setCell ⟨b, 2, none⟩ (.int .i64 (q.next + 1)))) := by
                    refine .inr ⟨_, _, _, HGD.out, rfl, ?_, HT7.out.set 2 (.int .i64 (q.next + 1))⟩
                    rw [show keepQ q n t true = { q with jobs := q.jobs ++ [⟨n, T, 0, 0⟩], next := q.next + 1 } by rw [HTT.out]; rfl]
                    exact QAt.put HQ7.out (i := 2) (by omega) _ rfl rfl fun j hj => by
                      match j, hj with
                      | 0, _ => rfl
                      | 1, _ => rfl
                      | 2, _ => rfl
                      | 3, _ => rfl
                      | 4, _ => rfl
                      | 5, _ => rfl
                      | 6, _ => rfl
                      | 7, _ => rfl
                      | 8, _ => rfl
                      | 9, _ => rfl
                      | 10, _ => rfl
                  clear HQ7 HT7
                  go_wp2
                  go_ret
                  exact HF.out
              · have t5 : (n != q.next) = true := by simpa using h5
                have HF := Lib.hid (NOH.out (fun h => h5 (by have := h.2.2.2.2.1; simp at this; omega)))
                go_wp2
                go_ret
                exact HF.out
            | false =>
              by_cases h5 : n < q.next
              · by_cases h6 : q.jobs.length = 64
                · have t6 : ((q.jobs.length : Int) == 64) = true := by rw [h6]; rfl
                  have HF := Lib.hid (NOH.out (fun h => h.2.2.2.2.2 h6))
                  clear h6
                  go_wp2
                  go_ret
                  exact HF.out
                · have t6 : ((q.jobs.length : Int) == 64) = false := by rw [beq_eq_false_iff_ne]; omega
                  have HGD : Hid (r = some (keepQ q n t false)) := by
                    show r = _
                    rw [HV.out, if_pos (show keepOk q (n, true) (t, true) false from ⟨rfl, rfl, by rw [← HLA.out]; show last < n; omega, by show n ≤ 1073741824; omega, (by rw [if_neg (by decide)]; exact h5), h6⟩)]
                  have hB4 : B ≤ w4.heap.size := Nat.le_trans hB HB4.out.size
                  have hlt4 := HQ4.out.lt
                  have HQA := Lib.hid (HQ4.out.below (balloc (Below.refl _ w4) (.cells #[.int .i64 n, .string T, .int .i64 0, .int .i64 0] 73)))
                  have HTA := Lib.hid (Turn.ofBelow (b := b) (vj := vj) (vw := vw) (bthen HB4.out (balloc (Below.refl _ w4) (.cells #[.int .i64 n, .string T, .int .i64 0, .int .i64 0] 73))))
                  have HNEW : Hid (∀ j u, (encJb ⟨n, T, 0, 0⟩)[j]? = some u → (w4.alloc (.cells #[.int .i64 n, .string T, .int .i64 0, .int .i64 0] 73)).cell? ((⟨w4.heap.size, 0, none⟩ : Addr).add j) = some u) := World.news_of_block (cs := #[.int .i64 n, .string T, .int .i64 0, .int .i64 0]) (t := 73) (fr := (0, 0)) (heap_alloc_new w4 _)
                  clear NOH h6
                  go_wp2_with (at_builtin; refine wpList_app1L rfl (.tmp 94) (.tmp 99) 59 rfl elemJb Tryz.underlying59 B _ q.jobs encJb rfl (by rw [← HVJ.out]; exact HQA.out.jobs) ⟨n, T, 0, 0⟩ ⟨w4.heap.size, 0, none⟩ 1 rfl rfl HNEW.out ?c1 ?c2 ?c3 ?c4 ?_)
                  case c1 => simp [encJb, Value.oneCell']
                  case c2 => omega
                  case c3 => unfold maxLen; omega
                  case c4 => first | omega | (simp; omega)
                  intro g6 cap6 w6 hown6 hg6 hat6
                  rw [← HVJ.out] at hg6 hat6
                  have hft := HQA.out.tab.ofBlock (grown_block hg6 HQA.out.lt HQA.out.nj)
                  have n5 : w6.cell? ⟨b, 5, none⟩ = some (.slice oj q.jobs.length cj) := by rw [← HVJ.out]; exact hft.at' 5 (by omega)
                  have nf := hft.fz 5
                  have HQ7 := Lib.hid (HQA.out.growJ (y := ⟨n, T, 0, 0⟩) (cap := cap6) (g := g6) hg6 hown6 (by first | exact hat6 | (rw [World.size_alloc]; exact hat6)))
                  have HT7 := Lib.hid ((HTA.out.growJ (n := q.jobs.length + 1) (cap := cap6) hg6 (by first | exact hat6 | (rw [World.size_alloc]; exact hat6))).set 5 (.slice (some ⟨g6, 0, none⟩) (q.jobs.length + 1) cap6))
                  clear hft hown6 hg6 hat6 HNEW HQA HTA d5 d2 t6
                  go_upto_region 9 with fail
                  clear n5 nf
                  generalize w6.setCell ⟨b, 5, none⟩ (.slice (some ⟨g6, 0, none⟩) (q.jobs.length + 1) cap6) = w7 at *
                  have HF : Hid (RetKeep B b r vj vw w (.returned (.bool true)) w7) := by
                    refine .inr ⟨_, _, _, HGD.out, rfl, ?_, HT7.out⟩
                    rw [show keepQ q n t false = { q with jobs := q.jobs ++ [⟨n, T, 0, 0⟩] } by rw [HTT.out]; rfl]
                    exact HQ7.out
                  clear HQ7 HT7
                  go_wp2
                  go_ret
                  exact HF.out
              · have HF := Lib.hid (NOH.out (fun h => h5 (by have := h.2.2.2.2.1; simp at this; omega)))
                go_wp2
                go_ret
                exact HF.out
end Go.Proofs.YtnnnihjagjfkdaaGreatDoor
