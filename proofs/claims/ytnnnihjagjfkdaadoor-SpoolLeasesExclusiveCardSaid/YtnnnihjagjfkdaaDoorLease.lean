/-
  The walk of SpoolLeasesExclusive. Own text.
-/
import Derived.Test.YtnnnihjagjfkdaaDoorLeaseC
import Derived.Deep.LoopGhost
namespace Go.Proofs.YtnnnihjagjfkdaaDoor
open Go.RowKit
set_option linter.unusedVariables false
def RetTrue (w : World) (e : Ending) (w' : World) : Prop := e = .returned (.bool true) ∧ Below w.heap.size w w'
section
variable {P : Program} {w : World} {ops : Array Oper} {rest : List Oper} {o : Oper} {a : Act} {Q : Exit → Act → World → Prop}
theorem wpList_appAt {α : Type} (hgd : o.guard = none) (s x : Operand) (t : TypeId)
    (ho : o.op = .call { callee := .builtin .append, args := #[s, x], argTypes := #[t, t] })
    {e : TypeId} {z : Value} {size bytes : Nat} (hE : ElemType P e z size bytes) (ht : P.underlying t = some (.slice e))
    (base : Nat) (v : Value) (xs : List α) (enc : α → List Value) (hs : a.eval s = v) (hown : Own w base e size enc v xs) (y : α)
    (ad : Addr) (c : Nat) (hx : a.eval x = .slice (some ad) 1 c) (hl : (enc y).length = size) (hnews : ∀ j u, (enc y)[j]? = some u → w.cell? (ad.add j) = some u) (h1 : ∀ u ∈ enc y, u.oneCell' = true)
    (hbytes : (xs.length + 1) * bytes ≤ 140737488355328) (h63 : xs.length + 1 ≤ maxLen) (hbase : base ≤ w.heap.size)
    (h : ∀ v' w', Own w' base e size enc v' (xs ++ [y]) → w.grownBy w' v.ownBlock → (v'.ownBlock = v.ownBlock ∨ v'.ownBlock = some w.heap.size) → wpList P ops Q rest (a.put o.dst v') w') : wpList P ops Q (o :: rest) a w := by
  obtain ⟨i, hi, hz, hsz, hby, hzs, h0⟩ := hE
  refine wpList_append_own_at w hgd s x t ho base e i z size bytes ht hi hz hsz hby hzs h0 v xs.length (xs.flatMap enc) hs hown ad 1 c (enc y) hx (by rw [hl, Nat.one_mul]) hnews h1 h63 hbytes hbase ?_
  intro v' w' hown' hg _ hat
  refine h v' w' ?_ hg hat
  unfold Own
  rw [List.length_append, List.flatMap_append]
  simpa using hown'
end
theorem put_N (k : Nat) (hk : k < 20) (B b : Nat) (vj vw : Value) (w : World) (hq : QAt w B b (putN k) vj vw) (hB : B ≤ w.heap.size) (ht : Tabs w) :
    Calls Tryd.prog 11 #[.pointer (some ⟨b, 0, none⟩), .string ⟨#[]⟩] w (RetPut B b (putN (k + 1)) ((k : Int) + 1) vj vw w) := by
  have ho := putN_ok k (by omega)
  have h1 := putL_len (putN k).next eStr (by rw [ho.nx]; omega) (by rw [ho.nx]; omega) (by decide)
  have h2 := lineV_len (putN k).epoch (putN k).seq (putL (putN k).next eStr)
  have h := put_any B b (putN k) vj vw eStr w hq (ho.qok (by omega)) hB ht (by decide) (by rw [ho.jl, jobsX_len]; omega) (by rw [ho.nx]; omega) (by have := ho.sz; omega)
  rw [ho.nx] at h
  exact h
theorem take_N (n k : Nat) (H : Int) (hn : n ≤ 20) (hk : k < n) (h1 : 1 ≤ H) (h2 : H ≤ 50) (B b : Nat) (vj vw : Value) (w : World) (hq : QAt w B b (takeN n H k) vj vw) :
    Calls Tryd.prog 12 #[.pointer (some ⟨b, 0, none⟩), .int .i64 H] w (RetTake B b (takeN n H (k + 1)) ((k : Int) + 1) ⟨#[]⟩ ((k : Int) + 1) 0 vj vw w) := by
  have ho := putN_ok n hn
  have hl : (takeN n H k).jobs.length = n := jobsX_len _ _ _
  have e (i : Nat) (hi : i < (takeN n H k).jobs.length) : (takeN n H k).jobs[i] = jobX (upL k) (upT H k) i := jobsX_get n (upL k) (upT H k) i hi
  have h := take_some B b (takeN n H k) vj vw H w hq h1 (by omega) (by omega) k (by omega) (by rw [e]; simp [jobX, upL]) (fun i hi => by rw [e]; simp [jobX, upL, hi]; omega) (show (0 : Int) ≤ (k : Int) by omega) (show (k : Int) ≤ _ by omega) (by show 0 ≤ (putN n).now; rw [ho.nw]; decide) (by show (putN n).now ≤ _; rw [ho.nw]; decide)
  rw [e, takeN_next n H k hn hk] at h
  exact h
theorem take_end (n : Nat) (H : Int) (hn : n ≤ 20) (h1 : 1 ≤ H) (h2 : H ≤ 50) (B b : Nat) (vj vw : Value) (w : World) (hq : QAt w B b (takeN n H n) vj vw) :
    Calls Tryd.prog 12 #[.pointer (some ⟨b, 0, none⟩), .int .i64 H] w (RetTake B b (takeN n H n) 0 ⟨#[]⟩ 0 8 vj vw w) := by
  have hl : (takeN n H n).jobs.length = n := jobsX_len _ _ _
  exact take_none B b (takeN n H n) vj vw H w hq h1 (by omega) (by omega) (fun i hi => by
    have e : (takeN n H n).jobs[i] = jobX (upL n) (upT H n) i := jobsX_get n (upL n) (upT H n) i hi
    have : i < n := by omega
    rw [e]; simp [jobX, upL, this]; omega)
theorem tick_N (n : Nat) (H T : Int) (hn : n ≤ 20) (h1 : 0 ≤ T) (h2 : T ≤ 60) (B b : Nat) (vj vw : Value) (w : World) (hq : QAt w B b (takeN n H n) vj vw) :
    Calls Tryd.prog 15 #[.pointer (some ⟨b, 0, none⟩), .int .i64 T] w (RetTick B b (tickN n H T) (tickIds (takeN n H n).jobs T) vj vw w) := by
  have ho := putN_ok n hn
  have hl : (takeN n H n).jobs.length = n := jobsX_len _ _ _
  exact tick_any B b (takeN n H n) vj vw T w hq (by show (putN n).now ≤ T; rw [ho.nw]; exact h1) (by omega) (by omega)
theorem done_fam (n : Nat) (H T : Int) (hn : n ≤ 20) (h1 : 1 ≤ H) (h2 : H ≤ 50) (h3 : 0 ≤ T) (h4 : T ≤ 60) : ∃ (dq : Nat → Que) (c : Int) (L : Nat), dq 0 = tickN n H T ∧
    (∀ m, m < n → ∀ B b vj vw w, QAt w B b (dq m) vj vw → B ≤ w.heap.size → Tabs w → Calls Tryd.prog 17 #[.pointer (some ⟨b, 0, none⟩), .int .i64 ((m : Int) + 1), .int .i64 ((m : Int) + 1)] w (RetDone B b (dq (m + 1)) c vj vw w)) ∧
    (dq n).jobs.length = L ∧ ((T < H ∧ L = 0 ∧ c = 0) ∨ (H ≤ T ∧ L = n ∧ c = 9)) := by
  by_cases hlt : T < H
  · refine ⟨doneN n H T, 0, 0, rfl, fun m hm B b vj vw w hq hB ht => ?_, ?_, .inl ⟨hlt, rfl, rfl⟩⟩
    · have ho := doneN_ok n H T hn hlt m (by omega)
      have hl : (doneN n H T m).jobs.length = n - m := by rw [ho.jl, List.length_drop, jobsX_len]
      have h5 := doneL_len ((m : Int) + 1) (by omega) (by omega)
      have h6 := lineV_len (doneN n H T m).epoch (doneN n H T m).seq (doneL ((m : Int) + 1))
      exact done_yes B b (doneN n H T m) vj vw ((m : Int) + 1) ((m : Int) + 1) 0 w hq (ho.qok hn (by omega) h3 h4) hB ht (by omega) (by omega) (fun i c h => leased_early n m H T hm i c (by rw [ho.jl] at h; exact h)) (by omega) (by omega) (by have := ho.sz; omega)
    · have ho := doneN_ok n H T hn hlt n (Nat.le_refl _)
      rw [ho.jl, List.length_drop, jobsX_len]; omega
  · have hj := (tick_late n H T (by omega)).1
    refine ⟨fun _ => tickN n H T, 9, n, rfl, fun m hm B b vj vw w hq hB ht => ?_, ?_, .inr ⟨by omega, rfl, rfl⟩⟩
    · exact done_no B b (tickN n H T) vj vw ((m : Int) + 1) ((m : Int) + 1) 9 w hq (by rw [hj, jobsX_len]; omega) (fun i c h => leased_late n m hm i c (by rw [hj] at h; exact h)) (by decide)
    · show (tickN n H T).jobs.length = n
      rw [hj, jobsX_len]
structure L2 (w0 : World) (B : Nat) (q : Que) (xs ys : List Int) (vj vw v u : Value) (w : World) : Prop where
  q : QAt w B B q vj vw
  tu : Turn B vj vw vj vw w0 w
  own1 : Own w w0.heap.size 3 1 encInt v xs
  own2 : Own w w0.heap.size 3 1 encInt u ys
  ne : ∀ g, v.ownBlock = some g → u.ownBlock ≠ some g
  gl : ∀ g, InQ B vj vw g → g < w0.heap.size
theorem L2.turn {w0 w w' : World} {B : Nat} {q q' : Que} {xs ys : List Int} {vj vw v u : Value} (h : L2 w0 B q xs ys vj vw v u w) (hq : QAt w' B B q' vj vw) (ht : Turn B vj vw vj vw w w') : L2 w0 B q' xs ys vj vw v u w' :=
  ⟨hq, h.tu.trans ht, h.own1.turn ht fun g hg e => by have h1 := h.gl g e; have h2 := (h.own1.blk hg).1; omega, h.own2.turn ht fun g hg e => by have h1 := h.gl g e; have h2 := (h.own2.blk hg).1; omega, h.ne, h.gl⟩
theorem L2.below {w0 w w' : World} {B : Nat} {q : Que} {xs ys : List Int} {vj vw v u : Value} (h : L2 w0 B q xs ys vj vw v u w) (hb : Below w.heap.size w w') : L2 w0 B q xs ys vj vw v u w' :=
  ⟨h.q.below hb, h.tu.below hb, h.own1.below hb, h.own2.below hb, h.ne, h.gl⟩
theorem L2.app1 {w0 w w' : World} {B : Nat} {q : Que} {xs ys : List Int} {vj vw v u v' : Value} {y : Int} (h : L2 w0 B q xs ys vj vw v u w) (hown : Own w' w0.heap.size 3 1 encInt v' (xs ++ [y])) (hg : w.grownBy w' v.ownBlock) (hat : v'.ownBlock = v.ownBlock ∨ v'.ownBlock = some w.heap.size) : L2 w0 B q (xs ++ [y]) ys vj vw v' u w' :=
  ⟨h.q.beside hg fun g hi e => by have h1 := h.gl g hi; have h2 := (h.own1.blk e).1; omega, h.tu.beside hg fun g e => (h.own1.blk e).1, hown,
   h.own2.ofBlocks fun g e => hg.block g (h.own2.blk e).2 fun e2 => h.ne g e2.symm e, fun g e e2 => by
    rcases hat with e3 | e3
    · exact h.ne g (by rw [← e3]; exact e) e2
    · rw [e3] at e
      cases e
      have := (h.own2.blk e2).2
      omega, h.gl⟩
theorem L2.app2 {w0 w w' : World} {B : Nat} {q : Que} {xs ys : List Int} {vj vw v u v' : Value} {y : Int} (h : L2 w0 B q xs ys vj vw v u w) (hown : Own w' w0.heap.size 3 1 encInt v' (ys ++ [y])) (hg : w.grownBy w' u.ownBlock) (hat : v'.ownBlock = u.ownBlock ∨ v'.ownBlock = some w.heap.size) : L2 w0 B q xs (ys ++ [y]) vj vw v v' w' :=
  ⟨h.q.beside hg fun g hi e => by have h1 := h.gl g hi; have h2 := (h.own2.blk e).1; omega, h.tu.beside hg fun g e => (h.own2.blk e).1,
   h.own1.ofBlocks fun g e => hg.block g (h.own1.blk e).2 fun e2 => h.ne g e e2.symm, hown, fun g e e2 => by
    rcases hat with e3 | e3
    · exact h.ne g e (by rw [← e3]; exact e2)
    · rw [e3] at e2
      cases e2
      have := (h.own1.blk e).2
      omega, h.gl⟩
def lenV : Value → Nat
  | .slice _ n _ => n
  | _ => 0
set_option maxRecDepth 100000 in
set_option maxHeartbeats 4000000 in
theorem lease_any (many hold now : Int) (w : World) (ht : Tabs w) :
    Calls Tryd.prog 4 #[.int .i64 many, .int .i64 hold, .int .i64 now] w (RetTrue w) := by
  have hN := wi_bd many 1 20 (by decide)
  have hH := wi_bd hold 1 50 (by decide)
  have hT := wi_bd now 0 60 (by decide)
  have HW1 : Hid (∀ W, Calls Tryd.prog 10 #[.int .i64 many, .int .i64 1, .int .i64 20] W fun e w' => e = .returned (.int .i64 (wi many 1 20)) ∧ W = w') := fun W => within_any many 1 20 W (by decide) (by decide) (by decide)
  have HW2 : Hid (∀ W, Calls Tryd.prog 10 #[.int .i64 hold, .int .i64 1, .int .i64 50] W fun e w' => e = .returned (.int .i64 (wi hold 1 50)) ∧ W = w') := fun W => within_any hold 1 50 W (by decide) (by decide) (by decide)
  have HW3 : Hid (∀ W, Calls Tryd.prog 10 #[.int .i64 now, .int .i64 0, .int .i64 60] W fun e w' => e = .returned (.int .i64 (wi now 0 60)) ∧ W = w') := fun W => within_any now 0 60 W (by decide) (by decide) (by decide)
  generalize wi many 1 20 = N at *
  generalize wi hold 1 50 = H at *
  generalize wi now 0 60 = T at *
  obtain ⟨n, rfl⟩ : ∃ n : Nat, N = n := ⟨N.toNat, by omega⟩
  have hn1 : 1 ≤ n := by omega
  have hn2 : n ≤ 20 := by omega
  clear hN
  have HT := Lib.hid ht
  have HQU := Lib.hid (queuesK_any w ht)
  clear ht
  go_enter Tryd.func4, Tryd.ntmps4
  go_wp2_with fail
  refine HQU.out.mono ?_
  rintro e w1 ⟨rfl, hb1⟩
  have HB1 := Lib.hid hb1
  have HNW := Lib.hid (new_any w1 (HT.out.below hb1))
  clear hb1 HQU
  go_wp2_with fail
  refine HNW.out.mono ?_
  rintro e w2 ⟨rfl, hq2, hb2⟩
  obtain ⟨B, hB⟩ : ∃ B, B = w1.heap.size := ⟨_, rfl⟩
  rw [← hB] at hq2
  rw [← hB]
  have HBB : Hid (w.heap.size ≤ B) := by show _ ≤ _; rw [hB]; exact HB1.out.size
  have HB2 : Hid (Below w.heap.size w w2) := HB1.out.trans (hb2.mono HB1.out.size)
  have HB0 : Hid (B ≤ w2.heap.size) := by show _ ≤ _; rw [hB]; exact hb2.size
  have HQ2 := Lib.hid hq2
  clear hq2 hb2 hB HNW
  go_wp2_with fail
  refine (HW1.out _).mono ?_
  rintro e w' ⟨rfl, rfl⟩
  go_wp2_with fail
  refine (HW2.out _).mono ?_
  rintro e w' ⟨rfl, rfl⟩
  go_wp2_with fail
  refine (HW3.out _).mono ?_
  rintro e w' ⟨rfl, rfl⟩
  clear HW1 HW2 HW3
  have HPUT : Hid (∀ k, k < n → ∀ W vj vw, QAt W B B (putN k) vj vw → Below B w2 W → Calls Tryd.prog 11 #[.pointer (some ⟨B, 0, none⟩), .string ⟨#[]⟩] W (RetPut B B (putN (k + 1)) ((k : Int) + 1) vj vw W)) := fun k hk W vj vw hq hb =>
    put_N k (by omega) B B vj vw W hq (Nat.le_trans HB0.out hb.size) (HT.out.below (HB2.out.trans (hb.mono HBB.out)))
  go_wp2
  go_loopw [29] (fun i wr => ∃ k : Nat, k ≤ n ∧ i = .int .i64 k ∧ Hid (∃ vj vw, QAt wr B B (putN k) vj vw ∧ Below B w2 wr)) (fun i _ => n - (intOf i).toNat)
  case atStart => exact ⟨0, by omega, rfl, _, _, HQ2.out, Below.refl _ _⟩
  case round =>
    obtain ⟨k, hk, rfl, HR⟩ := hrel
    by_cases hlt : k < n
    · obtain ⟨vj, vw, hqr, hbr⟩ := HR.out
      have HP := Lib.hid (HPUT.out k hlt wr vj vw hqr hbr)
      have HQR := Lib.hid hqr
      have HBR := Lib.hid hbr
      have hB : Hid (B ≤ wr.heap.size) := Nat.le_trans HB0.out hbr.size
      have kd : (k : Int) < (n : Int) := by omega
      clear HR hqr hbr
      go_wp2_with fail
      refine HP.out.mono ?_
      rintro e w3 ⟨vj3, vw3, rfl, hq3, ht3⟩
      have HN : Hid (∃ vj vw, QAt w3 B B (putN (k + 1)) vj vw ∧ Below B w2 w3) := ⟨_, _, hq3, HBR.out.trans (ht3.base HQR.out hB.out)⟩
      clear hq3 ht3 HP
      go_wp2
      go_roundw
      case rel => exact ⟨k + 1, by omega, by go_num, HN⟩
      case measure => simp [intOf]; omega
    · obtain rfl : n = k := by omega
      obtain ⟨vj, vw, hqr, hbr⟩ := HR.out
      obtain ⟨w3, hw3⟩ : ∃ w3 : World, w3 = wr := ⟨_, rfl⟩
      subst hw3
      have HB3 := Lib.hid hbr
      have HL0 : Hid (L2 w3 B (takeN n H 0) (idsN 0) (idsN 0) vj vw (.slice none 0 0) (.slice none 0 0) w3) :=
        ⟨by rw [takeN_zero n H hn2]; exact hqr, Turn.refl _ _ _ _, Own.nil _ _ _ _ _, Own.nil _ _ _ _ _, fun g e => (by cases e), fun g e => (hqr.inq e).2⟩
      have HBZ : Hid (B ≤ w3.heap.size) := Nat.le_trans HB0.out hbr.size
      clear HR hqr hbr HPUT
      go_wp2
      have HTK : Hid (∀ k, k < n → ∀ W, QAt W B B (takeN n H k) vj vw → Calls Tryd.prog 12 #[.pointer (some ⟨B, 0, none⟩), .int .i64 H] W (RetTake B B (takeN n H (k + 1)) ((k : Int) + 1) ⟨#[]⟩ ((k : Int) + 1) 0 vj vw W)) := fun k hk W hq => take_N n k H hn2 hk hH.1 hH.2 B B vj vw W hq
      have HTE : Hid (∀ W, QAt W B B (takeN n H n) vj vw → Calls Tryd.prog 12 #[.pointer (some ⟨B, 0, none⟩), .int .i64 H] W (RetTake B B (takeN n H n) 0 ⟨#[]⟩ 0 8 vj vw W)) := fun W hq => take_end n H hn2 hH.1 hH.2 B B vj vw W hq
      go_loopw [10, 11] (fun v1 v2 wr => ∃ k : Nat, k ≤ n ∧ Hid (L2 w3 B (takeN n H k) (idsN k) (idsN k) vj vw v1 v2 wr)) (fun v1 _ _ => n + 1 - lenV v1)
      case atStart => exact ⟨0, by omega, HL0⟩
      case round =>
        obtain ⟨k, hk, HR⟩ := hrel
        by_cases hlt : k < n
        · have HP := Lib.hid (HTK.out k hlt wr HR.out.q)
          have kd : (k : Int) < (n : Int) := by omega
          clear HTE HTK
          go_wp2_with fail
          refine HP.out.mono ?_
          rintro e w4 ⟨rfl, hq4, ht4⟩
          have HR4 := Lib.hid (HR.out.turn hq4 ht4)
          clear HR hq4 ht4 HP
          obtain ⟨o1, c1, hv1, -, hf1⟩ := HR4.out.own1.flat (fun _ => rfl)
          obtain ⟨o2, c2, hv2, -, hf2⟩ := HR4.out.own2.flat (fun _ => rfl)
          rw [idsN_len] at hv1 hv2
          subst hv1 hv2
          clear hf1 hf2
          have HC : Hid (∀ W v, Own W w3.heap.size 3 1 encInt v (idsN k) → Calls Tryd.prog 13 #[v, .int .i64 ((k : Int) + 1)] W fun e w' => e = .returned (.bool false) ∧ W = w') := fun W v h => contains_any v (idsN k) _ W _ h (by rw [idsN_len]; omega) false (by
            simp only [idsN, Bool.eq_false_iff, ne_eq, List.contains_iff_mem, List.mem_map, List.mem_range, not_exists, not_and]
            intro x hx
            omega)
          have hkn : ¬ (k : Int) = (n : Int) := by omega
          go_wp2_with fail
          have hb4 := balloc (Below.refl _ w4) (.cells #[.int .i64 ((k : Int) + 1), .string ⟨#[]⟩] 39)
          obtain ⟨W4, hW4⟩ : ∃ W4, W4 = w4.alloc (.cells #[.int .i64 ((k : Int) + 1), .string ⟨#[]⟩] 39) := ⟨_, rfl⟩
          rw [← hW4] at hb4
          rw [← hW4]
          have m0 : W4.cell? ⟨w4.heap.size, 0, none⟩ = some (.int .i64 ((k : Int) + 1)) := by rw [hW4, cell_of_row _ w4.heap.size 0 _ _ (0, 0) (heap_alloc_new w4 _)]; rfl
          have HR5 := Lib.hid (HR4.out.below hb4)
          clear hW4 hb4 HR4
          refine (HC.out W4 _ HR5.out.own1).mono ?_
          rintro e w' ⟨rfl, rfl⟩
          go_wp2_with fail
          refine (HC.out W4 _ HR5.out.own2).mono ?_
          rintro e w' ⟨rfl, rfl⟩
          clear HC
          have HR6 := Lib.hid (HR5.out.below (balloc (Below.refl _ W4) (.cells #[.int .i64 ((k : Int) + 1)] 3)))
          have HNEW : Hid (∀ (W : World) (j : Nat) (u : Value), (encInt ((k : Int) + 1))[j]? = some u → (W.alloc (.cells #[.int .i64 ((k : Int) + 1)] 3)).cell? ((⟨W.heap.size, 0, none⟩ : Addr).add j) = some u) := fun W => World.news_of_block (cs := #[.int .i64 ((k : Int) + 1)]) (t := 3) (fr := (0, 0)) (heap_alloc_new W _)
          have hsz4 : Hid (w3.heap.size ≤ W4.heap.size) := HR5.out.tu.size
          clear HR5
          go_wp2_with (at_builtin; refine wpList_appAt rfl (.tmp 65) (.tmp 68) 37 rfl elemIntT Tryd.underlying37 w3.heap.size (.slice o1 k c1) _ encInt rfl HR6.out.own1 ((k : Int) + 1) ⟨W4.heap.size, 0, none⟩ 1 rfl rfl (HNEW.out W4) ?c1 ?c2 ?c3 ?c4 ?_)
          case c1 => simp [encInt, Value.oneCell']
          case c2 => rw [idsN_len]; omega
          case c3 => rw [idsN_len]; unfold maxLen; omega
          case c4 => have := hsz4.out; simp; omega
          intro v1 w5 hown5 hg5 hat5
          have HR7 := Lib.hid (HR6.out.app1 hown5 hg5 (by simpa using hat5))
          clear hown5 hg5 hat5 HR6
          have HR8 := Lib.hid (HR7.out.below (balloc (Below.refl _ w5) (.cells #[.int .i64 ((k : Int) + 1)] 3)))
          have hsz5 : Hid (w3.heap.size ≤ w5.heap.size) := HR7.out.tu.size
          clear HR7
          go_wp2_with (at_builtin; refine wpList_appAt rfl (.tmp 70) (.tmp 72) 37 rfl elemIntT Tryd.underlying37 w3.heap.size (.slice o2 k c2) _ encInt rfl HR8.out.own2 ((k : Int) + 1) ⟨w5.heap.size, 0, none⟩ 1 rfl rfl (HNEW.out w5) ?c1 ?c2 ?c3 ?c4 ?_)
          case c1 => simp [encInt, Value.oneCell']
          case c2 => rw [idsN_len]; omega
          case c3 => rw [idsN_len]; unfold maxLen; omega
          case c4 => have := hsz5.out; simp; omega
          intro v2 w6 hown6 hg6 hat6
          have HR9 : Hid (L2 w3 B (takeN n H (k + 1)) (idsN (k + 1)) (idsN (k + 1)) vj vw v1 v2 w6) := by
            rw [idsN_succ]
            exact HR8.out.app2 hown6 hg6 (by simpa using hat6)
          clear hown6 hg6 hat6 HR8 HNEW
          go_wp2
          go_roundw
          case rel => exact ⟨k + 1, by omega, HR9⟩
          case measure =>
            obtain ⟨o3, c3, e3, _⟩ := HR9.out.own1.flat (fun _ => rfl)
            rw [e3, idsN_len]
            simp only [lenV]
            omega
        · obtain rfl : n = k := by omega
          obtain ⟨w4, hw4⟩ : ∃ w4 : World, w4 = wr := ⟨_, rfl⟩
          subst hw4
          have HP := Lib.hid (HTE.out w4 HR.out.q)
          clear HTE HTK
          go_wp2_with fail
          refine HP.out.mono ?_
          rintro e w5 ⟨rfl, hq5, ht5⟩
          have HR5 := Lib.hid (HR.out.turn hq5 ht5)
          clear HR hq5 ht5 HP
          obtain ⟨o1, c1, hv1, -, hf1⟩ := HR5.out.own1.flat (fun _ => rfl)
          obtain ⟨o2, c2, hv2, -, hf2⟩ := HR5.out.own2.flat (fun _ => rfl)
          rw [idsN_len] at hv1 hv2
          subst hv1 hv2
          clear hf1 hf2
          have HSO : Hid (∀ W, Own W w3.heap.size 3 1 encInt (.slice o1 n c1) (idsN n) → Calls Tryd.prog 14 #[.slice o1 n c1] W fun e w' => e = .returned (.bool true) ∧ Below W.heap.size W w') := fun W h => by
            obtain ⟨o, c, e, _, hf⟩ := h.flat (fun _ => rfl)
            simp only [Value.slice.injEq] at e
            obtain ⟨rfl, -, rfl⟩ := e
            have h1 := sorted_any o1 (idsN n) c1 W hf (by rw [idsN_len]; omega) (by rw [idsN_len]; omega) (fun i hi => by rw [idsN_get, idsN_get]; omega)
            rw [idsN_len] at h1
            exact h1
          go_wp2_with fail
          have hb6 := balloc (Below.refl _ w5) (.cells #[.int .i64 0, .string ⟨#[]⟩] 39)
          refine (HSO.out _ (HR5.out.below hb6).own1).mono ?_
          rintro e w6 ⟨rfl, hb7⟩
          have HR6 := Lib.hid ((HR5.out.below hb6).below hb7)
          clear hb6 hb7 HR5 HSO
          have HTI := Lib.hid (tick_N n H T hn2 hT.1 hT.2 B B vj vw w6 HR6.out.q)
          go_wp2_with fail
          refine HTI.out.mono ?_
          rintro e w7 ⟨v7, rfl, hq7, ht7, hown7⟩
          have HR7 := Lib.hid (HR6.out.turn hq7 ht7)
          have HOW := Lib.hid hown7
          have HB7 : Hid (Below w.heap.size w w7) := HB2.out.trans ((HB3.out.trans (HR7.out.tu.base HL0.out.q HBZ.out)).mono HBB.out)
          have HBW : Hid (B ≤ w7.heap.size) := Nat.le_trans HBZ.out HR7.out.tu.size
          clear hq7 ht7 hown7 HR6 HTI
          obtain ⟨dq, c, L, hd0, hdd, hdl, hcase⟩ := done_fam n H T hn2 hH.1 hH.2 hT.1 hT.2
          rcases hcase with ⟨hTH, hLn, rfl⟩ | ⟨hTH, hLn, rfl⟩
          · have hti := (tick_early n H T hTH).2
            rw [hti] at HOW
            obtain ⟨o7, c7, rfl, -, -⟩ := HOW.out.flat (fun _ => rfl)
            clear hti
            have HDN : Hid (∀ m, m < n → ∀ W vj' vw', QAt W B B (dq m) vj' vw' → Below B w7 W → Calls Tryd.prog 17 #[.pointer (some ⟨B, 0, none⟩), .int .i64 ((m : Int) + 1), .int .i64 ((m : Int) + 1)] W (RetDone B B (dq (m + 1)) 0 vj' vw' W)) := fun m hm W vj' vw' hq hb =>
              hdd m hm B B vj' vw' W hq (Nat.le_trans HBW.out hb.size) (HT.out.below (HB7.out.trans (hb.mono HBB.out)))
            have HDL := Lib.hid hdl
            have HD0 := Lib.hid hd0
            clear hdd hdl hd0
            go_wp2
            go_loopw [117] (fun i wr => ∃ m : Nat, m ≤ n ∧ i = .int .i64 m ∧ Hid (∃ vj' vw', QAt wr B B (dq m) vj' vw' ∧ Turn B vj vw vj' vw' w7 wr)) (fun i _ => n - (intOf i).toNat)
            case atStart => exact ⟨0, by omega, rfl, vj, vw, by rw [HD0.out]; exact HR7.out.q, Turn.refl _ _ _ _⟩
            case round =>
              obtain ⟨m, hm, rfl, HR⟩ := hrel
              obtain ⟨vj8, vw8, hq8, ht8⟩ := HR.out
              have HQ8 := Lib.hid hq8
              have HT8 := Lib.hid ht8
              clear HR hq8 ht8 HD0
              have HB8 : Hid (Below B w7 wr) := HT8.out.base HR7.out.q HBW.out
              by_cases hlt3 : m < n
              · have HDM : Hid (Calls Tryd.prog 17 #[.pointer (some ⟨B, 0, none⟩), .int .i64 ((m : Int) + 1), .int .i64 ((m : Int) + 1)] wr.drew (RetDone B B (dq (m + 1)) 0 vj8 vw8 wr.drew)) := HDN.out m hlt3 wr.drew _ _ (HQ8.out.drewN 1) (bdrewN HB8.out 1)
                have h1 := (HR7.out.own1.turn HT8.out fun g hg e => by have h1 := HR7.out.gl g e; have h2 := (HR7.out.own1.blk hg).1; omega)
                have h2 := (HR7.out.own2.turn HT8.out fun g hg e => by have h1 := HR7.out.gl g e; have h2 := (HR7.out.own2.blk hg).1; omega)
                obtain ⟨p1, e1, hp1, -, hf1⟩ := h1.flat (fun _ => rfl)
                obtain ⟨p2, e2, hp2, -, hf2⟩ := h2.flat (fun _ => rfl)
                simp only [Value.slice.injEq] at hp1 hp2
                obtain ⟨rfl, -, rfl⟩ := hp1
                obtain ⟨rfl, -, rfl⟩ := hp2
                obtain ⟨g1, off1, rfl, d1⟩ := hf1.int (i := m) (by rw [idsN_len]; exact hlt3)
                obtain ⟨g2, off2, rfl, d2⟩ := hf2.int (i := m) (by rw [idsN_len]; exact hlt3)
                rw [idsN_get] at d1 d2
                have hk1 : wr.heap[g1]? ≠ none → True := fun _ => trivial
                have kd : (m : Int) < (n : Int) := by omega
                have k0 : (0 : Int) ≤ (m : Int) := by omega
                have HK : Hid (∀ w', (∃ vj9 vw9, QAt w' B B (dq (m + 1)) vj9 vw9 ∧ Turn B vj vw vj9 vw9 w7 w') → w'.cell? ⟨g1, off1 + m, none⟩ = some (.int .i64 ((m : Int) + 1)) ∧ w'.cell? ⟨g2, off2 + m, none⟩ = some (.int .i64 ((m : Int) + 1))) := fun w' ⟨vj9, vw9, hq9, ht9⟩ => by
                  have h1 := (HR7.out.own1.turn ht9 fun g hg e => by have h1 := HR7.out.gl g e; have h2 := (HR7.out.own1.blk hg).1; omega)
                  have h2 := (HR7.out.own2.turn ht9 fun g hg e => by have h1 := HR7.out.gl g e; have h2 := (HR7.out.own2.blk hg).1; omega)
                  obtain ⟨p1, e1, hp1, -, hf1⟩ := h1.flat (fun _ => rfl)
                  obtain ⟨p2, e2, hp2, -, hf2⟩ := h2.flat (fun _ => rfl)
                  simp only [Value.slice.injEq] at hp1 hp2
                  obtain ⟨rfl, -, rfl⟩ := hp1
                  obtain ⟨rfl, -, rfl⟩ := hp2
                  obtain ⟨q1, of1, e1, d1⟩ := hf1.int (i := m) (by rw [idsN_len]; exact hlt3)
                  obtain ⟨q2, of2, e2, d2⟩ := hf2.int (i := m) (by rw [idsN_len]; exact hlt3)
                  simp only [Option.some.injEq, Addr.mk.injEq, and_true] at e1 e2
                  obtain ⟨rfl, rfl⟩ := e1
                  obtain ⟨rfl, rfl⟩ := e2
                  rw [idsN_get] at d1 d2
                  exact ⟨d1, d2⟩
                have HN : Hid (∀ w' vj9 vw9, QAt w' B B (dq (m + 1)) vj9 vw9 → Turn B vj8 vw8 vj9 vw9 wr.drew w' → ∃ vj9 vw9, QAt w' B B (dq (m + 1)) vj9 vw9 ∧ Turn B vj vw vj9 vw9 w7 w') := fun w' vj9 vw9 hq ht => ⟨vj9, vw9, hq, Turn.trans (w1 := wr.drew) (HT8.out.drewN 1) ht⟩
                clear h1 h2 hf1 hf2 hk1
                go_wp2
                go_region_held3 (fun w' => w'.cell? ⟨g1, off1 + m, none⟩ = some (.int .i64 ((m : Int) + 1)) ∧ w'.cell? ⟨g2, off2 + m, none⟩ = some (.int .i64 ((m : Int) + 1))) (first | exact ⟨d1, d2⟩ | exact HK.out _ (by assumption)) (first | fail | (go_simp; go_at_call 17; ((with_reducible refine HDM.out.mono ?_); rintro e w9 ⟨vj9, vw9, rfl, hq9, ht9⟩; have hex := HN.out _ _ _ hq9 ht9)))
                have HEX := Lib.hid hex
                clear hq9 ht9 hex HK HN HDM d1 d2 HQ8 HT8 HB8
                go_wp2
                go_roundw
                case rel => exact ⟨m + 1, by omega, by go_num, HEX⟩
                case measure => simp [intOf]; omega
              · obtain rfl : n = m := by omega
                have HJ := Lib.hid (jobs_any B B (dq n) vj8 vw8 wr HQ8.out (by rw [HDL.out]; omega))
                clear HDN
                go_wp2_with fail
                refine HJ.out.mono ?_
                rintro e w9 ⟨v9, rfl, hv9, hb9⟩
                obtain ⟨o9, c9, rfl, -, -⟩ := hv9.flat (fun _ => rfl)
                rw [List.length_map, HDL.out]
                have HF : Hid (RetTrue w (.returned (.bool true)) w9) := ⟨rfl, ((HB7.out.trans (HB8.out.mono HBB.out)).trans (hb9.mono (HB7.out.trans (HB8.out.mono HBB.out)).size))⟩
                clear hv9 hb9 HJ
                subst hLn
                go_wp2
                go_ret
                exact HF.out
          · have hti := (tick_late n H T hTH).2
            rw [hti] at HOW
            obtain ⟨o7, c7, hv7, -, -⟩ := HOW.out.flat (fun _ => rfl)
            rw [idsN_len] at hv7
            subst hv7
            clear hti
            have HEQ := Lib.hid (equal_any _ _ (idsN n) w7 _ _ HOW.out HR7.out.own1 (by rw [idsN_len]; omega))
            have hnT : ¬ T < H := by omega
            go_wp2_with fail
            refine HEQ.out.mono ?_
            rintro e w7b ⟨rfl, hbb⟩
            have HR7b := Lib.hid (HR7.out.below hbb)
            have HB7b : Hid (Below w.heap.size w w7b) := HB7.out.trans (hbb.mono HB7.out.size)
            have HBWb : Hid (B ≤ w7b.heap.size) := Nat.le_trans HBW.out hbb.size
            clear hbb HEQ HR7 HB7 HBW HOW
            have HDN : Hid (∀ m, m < n → ∀ W vj' vw', QAt W B B (dq m) vj' vw' → Below B w7b W → Calls Tryd.prog 17 #[.pointer (some ⟨B, 0, none⟩), .int .i64 ((m : Int) + 1), .int .i64 ((m : Int) + 1)] W (RetDone B B (dq (m + 1)) 9 vj' vw' W)) := fun m hm W vj' vw' hq hb =>
              hdd m hm B B vj' vw' W hq (Nat.le_trans HBWb.out hb.size) (HT.out.below (HB7b.out.trans (hb.mono HBB.out)))
            have HDL := Lib.hid hdl
            have HD0 := Lib.hid hd0
            clear hdd hdl hd0
            go_wp2
            go_loopw [117] (fun i wr => ∃ m : Nat, m ≤ n ∧ i = .int .i64 m ∧ Hid (∃ vj' vw', QAt wr B B (dq m) vj' vw' ∧ Turn B vj vw vj' vw' w7b wr)) (fun i _ => n - (intOf i).toNat)
            case atStart => exact ⟨0, by omega, rfl, vj, vw, by rw [HD0.out]; exact HR7b.out.q, Turn.refl _ _ _ _⟩
            case round =>
              obtain ⟨m, hm, rfl, HR⟩ := hrel
              obtain ⟨vj8, vw8, hq8, ht8⟩ := HR.out
              have HQ8 := Lib.hid hq8
              have HT8 := Lib.hid ht8
              clear HR hq8 ht8 HD0
              have HB8 : Hid (Below B w7b wr) := HT8.out.base HR7b.out.q HBWb.out
              by_cases hlt3 : m < n
              · have HDM : Hid (Calls Tryd.prog 17 #[.pointer (some ⟨B, 0, none⟩), .int .i64 ((m : Int) + 1), .int .i64 ((m : Int) + 1)] wr.drew (RetDone B B (dq (m + 1)) 9 vj8 vw8 wr.drew)) := HDN.out m hlt3 wr.drew _ _ (HQ8.out.drewN 1) (bdrewN HB8.out 1)
                have h1 := (HR7b.out.own1.turn HT8.out fun g hg e => by have h1 := HR7b.out.gl g e; have h2 := (HR7b.out.own1.blk hg).1; omega)
                have h2 := (HR7b.out.own2.turn HT8.out fun g hg e => by have h1 := HR7b.out.gl g e; have h2 := (HR7b.out.own2.blk hg).1; omega)
                obtain ⟨p1, e1, hp1, -, hf1⟩ := h1.flat (fun _ => rfl)
                obtain ⟨p2, e2, hp2, -, hf2⟩ := h2.flat (fun _ => rfl)
                simp only [Value.slice.injEq] at hp1 hp2
                obtain ⟨rfl, -, rfl⟩ := hp1
                obtain ⟨rfl, -, rfl⟩ := hp2
                obtain ⟨g1, off1, rfl, d1⟩ := hf1.int (i := m) (by rw [idsN_len]; exact hlt3)
                obtain ⟨g2, off2, rfl, d2⟩ := hf2.int (i := m) (by rw [idsN_len]; exact hlt3)
                rw [idsN_get] at d1 d2
                have hk1 : wr.heap[g1]? ≠ none → True := fun _ => trivial
                have kd : (m : Int) < (n : Int) := by omega
                have k0 : (0 : Int) ≤ (m : Int) := by omega
                have HK : Hid (∀ w', (∃ vj9 vw9, QAt w' B B (dq (m + 1)) vj9 vw9 ∧ Turn B vj vw vj9 vw9 w7b w') → w'.cell? ⟨g1, off1 + m, none⟩ = some (.int .i64 ((m : Int) + 1)) ∧ w'.cell? ⟨g2, off2 + m, none⟩ = some (.int .i64 ((m : Int) + 1))) := fun w' ⟨vj9, vw9, hq9, ht9⟩ => by
                  have h1 := (HR7b.out.own1.turn ht9 fun g hg e => by have h1 := HR7b.out.gl g e; have h2 := (HR7b.out.own1.blk hg).1; omega)
                  have h2 := (HR7b.out.own2.turn ht9 fun g hg e => by have h1 := HR7b.out.gl g e; have h2 := (HR7b.out.own2.blk hg).1; omega)
                  obtain ⟨p1, e1, hp1, -, hf1⟩ := h1.flat (fun _ => rfl)
                  obtain ⟨p2, e2, hp2, -, hf2⟩ := h2.flat (fun _ => rfl)
                  simp only [Value.slice.injEq] at hp1 hp2
                  obtain ⟨rfl, -, rfl⟩ := hp1
                  obtain ⟨rfl, -, rfl⟩ := hp2
                  obtain ⟨q1, of1, e1, d1⟩ := hf1.int (i := m) (by rw [idsN_len]; exact hlt3)
                  obtain ⟨q2, of2, e2, d2⟩ := hf2.int (i := m) (by rw [idsN_len]; exact hlt3)
                  simp only [Option.some.injEq, Addr.mk.injEq, and_true] at e1 e2
                  obtain ⟨rfl, rfl⟩ := e1
                  obtain ⟨rfl, rfl⟩ := e2
                  rw [idsN_get] at d1 d2
                  exact ⟨d1, d2⟩
                have HN : Hid (∀ w' vj9 vw9, QAt w' B B (dq (m + 1)) vj9 vw9 → Turn B vj8 vw8 vj9 vw9 wr.drew w' → ∃ vj9 vw9, QAt w' B B (dq (m + 1)) vj9 vw9 ∧ Turn B vj vw vj9 vw9 w7b w') := fun w' vj9 vw9 hq ht => ⟨vj9, vw9, hq, Turn.trans (w1 := wr.drew) (HT8.out.drewN 1) ht⟩
                clear h1 h2 hf1 hf2 hk1
                go_wp2
                go_region_held3 (fun w' => w'.cell? ⟨g1, off1 + m, none⟩ = some (.int .i64 ((m : Int) + 1)) ∧ w'.cell? ⟨g2, off2 + m, none⟩ = some (.int .i64 ((m : Int) + 1))) (first | exact ⟨d1, d2⟩ | exact HK.out _ (by assumption)) (first | fail | (go_simp; go_at_call 17; ((with_reducible refine HDM.out.mono ?_); rintro e w9 ⟨vj9, vw9, rfl, hq9, ht9⟩; have hex := HN.out _ _ _ hq9 ht9)))
                have HEX := Lib.hid hex
                clear hq9 ht9 hex HK HN HDM d1 d2 HQ8 HT8 HB8
                go_wp2
                go_roundw
                case rel => exact ⟨m + 1, by omega, by go_num, HEX⟩
                case measure => simp [intOf]; omega
              · obtain rfl : n = m := by omega
                have HJ := Lib.hid (jobs_any B B (dq n) vj8 vw8 wr HQ8.out (by rw [HDL.out]; omega))
                clear HDN
                go_wp2_with fail
                refine HJ.out.mono ?_
                rintro e w9 ⟨v9, rfl, hv9, hb9⟩
                obtain ⟨o9, c9, rfl, -, -⟩ := hv9.flat (fun _ => rfl)
                rw [List.length_map, HDL.out]
                have HF : Hid (RetTrue w (.returned (.bool true)) w9) := ⟨rfl, ((HB7b.out.trans (HB8.out.mono HBB.out)).trans (hb9.mono (HB7b.out.trans (HB8.out.mono HBB.out)).size))⟩
                clear hv9 hb9 HJ
                subst hLn
                have hne : ((L : Int) == 0) = false := by simp; omega
                go_wp2
                go_ret
                exact HF.out
end Go.Proofs.YtnnnihjagjfkdaaDoor
