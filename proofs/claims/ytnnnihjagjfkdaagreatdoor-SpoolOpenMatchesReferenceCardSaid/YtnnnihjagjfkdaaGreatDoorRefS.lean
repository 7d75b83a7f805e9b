/-
  The ends of Put where the queue is full, and the walk of the reference's SameJobs. Own text.
-/
import Derived.Test.YtnnnihjagjfkdaaGreatDoorReo
import Derived.Test.YtnnnihjagjfkdaaGreatDoorPut
namespace Go.Proofs.YtnnnihjagjfkdaaGreatDoor
open Go.RowKit
set_option linter.unusedVariables false
def RetFull (w : World) (e : Ending) (w' : World) : Prop := e = .returned (.tuple #[.int .i64 0, .int .i64 16]) ∧ Below w.heap.size w w'
set_option maxRecDepth 100000 in
set_option maxHeartbeats 2000000 in
theorem put_full (B b : Nat) (q : Que) (vj vw : Value) (s : ByteArray) (w : World) (hq : QAt w B b q vj vw) (hs : s.size ≤ 256) (hjl : q.jobs.length ≤ 64) (hn0 : 0 ≤ q.next) (h : q.jobs.length = 64 ∨ 1073741824 < q.next) :
    Calls Tryz.prog 15 #[.pointer (some ⟨b, 0, none⟩), .string s] w (RetFull w) := by
  obtain ⟨oj, cj, rfl, -, -⟩ := hq.jobs.flat (fun _ => rfl)
  have c5 : w.cell? ⟨b, 5, none⟩ = some (.slice oj q.jobs.length cj) := hq.tab.at' 5 (by omega)
  have c2 : w.cell? ⟨b, 2, none⟩ = some (.int .i64 q.next) := hq.tab.at' 2 (by omega)
  have HF : Hid (RetFull w (.returned (.tuple #[.int .i64 0, .int .i64 16])) w) := ⟨rfl, Below.refl _ _⟩
  by_cases h64 : q.jobs.length = 64
  · have e64 : ((q.jobs.length : Int) == 64) = true := by rw [beq_iff_eq]; omega
    clear hq h h64
    go_enter Tryz.func15, Tryz.ntmps15
    go_wp2_with fail
    go_ret2
    exact HF.out
  · have e64 : ((q.jobs.length : Int) == 64) = false := by rw [beq_eq_false_iff_ne]; omega
    have hnx : 1073741824 < q.next := by omega
    clear hq h h64
    go_enter Tryz.func15, Tryz.ntmps15
    go_wp2_with fail
    go_ret2
    exact HF.out
def RetWF (w : World) (e : Ending) (w' : World) : Prop := e = .returned (.int .i64 16) ∧ Below w.heap.size w w'
set_option maxRecDepth 100000 in
set_option maxHeartbeats 4000000 in
theorem write_full (B b : Nat) (q : Que) (vj vw : Value) (g off : Nat) (ws : List ByteArray) (c : Nat) (w : World) (hq : QAt w B b q vj vw) (hok : QOk q) (hcells : ∀ j x, ws[j]? = some x → w.cell? ⟨g, off + j, none⟩ = some (.string x)) (hg : g < w.heap.size) (hN : ws.length ≤ 100) (hc : ws.length ≤ c)
    (hlen : (bodyV (ws.map (·.data.toList))).length ≤ 60000) (ht : Tabs w) (hfit : 65536 < q.size + (lineV q.epoch q.seq (ws.map (·.data.toList))).length) :
    Calls Tryz.prog 28 #[.pointer (some ⟨b, 0, none⟩), .slice (some ⟨g, off, none⟩) ws.length c] w (RetWF w) := by
  have hll : (lineV q.epoch q.seq (ws.map (·.data.toList))).length ≤ 60010 := by rw [lineV_len]; omega
  obtain ⟨L, hL⟩ : ∃ L, L = lineV q.epoch q.seq (ws.map (·.data.toList)) := ⟨_, rfl⟩
  have HLN : Hid (∀ W, Below w.heap.size w W → Calls Tryz.prog 31 #[.int .i64 q.epoch, .int .i64 q.seq, .slice (some ⟨g, off, none⟩) ws.length c] W (RetStr L W)) := fun W hb => by
    rw [hL]
    exact line_any q.epoch q.seq g off ws c W (fun j x hx => keepCell hb (hcells j x hx)) (Nat.lt_of_lt_of_le hg hb.size) hN hc (by omega) hok.ep.1 (by have := hok.ep.2; omega) hok.sq.1 (by have := hok.sq.2; omega) (ht.below hb)
  have HQ := Lib.hid hq
  have hLl : (strB L).size = L.length := strB_size L
  rw [← hL] at hfit hll
  obtain ⟨S, hS⟩ : ∃ S, S = strB L := ⟨_, rfl⟩
  rw [← hS] at hLl
  have hfitS : (65536 : Int) < q.size + (S.size : Int) := by omega
  have hfitU : (S.size : Int) ≤ 60010 := by omega
  have HS := Lib.hid hS
  obtain ⟨n, hn⟩ : ∃ n, n = ws.length := ⟨_, rfl⟩
  rw [← hn] at HLN
  rw [← hn]
  have hsz := hok.sz
  have c1 : w.cell? ⟨b, 1, none⟩ = some (.int .i64 q.epoch) := hq.tab.at' 1 (by omega)
  have c10 : w.cell? ⟨b, 10, none⟩ = some (.int .i64 q.seq) := hq.tab.at' 10 (by omega)
  clear hcells hlen hL hLl hfit hS hN hc ht hn hll hq hok
  go_enter Tryz.func28, Tryz.ntmps28
  go_wp2
  go_region_held3 (fun w' => w'.cell? ⟨b, 1, none⟩ = some (.int .i64 q.epoch) ∧ w'.cell? ⟨b, 10, none⟩ = some (.int .i64 q.seq)) (first | go_keep | exact ⟨keepCell hb3 c1, keepCell hb3 c10⟩)
    (first | fail | (go_simp; go_at_call 31; (with_reducible refine (HLN.out _ (by first | exact Below.refl _ _ | exact (Below.refl _ _).drew)).mono ?_); rintro e w3 ⟨rfl, hb3⟩; rw [← HS.out]))
  have HQ3 := Lib.hid (HQ.out.drewN 1 |>.below hb3)
  have HF : Hid (RetWF w (.returned (.int .i64 16)) w3) := ⟨rfl, bthen ((Below.refl _ w).drew) hb3⟩
  have d9 : w3.cell? ⟨b, 9, none⟩ = some (.int .i64 q.size) := HQ3.out.tab.at' 9 (by omega)
  clear hb3 c1 c10 HLN HQ
  go_wp2_with fail
  go_ret
  exact HF.out
set_option maxRecDepth 100000 in
set_option maxHeartbeats 4000000 in
theorem put_nofit (B b : Nat) (q : Que) (vj vw : Value) (s : ByteArray) (w : World) (hq : QAt w B b q vj vw) (hok : QOk q) (ht : Tabs w) (hs : s.size ≤ 256) (hj : q.jobs.length < 64) (hn : q.next ≤ 1073741824)
    (hfit : 65536 < q.size + (lineV q.epoch q.seq (putL q.next s)).length) :
    Calls Tryz.prog 15 #[.pointer (some ⟨b, 0, none⟩), .string s] w (RetFull w) := by
  obtain ⟨oj, cj, rfl, hjm, hjf⟩ := hq.jobs.flat (fun _ => rfl)
  have hnx := hok.nx
  have HWR : Hid (∀ W, Below w.heap.size w W → Calls Tryz.prog 28 #[.pointer (some ⟨b, 0, none⟩), .slice (some ⟨W.heap.size, 0, none⟩) 3 3] (W.alloc (.cells #[.string ⟨#[112, 117, 116]⟩, .string (strB (Lib.itoa q.next)), .string (strB (codedV s.data.toList))] 9)) (RetWF (W.alloc (.cells #[.string ⟨#[112, 117, 116]⟩, .string (strB (Lib.itoa q.next)), .string (strB (codedV s.data.toList))] 9)))) := fun W hb => by
    have b2 := bthen hb (balloc (Below.refl _ W) (.cells #[.string ⟨#[112, 117, 116]⟩, .string (strB (Lib.itoa q.next)), .string (strB (codedV s.data.toList))] 9))
    exact write_full B b q _ vw W.heap.size 0 (putWs q.next s) 3 _ (hq.below b2) hok (fun j x hx => by
      rw [Nat.zero_add, cell_of_row _ W.heap.size j _ _ (0, 0) (heap_alloc_new W _)]
      match j, hx with
      | 0, hx => exact congrArg (fun y : Option ByteArray => y.map Value.string) hx
      | 1, hx => exact congrArg (fun y : Option ByteArray => y.map Value.string) hx
      | 2, hx => exact congrArg (fun y : Option ByteArray => y.map Value.string) hx
      | j + 3, hx => exact congrArg (fun y : Option ByteArray => y.map Value.string) hx) (by simp) (show 3 ≤ 100 by omega) (Nat.le_refl 3) (by have := putL_len q.next s hnx.1 (by omega) hs; show (bodyV (putL q.next s)).length ≤ _; omega) (ht.below b2) hfit
  have HIT : Hid (∀ W, Below w.heap.size w W → Calls Tryz.prog 29 #[.int .i64 q.next] W (RetStr (Lib.itoa q.next) W)) := fun W hb => itoa_any q.next W hnx.1 (by omega) (ht.below hb)
  have HCO : Hid (∀ W, Calls Tryz.prog 30 #[.string s] W (RetStr (codedV s.data.toList) W)) := fun W => coded_any s W (by omega)
  obtain ⟨N, hN⟩ : ∃ N, N = strB (Lib.itoa q.next) := ⟨_, rfl⟩
  obtain ⟨C, hC⟩ : ∃ C, C = strB (codedV s.data.toList) := ⟨_, rfl⟩
  rw [← hN, ← hC] at HWR
  have HN := Lib.hid hN
  have HC := Lib.hid hC
  have e64 : ((q.jobs.length : Int) == 64) = false := by simp; omega
  have c5 : w.cell? ⟨b, 5, none⟩ = some (.slice oj q.jobs.length cj) := hq.tab.at' 5 (by omega)
  have c2 : w.cell? ⟨b, 2, none⟩ = some (.int .i64 q.next) := hq.tab.at' 2 (by omega)
  clear hq hok ht hfit hjf hN hC hjm
  go_enter Tryz.func15, Tryz.ntmps15
  go_wp2_with fail
  refine (HIT.out _ (Below.refl _ _)).mono ?_
  rintro e w2 ⟨rfl, hb2⟩
  rw [← HN.out]
  have HB2 := Lib.hid hb2
  clear hb2 HIT c5 c2
  go_wp2_with fail
  refine (HCO.out _).mono ?_
  rintro e w3 ⟨rfl, hb3⟩
  rw [← HC.out]
  have HB3 := Lib.hid (bthen HB2.out hb3)
  clear hb3 HCO
  go_wp2_with fail
  refine (HWR.out _ HB3.out).mono ?_
  rintro e w5 ⟨rfl, hb5⟩
  have HF : Hid (RetFull w (.returned (.tuple #[.int .i64 0, .int .i64 16])) w5) := ⟨rfl, bthen (balloc HB3.out _) hb5⟩
  clear hb5 HWR
  go_wp2_with fail
  go_ret2
  exact HF.out
set_option maxRecDepth 100000 in
set_option maxHeartbeats 4000000 in
theorem sameJobs_any (oa ob : Option Addr) (xs ys : List Sj) (ca cb : Nat) (w : World) (hx : Flat w 2 encSj oa xs) (hy : Flat w 2 encSj ob ys) (hm : xs.length ≤ 1000) :
    Calls Tryz.prog 11 #[.slice oa xs.length ca, .slice ob ys.length cb] w (RetEqS xs ys w) := by
  have HX := Lib.hid hx
  have HY := Lib.hid hy
  clear hx hy
  by_cases hl : xs.length = ys.length
  · obtain ⟨n, hn⟩ : ∃ n, n = xs.length := ⟨_, rfl⟩
    have HL : Hid (xs.length = n ∧ ys.length = n) := ⟨hn.symm, by omega⟩
    rw [← hl, ← hn]
    rw [← hn] at hm
    clear hl hn
    go_enter Tryz.func11, Tryz.ntmps11
    go_wp2
    go_loopw [13] (fun i wr => ∃ k : Nat, k ≤ n ∧ i = .int .i64 k ∧ Hid (Below w.heap.size w wr ∧ ∀ j (hx : j < xs.length) (hy : j < ys.length), j < k → xs[j] = ys[j])) (fun i _ => n - (intOf i).toNat)
    case atStart => exact ⟨0, by omega, rfl, Below.refl _ _, fun j _ _ h => by omega⟩
    case round =>
      obtain ⟨k, hk, rfl, HR⟩ := hrel
      by_cases hlt : k < n
      · have hkx : k < xs.length := by have := HL.out; omega
        have hky : k < ys.length := by have := HL.out; omega
        obtain ⟨b1, off1, rfl, i0, i1⟩ := (HX.out.below HR.out.1).sj2 hkx
        obtain ⟨b2, off2, rfl, j0, j1⟩ := (HY.out.below HR.out.1).sj2 hky
        obtain ⟨x, hxe⟩ : ∃ x, x = xs[k] := ⟨_, rfl⟩
        obtain ⟨y, hye⟩ : ∃ y, y = ys[k] := ⟨_, rfl⟩
        rw [← hxe] at i0 i1
        rw [← hye] at j0 j1
        have kd : (k : Int) < (n : Int) := by omega
        have k0 : (0 : Int) ≤ (k : Int) := by omega
        by_cases he : x = y
        · have hrn := fun W => run_neqS x y W true ⟨fun _ => he, fun _ => rfl⟩
          simp only [Bool.not_true] at hrn
          have HN : Hid (∀ N, Below w.heap.size w (wr.drewN N) ∧ ∀ j (hx : j < xs.length) (hy : j < ys.length), j < k + 1 → xs[j] = ys[j]) := fun N => ⟨bdrewN HR.out.1 N, fun j h1 h2 h3 => by
            by_cases e : j = k
            · subst e
              rw [← hxe, ← hye]; exact he
            · exact HR.out.2 j h1 h2 (by omega)⟩
          clear he hxe hye HR
          go_upto_region 6 with fail
          go_quiet (fail)
          go_wp2
          go_roundw
          case rel => exact ⟨k + 1, by omega, by go_num, HN.out _⟩
          case measure => simp [intOf]; omega
        · have hrn := fun W => run_neqS x y W false ⟨fun h => (by cases h), fun h => absurd h he⟩
          simp only [Bool.not_false] at hrn
          have HF : Hid (∀ N, RetEqS xs ys w (.returned (.bool false)) (wr.drewN N)) := fun N => ⟨⟨false, rfl, fun h => (by cases h), fun h => absurd (by rw [hxe, hye]; simp only [h]) he⟩, bdrewN HR.out.1 N⟩
          clear he hxe hye HR
          go_upto_region 6 with fail
          go_quiet (fail)
          go_wp2
          go_ret
          exact HF.out _
      · have HF : Hid (RetEqS xs ys w (.returned (.bool true)) wr) := ⟨⟨true, rfl, fun _ => List.ext_getElem (by have := HL.out; omega) (fun j h1 h2 => HR.out.2 j h1 h2 (by have := HL.out; omega)), fun _ => rfl⟩, HR.out.1⟩
        clear HR
        go_wp2
        go_ret
        exact HF.out
  · have e0 : ((xs.length : Int) != (ys.length : Int)) = true := by rw [bne_iff_ne]; omega
    have HF : Hid (RetEqS xs ys w (.returned (.bool false)) w) := ⟨⟨false, rfl, fun h => (by cases h), fun h => absurd (congrArg List.length h) hl⟩, Below.refl _ _⟩
    obtain ⟨n, hn⟩ : ∃ n, n = xs.length := ⟨_, rfl⟩
    obtain ⟨m, hm2⟩ : ∃ m, m = ys.length := ⟨_, rfl⟩
    rw [← hn, ← hm2] at e0
    rw [← hn, ← hm2]
    clear hl hn hm2 hm
    go_enter Tryz.func11, Tryz.ntmps11
    go_wp2
    go_ret
    exact HF.out
end Go.Proofs.YtnnnihjagjfkdaaGreatDoor
