/-
  SpoolReopenStable: the walk. Own text.
-/
import Derived.Test.YtnnnihjagjfkdaaGreatDoorOpn
import Derived.Test.YtnnnihjagjfkdaaGreatDoorOpnV
import Derived.Test.YtnnnihjagjfkdaaGreatDoorKeep
namespace Go.Proofs.YtnnnihjagjfkdaaGreatDoor
open Go.RowKit
set_option linter.unusedVariables false
def RetDk (a b : ByteArray) (w : World) (e : Ending) (w' : World) : Prop := e = .returned (.agg #[.string a, .string b]) ∧ Below w.heap.size w w'
set_option maxRecDepth 100000 in
set_option maxHeartbeats 4000000 in
theorem disk_any (B b : Nat) (q : Que) (vj vw : Value) (w : World) (hq : QAt w B b q vj vw) :
    Calls Tryz.prog 13 #[.pointer (some ⟨b, 0, none⟩)] w (RetDk q.a0 q.a1 w) := by
  have hlt := hq.lt
  obtain ⟨W1, hW1⟩ : ∃ W1, W1 = w.alloc (.cells #[.string ⟨#[]⟩, .string ⟨#[]⟩] 23) := ⟨_, rfl⟩
  have hb1 : Below w.heap.size w W1 := by rw [hW1]; exact balloc (Below.refl _ w) _
  have hz1 : W1.heap.size = w.heap.size + 1 := by rw [hW1]; exact World.size_alloc _ _
  have c0 : W1.cell? ⟨w.heap.size, 0, none⟩ = some (.string ⟨#[]⟩) := by rw [hW1, cell_of_row _ w.heap.size 0 _ _ (0, 0) (heap_alloc_new w _)]; rfl
  have c1 : W1.cell? ⟨w.heap.size, 1, none⟩ = some (.string ⟨#[]⟩) := by rw [hW1, cell_of_row _ w.heap.size 1 _ _ (0, 0) (heap_alloc_new w _)]; rfl
  have cf : ∀ o, W1.frozen? ⟨w.heap.size, o, none⟩ = false := fun o => by
    rw [hW1]
    unfold World.frozen?
    rw [heap_alloc_new]
    simp
  have HQ := Lib.hid (hq.below hb1)
  have c6 : W1.cell? ⟨b, 6, none⟩ = some (.string q.a0) := HQ.out.tab.at' 6 (by omega)
  have c7 : W1.cell? ⟨b, 7, none⟩ = some (.string q.a1) := HQ.out.tab.at' 7 (by omega)
  have HB1 := Lib.hid hb1
  clear hq hb1
  go_enter Tryz.func13, Tryz.ntmps13
  go_upto_region 1 with fail
  rw [← hW1]
  clear hW1
  have HW : Hid (Below w.heap.size w ((W1.setCell ⟨w.heap.size, 0, none⟩ (.string q.a0)).setCell ⟨w.heap.size, 1, none⟩ (.string q.a1)).drew) := bdrewN ((HB1.out.setCell (p := ⟨w.heap.size, 0, none⟩) (Nat.le_refl _) _).setCell (p := ⟨w.heap.size, 1, none⟩) (Nat.le_refl _) _) 1
  have hft : FTab (fun v : Value => v) W1 w.heap.size 2 (fun _ => .string ⟨#[]⟩) := ⟨fun i hi => by
    match i, hi with
    | 0, _ => exact c0
    | 1, _ => exact c1, cf⟩
  have hf2 := ((hft.set (i := 0) (by omega) (.string q.a0)).set (i := 1) (by omega) (.string q.a1)).drewN 1
  have HR0 : Hid (((W1.setCell ⟨w.heap.size, 0, none⟩ (.string q.a0)).setCell ⟨w.heap.size, 1, none⟩ (.string q.a1)).drew.cell? ⟨w.heap.size, 0, none⟩ = some (.string q.a0)) := hf2.at' 0 (by omega)
  have HR1 : Hid (((W1.setCell ⟨w.heap.size, 0, none⟩ (.string q.a0)).setCell ⟨w.heap.size, 1, none⟩ (.string q.a1)).drew.cell? ⟨w.heap.size, 1, none⟩ = some (.string q.a1)) := hf2.at' 1 (by omega)
  clear hft hf2 HQ
  go_region
  all_goals
    clear c0 c1 cf c6 c7
    generalize ((W1.setCell ⟨w.heap.size, 0, none⟩ (.string q.a0)).setCell ⟨w.heap.size, 1, none⟩ (.string q.a1)).drew = w5 at *
    have r0 := HR0.out
    have r1 := HR1.out
    have hres : Tryz.f13.results = #[.cell 2 23] := rfl
    go_wp2
    refine bodyPost_ret (v := .agg #[.string q.a0, .string q.a1]) (by simp only [results, hres]; go_simp) rfl ?_
    exact ⟨rfl, HW.out⟩
theorem toList_inj {s t : ByteArray} : s.toList = t.toList ↔ s = t := by
  rw [ByteArray.toList_eq, ByteArray.toList_eq]
  constructor
  · intro h
    exact ByteArray.ext (Array.ext' h)
  · intro h; rw [h]
theorem run_neqS (x y : Sj) (w : World) (r : Bool) (h : r = true ↔ x = y) : (binOp .neq 41 (.agg #[.int .i64 x.id, .string x.text]) (.agg #[.int .i64 y.id, .string y.text])).run Tryz.prog w = .ok (.bool (!r)) w := by
  go_simp
  by_cases h1 : x.id = y.id
  · by_cases h2 : x.text.toList = y.text.toList
    · have e : r = true := h.2 (by cases x; cases y; simp only at h1 h2; rw [h1, toList_inj.1 h2])
      rw [if_pos h1, if_pos h2, e]; rfl
    · have e : r = false := by
        cases r with
        | false => rfl
        | true => exact absurd (by rw [h.1 rfl]) h2
      rw [if_pos h1, if_neg h2, e]; rfl
  · have e : r = false := by
      cases r with
      | false => rfl
      | true => exact absurd (by rw [h.1 rfl]) h1
    rw [if_neg h1, e]; rfl
theorem run_eqlD (a b s t : ByteArray) (w : World) (r : Bool) (h : r = true ↔ (a = b ∧ s = t)) : (binOp .eql 23 (.agg #[.string a, .string s]) (.agg #[.string b, .string t])).run Tryz.prog w = .ok (.bool r) w := by
  go_simp
  by_cases h1 : a.toList = b.toList
  · by_cases h2 : s.toList = t.toList
    · rw [if_pos h1, if_pos h2, h.2 ⟨toList_inj.1 h1, toList_inj.1 h2⟩]
    · have e : r = false := by
        cases r with
        | false => rfl
        | true => exact absurd (by rw [(h.1 rfl).2]) h2
      rw [if_pos h1, if_neg h2, e]
  · have e : r = false := by
      cases r with
      | false => rfl
      | true => exact absurd (by rw [(h.1 rfl).1]) h1
    rw [if_neg h1, e]
theorem Flat.sj2 {w : World} {oa : Option Addr} {xs : List Sj} (h : Flat w 2 encSj oa xs) {i : Nat} (hi : i < xs.length) :
    ∃ b off, oa = some ⟨b, off, none⟩ ∧ w.cell? ⟨b, off + i * 2, none⟩ = some (.int .i64 xs[i].id) ∧ w.cell? ⟨b, off + i * 2 + 1, none⟩ = some (.string xs[i].text) := by
  obtain ⟨v0, h0, b, off, e, c0⟩ := h i hi 0 (by omega)
  obtain ⟨v1, h1, b1, off1, e1, c1⟩ := h i hi 1 (by omega)
  rw [e] at e1
  simp only [Option.some.injEq, Addr.mk.injEq, and_true] at e1
  obtain ⟨rfl, rfl⟩ := e1
  simp only [encSj, List.getElem?_cons_zero, List.getElem?_cons_succ, Option.some.injEq] at h0 h1
  subst h0 h1
  exact ⟨b, off, e, by simpa using c0, by simpa [Nat.add_assoc] using c1⟩
def RetEqS (xs ys : List Sj) (w : World) (e : Ending) (w' : World) : Prop := (∃ r, e = .returned (.bool r) ∧ (r = true ↔ xs = ys)) ∧ Below w.heap.size w w'
set_option maxRecDepth 100000 in
set_option maxHeartbeats 4000000 in
theorem equalS_any (oa ob : Option Addr) (xs ys : List Sj) (ca cb : Nat) (w : World) (hx : Flat w 2 encSj oa xs) (hy : Flat w 2 encSj ob ys) (hm : xs.length ≤ 1000) :
    Calls Tryz.prog 17 #[.slice oa xs.length ca, .slice ob ys.length cb] w (RetEqS xs ys w) := by
  have HX := Lib.hid hx
  have HY := Lib.hid hy
  clear hx hy
  by_cases hl : xs.length = ys.length
  · obtain ⟨n, hn⟩ : ∃ n, n = xs.length := ⟨_, rfl⟩
    have HL : Hid (xs.length = n ∧ ys.length = n) := ⟨hn.symm, by omega⟩
    rw [← hl, ← hn]
    rw [← hn] at hm
    clear hl hn
    go_enter Tryz.func17, Tryz.ntmps17
    go_wp2
    go_loopw [13] (fun i wr => ∃ k : Nat, k ≤ n ∧ i = .int .i64 k ∧ Hid (Below w.heap.size w wr ∧ ∀ j (hx : j < xs.length) (hy : j < ys.length), j < k → xs[j] = ys[j])) (fun i _ => n - (intOf i).toNat)
    case atStart => exact ⟨0, by omega, rfl, Below.refl _ _, fun j _ _ h => by omega⟩
    case round =>
      obtain ⟨k, hk, rfl, HR⟩ := hrel
      by_cases hlt : k < n
      · have hkx : k < xs.length := by have := HL.out; omega
        have hky : k < ys.length := by have := HL.out; omega
        obtain ⟨b1, off1, rfl, i0, i1⟩ := (HX.out.below HR.out.1).sj2 hkx
        obtain ⟨b2, off2, rfl, j0, j1⟩ := (HY.out.below HR.out.1).sj2 hky
        obtain ⟨x, hxe⟩ : ∃ x, x = xs[k] := ⟨_, rfl⟩
        obtain ⟨y, hye⟩ : ∃ y, y = ys[k] := ⟨_, rfl⟩
        rw [← hxe] at i0 i1
        rw [← hye] at j0 j1
        have kd : (k : Int) < (n : Int) := by omega
        have k0 : (0 : Int) ≤ (k : Int) := by omega
        by_cases he : x = y
        · have hrn := fun W => run_neqS x y W true ⟨fun _ => he, fun _ => rfl⟩
          simp only [Bool.not_true] at hrn
          have HN : Hid (∀ N, Below w.heap.size w (wr.drewN N) ∧ ∀ j (hx : j < xs.length) (hy : j < ys.length), j < k + 1 → xs[j] = ys[j]) := fun N => ⟨bdrewN HR.out.1 N, fun j h1 h2 h3 => by
            by_cases e : j = k
            · subst e
              rw [← hxe, ← hye]; exact he
            · exact HR.out.2 j h1 h2 (by omega)⟩
          clear he hxe hye HR
          go_upto_region 6 with fail
          go_quiet (fail)
          go_wp2
          go_roundw
          case rel => exact ⟨k + 1, by omega, by go_num, HN.out _⟩
          case measure => simp [intOf]; omega
        · have hrn := fun W => run_neqS x y W false ⟨fun h => (by cases h), fun h => absurd h he⟩
          simp only [Bool.not_false] at hrn
          have HF : Hid (∀ N, RetEqS xs ys w (.returned (.bool false)) (wr.drewN N)) := fun N => ⟨⟨false, rfl, fun h => (by cases h), fun h => absurd (by rw [hxe, hye]; simp only [h]) he⟩, bdrewN HR.out.1 N⟩
          clear he hxe hye HR
          go_upto_region 6 with fail
          go_quiet (fail)
          go_wp2
          go_ret
          exact HF.out _
      · have HF : Hid (RetEqS xs ys w (.returned (.bool true)) wr) := ⟨⟨true, rfl, fun _ => List.ext_getElem (by have := HL.out; omega) (fun j h1 h2 => HR.out.2 j h1 h2 (by have := HL.out; omega)), fun _ => rfl⟩, HR.out.1⟩
        clear HR
        go_wp2
        go_ret
        exact HF.out
  · have e0 : ((xs.length : Int) != (ys.length : Int)) = true := by rw [bne_iff_ne]; omega
    have HF : Hid (RetEqS xs ys w (.returned (.bool false)) w) := ⟨⟨false, rfl, fun h => (by cases h), fun h => absurd (congrArg List.length h) hl⟩, Below.refl _ _⟩
    obtain ⟨n, hn⟩ : ∃ n, n = xs.length := ⟨_, rfl⟩
    obtain ⟨m, hm2⟩ : ∃ m, m = ys.length := ⟨_, rfl⟩
    rw [← hn, ← hm2] at e0
    rw [← hn, ← hm2]
    clear hl hn hm2 hm
    go_enter Tryz.func17, Tryz.ntmps17
    go_wp2
    go_ret
    exact HF.out
end Go.Proofs.YtnnnihjagjfkdaaGreatDoor
namespace Go.Proofs.YtnnnihjagjfkdaaGreatDoor
open Go.RowKit
set_option linter.unusedVariables false
/-- The scan without the last k bytes. -/
def cutS (s : Sc) (k : Nat) : Sc := { s with rest := s.rest.take (s.rest.length - k) }
theorem rec_cut {s s' : Sc} {l : List (List UInt8)} {k : Nat} (h : recV s = (some l, s')) (hk : k ≤ s'.rest.length) : recV (cutS s k) = (some l, cutS s' k) := by
  unfold recV at h
  cases hc : cutNl s.rest with
  | none => rw [hc] at h; cases h
  | some p =>
    rw [hc] at h
    simp only at h
    split at h
    · rename_i hL
      simp only [Prod.mk.injEq, Option.some.injEq] at h
      obtain ⟨rfl, rfl⟩ := h
      simp only at hk
      obtain ⟨h1, h1n⟩ := cutNl_some (a := p.1) (b := p.2) (by rw [hc])
      have h2 : s.rest.take (s.rest.length - k) = p.1 ++ 10 :: p.2.take (p.2.length - k) := by
        have e : s.rest.length - k = (p.1 ++ [10]).length + (p.2.length - k) := by rw [h1]; simp; omega
        rw [e, h1, show p.1 ++ 10 :: p.2 = (p.1 ++ [10]) ++ p.2 by simp, List.take_length_add_append]
        simp
      unfold recV cutS
      simp only
      rw [h2, cutNl_app _ _ h1n]
      simp only
      rw [show epochV { rest := p.1 ++ 10 :: p.2.take (p.2.length - k), epoch := s.epoch, seq := s.seq, read := s.read } (wordsV p.1) = epochV s (wordsV p.1) from rfl, if_pos hL]
    · cases h
theorem recV_lt {s s' : Sc} {l : List (List UInt8)} (h : recV s = (some l, s')) : s'.rest.length < s.rest.length := by
  unfold recV at h
  cases hc : cutNl s.rest with
  | none => rw [hc] at h; cases h
  | some p =>
    rw [hc] at h
    simp only at h
    split at h
    · simp only [Prod.mk.injEq, Option.some.injEq] at h
      obtain ⟨rfl, rfl⟩ := h
      have h1 := (cutNl_some (a := p.1) (b := p.2) (by rw [hc])).1
      rw [h1]
      simp
      omega
    · cases h
theorem keeps_cut {k : Nat} : ∀ (n : Nat) {q q' : Que} {s s' : Sc}, keepsV n q s = some (q', s') → k ≤ s'.rest.length → keepsV n q (cutS s k) = some (q', cutS s' k) ∧ k ≤ s.rest.length
  | 0, q, q', s, s', h, hk => by
    simp only [keepsV, Option.some.injEq, Prod.mk.injEq] at h
    obtain ⟨rfl, rfl⟩ := h
    exact ⟨rfl, hk⟩
  | n + 1, q, q', s, s', h, hk => by
    unfold keepsV at h
    cases hr : recV s with
    | mk o s1 =>
      rw [hr] at h
      cases o with
      | none => cases h
      | some l =>
        simp only at h
        split at h
        · rename_i hl
          split at h
          · cases h
          · rename_i q1 hkv
            obtain ⟨h1, h2⟩ := keeps_cut n h hk
            refine ⟨by rw [keeps_yes (rec_cut hr h2) hl hkv]; exact h1, ?_⟩
            have h4 := recV_lt hr
            omega
        · cases h
theorem begun_cut {a : List UInt8} {q : Que} {s : Sc} {k : Nat} (h : begunV a = some (q, s)) (hk : k ≤ s.rest.length) : begunV (a.take (a.length - k)) = some (q, cutS s k) := by
  unfold begunV at h
  cases hr : recV ⟨a, 0, 0, 0⟩ with
  | mk o s1 =>
    rw [hr] at h
    cases o with
    | none => cases h
    | some l =>
      simp only at h
      split at h
      · rename_i hb
        obtain ⟨h1, h2⟩ := keeps_cut _ h hk
        have h3 := rec_cut hr h2
        have h4 : recV ⟨a.take (a.length - k), 0, 0, 0⟩ = (some l, cutS s1 k) := h3
        rw [begun_yes h4 hb]
        exact h1
      · cases h
theorem run_rest : ∀ (n : Nat) (q : Que) (s : Sc), (runV n q s).2.rest.length ≤ s.rest.length
  | 0, q, s => Nat.le_refl _
  | n + 1, q, s => by
    unfold runV
    cases hr : recV s with
    | mk o s1 =>
      cases o with
      | none => exact Nat.le_refl _
      | some l =>
        simp only
        split
        · exact Nat.le_refl _
        · have h1 := run_rest n (by assumption) s1
          have h2 := recV_lt hr
          omega
theorem run_area : ∀ (n : Nat) (q : Que) (s : Sc), (runV n q s).1.area = q.area
  | 0, q, s => rfl
  | n + 1, q, s => by
    unfold runV
    cases hr : recV s with
    | mk o s1 =>
      cases o with
      | none => rfl
      | some l =>
        simp only
        split
        · rfl
        · rename_i q' ha
          rw [run_area n q' s1]
          unfold applyV at ha
          split at ha
          · obtain ⟨_, rfl⟩ := keepV_some ha
            rfl
          · split at ha
            · unfold dropV at ha
              split at ha
              · split at ha
                · cases ha
                · obtain rfl := Option.some.inj ha
                  rfl
              · cases ha
            · cases ha
theorem run_stop (n : Nat) (q : Que) (s : Sc) (h : s.rest = []) : runV n q s = (q, s) := by
  cases n with
  | zero => rfl
  | succ n =>
    exact run_none (s' := s) (by unfold recV; rw [h]; rfl)
theorem run_cut : ∀ (n m : Nat) (q : Que) (s : Sc), s.rest.length - (runV n q s).2.rest.length < m → runV m q (cutS s (runV n q s).2.rest.length) = ((runV n q s).1, cutS (runV n q s).2 (runV n q s).2.rest.length)
  | 0, m, q, s, hm => by
    show runV m q (cutS s s.rest.length) = (q, cutS s s.rest.length)
    exact run_stop _ _ _ (by simp [cutS])
  | n + 1, 0, q, s, hm => by omega
  | n + 1, m + 1, q, s, hm => by
    cases hr : recV s with
    | mk o s1 =>
      cases o with
      | none =>
        rw [run_none hr]
        exact run_stop _ _ _ (by simp [cutS])
      | some l =>
        cases ha : applyV q l with
        | none =>
          rw [run_bad hr ha]
          exact run_stop _ _ _ (by simp [cutS])
        | some q' =>
          rw [run_yes hr ha] at hm ⊢
          have h1 := run_rest n q' s1
          have h2 := recV_lt hr
          rw [run_yes (rec_cut hr h1) ha]
          exact run_cut n m q' s1 (by omega)
theorem best_cases {A C : List UInt8} {q0 : Que} {s0 : Sc} (h : bestAB A C = some (q0, s0)) :
    (q0.area = 0 ∧ ∃ q', begunV A = some (q', s0) ∧ ∀ A' s', begunV A' = some (q', s') → bestAB A' C = some (q0, s')) ∨
    (q0.area = 1 ∧ ∃ q', begunV C = some (q', s0) ∧ ∀ C' s', begunV C' = some (q', s') → bestAB A C' = some (q0, s')) := by
  unfold bestAB at h
  cases ha : begunV A with
  | none =>
    rw [ha] at h
    cases hc : begunV C with
    | none => rw [hc] at h; cases h
    | some p =>
      obtain ⟨qc, sc⟩ := p
      rw [hc] at h
      simp only [bestV, Option.some.injEq, Prod.mk.injEq] at h
      obtain ⟨rfl, rfl⟩ := h
      refine .inr ⟨rfl, qc, rfl, fun C' s' h' => ?_⟩
      unfold bestAB
      rw [ha, h']
      rfl
  | some p =>
    obtain ⟨qa, sa⟩ := p
    rw [ha] at h
    cases hc : begunV C with
    | none =>
      rw [hc] at h
      simp only [bestV, Option.some.injEq, Prod.mk.injEq] at h
      obtain ⟨rfl, rfl⟩ := h
      refine .inl ⟨rfl, qa, rfl, fun A' s' h' => ?_⟩
      unfold bestAB
      rw [hc, h']
      rfl
    | some p =>
      obtain ⟨qc, sc⟩ := p
      rw [hc] at h
      simp only [bestV] at h
      by_cases he : qa.epoch < qc.epoch
      · rw [if_pos he] at h
        simp only [Option.some.injEq, Prod.mk.injEq] at h
        obtain ⟨rfl, rfl⟩ := h
        refine .inr ⟨rfl, qc, rfl, fun C' s' h' => ?_⟩
        unfold bestAB
        rw [ha, h']
        exact if_pos he
      · rw [if_neg he] at h
        simp only [Option.some.injEq, Prod.mk.injEq] at h
        obtain ⟨rfl, rfl⟩ := h
        refine .inl ⟨rfl, qa, rfl, fun A' s' h' => ?_⟩
        unfold bestAB
        rw [hc, h']
        exact if_neg he
theorem open_again {A C : List UInt8} {q : Que} (h : openV A C = .ok q) : openV q.a0.data.toList q.a1.data.toList = .ok q ∧ q.a0.size ≤ A.length ∧ q.a1.size ≤ C.length := by
  by_cases hl : 65536 < A.length ∨ 65536 < C.length
  · rw [openV_large hl] at h; cases h
  cases hb : bestAB A C with
  | none => rw [openV_lost hl hb] at h; cases h
  | some p =>
    obtain ⟨q0, s0⟩ := p
    rw [openV_ok hl hb] at h
    obtain rfl := (Except.ok.inj h).symm
    obtain ⟨r, hr⟩ : ∃ r, r = runV (s0.rest.length + 1) q0 s0 := ⟨_, rfl⟩
    have hra := run_area (s0.rest.length + 1) q0 s0
    have hrr := run_rest (s0.rest.length + 1) q0 s0
    have hrs := fun N => run_sum (s0.rest.length + 1) q0 s0 (N := N)
    have hrc := fun m hm => run_cut (s0.rest.length + 1) m q0 s0 hm
    rw [← hr] at hra hrr hrs hrc
    rw [← hr]
    rcases best_cases hb with ⟨har, q', hbq, hall⟩ | ⟨har, q', hbq, hall⟩
    · have hsum := hrs _ (begun_sum hbq)
      unfold Sums at hsum
      have hk : A.length - r.2.rest.length = r.2.read.toNat := by omega
      have hbc := begun_cut hbq hrr
      rw [hk] at hbc
      have hba := hall _ _ hbc
      have hrl : (cutS s0 r.2.rest.length).rest.length = s0.rest.length - r.2.rest.length := by
        show (s0.rest.take (s0.rest.length - r.2.rest.length)).length = _
        rw [List.length_take]; omega
      have hrr2 := hrc ((cutS s0 r.2.rest.length).rest.length + 1) (by rw [hrl]; omega)
      have e0 : (endQ A C r).a0 = strB (A.take r.2.read.toNat) := if_pos (hra.trans har)
      have e1 : (endQ A C r).a1 = strB C := if_pos (hra.trans har)
      rw [e0, e1]
      refine ⟨?_, by rw [strB_size, List.length_take]; omega, by rw [strB_size]; omega⟩
      show openV (A.take r.2.read.toNat) C = _
      rw [openV_ok (by rw [List.length_take]; omega) hba, hrr2]
      congr 1
      unfold endQ
      rw [show (cutS r.2 r.2.rest.length).read = r.2.read from rfl, show (cutS r.2 r.2.rest.length).seq = r.2.seq from rfl]
      simp only [hra.trans har, if_true, List.take_take, Nat.min_self]
    · have hsum := hrs _ (begun_sum hbq)
      unfold Sums at hsum
      have hk : C.length - r.2.rest.length = r.2.read.toNat := by omega
      have hbc := begun_cut hbq hrr
      rw [hk] at hbc
      have hba := hall _ _ hbc
      have hrl : (cutS s0 r.2.rest.length).rest.length = s0.rest.length - r.2.rest.length := by
        show (s0.rest.take (s0.rest.length - r.2.rest.length)).length = _
        rw [List.length_take]; omega
      have hrr2 := hrc ((cutS s0 r.2.rest.length).rest.length + 1) (by rw [hrl]; omega)
      have hne : ¬ r.1.area = 0 := by rw [hra, har]; decide
      have e0 : (endQ A C r).a0 = strB A := if_neg hne
      have e1 : (endQ A C r).a1 = strB (C.take r.2.read.toNat) := if_neg hne
      rw [e0, e1]
      refine ⟨?_, by rw [strB_size]; omega, by rw [strB_size, List.length_take]; omega⟩
      show openV A (C.take r.2.read.toNat) = _
      rw [openV_ok (by rw [List.length_take]; omega) hba, hrr2]
      congr 1
      unfold endQ
      rw [show (cutS r.2 r.2.rest.length).read = r.2.read from rfl, show (cutS r.2 r.2.rest.length).seq = r.2.seq from rfl]
      simp only [hne, if_false, List.take_take, Nat.min_self]
end Go.Proofs.YtnnnihjagjfkdaaGreatDoor
namespace Go.Proofs.YtnnnihjagjfkdaaGreatDoor
open Go.RowKit
set_option linter.unusedVariables false
theorem keeps_ok : ∀ (n : Nat) {q q' : Que} {s s' : Sc}, keepsV n q s = some (q', s') → q.jobs.length ≤ 64 → q'.jobs.length ≤ 64 ∧ q'.next = q.next
  | 0, q, q', s, s', h, hj => by
    simp only [keepsV, Option.some.injEq, Prod.mk.injEq] at h
    obtain ⟨rfl, rfl⟩ := h
    exact ⟨hj, rfl⟩
  | n + 1, q, q', s, s', h, hj => by
    unfold keepsV at h
    cases hr : recV s with
    | mk o s1 =>
      rw [hr] at h
      cases o with
      | none => cases h
      | some l =>
        simp only at h
        split at h
        · split at h
          · cases h
          · rename_i q1 hkv
            obtain ⟨hk, rfl⟩ := keepV_some hkv
            have h6 := hk.2.2.2.2.2
            have h7 := keeps_ok n h (by show (q.jobs ++ [_]).length ≤ 64; rw [List.length_append]; show q.jobs.length + 1 ≤ 64; omega)
            exact ⟨h7.1, h7.2.trans rfl⟩
        · cases h
theorem begun_ok {a : List UInt8} {q : Que} {s : Sc} (h : begunV a = some (q, s)) : q.jobs.length ≤ 64 ∧ 0 ≤ q.next ∧ q.next ≤ 1073741825 := by
  unfold begunV at h
  cases hr : recV ⟨a, 0, 0, 0⟩ with
  | mk o s1 =>
    rw [hr] at h
    cases o with
    | none => cases h
    | some l =>
      simp only at h
      split at h
      · rename_i hb
        obtain ⟨h1, h2⟩ := keeps_ok _ h (by show (0 : Nat) ≤ 64; omega)
        refine ⟨h1, ?_, ?_⟩
        · rw [h2]; have := hb.x0; show 0 ≤ (numV (l.getD 2 [])).1; omega
        · rw [h2]; exact hb.x1
      · cases h
theorem run_ok : ∀ (n : Nat) (q : Que) (s : Sc), q.jobs.length ≤ 64 → 0 ≤ q.next → q.next ≤ 1073741825 → (runV n q s).1.jobs.length ≤ 64 ∧ 0 ≤ (runV n q s).1.next ∧ (runV n q s).1.next ≤ 1073741825
  | 0, q, s, h, h0, h1 => ⟨h, h0, h1⟩
  | n + 1, q, s, h, h0, h1 => by
    unfold runV
    cases hr : recV s with
    | mk o s1 =>
      cases o with
      | none => exact ⟨h, h0, h1⟩
      | some l =>
        simp only
        split
        · exact ⟨h, h0, h1⟩
        · rename_i q' ha
          have h2 := applyV_ok ha h h0 h1
          exact run_ok n q' s1 h2.1 h2.2.1 h2.2.2.1
theorem open_ok {A C : List UInt8} {q : Que} (h : openV A C = .ok q) : q.jobs.length ≤ 64 ∧ 0 ≤ q.next ∧ q.next ≤ 1073741825 := by
  by_cases hl : 65536 < A.length ∨ 65536 < C.length
  · rw [openV_large hl] at h; cases h
  cases hb : bestAB A C with
  | none => rw [openV_lost hl hb] at h; cases h
  | some p =>
    obtain ⟨q0, s0⟩ := p
    rw [openV_ok hl hb] at h
    obtain rfl := (Except.ok.inj h).symm
    have hq : q0.jobs.length ≤ 64 ∧ 0 ≤ q0.next ∧ q0.next ≤ 1073741825 := by
      unfold bestAB at hb
      cases ha : begunV A with
      | none =>
        rw [ha] at hb
        cases hc : begunV C with
        | none => rw [hc] at hb; cases hb
        | some p =>
          obtain ⟨qc, sc⟩ := p
          rw [hc] at hb
          simp only [bestV, Option.some.injEq, Prod.mk.injEq] at hb
          obtain ⟨rfl, rfl⟩ := hb
          (have h9 := begun_ok hc; exact h9)
      | some p =>
        obtain ⟨qa, sa⟩ := p
        rw [ha] at hb
        cases hc : begunV C with
        | none =>
          rw [hc] at hb
          simp only [bestV, Option.some.injEq, Prod.mk.injEq] at hb
          obtain ⟨rfl, rfl⟩ := hb
          (have h9 := begun_ok ha; exact h9)
        | some p =>
          obtain ⟨qc, sc⟩ := p
          rw [hc] at hb
          simp only [bestV] at hb
          split at hb
          · simp only [Option.some.injEq, Prod.mk.injEq] at hb
            obtain ⟨rfl, rfl⟩ := hb
            (have h9 := begun_ok hc; exact h9)
          · simp only [Option.some.injEq, Prod.mk.injEq] at hb
            obtain ⟨rfl, rfl⟩ := hb
            (have h9 := begun_ok ha; exact h9)
    exact run_ok _ q0 s0 hq.1 hq.2.1 hq.2.2
theorem openV_codes {A C : List UInt8} {c : Int} (h : openV A C = .error c) : c ≠ 0 := by
  by_cases hl : 65536 < A.length ∨ 65536 < C.length
  · rw [openV_large hl] at h
    rw [← Except.error.inj h]; decide
  cases hb : bestAB A C with
  | none =>
    rw [openV_lost hl hb] at h
    rw [← Except.error.inj h]; decide
  | some p => rw [openV_ok hl hb] at h; cases h
def RetJS (n : Nat) (xs : List Sj) (w : World) (e : Ending) (w' : World) : Prop := ∃ oa ca, e = .returned (.slice oa n ca) ∧ Flat w' 2 encSj oa xs ∧ Below w.heap.size w w'
theorem jobs_flat (B b : Nat) (q : Que) (vj vw : Value) (w : World) (hq : QAt w B b q vj vw) (hjl : q.jobs.length ≤ 64) :
    Calls Tryz.prog 12 #[.pointer (some ⟨b, 0, none⟩)] w (RetJS (q.jobs.map showJ).length (q.jobs.map showJ) w) := by
  refine (jobs_any B b q vj vw w hq hjl).mono fun e w' h => ?_
  obtain ⟨v, rfl, hown, hb⟩ := h
  obtain ⟨oj, cj, rfl, -, hf⟩ := hown.flat (fun _ => rfl)
  exact ⟨oj, cj, rfl, hf, hb⟩
set_option maxRecDepth 100000 in
set_option maxHeartbeats 8000000 in
theorem reopen_any (a b : ByteArray) (w : World) (ht : Tabz w) :
    Calls Tryz.prog 4 #[.agg #[.string a, .string b]] w (fun e w' => e = .returned (.bool true) ∧ Below w.heap.size w w') := by
  obtain ⟨W1, hW1⟩ : ∃ W1, W1 = w.alloc (.cells #[.string a, .string b] 23) := ⟨_, rfl⟩
  have hb1 : Below w.heap.size w W1 := by rw [hW1]; exact balloc (Below.refl _ w) _
  have hz1 : W1.heap.size = w.heap.size + 1 := by rw [hW1]; exact World.size_alloc _ _
  have c0 : W1.cell? ⟨w.heap.size, 0, none⟩ = some (.string a) := by rw [hW1, cell_of_row _ w.heap.size 0 _ _ (0, 0) (heap_alloc_new w _)]; rfl
  have c1 : W1.cell? ⟨w.heap.size, 1, none⟩ = some (.string b) := by rw [hW1, cell_of_row _ w.heap.size 1 _ _ (0, 0) (heap_alloc_new w _)]; rfl
  have HTB : Hid (∀ W, Below w.heap.size w W → Tabz W) := fun W hb => ht.below hb
  have HQK := Lib.hid (queuesK_any W1 (HTB.out W1 hb1).tabs)
  have HB1 := Lib.hid hb1
  clear hb1 ht
  go_enter Tryz.func4, Tryz.ntmps4
  go_upto_region 1 with fail
  rw [← hW1]
  clear hW1
  go_wp2_with fail
  refine HQK.out.mono ?_
  rintro e w2 ⟨rfl, hb2⟩
  have HB2 := Lib.hid (bthen HB1.out hb2)
  have c0 := keepCell hb2 c0
  have c1 := keepCell hb2 c1
  have HOP := Lib.hid (open_any a b w2 (HTB.out w2 HB2.out))
  clear hb2 HQK
  go_wp2_with fail
  refine HOP.out.mono ?_
  rintro e w3 ⟨(⟨c, hov, rfl⟩ | ⟨q, qb, vj, vw, hov, rfl, hold, hq⟩), hb3⟩
  · have hc := openV_codes hov
    have t1 : (c != 0) = true := by simpa using hc
    have HF := Lib.hid (bthen HB2.out hb3)
    clear hov hb3 hc
    go_wp2
    go_ret
    exact ⟨rfl, HF.out⟩
  · obtain ⟨hag, hsa, hsb⟩ := open_again hov
    have hjl := (open_ok hov).1
    have hal : a.data.toList.length = a.size := by simp
    have hbl : b.data.toList.length = b.size := by simp
    rw [hal] at hsa
    rw [hbl] at hsb
    have c0 := keepCell hb3 c0
    have c1 := keepCell hb3 c1
    have HB3 := Lib.hid (bthen HB2.out hb3)
    have HQ := Lib.hid hq
    have HAG := Lib.hid hag
    have HDK := Lib.hid (disk_any qb qb q vj vw w3 hq)
    clear hov hb3 hq hag hal hbl HOP
    go_wp2_with fail
    refine HDK.out.mono ?_
    rintro e w4 ⟨rfl, hb4⟩
    obtain ⟨W5, hW5⟩ : ∃ W5, W5 = w4.alloc (.cells #[.string q.a0, .string q.a1] 23) := ⟨_, rfl⟩
    have hb5 : Below w4.heap.size w4 W5 := by rw [hW5]; exact balloc (Below.refl _ w4) _
    have hz5 : W5.heap.size = w4.heap.size + 1 := by rw [hW5]; exact World.size_alloc _ _
    have e0 : W5.cell? ⟨w4.heap.size, 0, none⟩ = some (.string q.a0) := by rw [hW5, cell_of_row _ w4.heap.size 0 _ _ (0, 0) (heap_alloc_new w4 _)]; rfl
    have e1 : W5.cell? ⟨w4.heap.size, 1, none⟩ = some (.string q.a1) := by rw [hW5, cell_of_row _ w4.heap.size 1 _ _ (0, 0) (heap_alloc_new w4 _)]; rfl
    have HB5 := Lib.hid (bthen (bthen HB3.out hb4) hb5)
    have HQ5 := Lib.hid ((HQ.out.below hb4).below hb5)
    have c0 := keepCell hb5 (keepCell hb4 c0)
    have c1 := keepCell hb5 (keepCell hb4 c1)
    have HOP := Lib.hid (open_any q.a0 q.a1 W5 (HTB.out W5 HB5.out))
    clear hb4 hb5 HDK HQ HB3
    go_upto_region 7 with fail
    rw [← hW5]
    clear hW5
    go_wp2_with fail
    refine HOP.out.mono ?_
    rintro e w6 ⟨(⟨c, hov, rfl⟩ | ⟨r, rb, uj, uw, hov, rfl, hold2, hr⟩), hb6⟩
    · rw [HAG.out] at hov
      cases hov
    · rw [HAG.out] at hov
      obtain rfl := Except.ok.inj hov
      have c0 := keepCell hb6 c0
      have c1 := keepCell hb6 c1
      have e0 := keepCell hb6 e0
      have e1 := keepCell hb6 e1
      have HQ6 := Lib.hid (HQ5.out.below hb6)
      have HDK : Hid (∀ W, Below w6.heap.size w6 W → Calls Tryz.prog 13 #[.pointer (some ⟨rb, 0, none⟩)] W (RetDk q.a0 q.a1 W)) := fun W hb => disk_any rb rb q uj uw W (hr.below hb)
      obtain ⟨n, hn⟩ : ∃ n, n = (q.jobs.map showJ).length := ⟨_, rfl⟩
      have HJ1 : Hid (∀ W, Below w6.heap.size w6 W → Calls Tryz.prog 12 #[.pointer (some ⟨qb, 0, none⟩)] W (RetJS n (q.jobs.map showJ) W)) := fun W hb => by rw [hn]; exact jobs_flat qb qb q vj vw W (HQ6.out.below hb) hjl
      have HJ2 : Hid (∀ W, Below w6.heap.size w6 W → Calls Tryz.prog 12 #[.pointer (some ⟨rb, 0, none⟩)] W (RetJS n (q.jobs.map showJ) W)) := fun W hb => by rw [hn]; exact jobs_flat rb rb q uj uw W (hr.below hb) hjl
      have HEQ : Hid (∀ oa ca ob cb W, Flat W 2 encSj oa (q.jobs.map showJ) → Flat W 2 encSj ob (q.jobs.map showJ) → Calls Tryz.prog 17 #[.slice oa n ca, .slice ob n cb] W (fun e w' => e = .returned (.bool true) ∧ Below W.heap.size W w')) := by
        intro oa ca ob cb W h1 h2
        rw [hn]
        refine (equalS_any oa ob _ _ ca cb W h1 h2 (by rw [List.length_map]; omega)).mono fun e w' h => ?_
        obtain ⟨⟨x, rfl, hx⟩, hb⟩ := h
        exact ⟨by rw [hx.2 rfl], hb⟩
      have hrn : ∀ W, (binOp .eql 23 (.agg #[.string q.a0, .string q.a1]) (.agg #[.string q.a0, .string q.a1])).run Tryz.prog W = .ok (.bool true) W := fun W => run_eqlD q.a0 q.a0 q.a1 q.a1 W true ⟨fun _ => ⟨rfl, rfl⟩, fun _ => rfl⟩
      have s0 : decide ((q.a0.size : Int) ≤ (a.size : Int)) = true := by simp; omega
      have s1 : decide ((q.a1.size : Int) ≤ (b.size : Int)) = true := by simp; omega
      have s2 : (q.a0.size : Int) ≤ (a.size : Int) := by omega
      have s3 : (q.a1.size : Int) ≤ (b.size : Int) := by omega
      obtain ⟨xs, hxs⟩ : ∃ xs, xs = q.jobs.map showJ := ⟨_, rfl⟩
      rw [← hxs] at HJ1 HJ2 HEQ
      have HB6 := Lib.hid (bthen HB5.out hb6)
      clear hxs hn hov hr hb6 hjl HB5 HQ5 HOP hsa hsb
      go_upto_region 10 with fail
      have hS : Hid (∀ W, Below w6.heap.size w6 W → Below w6.heap.size w6 W ∧ W.cell? ⟨w.heap.size, 0, none⟩ = some (.string a) ∧ W.cell? ⟨w.heap.size, 1, none⟩ = some (.string b) ∧ W.cell? ⟨w4.heap.size, 0, none⟩ = some (.string q.a0) ∧ W.cell? ⟨w4.heap.size, 1, none⟩ = some (.string q.a1)) := fun W hb => ⟨hb, keepCell hb c0, keepCell hb c1, keepCell hb e0, keepCell hb e1⟩
      go_region_held3 (fun w' => Below w6.heap.size w6 w' ∧ w'.cell? ⟨w.heap.size, 0, none⟩ = some (.string a) ∧ w'.cell? ⟨w.heap.size, 1, none⟩ = some (.string b) ∧ w'.cell? ⟨w4.heap.size, 0, none⟩ = some (.string q.a0) ∧ w'.cell? ⟨w4.heap.size, 1, none⟩ = some (.string q.a1))
        (first | (refine hS.out _ ?_; (first | assumption | go_grown)))
        (first | fail | (go_at_call 13; ((with_reducible refine (HDK.out _ (And.left (by assumption))).mono ?_); rintro e w7 ⟨rfl, hb7⟩; have hz7 : Below w6.heap.size w6 w7 := bthen (And.left (by assumption)) hb7)) | (go_at_call 12; ((with_reducible refine (HJ1.out _ (And.left (by assumption))).mono ?_); rintro e w8 ⟨oa8, ca8, rfl, hf8, hb8⟩; have hz8 : Below w6.heap.size w6 w8 := bthen (And.left (by assumption)) hb8)) | (go_at_call 12; ((with_reducible refine (HJ2.out _ (And.left (by assumption))).mono ?_); rintro e w9 ⟨oa9, ca9, rfl, hf9, hb9⟩; have hz9 : Below w6.heap.size w6 w9 := bthen (And.left (by assumption)) hb9)) | (go_at_call 17; ((with_reducible refine (HEQ.out _ _ _ _ _ (hf8.below hb9) hf9).mono ?_); rintro e w10 ⟨rfl, hb10⟩; have hz10 : Below w6.heap.size w6 w10 := bthen hz9 hb10)))
      all_goals
        have HF := Lib.hid (bthen HB6.out hz10)
        go_wp2
        go_ret
        exact ⟨rfl, HF.out⟩
end Go.Proofs.YtnnnihjagjfkdaaGreatDoor
