/-
  The walk of spool.begun. Own text.
-/
import Derived.Test.YtnnnihjagjfkdaaGreatDoorRecA
import Derived.OwnWalk
import Derived.StillTailTactics
namespace Go.Proofs.YtnnnihjagjfkdaaGreatDoor
open Go.RowKit
set_option linter.unusedVariables false
def beginB : List UInt8 := [98, 101, 103, 105, 110]
def keepB : List UInt8 := [107, 101, 101, 112]
def emptyQ (ep nx : Int) : Que := ⟨0, ep, nx, 0, 0, [], ⟨#[]⟩, ⟨#[]⟩, [], 0, 0⟩
/-- The jobs of an area's beginning. -/
def keepsV : Nat → Que → Sc → Option (Que × Sc)
  | 0, q, s => some (q, s)
  | n + 1, q, s => match recV s with
    | (none, _) => none
    | (some l, s') => if l.length = 3 ∧ l.getD 0 [] = keepB then (match keepV q (l.getD 1 []) (l.getD 2 []) false with
      | none => none
      | some q' => keepsV n q' s') else none
structure BegOk (l : List (List UInt8)) (ep : Int) (n1 n2 n3 : Int × Bool) : Prop where
  len : l.length = 4
  word : l.getD 0 [] = beginB
  o1 : n1.2 = true
  o2 : n2.2 = true
  o3 : n3.2 = true
  e0 : 1 ≤ ep
  e1 : ep ≤ 1073741824
  x0 : 1 ≤ n2.1
  x1 : n2.1 ≤ 1073741825
  m1 : n3.1 ≤ 64
open Classical in
/-- What the beginning of an area says. -/
noncomputable def begunV (a : List UInt8) : Option (Que × Sc) :=
  match recV ⟨a, 0, 0, 0⟩ with
  | (none, _) => none
  | (some l, s) => if BegOk l s.epoch (numV (l.getD 1 [])) (numV (l.getD 2 [])) (numV (l.getD 3 [])) then keepsV (numV (l.getD 3 [])).1.toNat (emptyQ s.epoch (numV (l.getD 2 [])).1) s else none
theorem begun_none {a : List UInt8} {s' : Sc} (h : recV ⟨a, 0, 0, 0⟩ = (none, s')) : begunV a = none := by
  unfold begunV
  rw [h]
theorem begun_no {a : List UInt8} {l : List (List UInt8)} {s : Sc} (h : recV ⟨a, 0, 0, 0⟩ = (some l, s)) (hn : ¬ BegOk l s.epoch (numV (l.getD 1 [])) (numV (l.getD 2 [])) (numV (l.getD 3 []))) : begunV a = none := by
  unfold begunV
  rw [h]
  exact if_neg hn
theorem begun_yes {a : List UInt8} {l : List (List UInt8)} {s : Sc} (h : recV ⟨a, 0, 0, 0⟩ = (some l, s)) (hn : BegOk l s.epoch (numV (l.getD 1 [])) (numV (l.getD 2 [])) (numV (l.getD 3 []))) : begunV a = keepsV (numV (l.getD 3 [])).1.toNat (emptyQ s.epoch (numV (l.getD 2 [])).1) s := by
  unfold begunV
  rw [h]
  exact if_pos hn
theorem keeps_none {n : Nat} {q : Que} {s s' : Sc} (h : recV s = (none, s')) : keepsV (n + 1) q s = none := by
  unfold keepsV
  rw [h]
theorem keeps_no {n : Nat} {q : Que} {s s' : Sc} {l : List (List UInt8)} (h : recV s = (some l, s')) (hn : ¬ (l.length = 3 ∧ l.getD 0 [] = keepB)) : keepsV (n + 1) q s = none := by
  unfold keepsV
  rw [h]
  exact if_neg hn
theorem keeps_bad {n : Nat} {q : Que} {s s' : Sc} {l : List (List UInt8)} (h : recV s = (some l, s')) (hk : keepV q (l.getD 1 []) (l.getD 2 []) false = none) : keepsV (n + 1) q s = none := by
  unfold keepsV
  rw [h]
  simp only
  split
  · rw [hk]
  · rfl
theorem keeps_yes {n : Nat} {q q' : Que} {s s' : Sc} {l : List (List UInt8)} (h : recV s = (some l, s')) (hn : l.length = 3 ∧ l.getD 0 [] = keepB) (hk : keepV q (l.getD 1 []) (l.getD 2 []) false = some q') : keepsV (n + 1) q s = keepsV n q' s' := by
  conv => lhs; unfold keepsV
  rw [h]
  simp only
  rw [if_pos hn, hk]
theorem keepV_some {q q' : Que} {id tx : List UInt8} {fr : Bool} (h : keepV q id tx fr = some q') : keepOk q (numV id) (decV tx) fr ∧ q' = keepQ q (numV id).1 (decV tx).1 fr := by
  unfold keepV at h
  split at h
  · rename_i hk
    exact ⟨hk, (Option.some.inj h).symm⟩
  · cases h
def RetBeg (a : List UInt8) (w : World) (e : Ending) (w' : World) : Prop :=
  ((begunV a = none ∧ e = .returned (.tuple #[.pointer none, .pointer none, .bool false])) ∨
   ∃ q s qb vj vw, begunV a = some (q, s) ∧ e = .returned (.tuple #[.pointer (some ⟨qb, 0, none⟩), .pointer (some ⟨w.heap.size, 0, none⟩), .bool true]) ∧ w.heap.size < qb ∧ QAt w' qb qb q vj vw ∧ ScAt w' w.heap.size s ∧ ScOk s ∧ q.jobs.length ≤ 64 ∧ 0 ≤ q.next ∧ q.next ≤ 1073741825) ∧ Below w.heap.size w w'
/-- What the loop over the jobs keeps. -/
def LoopB (a : List UInt8) (w wr : World) (qb n : Nat) : Prop :=
  ∃ q s vj vw, begunV a = keepsV n q s ∧ QAt wr qb qb q vj vw ∧ ScAt wr w.heap.size s ∧ ScOk s ∧ Below w.heap.size w wr ∧ q.jobs.length ≤ 64 ∧ 0 ≤ q.next ∧ q.next ≤ 1073741825 ∧ w.heap.size < qb ∧ qb < wr.heap.size
theorem emptyQ_at (ep nx : Int) (w : World) : QAt (w.alloc (.cells #[.int .i64 0, .int .i64 ep, .int .i64 nx, .int .i64 0, .int .i64 0, .slice none 0 0, .string ⟨#[]⟩, .string ⟨#[]⟩, .slice none 0 0, .int .i64 0, .int .i64 0] 61)) w.heap.size w.heap.size (emptyQ ep nx) (.slice none 0 0) (.slice none 0 0) := by
  refine ⟨⟨fun i hi => ?_, fun o => ?_⟩, Own.nil _ _ _ _ _, Own.nil _ _ _ _ _, Nat.le_refl _, by simp [Value.ownBlock], by simp [Value.ownBlock], fun g h => by simp [Value.ownBlock] at h⟩
  · have hb := heap_alloc_new w (.cells #[.int .i64 0, .int .i64 ep, .int .i64 nx, .int .i64 0, .int .i64 0, .slice none 0 0, .string ⟨#[]⟩, .string ⟨#[]⟩, .slice none 0 0, .int .i64 0, .int .i64 0] 61)
    rw [cell_of_row _ w.heap.size i _ _ (0, 0) hb]
    match i, hi with
    | 0, _ => rfl
    | 1, _ => rfl
    | 2, _ => rfl
    | 3, _ => rfl
    | 4, _ => rfl
    | 5, _ => rfl
    | 6, _ => rfl
    | 7, _ => rfl
    | 8, _ => rfl
    | 9, _ => rfl
    | 10, _ => rfl
  · unfold World.frozen?
    rw [heap_alloc_new]
    simp
theorem scan_at (a : ByteArray) (w : World) : ScAt (w.alloc (.cells #[.string a, .int .i64 0, .int .i64 0, .int .i64 0] 63)) w.heap.size ⟨a.data.toList, 0, 0, 0⟩ := by
  refine ⟨fun i hi => ?_, fun o => ?_⟩
  · have hb := heap_alloc_new w (.cells #[.string a, .int .i64 0, .int .i64 0, .int .i64 0] 63)
    rw [cell_of_row _ w.heap.size i _ _ (0, 0) hb]
    match i, hi with
    | 0, _ => rfl
    | 1, _ => rfl
    | 2, _ => rfl
    | 3, _ => rfl
  · unfold World.frozen?
    rw [heap_alloc_new]
    simp
set_option maxRecDepth 100000 in
set_option maxHeartbeats 8000000 in
theorem begun_any (a : ByteArray) (w : World) (ha : a.size ≤ 65536) (ht : Tabz w) :
    Calls Tryz.prog 23 #[.string a] w (RetBeg a.data.toList w) := by
  obtain ⟨W1, hW1⟩ : ∃ W1, W1 = w.alloc (.cells #[.string a, .int .i64 0, .int .i64 0, .int .i64 0] 63) := ⟨_, rfl⟩
  have hs1 := scan_at a w
  have hb1 := balloc (Below.refl _ w) (.cells #[.string a, .int .i64 0, .int .i64 0, .int .i64 0] 63)
  have hz1 : W1.heap.size = w.heap.size + 1 := by rw [hW1]; exact World.size_alloc _ _
  rw [← hW1] at hs1 hb1
  have hal : a.data.toList.length = a.size := by simp
  have hok1 : ScOk ⟨a.data.toList, 0, 0, 0⟩ := ⟨by simp only; omega, by simp, by simp, by simp⟩
  have HTB : Hid (∀ W, Below w.heap.size w W → Tabz W) := fun W hb => ht.below hb
  have HR1 := Lib.hid (rec_any w.heap.size ⟨a.data.toList, 0, 0, 0⟩ W1 hs1 hok1 (fun W ho => HTB.out W (hb1.trans (ho.toBelow (Nat.le_refl _) (by omega)))))
  have HB1 := Lib.hid hb1
  have HOK1 := Lib.hid hok1
  clear hs1 hb1 hok1 ht hal
  go_enter Tryz.func23, Tryz.ntmps23
  go_upto_region 2 with fail
  rw [← hW1]
  clear hW1
  go_wp2_with fail
  refine HR1.out.mono ?_
  rintro e w2 (⟨ws, s, hrv, g, rfl, hg, hws, hsc, hon⟩ | ⟨s, hrv, rfl, hsc, hon⟩)
  · have hyes := recV_yes HOK1.out hrv
    have HB2 : Hid (Below w.heap.size w w2) := HB1.out.trans (hon.toBelow (Nat.le_refl _) (by omega))
    have HSC2 := Lib.hid hsc
    have HYES := Lib.hid hyes
    have hz2 := hon.size
    have hmany := hyes.many
    have HRV := Lib.hid hrv
    have NO : Hid (¬ BegOk ws s.epoch (numV (ws.getD 1 [])) (numV (ws.getD 2 [])) (numV (ws.getD 3 [])) → ∀ W, Below w.heap.size w W → RetBeg a.data.toList w (.returned (.tuple #[.pointer none, .pointer none, .bool false])) W) := fun h W hb => ⟨.inl ⟨begun_no HRV.out h, rfl⟩, hb⟩
    by_cases h4 : ws.length = 4
    · have c0 := words3 hws (j := 0) (by omega)
      have c1 := words3 hws (j := 1) (by omega)
      have c2 := words3 hws (j := 2) (by omega)
      have c3 := words3 hws (j := 3) (by omega)
      rw [h4]
      obtain ⟨x0, hx0⟩ : ∃ x0, x0 = ws.getD 0 [] := ⟨_, rfl⟩
      rw [← hx0] at c0
      by_cases hp : x0 = beginB
      · have t1 : ((strB x0).toList == [98, 101, 103, 105, 110]) = true := strEq.2 hp
        have hsz : ∀ j, (strB (ws.getD j [])).size ≤ 1000000 := fun j => by
          rw [strB_size, List.getD_eq_getElem?_getD]
          cases e : ws[j]? with
          | none => simp
          | some x => exact hyes.len x (List.mem_of_getElem? e)
        have HN1 := Lib.hid (fun W hb => number_any (strB (ws.getD 1 [])) W (hsz 1) (HTB.out W hb))
        have HN2 := Lib.hid (fun W hb => number_any (strB (ws.getD 2 [])) W (hsz 2) (HTB.out W hb))
        have HN3 := Lib.hid (fun W hb => number_any (strB (ws.getD 3 [])) W (hsz 3) (HTB.out W hb))
        have HYE := Lib.hid (fun h => begun_yes (a := a.data.toList) hrv h)
        have HXW : Hid (ws.length = 4 ∧ ws.getD 0 [] = beginB) := ⟨h4, by rw [← hx0]; exact hp⟩
        obtain ⟨v1, o1, hv1⟩ : ∃ v o, (v, o) = numV (ws.getD 1 []) := ⟨_, _, rfl⟩
        obtain ⟨v2, o2, hv2⟩ : ∃ v o, (v, o) = numV (ws.getD 2 []) := ⟨_, _, rfl⟩
        obtain ⟨v3, o3, hv3⟩ : ∃ v o, (v, o) = numV (ws.getD 3 []) := ⟨_, _, rfl⟩
        have b3 := numV_bd (ws.getD 3 [])
        rw [← hv3] at b3
        have HN1 : Hid (∀ W, Below w.heap.size w W → Calls Tryz.prog 35 #[.string (strB (ws.getD 1 []))] W (fun e w' => e = .returned (.tuple #[.int .i64 v1, .bool o1]) ∧ Below W.heap.size W w')) := fun W hb => (HN1.out W hb).mono fun e w' h => ⟨by rw [h.1, show numV (strB (ws.getD 1 [])).data.toList = numV (ws.getD 1 []) from rfl, ← hv1], h.2⟩
        have HN2 : Hid (∀ W, Below w.heap.size w W → Calls Tryz.prog 35 #[.string (strB (ws.getD 2 []))] W (fun e w' => e = .returned (.tuple #[.int .i64 v2, .bool o2]) ∧ Below W.heap.size W w')) := fun W hb => (HN2.out W hb).mono fun e w' h => ⟨by rw [h.1, show numV (strB (ws.getD 2 [])).data.toList = numV (ws.getD 2 []) from rfl, ← hv2], h.2⟩
        have HN3 : Hid (∀ W, Below w.heap.size w W → Calls Tryz.prog 35 #[.string (strB (ws.getD 3 []))] W (fun e w' => e = .returned (.tuple #[.int .i64 v3, .bool o3]) ∧ Below W.heap.size W w')) := fun W hb => (HN3.out W hb).mono fun e w' h => ⟨by rw [h.1, show numV (strB (ws.getD 3 [])).data.toList = numV (ws.getD 3 []) from rfl, ← hv3], h.2⟩
        rw [← hv1, ← hv2, ← hv3] at NO HYE
        obtain ⟨s1, hs1⟩ : ∃ s1, s1 = strB (ws.getD 1 []) := ⟨_, rfl⟩
        obtain ⟨s2, hs2⟩ : ∃ s2, s2 = strB (ws.getD 2 []) := ⟨_, rfl⟩
        obtain ⟨s3, hs3⟩ : ∃ s3, s3 = strB (ws.getD 3 []) := ⟨_, rfl⟩
        rw [← hs1] at c1 HN1
        rw [← hs2] at c2 HN2
        rw [← hs3] at c3 HN3
        have hgw : g < w2.heap.size := hws.1
        clear hws hsc hon hrv hyes hp hx0 hv1 hv2 hv3 hs1 hs2 hs3 h4 hsz hmany HR1
        go_wp2_with fail
        refine (HN1.out _ HB2.out).mono ?_
        rintro e w3 ⟨rfl, hb3⟩
        have hz3 := hb3.size
        have HB3 := Lib.hid (bthen HB2.out hb3)
        have c2 := keepCell hb3 c2
        have c3 := keepCell hb3 c3
        have HSC3 := Lib.hid (HSC2.out.below hb3)
        clear hb3 c0 c1 HN1 HSC2
        go_wp2_with fail
        refine (HN2.out _ HB3.out).mono ?_
        rintro e w4 ⟨rfl, hb4⟩
        have hz4 := hb4.size
        have HB4 := Lib.hid (bthen HB3.out hb4)
        have c3 := keepCell hb4 c3
        have HSC4 := Lib.hid (HSC3.out.below hb4)
        clear hb4 c2 HN2 HSC3
        go_wp2_with fail
        refine (HN3.out _ HB4.out).mono ?_
        rintro e w5 ⟨rfl, hb5⟩
        have hz5 := hb5.size
        have HB5 := Lib.hid (bthen HB4.out hb5)
        have HSC5 := Lib.hid (HSC4.out.below hb5)
        clear hb5 c3 HN3 HSC4
        have ce : w5.cell? ⟨w.heap.size, 1, none⟩ = some (.int .i64 s.epoch) := FTab.at' HSC5.out 1 (by omega)
        have NOW := Lib.hid (fun h => NO.out h w5 HB5.out)
        clear NO
        cases o1 with
        | false =>
          have HF := Lib.hid (NOW.out (fun h => by cases h.o1))
          go_wp2
          go_ret3
          exact HF.out
        | true =>
        cases o2 with
        | false =>
          have HF := Lib.hid (NOW.out (fun h => by cases h.o2))
          go_wp2
          go_ret3
          exact HF.out
        | true =>
        cases o3 with
        | false =>
          have HF := Lib.hid (NOW.out (fun h => by cases h.o3))
          go_wp2
          go_ret3
          exact HF.out
        | true =>
        by_cases e0 : s.epoch < 1
        · have HF := Lib.hid (NOW.out (fun h => by have := h.e0; omega))
          go_wp2
          go_ret3
          exact HF.out
        by_cases e1 : 1073741824 < s.epoch
        · have HF := Lib.hid (NOW.out (fun h => by have := h.e1; omega))
          go_wp2
          go_ret3
          exact HF.out
        by_cases x0 : v2 < 1
        · have HF := Lib.hid (NOW.out (fun h => by have h2 := h.x0; simp only at h2; omega))
          go_wp2
          go_ret3
          exact HF.out
        by_cases x1 : 1073741825 < v2
        · have HF := Lib.hid (NOW.out (fun h => by have h2 := h.x1; simp only at h2; omega))
          go_wp2
          go_ret3
          exact HF.out
        by_cases m1 : 64 < v3
        · have HF := Lib.hid (NOW.out (fun h => by have h2 := h.m1; simp only at h2; omega))
          go_wp2
          go_ret3
          exact HF.out
        have HKS : Hid (begunV a.data.toList = keepsV v3.toNat (emptyQ s.epoch v2) s) := HYE.out ⟨HXW.out.1, HXW.out.2, rfl, rfl, rfl, by omega, by omega, by simp only; omega, by simp only; omega, by simp only; omega⟩
        clear NOW HYE HXW
        have hzw5 := HB5.out.size
        have hz6 : (w5.alloc (.cells #[.int .i64 0, .int .i64 s.epoch, .int .i64 v2, .int .i64 0, .int .i64 0, .slice none 0 0, .string ⟨#[]⟩, .string ⟨#[]⟩, .slice none 0 0, .int .i64 0, .int .i64 0] 61)).heap.size = w5.heap.size + 1 := World.size_alloc _ _
        have HL6 : Hid (LoopB a.data.toList w (w5.alloc (.cells #[.int .i64 0, .int .i64 s.epoch, .int .i64 v2, .int .i64 0, .int .i64 0, .slice none 0 0, .string ⟨#[]⟩, .string ⟨#[]⟩, .slice none 0 0, .int .i64 0, .int .i64 0] 61)) w5.heap.size v3.toNat) :=
          ⟨_, _, _, _, HKS.out, emptyQ_at s.epoch v2 w5, HSC5.out.below (balloc (Below.refl _ w5) _), HYES.out.ok, HB5.out.trans ((balloc (Below.refl _ w5) _).mono hzw5), by show (0 : Nat) ≤ 64; omega, by show 0 ≤ v2; omega, by show v2 ≤ 1073741825; omega, by omega, by rw [hz6]; omega⟩
        go_upto_region 11 with fail
        generalize w5.alloc (.cells #[.int .i64 0, .int .i64 s.epoch, .int .i64 v2, .int .i64 0, .int .i64 0, .slice none 0 0, .string ⟨#[]⟩, .string ⟨#[]⟩, .slice none 0 0, .int .i64 0, .int .i64 0] 61) = w6 at *
        clear HKS HB5 HSC5 ce HB4 HB3 HB2 HB1 HYES HRV HOK1 hz6
        go_wp2_with fail
        go_loopw [103] (fun i wr => ∃ k : Nat, k ≤ v3.toNat ∧ i = .int .i64 k ∧ Hid (LoopB a.data.toList w wr w5.heap.size (v3.toNat - k))) (fun i _ => v3.toNat - (intOf i).toNat)
        case atStart => exact ⟨0, by omega, rfl, HL6.out⟩
        case round =>
          clear HL6
          obtain ⟨k, hk, rfl, HLB⟩ := hrel
          by_cases hlt : (k : Int) < v3
          · obtain ⟨m, hm⟩ : ∃ m, v3.toNat - k = m + 1 := ⟨v3.toNat - k - 1, by omega⟩
            have hm2 : v3.toNat - (k + 1) = m := by omega
            obtain ⟨q, sc, vj, vw, hkv, hq, hs, hok, hb, hj, hn0, hn1, hsb, hqz⟩ := HLB.out
            rw [hm] at hkv
            have hwz := hb.size
            have HRA := Lib.hid (rec_any w.heap.size sc wr hs hok (fun W ho => HTB.out W (hb.trans (ho.toBelow (Nat.le_refl _) hwz))))
            have HB := Lib.hid hb
            have HQ := Lib.hid hq
            have HOK := Lib.hid hok
            have HKV := Lib.hid hkv
            have HM := Lib.hid hm2
            clear hq hs hok hb hkv hm hm2 HLB
            go_wp2_with fail
            refine HRA.out.mono ?_
            rintro e w7 (⟨l, s7, hrv, g7, rfl, hg, hws, hsc, hon⟩ | ⟨s7, hrv, rfl, hsc, hon⟩)
            · have hyes := recV_yes HOK.out hrv
              have HB7 : Hid (Below w.heap.size w w7) := HB.out.trans (hon.toBelow (Nat.le_refl _) hwz)
              have HQ7 := Lib.hid (HQ.out.only hon hsb)
              have HSC7 := Lib.hid hsc
              have hz7 := hon.size
              have hmany := hyes.many
              have HYES := Lib.hid hyes
              have NO : Hid (begunV a.data.toList = none → ∀ W, Below w.heap.size w W → RetBeg a.data.toList w (.returned (.tuple #[.pointer none, .pointer none, .bool false])) W) := fun h W hb => ⟨.inl ⟨h, rfl⟩, hb⟩
              by_cases h3 : l.length = 3
              · have c0 := words3 hws (j := 0) (by omega)
                have c1 := words3 hws (j := 1) (by omega)
                have c2 := words3 hws (j := 2) (by omega)
                obtain ⟨y0, hy0⟩ : ∃ y0, y0 = l.getD 0 [] := ⟨_, rfl⟩
                rw [← hy0] at c0
                rw [h3]
                by_cases hp : y0 = keepB
                · have t1 : ((strB y0).toList == [107, 101, 101, 112]) = true := strEq.2 hp
                  have hsz : (strB (l.getD 1 [])).size ≤ 1000000 := by
                    rw [strB_size, List.getD_eq_getElem?_getD]
                    cases e : l[1]? with
                    | none => simp
                    | some x => exact hyes.len x (List.mem_of_getElem? e)
                  have HK := Lib.hid (keep_any w5.heap.size w5.heap.size q vj vw (strB (l.getD 1 [])) (strB (l.getD 2 [])) false w7.drew (HQ7.out.drewN 1) (by show w5.heap.size ≤ w7.heap.size; omega) (HTB.out _ HB7.out.drew) hsz hj hn0 hn1)
                  have HYS : Hid (∀ q', keepV q (l.getD 1 []) (l.getD 2 []) false = some q' → begunV a.data.toList = keepsV (v3.toNat - (k + 1)) q' s7) := fun q' h => by rw [HKV.out, HM.out]; exact keeps_yes hrv ⟨h3, by rw [← hy0]; exact hp⟩ h
                  have HNS : Hid (keepV q (l.getD 1 []) (l.getD 2 []) false = none → begunV a.data.toList = none) := fun h => by rw [HKV.out]; exact keeps_bad hrv h
                  obtain ⟨K, hK⟩ : ∃ K, K = keepV q (l.getD 1 []) (l.getD 2 []) false := ⟨_, rfl⟩
                  have hKb : ∀ q', K = some q' → q'.jobs.length ≤ 64 ∧ q'.next = q.next := fun q' h => by
                    rw [hK] at h
                    obtain ⟨h1, rfl⟩ := keepV_some h
                    have := h1.2.2.2.2.2
                    refine ⟨?_, rfl⟩
                    show (q.jobs ++ [_]).length ≤ 64
                    rw [List.length_append]
                    show q.jobs.length + 1 ≤ 64
                    omega
                  have HK : Hid (Calls Tryz.prog 36 #[.pointer (some ⟨w5.heap.size, 0, none⟩), .string (strB (l.getD 1 [])), .string (strB (l.getD 2 [])), .bool false] w7.drew (RetKeep w5.heap.size w5.heap.size K vj vw w7.drew)) := by rw [hK]; exact HK.out
                  rw [← hK] at HYS HNS
                  have HKB := Lib.hid hKb
                  obtain ⟨y1, hy1⟩ : ∃ y1, y1 = strB (l.getD 1 []) := ⟨_, rfl⟩
                  obtain ⟨y2, hy2⟩ : ∃ y2, y2 = strB (l.getD 2 []) := ⟨_, rfl⟩
                  rw [← hy1] at HK c1
                  rw [← hy2] at HK c2
                  clear hws hsc hon hrv hyes hp hy0 h3 hmany HRA hK hy1 hy2 hsz hKb HQ
                  go_upto_region 14 with fail
                  have d0 : w7.drew.cell? ⟨g7, 0, none⟩ = some (.string (strB y0)) := c0
                  have d1 : w7.drew.cell? ⟨g7, 1, none⟩ = some (.string y1) := c1
                  have d2 : w7.drew.cell? ⟨g7, 2, none⟩ = some (.string y2) := c2
                  simp only [World.drew] at d0 d1 d2
                  go_still_tail 21, (by kernel_rfl)
                  change wpList _ _ _ _ _ w7.drew
                  clear d0 d1 d2 c0 c1 c2
                  have HQ8 := Lib.hid (HQ7.out.drewN 1)
                  have HB8 : Hid (Below w.heap.size w w7.drew) := HB7.out.drew
                  have HS8 : Hid (ScAt w7.drew w.heap.size s7) := FTab.drewN HSC7.out 1
                  have hz8 : w5.heap.size ≤ w7.drew.heap.size := by show w5.heap.size ≤ w7.heap.size; omega
                  have hq8 : w5.heap.size < w7.drew.heap.size := by show w5.heap.size < w7.heap.size; omega
                  clear HQ7 HB7 HSC7
                  obtain ⟨w8, hw8⟩ : ∃ w8, w8 = w7.drew := ⟨_, rfl⟩
                  have HQ8 : Hid (QAt w8 w5.heap.size w5.heap.size q vj vw) := by rw [hw8]; exact HQ8
                  rw [← hw8] at HK HB8 HS8 hz8 hq8
                  rw [← hw8]
                  clear hw8
                  go_wp2_with fail
                  refine HK.out.mono ?_
                  rintro e wz (⟨hr, rfl, hb⟩ | ⟨q', vj', vw', hr, rfl, hq', ht'⟩)
                  · have HF := Lib.hid (NO.out (HNS.out hr) wz (bthen HB8.out hb))
                    clear hb
                    go_wp2
                    go_ret3
                    exact HF.out
                  · have hbs := ht'.base HQ8.out hz8
                    have hkb := HKB.out q' hr
                    have HN : Hid (LoopB a.data.toList w wz w5.heap.size (v3.toNat - (k + 1))) :=
                      ⟨q', s7, vj', vw', HYS.out q' hr, hq', HS8.out.base hbs hsb, HYES.out.ok, HB8.out.trans (hbs.mono (by omega)), hkb.1, by rw [hkb.2]; exact hn0, by rw [hkb.2]; exact hn1, hsb, by have := ht'.size; omega⟩
                    clear hq' ht' hbs hkb
                    go_wp2
                    go_roundw
                    case rel => exact ⟨k + 1, by omega, by go_num, HN⟩
                    case measure => simp [intOf]; omega
                · have t1 : ((strB y0).toList == [107, 101, 101, 112]) = false := strNe.2 hp
                  have HF := Lib.hid (fun N => NO.out (by rw [HKV.out]; exact keeps_no hrv (fun h => hp (by rw [hy0]; exact h.2))) (w7.drewN N) (bdrewN HB7.out N))
                  clear hws hsc hon hrv hyes hp hy0 h3 hmany HRA
                  go_upto_region 14 with fail
                  go_quiet (fail)
                  go_wp2
                  go_ret3
                  exact HF.out _
              · have e3 : ((l.length : Int) != 3) = true := by rw [bne_iff_ne]; omega
                have HF := Lib.hid (fun N => NO.out (by rw [HKV.out]; exact keeps_no hrv (fun h => h3 h.1)) (w7.drewN N) (bdrewN HB7.out N))
                clear hws hsc hon hrv hyes h3 HRA
                go_upto_region 14 with fail
                go_quiet (fail)
                go_wp2
                go_ret3
                exact HF.out _
            · have HF : Hid (∀ N, RetBeg a.data.toList w (.returned (.tuple #[.pointer none, .pointer none, .bool false])) (w7.drewN N)) := fun N =>
                ⟨.inl ⟨by rw [HKV.out]; exact keeps_none hrv, rfl⟩, bdrewN (HB.out.trans (hon.toBelow (Nat.le_refl _) hwz)) N⟩
              clear hsc hon hrv HRA
              go_upto_region 14 with fail
              go_quiet (fail)
              go_wp2
              go_ret3
              exact HF.out _
          · obtain ⟨q, sc, vj, vw, hkv, hq, hs, hok, hb, hj, hn0, hn1, hsb, hqz⟩ := HLB.out
            have e0 : v3.toNat - k = 0 := by omega
            rw [e0] at hkv
            have HF : Hid (RetBeg a.data.toList w (.returned (.tuple #[.pointer (some ⟨w5.heap.size, 0, none⟩), .pointer (some ⟨w.heap.size, 0, none⟩), .bool true])) wr) :=
              ⟨.inr ⟨q, sc, w5.heap.size, vj, vw, hkv, rfl, hsb, hq, hs, hok, hj, hn0, hn1⟩, hb⟩
            clear hkv hq hs hok hb
            go_wp2
            go_ret3
            exact HF.out
      · have t1 : ((strB x0).toList == [98, 101, 103, 105, 110]) = false := strNe.2 hp
        have HF := Lib.hid (NO.out (fun h => hp (by rw [hx0]; exact h.word)) w2 HB2.out)
        clear hws hsc hon hrv hyes hp hx0 h4 hmany HR1
        go_wp2
        go_ret3
        exact HF.out
    · have e4 : ((ws.length : Int) != 4) = true := by rw [bne_iff_ne]; omega
      have HF := Lib.hid (NO.out (fun h => h4 h.len) w2 HB2.out)
      clear hws hsc hon hrv hyes h4 HR1
      go_wp2
      go_ret3
      exact HF.out
  · have HF : Hid (RetBeg a.data.toList w (.returned (.tuple #[.pointer none, .pointer none, .bool false])) w2) :=
      ⟨.inl ⟨begun_none hrv, rfl⟩, HB1.out.trans (hon.toBelow (Nat.le_refl _) (by omega))⟩
    clear hsc hon hrv
    go_wp2
    go_ret3
    exact HF.out
end Go.Proofs.YtnnnihjagjfkdaaGreatDoor
