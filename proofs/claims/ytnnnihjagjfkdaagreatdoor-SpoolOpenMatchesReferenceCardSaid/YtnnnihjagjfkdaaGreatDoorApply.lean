/-
  The walk of the queue's apply. Own text.
-/
import Derived.Test.YtnnnihjagjfkdaaGreatDoorQkeep
import Derived.Test.YtnnnihjagjfkdaaGreatDoorRecW
import Derived.Test.YtnnnihjagjfkdaaGreatDoorDone
import Derived.StillTailTactics
namespace Go.Proofs.YtnnnihjagjfkdaaGreatDoor
open Go.RowKit
set_option linter.unusedVariables false
def putB : List UInt8 := [112, 117, 116]
def doneB : List UInt8 := [100, 111, 110, 101]
def dropV (q : Que) (n : Int × Bool) : Option Que :=
  if n.2 = true then (match q.jobs.findIdx? (hasId n.1) with
    | none => none
    | some m => some { q with jobs := q.jobs.eraseIdx m }) else none
/-- What a record makes of the queue. -/
def applyV (q : Que) (l : List (List UInt8)) : Option Que :=
  if l.length = 3 ∧ l.getD 0 [] = putB then keepV q (l.getD 1 []) (l.getD 2 []) true
  else if l.length = 2 ∧ l.getD 0 [] = doneB then dropV q (numV (l.getD 1 [])) else none
theorem found_idx {xs : List Jb} {id r : Int} (h : FoundAt xs id r) : (∃ m : Nat, r = m ∧ m < xs.length ∧ xs.findIdx? (hasId id) = some m) ∨ (r = -1 ∧ xs.findIdx? (hasId id) = none) := by
  rcases h with ⟨m, rfl, hm, h1, h2⟩ | ⟨rfl, h⟩
  · refine .inl ⟨m, rfl, hm, ?_⟩
    rw [List.findIdx?_eq_some_iff_getElem]
    exact ⟨hm, h1, fun j hj => by rw [h2 j hj]; decide⟩
  · refine .inr ⟨rfl, ?_⟩
    rw [List.findIdx?_eq_none_iff]
    intro x hx
    obtain ⟨j, hj, rfl⟩ := List.getElem_of_mem hx
    exact h j hj
theorem words3 {w : World} {g : Nat} {ws : List (List UInt8)} (h : WordsAt w g ws) {j : Nat} (hj : j < ws.length) : w.cell? ⟨g, j, none⟩ = some (.string (strB (ws.getD j []))) := by
  refine h.2 j _ ?_
  rw [List.getD_eq_getElem?_getD, List.getElem?_eq_getElem hj]
  rfl
theorem strEq {l k : List UInt8} : ((strB l).toList == k) = true ↔ l = k := by
  rw [beq_iff_eq, ByteArray.toList_eq]
  exact Iff.rfl
theorem strNe {l k : List UInt8} : ((strB l).toList == k) = false ↔ l ≠ k := by
  rw [beq_eq_false_iff_ne, ByteArray.toList_eq]
  exact Iff.rfl
set_option maxRecDepth 100000 in
set_option maxHeartbeats 8000000 in
theorem apply_any (B b g c : Nat) (q : Que) (vj vw : Value) (ws : List (List UInt8)) (w : World) (hq : QAt w B b q vj vw) (hB : B ≤ w.heap.size) (ht : Tabz w) (hw : WordsAt w g ws) (hl : ∀ x ∈ ws, x.length ≤ 1000000) (hm : ws.length ≤ 100000) (hj : q.jobs.length ≤ 64) (hn0 : 0 ≤ q.next) (hn1 : q.next ≤ 1073741825) :
    Calls Tryz.prog 25 #[.pointer (some ⟨b, 0, none⟩), .slice (some ⟨g, 0, none⟩) ws.length c] w (RetKeep B b (applyV q ws) vj vw w) := by
  have hsz : ∀ j, (strB (ws.getD j [])).size ≤ 1000000 := fun j => by
    rw [strB_size, List.getD_eq_getElem?_getD]
    cases e : ws[j]? with
    | none => simp
    | some x => exact hl x (List.mem_of_getElem? e)
  have HR : Hid (applyV q ws = if ws.length = 3 ∧ ws.getD 0 [] = putB then keepV q (ws.getD 1 []) (ws.getD 2 []) true
    else if ws.length = 2 ∧ ws.getD 0 [] = doneB then dropV q (numV (ws.getD 1 [])) else none) := rfl
  generalize applyV q ws = r at *
  obtain ⟨n, hn⟩ : ∃ n, n = ws.length := ⟨_, rfl⟩
  rw [← hn] at HR
  by_cases h3 : n = 3
  · have c0 := words3 hw (j := 0) (by omega)
    have c1 := words3 hw (j := 1) (by omega)
    have c2 := words3 hw (j := 2) (by omega)
    have HK := Lib.hid (fun W hb => keep_any B b q vj vw (strB (ws.getD 1 [])) (strB (ws.getD 2 [])) true W (hq.below hb) (Nat.le_trans hB hb.size) (ht.below hb) (hsz 1) hj hn0 hn1)
    rw [← hn, h3]
    rw [h3] at HR
    obtain ⟨w0, hw0⟩ : ∃ w0, w0 = ws.getD 0 [] := ⟨_, rfl⟩
    obtain ⟨w1, hw1⟩ : ∃ w1, w1 = strB (ws.getD 1 []) := ⟨_, rfl⟩
    obtain ⟨w2, hw2⟩ : ∃ w2, w2 = strB (ws.getD 2 []) := ⟨_, rfl⟩
    rw [← hw0] at HR c0
    rw [← hw1] at c1 HK
    rw [← hw2] at c2 HK
    by_cases hp : w0 = putB
    · have t1 : ((strB w0).toList == [112, 117, 116]) = true := strEq.2 hp
      have HV : Hid (r = keepV q w1.data.toList w2.data.toList true) := by
        show r = _
        rw [HR.out, if_pos ⟨rfl, hp⟩, hw1, hw2]; rfl
      clear hq ht hw hl hm hn h3 hsz hw0 hw1 hw2 hp
      go_enter Tryz.func25, Tryz.ntmps25
      go_upto_region 2 with fail
      have d1 : w.drew.cell? ⟨g, 1, none⟩ = some (.string w1) := c1
      have d2 : w.drew.cell? ⟨g, 2, none⟩ = some (.string w2) := c2
      simp only [World.drew] at d1 d2
      go_still_tail 7, (by kernel_rfl)
      change wpList _ _ _ _ _ w.drew
      have HKD := Lib.hid (HK.out w.drew (Below.refl _ _).drew)
      clear d1 d2 c0 c1 c2 HK
      go_wp2_with fail
      refine HKD.out.mono ?_
      rintro e wz (⟨hr, rfl, hb⟩ | ⟨q', vj', vw', hr, rfl, hq', ht'⟩)
      · have HF : Hid (RetKeep B b r vj vw w (.returned (.bool false)) wz) := .inl ⟨HV.out.trans hr, rfl, bthen (Below.refl _ _).drew hb⟩
        clear hb
        go_wp2
        go_ret
        exact HF.out
      · have HF : Hid (RetKeep B b r vj vw w (.returned (.bool true)) wz) := .inr ⟨q', vj', vw', HV.out.trans hr, rfl, hq', (Turn.ofBelow (Below.refl _ _).drew).trans ht'⟩
        clear hq' ht'
        go_wp2
        go_ret
        exact HF.out
    · have t1 : ((strB w0).toList == [112, 117, 116]) = false := strNe.2 hp
      have HF : Hid (RetKeep B b r vj vw w (.returned (.bool false)) w) := by
        refine .inl ⟨?_, rfl, Below.refl _ _⟩
        rw [HR.out, if_neg (fun h => hp h.2), if_neg (fun h => by omega)]
      clear hq ht hw hl hm hn h3 hsz hw0 hw1 hw2 hp HR
      go_enter Tryz.func25, Tryz.ntmps25
      go_wp2
      go_ret
      exact HF.out
  · have e3 : ((n : Int) == 3) = false := by rw [beq_eq_false_iff_ne]; omega
    by_cases h2 : n = 2
    · have c0 := words3 hw (j := 0) (by omega)
      have c1 := words3 hw (j := 1) (by omega)
      rw [← hn, h2]
      rw [h2] at HR e3
      obtain ⟨w0, hw0⟩ : ∃ w0, w0 = ws.getD 0 [] := ⟨_, rfl⟩
      have hs1 := hsz 1
      obtain ⟨w1, hw1⟩ : ∃ w1, w1 = strB (ws.getD 1 []) := ⟨_, rfl⟩
      rw [← hw0] at HR c0
      rw [← hw1] at c1 hs1
      by_cases hp : w0 = doneB
      · have t1 : ((strB w0).toList == [100, 111, 110, 101]) = true := strEq.2 hp
        have HV : Hid (r = dropV q (numV w1.data.toList)) := by
          show r = _
          rw [HR.out, if_neg (fun h => by omega), if_pos ⟨rfl, hp⟩, hw1]; rfl
        obtain ⟨⟨id, ok⟩, hnv⟩ : ∃ p, p = numV w1.data.toList := ⟨_, rfl⟩
        have HNU : Hid (Calls Tryz.prog 35 #[.string w1] w (fun e w' => e = .returned (.tuple #[.int .i64 id, .bool ok]) ∧ Below w.heap.size w w')) := (number_any w1 w hs1 ht).mono fun e w' h => ⟨by rw [h.1, ← hnv], h.2⟩
        rw [← hnv] at HV
        have HFI := Lib.hid (fun W hb => find_any B b q vj vw id W (hq.below hb) hj)
        have HQ := Lib.hid hq
        have hlt := hq.lt
        clear hq ht hw hl hm hn h3 hsz hw0 hw1 hp HR hnv hs1 h2
        go_enter Tryz.func25, Tryz.ntmps25
        go_wp2_with fail
        refine HNU.out.mono ?_
        rintro e w2 ⟨rfl, hb2⟩
        have HB2 := Lib.hid hb2
        clear hb2 c0 c1 HNU
        go_wp2_with fail
        refine (HFI.out w2 HB2.out).mono ?_
        rintro e w3 ⟨i, rfl, hfi, hb3⟩
        have HB3 := Lib.hid (bthen HB2.out hb3)
        have hfd := found_idx hfi
        clear hb3 hfi HFI
        cases ok with
        | false =>
          have HF : Hid (RetKeep B b r vj vw w (.returned (.bool false)) w3) := .inl ⟨by rw [HV.out]; rfl, rfl, HB3.out⟩
          clear hfd
          go_wp2
          go_ret
          exact HF.out
        | true =>
          rcases hfd with ⟨m, rfl, hmx, hfd⟩ | ⟨rfl, hfd⟩
          · have HDV : Hid (r = some { q with jobs := q.jobs.eraseIdx m }) := by
              show r = _
              rw [HV.out]
              show (match q.jobs.findIdx? (hasId id) with | none => none | some m => some { q with jobs := q.jobs.eraseIdx m }) = _
              rw [hfd]
            rcases HQ.out.jobs.2 with ⟨e, hn⟩ | ⟨g5, cap, cur, e, hgr⟩
            · omega
            have HVJ := Lib.hid e
            obtain ⟨k, hk⟩ : ∃ k, k = q.jobs.length := ⟨_, rfl⟩
            have HQ3 : Hid (QAt w3 B b q (.slice (some ⟨g5, 0, none⟩) k cap) vw) := by
              have h := HQ.out.below HB3.out
              rw [e] at h
              rw [hk]
              exact h
            have HT3 : Hid (Turn b vj vw (.slice (some ⟨g5, 0, none⟩) k cap) vw w w3) := by
              have h := Turn.ofBelow (b := b) (vj := vj) (vw := vw) HB3.out
              have e2 : vj = .slice (some ⟨g5, 0, none⟩) k cap := by rw [hk]; exact e
              rw [← e2]
              exact h
            have d5 : w3.cell? ⟨b, 5, none⟩ = some (.slice (some ⟨g5, 0, none⟩) k cap) := HQ3.out.tab.at' 5 (by omega)
            have HDE : Hid (Calls Tryz.prog 40 #[.slice (some ⟨g5, 0, none⟩) k cap, .int .i64 (m : Nat), .int .i64 ((m + 1 : Nat) : Int)] w3 (RetDel B g5 (k - 1) cap (q.jobs.eraseIdx m) w3)) := delete_any B g5 k cap q.jobs m (m + 1) w3 HQ3.out.jobs hk (by omega) rfl (by omega)
            have hcast : ((m + 1 : Nat) : Int) = (m : Int) + 1 := by omega
            rw [hcast] at HDE
            have x1 : IntKind.i64.wrap ((m : Int) + 1) = (m : Int) + 1 := IntWalk.i64_in _ (by omega)
            have x2 : decide ((m : Int) < 0) = false := decide_eq_false (by omega)
            have x3 : ¬ (m : Int) < 0 := by omega
            clear hcast hk hfd hgr e
            go_wp2_with fail
            refine HDE.out.mono ?_
            rintro e w6 ⟨rfl, hle, hown6, hg6⟩
            clear hle
            have HF : Hid (RetKeep B b r vj vw w (.returned (.bool true)) (w6.setCell ⟨b, 5, none⟩ (.slice (some ⟨g5, 0, none⟩) (k - 1) cap))) :=
              .inr ⟨_, _, _, HDV.out, rfl, QAt.shrinkJ (m := k - 1) HQ3.out hg6 hown6, Turn.set (Turn.shrinkJ (m := k - 1) HT3.out hg6) 5 _⟩
            have hft : FTab (fun v : Value => v) w6 b 11 (queF q (.slice (some ⟨g5, 0, none⟩) k cap) vw) := HQ3.out.tab.ofBlock (hg6.block b HQ3.out.lt (fun e => HQ3.out.nj e.symm))
            have e5 : w6.cell? ⟨b, 5, none⟩ = some (.slice (some ⟨g5, 0, none⟩) k cap) := hft.at' 5 (by omega)
            have ef := hft.fz
            clear hft hown6 hg6 HQ3 HT3 HDE d5
            go_wp2
            go_ret
            exact HF.out
          · have HF : Hid (RetKeep B b r vj vw w (.returned (.bool false)) w3) := by
              refine .inl ⟨?_, rfl, HB3.out⟩
              rw [HV.out]
              show (match q.jobs.findIdx? (hasId id) with | none => none | some m => some { q with jobs := q.jobs.eraseIdx m }) = _
              rw [hfd]
            clear hfd
            go_wp2
            go_ret
            exact HF.out
      · have t1 : ((strB w0).toList == [100, 111, 110, 101]) = false := strNe.2 hp
        have HF : Hid (RetKeep B b r vj vw w (.returned (.bool false)) w) := by
          refine .inl ⟨?_, rfl, Below.refl _ _⟩
          rw [HR.out, if_neg (fun h => by omega), if_neg (fun h => hp h.2)]
        clear hq ht hw hl hm hn h3 hsz hw0 hw1 hp HR h2 hs1
        go_enter Tryz.func25, Tryz.ntmps25
        go_wp2
        go_ret
        exact HF.out
    · have e2 : ((n : Int) == 2) = false := by rw [beq_eq_false_iff_ne]; omega
      have HF : Hid (RetKeep B b r vj vw w (.returned (.bool false)) w) := by
        refine .inl ⟨?_, rfl, Below.refl _ _⟩
        rw [HR.out, if_neg (fun h => h3 h.1), if_neg (fun h => h2 h.1)]
      rw [← hn]
      clear hq ht hw hl hm hn hsz h3 h2 HR
      go_enter Tryz.func25, Tryz.ntmps25
      go_wp2
      go_ret
      exact HF.out
end Go.Proofs.YtnnnihjagjfkdaaGreatDoor
