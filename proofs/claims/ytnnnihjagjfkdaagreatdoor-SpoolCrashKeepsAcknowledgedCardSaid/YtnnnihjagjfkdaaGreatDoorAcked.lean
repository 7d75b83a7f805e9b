/-
  SpoolCrashKeepsAcknowledged: the walk. Own text.
-/
import Derived.Test.YtnnnihjagjfkdaaGreatDoorPrefix
namespace Go.Proofs.YtnnnihjagjfkdaaGreatDoor
open Go.RowKit
set_option linter.unusedVariables false
def laterS : ByteArray := ⟨#[108, 97, 116, 101, 114]⟩
/-- Behind what was certain, only later jobs. -/
def Acked (wss ws2 : List (List (List UInt8))) (K : List Sj) : Prop := ∀ m, m ≤ ws2.length → ∃ qm e, foldV (emptyQ 1 1) (wss ++ ws2.take m) = some qm ∧ qm.jobs.map showJ = K ++ e ∧ e.length = m ∧ ∀ x ∈ e, x.text = laterS
theorem Acked.nil {q : Que} {wss : List (List (List UInt8))} {c : Nat} (h : Hist q wss c) : Acked wss [] (q.jobs.map showJ) := fun m hm => by
  obtain ⟨qe, hf, hj, _⟩ := h.fold
  have e : m = 0 := by simpa using hm
  subst e
  exact ⟨qe, [], by simpa using hf, by rw [hj]; simp, rfl, fun x hx => by cases hx⟩
theorem Acked.put {q : Que} {wss ws2 : List (List (List UInt8))} {K : List Sj} {c : Nat} (h : Acked wss ws2 K) (hq : Hist q (wss ++ ws2) c) (hp : Hist (putQ q laterS) (wss ++ (ws2 ++ [putL q.next laterS])) c) : Acked wss (ws2 ++ [putL q.next laterS]) K := fun m hm => by
  rw [List.length_append, List.length_singleton] at hm
  by_cases e : m ≤ ws2.length
  · obtain ⟨qm, l, h1, h2⟩ := h m e
    exact ⟨qm, l, by rw [List.take_append_of_le_length e]; exact h1, h2⟩
  · obtain rfl : m = ws2.length + 1 := by omega
    obtain ⟨qm, l, h1, h2, h3, h4⟩ := h ws2.length (Nat.le_refl _)
    rw [List.take_length] at h1
    obtain ⟨qa, f1, f2, _⟩ := hq.fold
    obtain ⟨qb, g1, g2, _⟩ := hp.fold
    rw [f1] at h1
    obtain rfl := Option.some.inj h1
    refine ⟨qb, l ++ [⟨q.next, laterS⟩], ?_, ?_, by simp [h3], ?_⟩
    · rw [List.take_of_length_le (by simp)]; exact g1
    · rw [g2]
      show (q.jobs ++ [_]).map showJ = _
      rw [List.map_append, ← f2, h2, List.append_assoc]
      rfl
    · intro x hx
      rcases List.mem_append.1 hx with hx | hx
      · exact h4 x hx
      · rw [List.mem_singleton.1 hx]
/-- The part of a list ahead of a place. -/
theorem Flat.pre {α : Type} {w : World} {k : Nat} {enc : α → List Value} {oa : Option Addr} {xs ys : List α} (h : Flat w k enc oa (xs ++ ys)) : Flat w k enc oa xs := fun i hi j hj => by
  have h1 := h i (by rw [List.length_append]; omega) j hj
  rw [List.getElem_append_left hi] at h1
  exact h1
/-- The queue behind some puts. -/
structure PutsAt (w2 wa wr : World) (B : Nat) (wss : List (List (List UInt8))) (K : List Sj) (vj vw : Value) (k : Nat) (q : Que) (ws2 : List (List (List UInt8))) (vj' vw' : Value) : Prop where
  qa : QAt wr B B q vj' vw'
  ta : Turn B vj vw vj' vw' wa wr
  be : Below B w2 wr
  hi : Hist q (wss ++ ws2) wss.length
  kk : ws2.length = k
  ac : Acked wss ws2 K
set_option maxRecDepth 100000 in
set_option maxHeartbeats 8000000 in
theorem acked_any (os om : Option Addr) (steps more : List Int) (cs cm : Nat) (bytes : Int) (w : World) (hst : Flat w 1 encInt os steps) (hl : steps.length ≤ maxLen) (hlm : more.length ≤ maxLen) (hby : i64ok bytes) (ht : Tabz w) :
    Calls Tryz.prog 6 #[.slice os steps.length cs, .slice om more.length cm, .int .i64 bytes] w (fun e w' => e = .returned (.bool true) ∧ Below w.heap.size w w') := by
  have HTB : Hid (∀ W, Below w.heap.size w W → Tabz W) := fun W hb => ht.below hb
  have HQK := Lib.hid (queuesK_any w ht.tabs)
  have HST := Lib.hid hst
  have HBY := Lib.hid hby
  have HL := Lib.hid hl
  clear ht hst hby hl
  obtain ⟨ns, hns⟩ : ∃ ns, ns = steps.length := ⟨_, rfl⟩
  have HNS := Lib.hid hns
  rw [← hns]
  clear hns
  obtain ⟨nm, hnm⟩ : ∃ nm, nm = more.length := ⟨_, rfl⟩
  rw [← hnm]
  rw [← hnm] at hlm
  clear hnm
  unfold maxLen at hlm
  go_enter Tryz.func6, Tryz.ntmps6
  go_wp2_with fail
  refine HQK.out.mono ?_
  rintro e w1 ⟨rfl, hb1⟩
  have HB1 := Lib.hid hb1
  have HNW := Lib.hid (new_any w1 (HTB.out w1 hb1).tabs)
  clear hb1 HQK
  go_wp2_with fail
  refine HNW.out.mono ?_
  rintro e w2 ⟨rfl, hq2, hb2⟩
  obtain ⟨B, hB⟩ : ∃ B, B = w1.heap.size := ⟨_, rfl⟩
  rw [← hB] at hq2
  rw [← hB]
  have HBB : Hid (w.heap.size ≤ B) := by show _ ≤ _; rw [hB]; exact HB1.out.size
  have HB2 : Hid (Below w.heap.size w w2) := HB1.out.trans (hb2.mono HB1.out.size)
  have HB0 : Hid (B ≤ w2.heap.size) := by show _ ≤ _; rw [hB]; exact hb2.size
  have HUP : Hid (∀ W, Below B w2 W → Below w.heap.size w W) := fun W hb => HB2.out.trans (hb.mono HBB.out)
  have HPL : Hid (Calls Tryz.prog 19 #[.pointer (some ⟨B, 0, none⟩), .slice os ns cs, .bool false] w2 (RetPlay B B w2)) := by
    show Calls _ _ _ _ _
    rw [HNS.out]
    exact play_any B B os steps cs false w2 hq2 HB0.out (fun W hb => (HTB.out W (HUP.out W hb)).tabs) (fun W hb => HST.out.below (HUP.out W hb)) HL.out
  clear hq2 hb2 hB HNW
  go_wp2_with fail
  refine HPL.out.mono ?_
  rintro e w3 ⟨u, c, n, rfl, q, wss, vj, vw, xs, hq3, hb3, hh, hk, hn, hs⟩
  clear hs hn
  have HQ3 := Lib.hid hq3
  have HH3 := Lib.hid hh
  have HK := Lib.hid hk
  have HC3 := Lib.hid hb3
  have HSY := Lib.hid (sync_any B B q vj vw w3 hq3 (by have h1 := hh.wl; omega) hh.areas (by have h1 := hh.small (by omega); omega))
  clear hq3 hh hk hb3 HPL
  go_wp2_with fail
  refine HSY.out.mono ?_
  rintro e w4 ⟨rfl, hq4, ht4⟩
  have HC4 := Lib.hid (HC3.out.trans (ht4.base HQ3.out (Nat.le_trans HB0.out HC3.out.size)))
  have HH := Lib.hid HH3.out.sync
  have HJ4 := Lib.hid (jobs_any B B (syncQ q) vj _ w4 hq4 (by have h1 := HH.out.jl; have h2 := HK.out; omega))
  obtain ⟨q4, hq4e⟩ : ∃ q4, q4 = syncQ q := ⟨_, rfl⟩
  rw [← hq4e] at hq4 HJ4 HH
  have HQ4 := Lib.hid hq4
  clear hq4 ht4 HSY HQ3 HH3 HC3 hq4e
  go_wp2_with fail
  refine HJ4.out.mono ?_
  rintro e w5 ⟨v5, rfl, hv5, hb5⟩
  obtain ⟨K, hK⟩ : ∃ K, K = q4.jobs.map showJ := ⟨_, rfl⟩
  have HKE := Lib.hid hK
  rw [← hK] at hv5
  obtain ⟨o5, c5, rfl, -, -⟩ := hv5.flat (fun _ => rfl)
  obtain ⟨nk, hnk⟩ : ∃ nk, nk = K.length := ⟨_, rfl⟩
  have HNK := Lib.hid hnk
  rw [← hnk] at hv5
  rw [← hnk]
  have HV5 := Lib.hid hv5
  have HNI : Hid (∀ g, (Value.slice o5 nk c5).ownBlock = some g → ¬ InQ B vj (.slice none 0 0) g) := fun g e e2 => by
    have h1 := (hv5.blk e).1
    have h2 := (HQ4.out.inq e2).2
    omega
  have HC5 := Lib.hid (HC4.out.trans (hb5.mono (Nat.le_trans HB0.out HC4.out.size)))
  have HP0 : Hid (PutsAt w2 w5 w5 B wss K vj (.slice none 0 0) 0 q4 [] vj (.slice none 0 0)) :=
    ⟨HQ4.out.below hb5, Turn.refl _ _ _ _, HC5.out, by rw [List.append_nil]; exact HH.out, rfl, by rw [hK]; exact Acked.nil HH.out⟩
  have hnk40 : nk ≤ 40 := by have h1 := HH.out.jl; have h2 := HK.out; rw [hnk, hK, List.length_map]; omega
  clear hv5 hb5 hK hnk HJ4 HQ4 HC4
  go_wp2
  go_loopw [9] (fun i wr => ∃ k : Nat, k ≤ 20 ∧ k ≤ nm ∧ i = .int .i64 k ∧ Hid (∃ q' ws2 vj' vw', PutsAt w2 w5 wr B wss K vj (.slice none 0 0) k q' ws2 vj' vw')) (fun i _ => 21 - (intOf i).toNat)
  case atStart => exact ⟨0, by omega, by omega, rfl, _, _, _, _, HP0.out⟩
  case round =>
    clear HP0
    obtain ⟨k, hk20, hkm, rfl, HR⟩ := hrel
    obtain ⟨q', ws2, vj', vw', hp⟩ := HR.out
    have HP := Lib.hid hp
    clear hp HR
    go_upto_region 8 with fail
    go_cut [36] from 29 to 36 (fun s36 wx => ∃ p : Bool, s36 = .bool p ∧ (p = true ↔ k < nm ∧ k < 20) ∧ wr = wx)
    case first =>
      by_cases h1 : k < nm
      · have kd : (k : Int) < (nm : Int) := by omega
        by_cases h2 : k < 20
        · have k6 : (k : Int) < 20 := by omega
          go_wp2_with fail
          go_meet
          exact ⟨true, rfl, ⟨fun _ => ⟨h1, h2⟩, fun _ => rfl⟩, rfl⟩
        · have k6 : ¬ (k : Int) < 20 := by omega
          go_wp2_with fail
          go_meet
          exact ⟨false, rfl, ⟨fun e => (by cases e), fun e => absurd e.2 h2⟩, rfl⟩
      · have kd : ¬ (k : Int) < (nm : Int) := by omega
        go_wp2_with fail
        go_meet
        exact ⟨false, rfl, ⟨fun e => (by cases e), fun e => absurd e.1 h1⟩, rfl⟩
    case rest =>
      obtain ⟨p, rfl, hp, rfl⟩ := hcut
      cases p with
      | true =>
        obtain ⟨hlt1, hlt2⟩ := hp.1 rfl
        clear hp
        have HPU : Hid (Calls Tryz.prog 15 #[.pointer (some ⟨B, 0, none⟩), .string ⟨#[108, 97, 116, 101, 114]⟩] wr (RetPut B B (putQ q' laterS) q'.next vj' vw' wr)) := by
          have h1 := HP.out.hi.jl
          have h2 := HK.out
          have h3 := HP.out.hi.nx
          have h4 := HP.out.kk
          have h5 := HP.out.hi.size
          have h6 := HP.out.hi.fit
          rw [List.length_append] at h1 h3 h6
          have hl := putL_len q'.next laterS (by omega) (by omega) (by decide)
          exact put_any B B q' vj' vw' laterS wr HP.out.qa (HP.out.hi.ok (by rw [List.length_append]; omega)) (Nat.le_trans HB0.out HP.out.be.size) (HTB.out wr (HUP.out wr HP.out.be)).tabs (by decide) (by omega) (by omega) (by rw [lineV_len]; omega)
        go_wp2_with fail
        refine HPU.out.mono ?_
        rintro e w6 ⟨vj6, vw6, rfl, hq6, ht6⟩
        have HNX : Hid (∃ q' ws2 vj' vw', PutsAt w2 w5 w6 B wss K vj (.slice none 0 0) (k + 1) q' ws2 vj' vw') := by
          have h2 := HK.out
          have h4 := HP.out.kk
          have hh := HP.out.hi.put (s := laterS) (by rw [List.length_append]; omega) (by decide)
          rw [List.append_assoc] at hh
          exact ⟨_, _, _, _, hq6, HP.out.ta.trans ht6, HP.out.be.trans (ht6.base HP.out.qa (Nat.le_trans HB0.out HP.out.be.size)), hh, by rw [List.length_append, List.length_singleton, h4], HP.out.ac.put HP.out.hi hh⟩
        clear hq6 ht6 HPU HP
        go_wp2
        go_roundw
        case rel => exact ⟨k + 1, by omega, by omega, by go_num, HNX.out⟩
        case measure => simp [intOf]; omega
      | false =>
        have hkx : k = min 20 nm := by
          by_cases h1 : k < nm
          · have h2 : ¬ k < 20 := fun h => (by have := hp.2 ⟨h1, h⟩; cases this)
            omega
          · omega
        clear hp
        have HKX := Lib.hid hkx
        clear hkx
        have HTL : Hid (wss.length ≤ 40 ∧ ws2.length = k ∧ k ≤ 20) := ⟨HK.out, HP.out.kk, hk20⟩
        have HL2 : Hid ((wss ++ ws2).length ≤ 60) := by show _ ≤ _; have := HTL.out; rw [List.length_append]; omega
        obtain ⟨o5x, c5x, e4, -, hfk⟩ := (HV5.out.turn HP.out.ta HNI.out).flat (fun _ => rfl)
        simp only [Value.slice.injEq] at e4
        obtain ⟨rfl, -, rfl⟩ := e4
        have HFK := Lib.hid hfk
        have HB6 := Lib.hid (HUP.out wr HP.out.be)
        have HDK := Lib.hid (disk_any B B q' vj' vw' wr HP.out.qa)
        clear hfk
        go_wp2_with fail
        refine HDK.out.mono ?_
        rintro e w7 ⟨rfl, hb7⟩
        have HZ7 := Lib.hid hb7
        have HQ7 := Lib.hid (HP.out.qa.below hb7)
        have HWR := Lib.hid (writes_any B B q' vj' vw' w7 HQ7.out (by have h1 := HP.out.hi.wl; have h2 := HL2.out; omega))
        clear hb7 HDK
        go_wp2_with fail
        refine HWR.out.mono ?_
        rintro e w8 ⟨v8, rfl, hv8, hb8⟩
        obtain ⟨o8, c8, rfl, -, hf8⟩ := hv8.flat (fun _ => rfl)
        have HZ8 := Lib.hid (bthen HZ7.out hb8)
        obtain ⟨r, j, ho, hcj, hjl, ⟨qj, hf, hqj, -⟩, hF⟩ := HP.out.hi.crash (by have := HL2.out; omega) bytes.toNat
        obtain ⟨A, hA⟩ : ∃ A, A = (arvV ⟨bytes.toNat, q'.a0.data.toList, q'.a1.data.toList⟩ q'.writes).a := ⟨_, rfl⟩
        obtain ⟨C, hC⟩ : ∃ C, C = (arvV ⟨bytes.toNat, q'.a0.data.toList, q'.a1.data.toList⟩ q'.writes).b := ⟨_, rfl⟩
        have HCR0 := crash_yes q'.a0 q'.a1 o8 q'.writes c8 bytes w8 hf8 (by have h1 := HP.out.hi.wl; have h2 := HL2.out; omega) HP.out.hi.areas (by have h1 := HP.out.hi.small (by have := HL2.out; omega); omega) HBY.out
        rw [← hA, ← hC] at HCR0 ho
        have HCR := Lib.hid HCR0
        have HO := Lib.hid ho
        obtain ⟨m, hm⟩ : ∃ m, m = j - wss.length := ⟨_, rfl⟩
        have hm2 : m ≤ ws2.length := by rw [List.length_append] at hjl; omega
        obtain ⟨qm, ex, k1, k2, k3, k4⟩ := HP.out.ac m hm2
        have ej : (wss ++ ws2).take j = wss ++ ws2.take m := by
          have e1 : j = wss.length + m := by omega
          rw [e1, List.take_length_add_append]
        rw [ej, k1] at hf
        obtain rfl := Option.some.inj hf
        have HEX : Hid (r.jobs.map showJ = K ++ ex ∧ ex.length ≤ min 20 nm ∧ ∀ x ∈ ex, x.text = laterS) := ⟨by rw [hqj, k2], by have h1 := HKX.out; have h2 := HTL.out; omega, k4⟩
        have HRJ := Lib.hid hF.ok.jl
        clear hv8 hb8 hf8 ho hcj hjl hf hqj hA hC HCR0 HWR hm hm2 k1 k2 k3 k4 ej hF
        go_wp2_with fail
        refine HCR.out.mono ?_
        rintro e w9 ⟨rfl, hb9⟩
        obtain ⟨hb10, d0, d1⟩ := disk_new w9 (strB A) (strB C)
        obtain ⟨W10, hW10⟩ : ∃ W10, W10 = w9.alloc (.cells #[.string (strB A), .string (strB C)] 23) := ⟨_, rfl⟩
        rw [← hW10] at hb10 d0 d1
        have HZ10 := Lib.hid (bthen (bthen HZ8.out hb9) hb10)
        have HOP := Lib.hid (open_any (strB A) (strB C) W10 (HTB.out W10 (bthen HB6.out HZ10.out)))
        clear hb9 hb10 HCR HZ8
        go_upto_region 14 with fail
        rw [← hW10]
        clear hW10
        go_wp2_with fail
        refine HOP.out.mono ?_
        rintro e w11 ⟨(⟨c', hov, rfl⟩ | ⟨r2, rb, uj, uw, hov, rfl, hold, hr⟩), hb11⟩
        · have hov2 : openV A C = .error c' := hov
          rw [HO.out] at hov2
          cases hov2
        · have hov2 : openV A C = .ok r2 := hov
          rw [HO.out] at hov2
          obtain rfl := Except.ok.inj hov2
          have HZ11 := Lib.hid (bthen HZ10.out hb11)
          have HJB := Lib.hid (jobs_any rb rb r uj uw w11 hr HRJ.out)
          rw [HEX.out.1] at HJB
          clear hov hov2 hr hb11 HOP hold d0 d1 HQ7 HZ10
          go_wp2_with fail
          refine HJB.out.mono ?_
          rintro e w12 ⟨v12, rfl, hv12, hb12⟩
          have HZ12 := Lib.hid (bthen HZ11.out hb12)
          have HFK12 := Lib.hid (HFK.out.below HZ12.out)
          have HEX2 := HEX.out.2
          obtain ⟨mx, hmx⟩ : ∃ mx, mx = ex.length := ⟨_, rfl⟩
          have hlen : (K ++ ex).length = nk + mx := by rw [List.length_append, ← HNK.out, hmx]
          have hmm : mx ≤ min 20 nm := by rw [hmx]; exact HEX2.1
          have HMX := Lib.hid hmx
          have f1 : ¬ ((nk + mx : Nat) : Int) < (nk : Int) := by omega
          have f2 : ¬ (nk : Int) + min 20 (nm : Int) < ((nk + mx : Nat) : Int) := by omega
          have f3 : (nk : Int) ≤ ((nk + mx : Nat) : Int) := by omega
          have HV12 := Lib.hid hv12
          rcases hv12.2 with ⟨rfl, hn⟩ | ⟨g12, cap12, cur, rfl, hbg, hg, hn, hm12, -⟩
          · have hz : mx = 0 ∧ nk = 0 := by omega
            obtain ⟨rfl, rfl⟩ := hz
            have HEQ : Hid (Calls Tryz.prog 17 #[.slice none 0 0, .slice o5 0 c5] w12 (fun e w' => e = .returned (.bool true) ∧ Below w12.heap.size w12 w')) := by
              refine (equalS_any none o5 ([] : List Sj) [] 0 c5 w12 (fun i hi => by cases hi) (fun i hi => by cases hi) (by decide)).mono fun e w' h => ?_
              obtain ⟨⟨x, rfl, hx⟩, hb⟩ := h
              exact ⟨by rw [hx.2 rfl], hb⟩
            have HB12 := Lib.hid (bthen HB6.out HZ12.out)
            clear hmx hmm hv12 hb12 HEX2 hlen hn
            go_wp2_with fail
            refine HEQ.out.mono ?_
            rintro e w13 ⟨rfl, hb13⟩
            have HZ13 := Lib.hid (bthen HB12.out hb13)
            clear hb13 HEQ
            go_wp2
            go_loopw [100] (fun i wx => ∃ j : Nat, j ≤ 0 ∧ i = .int .i64 j ∧ Hid (Below w13.heap.size w13 wx)) (fun i _ => 0 - (intOf i).toNat)
            case atStart => exact ⟨0, by omega, rfl, Below.refl _ _⟩
            case round =>
              obtain ⟨j, hj, rfl, HR⟩ := hrel
              obtain rfl : j = 0 := by omega
              have HF := Lib.hid (bthen HZ13.out HR.out)
              go_wp2
              go_ret
              exact ⟨rfl, HF.out⟩
          · rw [hlen] at hn
            rw [hlen]
            have f4 : (nk : Int) ≤ (cap12 : Int) := by omega
            have f5 : mx ≠ 0 → ¬ cap12 = nk := by omega
            obtain ⟨oax, cax, e5, -, hfa⟩ := HV12.out.flat (fun _ => rfl)
            simp only [Value.slice.injEq] at e5
            obtain ⟨rfl, -, rfl⟩ := e5
            have hfl := hfa.pre
            have HEQ : Hid (Calls Tryz.prog 17 #[.slice (some ⟨g12, 0, none⟩) nk cap12, .slice o5 nk c5] w12 (fun e w' => e = .returned (.bool true) ∧ Below w12.heap.size w12 w')) := by
              show Calls _ _ _ _ _
              rw [HNK.out]
              refine (equalS_any _ _ K K cap12 c5 w12 hfl HFK12.out (by rw [← HNK.out]; omega)).mono fun e w' h => ?_
              obtain ⟨⟨x, rfl, hx⟩, hb⟩ := h
              exact ⟨by rw [hx.2 rfl], hb⟩
            have HB12 := Lib.hid (bthen HB6.out HZ12.out)
            have HFA := Lib.hid hfa
            have HEX3 := Lib.hid HEX2.2
            clear hmx hmm hv12 hb12 HEX2 hg hbg hlen hn hm12 hfl hfa
            go_wp2_with fail
            refine HEQ.out.mono ?_
            rintro e w13 ⟨rfl, hb13⟩
            have HZ13 := Lib.hid (bthen HB12.out hb13)
            have HF13 := Lib.hid (HFA.out.below hb13)
            clear hb13 HEQ
            by_cases h0 : cap12 = nk
            · have hmx0 : mx = 0 := by
                by_cases e : mx = 0
                · exact e
                · exact absurd h0 (f5 e)
              subst hmx0
              clear f5
              go_wp2
              go_loopw [100] (fun i wx => ∃ j : Nat, j ≤ 0 ∧ i = .int .i64 j ∧ Hid (Below w13.heap.size w13 wx)) (fun i _ => 0 - (intOf i).toNat)
              case atStart => exact ⟨0, by omega, rfl, Below.refl _ _⟩
              case round =>
                obtain ⟨j, hj, rfl, HR⟩ := hrel
                obtain rfl : j = 0 := by omega
                have HF := Lib.hid (bthen HZ13.out HR.out)
                go_wp2
                go_ret
                exact ⟨rfl, HF.out⟩
            · clear f5
              go_wp2
              go_loopw [100] (fun i wx => ∃ j : Nat, j ≤ mx ∧ i = .int .i64 j ∧ Hid (Below w13.heap.size w13 wx)) (fun i _ => mx - (intOf i).toNat)
              case atStart => exact ⟨0, by omega, rfl, Below.refl _ _⟩
              case round =>
                obtain ⟨j, hj, rfl, HR⟩ := hrel
                by_cases hjm : j < mx
                · have hjx : nk + j < (K ++ ex).length := by rw [List.length_append, ← HNK.out, ← HMX.out]; omega
                  have hje : j < ex.length := by rw [← HMX.out]; exact hjm
                  have htx : (K ++ ex)[nk + j].text = (⟨#[108, 97, 116, 101, 114]⟩ : ByteArray) := by
                    rw [List.getElem_append_right (by rw [← HNK.out]; omega)]
                    exact HEX3.out _ (List.getElem_mem _)
                  obtain ⟨b1, off1, e1, i0, i1⟩ := (HF13.out.below HR.out).sj2 hjx
                  simp only [Option.some.injEq, Addr.mk.injEq, and_true] at e1
                  obtain ⟨rfl, rfl⟩ := e1
                  rw [htx] at i1
                  rw [Nat.zero_add, Nat.add_mul] at i0 i1
                  obtain ⟨y, hy⟩ : ∃ y, y = (K ++ ex)[nk + j].id := ⟨_, rfl⟩
                  rw [← hy] at i0
                  have jd : (j : Int) < (mx : Int) := by omega
                  have j0 : (0 : Int) ≤ (j : Int) := by omega
                  clear hy htx hje hjx
                  have HNB := Lib.hid (balloc HR.out (.cells #[.int .i64 y, .string ⟨#[108, 97, 116, 101, 114]⟩] 41))
                  go_wp2
                  go_roundw
                  case rel => exact ⟨j + 1, by omega, by go_num, HNB.out⟩
                  case measure => simp [intOf]; omega
                · obtain rfl : mx = j := by omega
                  have HF := Lib.hid (bthen HZ13.out HR.out)
                  go_wp2
                  go_ret
                  exact ⟨rfl, HF.out⟩
end Go.Proofs.YtnnnihjagjfkdaaGreatDoor
