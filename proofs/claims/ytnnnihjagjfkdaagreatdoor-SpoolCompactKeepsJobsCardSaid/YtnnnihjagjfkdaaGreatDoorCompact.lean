/-
  SpoolCompactKeepsJobs: the walk. Own text.
-/
import Derived.Test.YtnnnihjagjfkdaaGreatDoorPrefix
import Derived.Test.YtnnnihjagjfkdaaGreatDoorComp
namespace Go.Proofs.YtnnnihjagjfkdaaGreatDoor
open Go.RowKit
set_option linter.unusedVariables false
/-- Another queue stays as it is. -/
theorem QAt.turn {w w' : World} {B b b2 : Nat} {q : Que} {vj vw uj uw uj' uw' : Value} (h : QAt w B b q vj vw) (hT : Turn b2 uj uw uj' uw' w w') (hn : ∀ g, InQ b vj vw g → ¬ InQ b2 uj uw g) : QAt w' B b q vj vw :=
  ⟨FTab.ofBlock h.tab (hT.block b h.lt (hn b (.inl rfl))), h.jobs.turn hT (fun g e => hn g (.inr (.inl e))), h.wr.turn hT (fun g e => hn g (.inr (.inr e))), h.bb, h.nj, h.nw, h.jw⟩
def xStr : ByteArray := ⟨#[120]⟩
set_option maxRecDepth 100000 in
set_option maxHeartbeats 8000000 in
theorem compact_any (os : Option Addr) (steps : List Int) (cs : Nat) (bytes : Int) (w : World) (hst : Flat w 1 encInt os steps) (hl : steps.length ≤ maxLen) (hby : i64ok bytes) (ht : Tabz w) :
    Calls Tryz.prog 7 #[.slice os steps.length cs, .int .i64 bytes] w (fun e w' => e = .returned (.bool true) ∧ Below w.heap.size w w') := by
  have HTB : Hid (∀ W, Below w.heap.size w W → Tabz W) := fun W hb => ht.below hb
  have HQK := Lib.hid (queuesK_any w ht.tabs)
  have HST := Lib.hid hst
  have HBY := Lib.hid hby
  have HL := Lib.hid hl
  clear ht hst hby hl
  obtain ⟨ns, hns⟩ : ∃ ns, ns = steps.length := ⟨_, rfl⟩
  have HNS := Lib.hid hns
  rw [← hns]
  clear hns
  go_enter Tryz.func7, Tryz.ntmps7
  go_wp2_with fail
  refine HQK.out.mono ?_
  rintro e w1 ⟨rfl, hb1⟩
  have HB1 := Lib.hid hb1
  have HNW := Lib.hid (new_any w1 (HTB.out w1 hb1).tabs)
  clear hb1 HQK
  go_wp2_with fail
  refine HNW.out.mono ?_
  rintro e w2 ⟨rfl, hq2, hb2⟩
  obtain ⟨B, hB⟩ : ∃ B, B = w1.heap.size := ⟨_, rfl⟩
  rw [← hB] at hq2
  rw [← hB]
  have HBB : Hid (w.heap.size ≤ B) := by show _ ≤ _; rw [hB]; exact HB1.out.size
  have HB2 : Hid (Below w.heap.size w w2) := HB1.out.trans (hb2.mono HB1.out.size)
  have HB0 : Hid (B ≤ w2.heap.size) := by show _ ≤ _; rw [hB]; exact hb2.size
  have HUP : Hid (∀ W, Below B w2 W → Below w.heap.size w W) := fun W hb => HB2.out.trans (hb.mono HBB.out)
  have HPL : Hid (Calls Tryz.prog 19 #[.pointer (some ⟨B, 0, none⟩), .slice os ns cs, .bool true] w2 (RetPlay B B w2)) := by
    show Calls _ _ _ _ _
    rw [HNS.out]
    exact play_any B B os steps cs true w2 hq2 HB0.out (fun W hb => (HTB.out W (HUP.out W hb)).tabs) (fun W hb => HST.out.below (HUP.out W hb)) HL.out
  clear hq2 hb2 hB HNW
  go_wp2_with fail
  refine HPL.out.mono ?_
  rintro e w3 ⟨u, c, n, rfl, q, wss, vj, vw, xs, hq3, hb3, hh, hk, hn, hs⟩
  obtain ⟨ou, cu, rfl, -, -⟩ := hs.own.flat (fun _ => rfl)
  have HB3 := Lib.hid (HUP.out w3 hb3)
  have HC3 := Lib.hid hb3
  have HQ3 := Lib.hid hq3
  have HH := Lib.hid hh
  have HN : Hid (wss.length ≤ 40) := hk
  have HJB := Lib.hid (jobs_any B B q vj vw w3 hq3 (by have h1 := hh.jl; omega))
  clear hq3 hb3 hh hk hn hs HPL
  go_wp2_with fail
  refine HJB.out.mono ?_
  rintro e w4 ⟨v4, rfl, hv4, hb4⟩
  obtain ⟨o4, c4, rfl, -, -⟩ := hv4.flat (fun _ => rfl)
  obtain ⟨L, hL⟩ : ∃ L, L = q.jobs.map showJ := ⟨_, rfl⟩
  have HLL := Lib.hid hL
  rw [← hL] at hv4
  rw [← hL]
  obtain ⟨nl, hnl⟩ : ∃ nl, nl = L.length := ⟨_, rfl⟩
  have HNL := Lib.hid hnl
  rw [← hnl] at hv4
  rw [← hnl]
  have HV4 := Lib.hid hv4
  have HNI : Hid (∀ g, (Value.slice o4 nl c4).ownBlock = some g → ¬ InQ B vj vw g) := fun g e e2 => by
    have h1 := (hv4.blk e).1
    have h2 := (HQ3.out.inq e2).2
    omega
  have HQ4 := Lib.hid (HQ3.out.below hb4)
  have HB4 := Lib.hid (bthen HB3.out hb4)
  have HC4 := Lib.hid (HC3.out.trans (hb4.mono (Nat.le_trans HB0.out HC3.out.size)))
  have HCO := Lib.hid (comp_any B B q vj vw w4 (HH.out.compIn (by have := HN.out; omega) HQ4.out (Nat.le_trans HB0.out HC4.out.size) (HTB.out w4 HB4.out).tabs))
  have HLE : Hid (L.length ≤ 64) := by show _ ≤ _; rw [hL, List.length_map]; have h1 := HH.out.jl; have h2 := HN.out; omega
  clear hv4 hb4 hL hnl HJB HQ3 HB3
  go_wp2_with fail
  refine HCO.out.mono ?_
  rintro e w5 ⟨vj5, vw5, rfl, hq5, ht5⟩
  have HQ5 := Lib.hid hq5
  have HC5 := Lib.hid (HC4.out.trans (ht5.base HQ4.out (Nat.le_trans HB0.out HC4.out.size)))
  have HB5 := Lib.hid (HUP.out w5 HC5.out)
  obtain ⟨o4x, c4x, e4, -, hf5⟩ := (HV4.out.turn ht5 HNI.out).flat (fun _ => rfl)
  simp only [Value.slice.injEq] at e4
  obtain ⟨rfl, -, rfl⟩ := e4
  have HF5 := Lib.hid hf5
  obtain ⟨q5, hq5e⟩ : ∃ q5, q5 = compQ q := ⟨_, rfl⟩
  have HQE := Lib.hid hq5e
  have HJ5 : Hid (∀ W, Below w5.heap.size w5 W → Calls Tryz.prog 12 #[.pointer (some ⟨B, 0, none⟩)] W (RetJS nl L W)) := fun W hb => by
    have h := jobs_flat B B (compQ q) vj5 vw5 W (HQ5.out.below hb) (by have h1 := HH.out.jl; have h2 := HN.out; show q.jobs.length ≤ 64; omega)
    rw [HNL.out, HLL.out]
    exact h
  have HEQ : Hid (∀ oa ca ob cb W, Flat W 2 encSj oa L → Flat W 2 encSj ob L → Calls Tryz.prog 17 #[.slice oa nl ca, .slice ob nl cb] W (fun e w' => e = .returned (.bool true) ∧ Below W.heap.size W w')) := by
    intro oa ca ob cb W h1 h2
    rw [HNL.out]
    refine (equalS_any oa ob _ _ ca cb W h1 h2 (by have := HLE.out; omega)).mono fun e w' h => ?_
    obtain ⟨⟨x, rfl, hx⟩, hb⟩ := h
    exact ⟨by rw [hx.2 rfl], hb⟩
  clear hq5 ht5 hf5 HCO HV4 HNI HQ4 HB4
  go_wp2_with fail
  refine (HJ5.out _ (Below.refl _ _)).mono ?_
  rintro e w6 ⟨oa6, ca6, rfl, hf6, hb6⟩
  have HEQ6 := Lib.hid (HEQ.out oa6 ca6 o4 c4 w6 hf6 (HF5.out.below hb6))
  have HB6 := Lib.hid hb6
  clear hf6 hb6
  go_wp2_with fail
  refine HEQ6.out.mono ?_
  rintro e w7 ⟨rfl, hb7⟩
  have HZ7 := Lib.hid (bthen HB6.out hb7)
  have HQ7 := Lib.hid (HQ5.out.below HZ7.out)
  have HDK := Lib.hid (disk_any B B (compQ q) vj5 vw5 w7 HQ7.out)
  clear hb7 HEQ6 HB6
  go_wp2_with fail
  refine HDK.out.mono ?_
  rintro e w8 ⟨rfl, hb8⟩
  have HZ8 := Lib.hid (bthen HZ7.out hb8)
  have HQ8 := Lib.hid (HQ5.out.below HZ8.out)
  have hcw : (compQ q).writes.length ≤ 1000 := by
    show (compWs _ _).length ≤ _
    unfold compWs
    rw [List.length_map, compLs_len q q.jobs.length (Nat.le_refl _)]
    have h1 := HH.out.jl
    have h2 := HN.out
    omega
  have HWR := Lib.hid (writes_any B B (compQ q) vj5 vw5 w8 HQ8.out (by omega))
  clear hb8 HDK HQ7 HZ7
  go_wp2_with fail
  refine HWR.out.mono ?_
  rintro e w9 ⟨v9, rfl, hv9, hb9⟩
  obtain ⟨o9, c9, rfl, -, hf9⟩ := hv9.flat (fun _ => rfl)
  have HZ9 := Lib.hid (bthen HZ8.out hb9)
  obtain ⟨q', ho, hqj, hqn, hF⟩ := HH.out.comp (by have := HN.out; omega) bytes.toNat
  obtain ⟨A, hA⟩ : ∃ A, A = (arvV ⟨bytes.toNat, (compQ q).a0.data.toList, (compQ q).a1.data.toList⟩ (compQ q).writes).a := ⟨_, rfl⟩
  obtain ⟨C, hC⟩ : ∃ C, C = (arvV ⟨bytes.toNat, (compQ q).a0.data.toList, (compQ q).a1.data.toList⟩ (compQ q).writes).b := ⟨_, rfl⟩
  have HCR0 := crash_yes (compQ q).a0 (compQ q).a1 o9 (compQ q).writes c9 bytes w9 hf9 (by omega) (HH.out.compAreas) (HH.out.compSmall (by have := HN.out; omega)) HBY.out
  rw [← hA, ← hC] at HCR0 ho
  have HCR := Lib.hid HCR0
  have HO := Lib.hid ho
  have HQQ := Lib.hid (And.intro hqj (And.intro hqn hF))
  clear hv9 hb9 hf9 ho hqj hqn hA hC HCR0 HWR hcw hF HQ8 HZ8
  go_wp2_with fail
  refine HCR.out.mono ?_
  rintro e w10 ⟨rfl, hb10⟩
  obtain ⟨hb11, d0, d1⟩ := disk_new w10 (strB A) (strB C)
  obtain ⟨W11, hW11⟩ : ∃ W11, W11 = w10.alloc (.cells #[.string (strB A), .string (strB C)] 23) := ⟨_, rfl⟩
  rw [← hW11] at hb11 d0 d1
  have HZ11 := Lib.hid (bthen (bthen HZ9.out hb10) hb11)
  have HB11 : Hid (Below w.heap.size w W11) := bthen HB5.out HZ11.out
  have HOP := Lib.hid (open_any (strB A) (strB C) W11 (HTB.out W11 HB11.out))
  clear hb10 hb11 HCR HZ9
  go_upto_region 9 with fail
  rw [← hW11]
  clear hW11
  go_wp2_with fail
  refine HOP.out.mono ?_
  rintro e w12 ⟨(⟨c', hov, rfl⟩ | ⟨r, rb, uj, uw, hov, rfl, hold, hr⟩), hb12⟩
  · have hov2 : openV A C = .error c' := hov
    rw [HO.out] at hov2
    cases hov2
  · have hov2 : openV A C = .ok r := hov
    rw [HO.out] at hov2
    obtain rfl := Except.ok.inj hov2
    have HZ12 := Lib.hid (bthen HZ11.out hb12)
    have HRB : Hid (w.heap.size ≤ rb) := Nat.le_trans HB11.out.size hold
    have HR12 := Lib.hid hr
    have HDJ : Hid (∀ g, InQ rb uj uw g → ¬ InQ B vj5 vw5 g) := fun g e e2 => by
      have h1 := (HR12.out.inq e).1
      have h2 := ((HQ5.out.below HZ11.out).inq e2).2
      omega
    have HJB := Lib.hid (jobs_flat rb rb q' uj uw w12 hr HQQ.out.2.2.ok.jl)
    rw [HQQ.out.1, ← HLL.out, ← HNL.out] at HJB
    clear hov hov2 hr hb12 HOP hold d0 d1
    go_wp2_with fail
    refine HJB.out.mono ?_
    rintro e w13 ⟨oa13, ca13, rfl, hf13, hb13⟩
    have HZ13 := Lib.hid (bthen HZ12.out hb13)
    have HEQ13 := Lib.hid (HEQ.out oa13 ca13 o4 c4 w13 hf13 (HF5.out.below HZ13.out))
    have HR13 := Lib.hid (HR12.out.below hb13)
    clear hf13 hb13 HJB HZ12 HR12
    go_wp2_with fail
    refine HEQ13.out.mono ?_
    rintro e w14 ⟨rfl, hb14⟩
    have HZ14 := Lib.hid (bthen HZ13.out hb14)
    have HQ14 := Lib.hid (HQ5.out.below HZ14.out)
    have HR14 := Lib.hid (HR13.out.below hb14)
    have HC14 : Hid (Below B w2 w14) := HC5.out.trans (HZ14.out.mono (Nat.le_trans HB0.out HC5.out.size))
    have HB14 := Lib.hid (HUP.out w14 HC14.out)
    have HPT : Hid (Calls Tryz.prog 15 #[.pointer (some ⟨B, 0, none⟩), .string ⟨#[120]⟩] w14 (RetPut B B (putQ (compQ q) xStr) q.next vj5 vw5 w14)) := by
      have h1 := HH.out.jl
      have h2 := HN.out
      have h3 := HH.out.nx
      have hk := HH.out.compOk (by omega)
      have hl := putL_len q.next xStr (by omega) (by omega) (by decide)
      exact put_any B B (compQ q) vj5 vw5 xStr w14 HQ14.out hk.ok (Nat.le_trans HB0.out HC14.out.size) (HTB.out w14 HB14.out).tabs (by decide) (by show q.jobs.length < 64; omega) (by show q.next ≤ _; omega) (by have h4 := hk.sz; rw [lineV_len]; show (compQ q).size + ((bodyV (putL q.next xStr)).length + 10 : Nat) ≤ 65536; omega)
    clear hb14 HEQ13 HZ13 HR13 HEQ HF5 HJ5
    go_wp2_with fail
    refine HPT.out.mono ?_
    rintro e w15 ⟨vj15, vw15, rfl, hq15, ht15⟩
    have HR15 := Lib.hid (HR14.out.turn ht15 HDJ.out)
    have HC15 : Hid (Below B w2 w15) := HC14.out.trans (ht15.base HQ14.out (Nat.le_trans HB0.out HC14.out.size))
    have HB15 := Lib.hid (HUP.out w15 HC15.out)
    have HPR : Hid (Calls Tryz.prog 15 #[.pointer (some ⟨rb, 0, none⟩), .string ⟨#[120]⟩] w15 (RetPut rb rb (putQ q' xStr) q.next uj uw w15)) := by
      have h1 := HH.out.jl
      have h2 := HN.out
      have h3 := HH.out.nx
      have hk := HQQ.out.2.2
      have hn := HQQ.out.2.1
      have hl := putL_len q'.next xStr (by omega) (by omega) (by decide)
      have hj : q'.jobs.length < 64 := by have e := congrArg List.length HQQ.out.1; rw [List.length_map, List.length_map] at e; omega
      have h := put_any rb rb q' uj uw xStr w15 HR15.out hk.ok (HR15.out.lt |> Nat.le_of_lt) (HTB.out w15 HB15.out).tabs (by decide) hj (by omega) (by have h4 := hk.sz; rw [lineV_len]; omega)
      rw [hn] at h
      exact h
    clear hq15 ht15 HPT HQ14 HR14
    go_wp2_with fail
    refine HPR.out.mono ?_
    rintro e w16 ⟨vj16, vw16, rfl, hq16, ht16⟩
    have HFI : Hid (Below w.heap.size w w16) := HB15.out.trans ((ht16.base HR15.out (Nat.le_of_lt HR15.out.lt)).mono HRB.out)
    have hnn : (q.next == q.next) = true := by simp
    clear hq16 ht16 HPR
    go_wp2
    go_ret
    exact ⟨rfl, HFI.out⟩
end Go.Proofs.YtnnnihjagjfkdaaGreatDoor
