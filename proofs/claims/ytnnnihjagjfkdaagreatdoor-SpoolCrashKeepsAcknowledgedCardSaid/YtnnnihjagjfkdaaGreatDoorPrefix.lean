/-
  SpoolCrashIsPrefix: the walk. Own text.
-/
import Derived.Test.YtnnnihjagjfkdaaGreatDoorPlay
import Derived.Test.YtnnnihjagjfkdaaGreatDoorCrash
namespace Go.Proofs.YtnnnihjagjfkdaaGreatDoor
open Go.RowKit
set_option linter.unusedVariables false
theorem cellV {w : World} {base : Nat} {e : TypeId} {o : Option Addr} {n c : Nat} {xs : List Value} (h : Own w base e 1 encV (.slice o n c) xs) {i : Nat} (hi : i < xs.length) : ∃ b off, o = some ⟨b, off, none⟩ ∧ w.cell? ⟨b, off + i, none⟩ = some xs[i] := by
  obtain ⟨oa, cap, e2, _, hf⟩ := h.flat (fun _ => rfl)
  simp only [Value.slice.injEq] at e2
  obtain ⟨rfl, -, -⟩ := e2
  obtain ⟨u, hu, b, off, e1, hc⟩ := hf i hi 0 (by omega)
  simp [encV] at hu
  subst hu
  exact ⟨b, off, e1, by simpa using hc⟩
theorem stateV_len (wss : List (List (List UInt8))) (k : Nat) : (stateV wss k).length ≤ wss.length := by
  unfold stateV
  cases h : foldV (emptyQ 1 1) (wss.take k) with
  | none => simp
  | some q =>
    have h1 := foldV_jobs h
    rw [List.length_take] at h1
    have h2 : (emptyQ 1 1).jobs.length = 0 := rfl
    simp only [List.length_map]
    omega
/-- A disk on the stack. -/
theorem disk_new (w : World) (a c : ByteArray) : Below w.heap.size w (w.alloc (.cells #[.string a, .string c] 23)) ∧ (w.alloc (.cells #[.string a, .string c] 23)).cell? ⟨w.heap.size, 0, none⟩ = some (.string a) ∧ (w.alloc (.cells #[.string a, .string c] 23)).cell? ⟨w.heap.size, 1, none⟩ = some (.string c) := by
  refine ⟨balloc (Below.refl _ w) _, ?_, ?_⟩
  · rw [cell_of_row _ w.heap.size 0 _ _ (0, 0) (heap_alloc_new w _)]; rfl
  · rw [cell_of_row _ w.heap.size 1 _ _ (0, 0) (heap_alloc_new w _)]; rfl
set_option maxRecDepth 100000 in
set_option maxHeartbeats 8000000 in
theorem prefix_any (os : Option Addr) (steps : List Int) (cs : Nat) (bytes : Int) (w : World) (hst : Flat w 1 encInt os steps) (hl : steps.length ≤ maxLen) (hby : i64ok bytes) (ht : Tabz w) :
    Calls Tryz.prog 5 #[.slice os steps.length cs, .int .i64 bytes] w (fun e w' => e = .returned (.bool true) ∧ Below w.heap.size w w') := by
  have HTB : Hid (∀ W, Below w.heap.size w W → Tabz W) := fun W hb => ht.below hb
  have HQK := Lib.hid (queuesK_any w ht.tabs)
  have HST := Lib.hid hst
  have HBY := Lib.hid hby
  have HL := Lib.hid hl
  clear ht hst hby hl
  obtain ⟨ns, hns⟩ : ∃ ns, ns = steps.length := ⟨_, rfl⟩
  have HNS := Lib.hid hns
  rw [← hns]
  clear hns
  go_enter Tryz.func5, Tryz.ntmps5
  go_wp2_with fail
  refine HQK.out.mono ?_
  rintro e w1 ⟨rfl, hb1⟩
  have HB1 := Lib.hid hb1
  have HNW := Lib.hid (new_any w1 (HTB.out w1 hb1).tabs)
  clear hb1 HQK
  go_wp2_with fail
  refine HNW.out.mono ?_
  rintro e w2 ⟨rfl, hq2, hb2⟩
  obtain ⟨B, hB⟩ : ∃ B, B = w1.heap.size := ⟨_, rfl⟩
  rw [← hB] at hq2
  rw [← hB]
  have HBB : Hid (w.heap.size ≤ B) := by show _ ≤ _; rw [hB]; exact HB1.out.size
  have HB2 : Hid (Below w.heap.size w w2) := HB1.out.trans (hb2.mono HB1.out.size)
  have HB0 : Hid (B ≤ w2.heap.size) := by show _ ≤ _; rw [hB]; exact hb2.size
  have HUP : Hid (∀ W, Below B w2 W → Below w.heap.size w W) := fun W hb => HB2.out.trans (hb.mono HBB.out)
  have HPL : Hid (Calls Tryz.prog 19 #[.pointer (some ⟨B, 0, none⟩), .slice os ns cs, .bool true] w2 (RetPlay B B w2)) := by
    show Calls _ _ _ _ _
    rw [HNS.out]
    exact play_any B B os steps cs true w2 hq2 HB0.out (fun W hb => (HTB.out W (HUP.out W hb)).tabs) (fun W hb => HST.out.below (HUP.out W hb)) HL.out
  clear hq2 hb2 hB HNW
  go_wp2_with fail
  refine HPL.out.mono ?_
  rintro e w3 ⟨u, c, n, rfl, q, wss, vj, vw, xs, hq3, hb3, hh, hk, hn, hs⟩
  obtain ⟨ou, cu, rfl, -, -⟩ := hs.own.flat (fun _ => rfl)
  have hxn : xs.length = n := by rw [hs.len, statesV_len]; exact hn.symm
  rw [hxn] at hs
  rw [hxn]
  have HXN := Lib.hid hxn
  have HB3 := Lib.hid (HUP.out w3 hb3)
  have HQ3 := Lib.hid hq3
  have HH := Lib.hid hh
  have HN := Lib.hid (And.intro hk hn)
  have HS3 := Lib.hid hs
  have HDK := Lib.hid (disk_any B B q vj vw w3 hq3)
  clear hxn hq3 hb3 hh hk hn hs HPL
  go_wp2_with fail
  refine HDK.out.mono ?_
  rintro e w4 ⟨rfl, hb4⟩
  have HQ4 := Lib.hid (HQ3.out.below hb4)
  have HS4 := Lib.hid (HS3.out.below hb4)
  have HB4 := Lib.hid (bthen HB3.out hb4)
  have HWR := Lib.hid (writes_any B B q vj vw w4 HQ4.out (by have := HH.out.wl; have := HN.out; omega))
  clear hb4 HDK HQ3 HS3
  go_wp2_with fail
  refine HWR.out.mono ?_
  rintro e w5 ⟨v5, rfl, hv5, hb5⟩
  obtain ⟨o5, c5, rfl, -, hf5⟩ := hv5.flat (fun _ => rfl)
  have HS5 := Lib.hid (HS4.out.below hb5)
  have HB5 := Lib.hid (bthen HB4.out hb5)
  obtain ⟨q', j, ho, hcj, hjl, ⟨qj, hf, hqj, -⟩, hF⟩ := HH.out.crash (by have := HN.out; omega) bytes.toNat
  obtain ⟨A, hA⟩ : ∃ A, A = (arvV ⟨bytes.toNat, q.a0.data.toList, q.a1.data.toList⟩ q.writes).a := ⟨_, rfl⟩
  obtain ⟨C, hC⟩ : ∃ C, C = (arvV ⟨bytes.toNat, q.a0.data.toList, q.a1.data.toList⟩ q.writes).b := ⟨_, rfl⟩
  have HCR0 := crash_yes q.a0 q.a1 o5 q.writes c5 bytes w5 hf5 (by have := HH.out.wl; have := HN.out; omega) HH.out.areas (by have := HH.out.small (by have := HN.out; omega); omega) HBY.out
  rw [← hA, ← hC] at HCR0 ho
  have HCR := Lib.hid HCR0
  have HO := Lib.hid ho
  have HJ := Lib.hid (And.intro hcj (And.intro hjl (show stateV wss j = q'.jobs.map showJ by rw [stateV_some hf, hqj])))
  clear hv5 hb5 hf5 ho hcj hjl hf hqj hA hC HCR0 HWR HS4 HQ4
  go_wp2_with fail
  refine HCR.out.mono ?_
  rintro e w6 ⟨rfl, hb6⟩
  obtain ⟨hb7, d0, d1⟩ := disk_new w6 (strB A) (strB C)
  obtain ⟨W7, hW7⟩ : ∃ W7, W7 = w6.alloc (.cells #[.string (strB A), .string (strB C)] 23) := ⟨_, rfl⟩
  rw [← hW7] at hb7 d0 d1
  have HB7 := Lib.hid (bthen (bthen HB5.out hb6) hb7)
  have HS7 := Lib.hid ((HS5.out.below hb6).below hb7)
  have HOP := Lib.hid (open_any (strB A) (strB C) W7 (HTB.out W7 HB7.out))
  clear hb6 hb7 HCR HS5 HB5
  go_upto_region 6 with fail
  rw [← hW7]
  clear hW7
  go_wp2_with fail
  refine HOP.out.mono ?_
  rintro e w8 ⟨(⟨c', hov, rfl⟩ | ⟨r, rb, uj, uw, hov, rfl, hold, hr⟩), hb8⟩
  · have hov2 : openV A C = .error c' := hov
    rw [HO.out] at hov2
    cases hov2
  · have hov2 : openV A C = .ok r := hov
    rw [HO.out] at hov2
    obtain rfl := Except.ok.inj hov2
    have HS8 := Lib.hid (HS7.out.below hb8)
    have HB8 := Lib.hid (bthen HB7.out hb8)
    have HJB := Lib.hid (jobs_flat rb rb q' uj uw w8 hr hF.ok.jl)
    obtain ⟨L, hL⟩ : ∃ L, L = q'.jobs.map showJ := ⟨_, rfl⟩
    rw [← hL] at HJB HJ
    clear hov hov2 hr hb8 HOP HS7 HB7 hF hold hL
    go_wp2_with fail
    refine HJB.out.mono ?_
    rintro e w9 ⟨oa, ca, rfl, hfl, hb9⟩
    have HS9 := Lib.hid (HS8.out.below hb9)
    have HB9 := Lib.hid (bthen HB8.out hb9)
    have HFL := Lib.hid hfl
    obtain ⟨nl, hnl⟩ : ∃ nl, nl = L.length := ⟨_, rfl⟩
    have HNL := Lib.hid hnl
    rw [← hnl]
    have hcn : c ≤ n := by have := HJ.out.1; have := HJ.out.2.1; have := HN.out.2; omega
    have hn61 : n ≤ 61 := by have := HN.out; omega
    clear hfl hb9 HS8 HB8 HJB hnl d0 d1
    go_wp2
    go_loopw [12] (fun i wr => ∃ k : Nat, c ≤ k ∧ k ≤ n ∧ i = .int .i64 k ∧ Hid (Below w9.heap.size w9 wr ∧ ∀ t, c ≤ t → t < k → stateV wss t ≠ L)) (fun i _ => n - (intOf i).toNat)
    case atStart => exact ⟨c, Nat.le_refl _, hcn, rfl, Below.refl _ _, fun t h1 h2 => by omega⟩
    case round =>
      obtain ⟨k, hck, hkn, rfl, HR⟩ := hrel
      by_cases hlt : k < n
      · have hsw := HS9.out.below HR.out.1
        have hkx : k < xs.length := by rw [HXN.out]; exact hlt
        have hks : k < (statesV wss).length := by rw [statesV_len]; have := HN.out.2; omega
        obtain ⟨bs, offs, rfl, s0⟩ := cellV hsw.own hkx
        have hrow := hsw.row k hkx hks
        rw [statesV_get] at hrow
        obtain ⟨ok, ck, hxk, -, hfk⟩ := hrow.flat (fun _ => rfl)
        rw [hxk] at s0
        obtain ⟨y, hy⟩ : ∃ y, y = stateV wss k := ⟨_, rfl⟩
        have hyl : y.length ≤ 1000 := by have h1 := stateV_len wss k; rw [hy]; have := HN.out; omega
        rw [← hy] at s0 hfk
        obtain ⟨ny, hny⟩ : ∃ ny, ny = y.length := ⟨_, rfl⟩
        rw [← hny] at s0
        have HEQ : Hid (Calls Tryz.prog 17 #[.slice ok ny ck, .slice oa nl ca] wr (RetEqS y L wr)) := by
          show Calls _ _ _ _ _
          rw [hny, HNL.out]
          exact equalS_any ok oa y L ck ca wr hfk (HFL.out.below HR.out.1) hyl
        have kd : (k : Int) < (n : Int) := by omega
        have k0 : (0 : Int) ≤ (k : Int) := by omega
        have HY := Lib.hid hy
        clear hsw hkx hks hrow hxk hfk hy hyl hny hcn
        go_wp2_with fail
        refine HEQ.out.mono ?_
        rintro e w10 ⟨⟨x, rfl, hx⟩, hb10⟩
        have HBB2 := Lib.hid (HR.out.1.trans (hb10.mono HR.out.1.size))
        cases x with
        | true =>
          have HF := Lib.hid (bthen HB9.out HBB2.out)
          clear hx hb10 HEQ
          go_wp2
          go_ret
          exact ⟨rfl, HF.out⟩
        | false =>
          have HNE : Hid (stateV wss k ≠ L) := fun e => by rw [← HY.out] at e; have := hx.2 e; cases this
          have HNX : Hid (Below w9.heap.size w9 w10 ∧ ∀ t, c ≤ t → t < k + 1 → stateV wss t ≠ L) := ⟨HBB2.out, fun t h1 h2 => by
            by_cases e : t = k
            · rw [e]; exact HNE.out
            · exact HR.out.2 t h1 (by omega)⟩
          clear hx hb10 HEQ HR
          go_wp2
          go_roundw
          case rel => exact ⟨k + 1, by omega, by omega, by go_num, HNX.out⟩
          case measure => simp [intOf]; omega
      · exfalso
        have h1 := HJ.out
        have h2 := HN.out.2
        exact HR.out.2 j h1.1 (by omega) h1.2.2
end Go.Proofs.YtnnnihjagjfkdaaGreatDoor
