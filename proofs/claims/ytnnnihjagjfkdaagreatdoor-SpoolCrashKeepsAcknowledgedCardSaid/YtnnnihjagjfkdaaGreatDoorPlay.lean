/-
  The walk of the law's play: a queue through steps. Own text.
-/
import Derived.Test.YtnnnihjagjfkdaaGreatDoorSts
import Derived.Test.YtnnnihjagjfkdaaGreatDoorHistC
import Derived.Test.YtnnnihjagjfkdaaGreatDoorKeep
import Derived.Test.YtnnnihjagjfkdaaGreatDoorTake
import Derived.Test.YtnnnihjagjfkdaaGreatDoorSync
import Derived.Deep.DeepCutAuto
namespace Go.Proofs.YtnnnihjagjfkdaaGreatDoor
open Go.RowKit
set_option linter.unusedVariables false
/-- The state behind some steps: the queue, its records, the lists of its jobs. -/
def PlayAt (w wr : World) (B b k c n : Nat) (u : Value) : Prop := ∃ q wss vj vw xs, QAt wr B b q vj vw ∧ Below B w wr ∧ Hist q wss c ∧ wss.length ≤ k ∧ n = wss.length + 1 ∧ Sts wr w.heap.size b vj vw u xs (statesV wss)
def RetPlay (B b : Nat) (w : World) (e : Ending) (w' : World) : Prop := ∃ u c n, e = .returned (.tuple #[u, .int .i64 (c : Nat)]) ∧ PlayAt w w' B b 40 c n u
/-- The first job, taken and finished. -/
theorem leased_first {y : Jb} {r : List Jb} {id n i c : Int} (h : LeasedAt (y :: r) id n i c) (hid : y.id = id) (hl : y.lease = n) (hn : n ≠ 0) : i = ((0 : Nat) : Int) ∧ c = 0 := by
  have hy : hasId id y = true := by simp [hasId, hid]
  rcases h with ⟨_, _, h⟩ | ⟨m, hm, h1, h2, h3⟩
  · have := h 0 (by simp)
    simp only [List.getElem_cons_zero, hy] at this
    cases this
  · cases m with
    | zero =>
      rcases h3 with ⟨h4 | h4, _, _⟩ | ⟨_, _, h5, h6⟩
      · exact absurd h4 hn
      · exact absurd hl h4
      · exact ⟨h5, h6⟩
    | succ m =>
      have := h2 0 (by omega)
      simp only [List.getElem_cons_zero, hy] at this
      cases this
/-- What a step knows. -/
structure StepW (w wr : World) (B b k c n : Nat) (u : Value) (q : Que) (wss : List (List (List UInt8))) (vj vw : Value) (xs : List Value) : Prop where
  qa : QAt wr B b q vj vw
  be : Below B w wr
  hi : Hist q wss c
  kk : wss.length ≤ k
  nn : n = wss.length + 1
  st : Sts wr w.heap.size b vj vw u xs (statesV wss)
  hB : B ≤ w.heap.size
theorem StepW.hB2 {w wr : World} {B b k c n : Nat} {u : Value} {q : Que} {wss : List (List (List UInt8))} {vj vw : Value} {xs : List Value} (h : StepW w wr B b k c n u q wss vj vw xs) : B ≤ wr.heap.size := Nat.le_trans h.hB h.be.size
theorem StepW.below {w wr w' : World} {B b k c n : Nat} {u : Value} {q : Que} {wss : List (List (List UInt8))} {vj vw : Value} {xs : List Value} (h : StepW w wr B b k c n u q wss vj vw xs) (hb : Below wr.heap.size wr w') : StepW w w' B b k c n u q wss vj vw xs :=
  ⟨h.qa.below hb, h.be.trans (hb.mono h.hB2), h.hi, h.kk, h.nn, h.st.below hb, h.hB⟩
theorem StepW.at {w wr : World} {B b k c n : Nat} {u : Value} {q : Que} {wss : List (List (List UInt8))} {vj vw : Value} {xs : List Value} (h : StepW w wr B b k c n u q wss vj vw xs) : PlayAt w wr B b (k + 1) c n u := ⟨q, wss, vj, vw, xs, h.qa, h.be, h.hi, by have := h.kk; omega, h.nn, h.st⟩
/-- A further record, the list of the jobs still to be noted. -/
structure StepM (w wr : World) (B b k c n : Nat) (u : Value) (q : Que) (wss : List (List (List UInt8))) (ws : List (List UInt8)) (vj vw : Value) (xs : List Value) : Prop where
  qa : QAt wr B b q vj vw
  be : Below B w wr
  hi : Hist q (wss ++ [ws]) c
  kk : wss.length ≤ k
  nn : n = wss.length + 1
  st : Sts wr w.heap.size b vj vw u xs (statesV wss)
  hB : B ≤ w.heap.size
theorem StepM.hB2 {w wr : World} {B b k c n : Nat} {u : Value} {q : Que} {wss : List (List (List UInt8))} {ws : List (List UInt8)} {vj vw : Value} {xs : List Value} (h : StepM w wr B b k c n u q wss ws vj vw xs) : B ≤ wr.heap.size := Nat.le_trans h.hB h.be.size
theorem StepM.below {w wr w' : World} {B b k c n : Nat} {u : Value} {q : Que} {wss : List (List (List UInt8))} {ws : List (List UInt8)} {vj vw : Value} {xs : List Value} (h : StepM w wr B b k c n u q wss ws vj vw xs) (hb : Below wr.heap.size wr w') : StepM w w' B b k c n u q wss ws vj vw xs :=
  ⟨h.qa.below hb, h.be.trans (hb.mono h.hB2), h.hi, h.kk, h.nn, h.st.below hb, h.hB⟩
theorem StepW.add {w wr w' : World} {B b k c n : Nat} {u : Value} {q q' : Que} {wss : List (List (List UInt8))} {ws : List (List UInt8)} {vj vw vj' vw' : Value} {xs : List Value} (h : StepW w wr B b k c n u q wss vj vw xs) (hq : QAt w' B b q' vj' vw') (ht : Turn b vj vw vj' vw' wr w') (hh : Hist q' (wss ++ [ws]) c) : StepM w w' B b k c n u q' wss ws vj' vw' xs :=
  ⟨hq, h.be.trans (ht.base h.qa h.hB2), hh, h.kk, h.nn, h.st.turn ht, h.hB⟩
/-- The list is noted. -/
theorem StepM.note {w w1 w2 w3 : World} {B b k c n g cap m : Nat} {u v : Value} {q : Que} {wss : List (List (List UInt8))} {ws : List (List UInt8)} {vj vw : Value} {xs : List Value} (h : StepM w w1 B b k c n u q wss ws vj vw xs) (hv : Own w2 w1.heap.size 41 2 encSj v (q.jobs.map showJ)) (hb : Below w1.heap.size w1 w2)
    (hown : Own w3 w.heap.size 29 1 encV (.slice (some ⟨g, 0, none⟩) m cap) (xs ++ [v])) (hg : (w2.alloc (.cells #[v] 29)).grownBy w3 u.ownBlock) (hat : u.ownBlock = some g ∨ g = w2.heap.size + 1) : PlayAt w w3 B b (k + 1) c (n + 1) (.slice (some ⟨g, 0, none⟩) m cap) := by
  have h2 := h.below hb
  have hba := balloc (Below.refl _ w2) (.cells #[v] 29)
  have h3 := h2.below hba
  have hlow := h.be.size
  have hv3 : Own (w2.alloc (.cells #[v] 29)) w.heap.size 41 2 encSj v (q.jobs.map showJ) := (hv.below hba).base hlow
  have hfar : ∀ j, v.ownBlock = some j → ¬ InQ b vj vw j ∧ u.ownBlock ≠ some j := fun j e => by
    have h5 := (hv.blk e).1
    exact ⟨fun e2 => by have := (h.qa.inq e2).2; omega, fun e2 => by have := (h.st.own.blk e2).2; omega⟩
  have hs := h3.st.snoc h3.qa hv3 hfar hown hg (by rw [World.size_alloc]; exact hat)
  rw [← h.hi.states] at hs
  refine ⟨q, wss ++ [ws], vj, vw, xs ++ [v], h3.qa.grown hg h3.st.out, h3.be.grown hg h3.hB2 (fun j e => by have h6 := (h3.st.own.blk e).1; have h7 := h.hB; omega), h.hi, by have := h.kk; simp; omega, by have := h.nn; simp; omega, hs⟩
set_option maxRecDepth 100000 in
set_option maxHeartbeats 8000000 in
theorem play_any (B b : Nat) (os : Option Addr) (steps : List Int) (cs : Nat) (sy : Bool) (w : World) (hq : QAt w B b newQ (.slice none 0 0) (.slice none 0 0)) (hB : B ≤ w.heap.size) (ht : ∀ W, Below B w W → Tabs W) (hst : ∀ W, Below B w W → Flat W 1 encInt os steps) (hl : steps.length ≤ maxLen) :
    Calls Tryz.prog 19 #[.pointer (some ⟨b, 0, none⟩), .slice os steps.length cs, .bool sy] w (RetPlay B b w) := by
  unfold maxLen at hl
  have HTAB := Lib.hid ht
  have HARG := Lib.hid hst
  have HB := Lib.hid hB
  have HQ := Lib.hid hq
  have HJ0 := Lib.hid (jobs_any B b newQ _ _ w hq (by simp [newQ]))
  obtain ⟨ns, hns⟩ : ∃ ns, ns = steps.length := ⟨_, rfl⟩
  have HNS := Lib.hid hns
  rw [← hns]
  rw [← hns] at hl
  clear ht hst hns hB hq
  go_enter Tryz.func19, Tryz.ntmps19
  go_wp2_with fail
  refine HJ0.out.mono ?_
  rintro e w1 ⟨v1, rfl, hv1, hb1⟩
  obtain ⟨o1, c1, rfl, -, -⟩ := hv1.flat (fun _ => rfl)
  obtain ⟨n0, hn0⟩ : ∃ n0, n0 = (newQ.jobs.map showJ).length := ⟨_, rfl⟩
  rw [← hn0] at hv1
  rw [← hn0]
  clear hn0
  have HQ1 := Lib.hid (HQ.out.below hb1)
  have HS1 : Hid (Sts (w1.alloc (.cells #[.slice o1 n0 c1] 29)) w.heap.size b (.slice none 0 0) (.slice none 0 0) (.slice (some ⟨w1.heap.size, 0, none⟩) 1 1) [.slice o1 n0 c1] (statesV [])) := by
    rw [states_new hist_new]
    exact Sts.one HQ1.out hv1 (fun g e e2 => by have h1 := (HQ.out.inq e2).2; have h2 := (hv1.blk e).1; omega) hb1.size
  have HP0 : Hid (PlayAt w (w1.alloc (.cells #[.slice o1 n0 c1] 29)) B b 0 0 1 (.slice (some ⟨w1.heap.size, 0, none⟩) 1 1)) :=
    ⟨newQ, [], _, _, _, HQ1.out.below (balloc (Below.refl _ _) _), (balloc hb1 _).mono HB.out, hist_new, by simp, rfl, HS1.out⟩
  clear HQ1 HS1 hv1 hb1 HJ0 HQ
  go_upto_region 3 with fail
  generalize w1.alloc (.cells #[.slice o1 n0 c1] 29) = w2 at *
  go_wp2
  go_loopw [8, 9, 10] (fun u cv i wr => ∃ k c n g cap : Nat, k ≤ 40 ∧ k ≤ ns ∧ u = .slice (some ⟨g, 0, none⟩) n cap ∧ cv = .int .i64 c ∧ i = .int .i64 k ∧ (1 ≤ n ∧ n ≤ 41) ∧ Hid (PlayAt w wr B b k c n (.slice (some ⟨g, 0, none⟩) n cap))) (fun _ _ i _ => 41 - (intOf i).toNat)
  case atStart => exact ⟨0, 0, 1, _, 1, by omega, by omega, rfl, rfl, rfl, ⟨by omega, by omega⟩, HP0.out⟩
  case round =>
    clear HP0
    obtain ⟨k, c, n, g, cap, hk40, hk, rfl, rfl, rfl, ⟨n1, n41⟩, HR⟩ := hrel
    by_cases hlt : k < ns ∧ k < 40
    · obtain ⟨hlt1, hlt2⟩ := hlt
      have hkx : k < steps.length := by have := HNS.out; omega
      obtain ⟨q, wss, vj, vw, xs, hq, hb, hh, hwk, hn, hs⟩ := HR.out
      have HX : Hid (StepW w wr B b k c n (.slice (some ⟨g, 0, none⟩) n cap) q wss vj vw xs) := ⟨hq, hb, hh, hwk, hn, hs, HB.out⟩
      obtain ⟨bs, offs, rfl, s0⟩ := (HARG.out wr hb).int hkx
      have kd : (k : Int) < (ns : Int) := by omega
      have k0 : (0 : Int) ≤ (k : Int) := by omega
      have k6 : (k : Int) < 40 := by omega
      have HWI := Lib.hid (fun W => within_any (steps[k]'hkx) 0 999 W (by decide) (by decide) (by decide))
      obtain ⟨z, hz⟩ : ∃ z, z = steps[k]'hkx := ⟨_, rfl⟩
      rw [← hz] at s0 HWI
      have hwb := wi_bd z 0 999 (by decide)
      obtain ⟨x, hx⟩ : ∃ x, x = wi z 0 999 := ⟨_, rfl⟩
      rw [← hx] at HWI hwb
      obtain ⟨x0, x1⟩ := hwb
      have hwl : q.writes.length ≤ 40 := by have := hh.wl; omega
      have HWR := Lib.hid (writes_any B b q vj vw wr hq (by omega))
      clear hq hb hh hs hn hz hx HR hwk
      go_wp2_with fail
      refine (HWI.out _).mono ?_
      rintro e w' ⟨rfl, rfl⟩
      go_wp2_with fail
      refine HWR.out.mono ?_
      rintro e w3 ⟨v3, rfl, hv3, hb3⟩
      obtain ⟨o3, c3, rfl, -, -⟩ := hv3.flat (fun _ => rfl)
      have HX3 := Lib.hid (HX.out.below hb3)
      obtain ⟨m, hm⟩ : ∃ m, m = q.writes.length := ⟨_, rfl⟩
      have HM := Lib.hid hm
      rw [← hm]
      rw [← hm] at hwl
      clear hm hv3 hb3 HWR HX HWI
      go_upto_region 9 with fail
      obtain ⟨r, hr⟩ : ∃ r, r = x % 8 := ⟨_, rfl⟩
      rw [← hr]
      have r0 : 0 ≤ r ∧ r < 8 := by omega
      clear hr
      go_upto_if 39 with fail
      go_cut [39] from 41 to 43 (fun s39 wx => ∃ p : Bool, s39 = .bool p ∧ (p = true ↔ r < 4) ∧ w3 = wx)
      case first =>
        have hk : r = 0 ∨ r = 1 ∨ r = 2 ∨ r = 3 ∨ r = 4 ∨ r = 5 ∨ r = 6 ∨ r = 7 := by omega
        clear r0
        rcases hk with rfl | rfl | rfl | rfl | rfl | rfl | rfl | rfl
        all_goals
          go_wp2_with fail
          go_meet
          refine ⟨_, rfl, by decide, rfl⟩
      case rest =>
        obtain ⟨p, rfl, hp, rfl⟩ := hcut
        have hnk : n ≤ k + 1 := by have h1 := HX3.out.nn; have h2 := HX3.out.kk; omega
        have HFT : Hid (q.size ≤ 20000 ∧ q.jobs.length ≤ 40 ∧ 1 ≤ q.next ∧ q.next ≤ 41 ∧ wss.length ≤ 40) := by
          have h1 := HX3.out.hi.size
          have h2 := HX3.out.hi.fit
          have h3 := HX3.out.hi.jl
          have h4 := HX3.out.hi.nx
          have h5 := HX3.out.kk
          exact ⟨by omega, by omega, by omega, by omega, by omega⟩
        cases p with
        | true =>
          have tb : 0 ≤ x / 8 ∧ x / 8 ≤ 200 := by omega
          have t0 : 0 ≤ x / 8 % 5 ∧ x / 8 % 5 ≤ 4 := by omega
          have HPU : Hid (∀ s : ByteArray, s.size ≤ 256 → Calls Tryz.prog 15 #[.pointer (some ⟨b, 0, none⟩), .string s] w3 (RetPut B b (putQ q s) q.next vj vw w3)) := fun s hs => by
            obtain ⟨f1, f2, f3, f4, f5⟩ := HFT.out
            have f6 := putL_len q.next s (by omega) (by omega) hs
            exact put_any B b q vj vw s w3 HX3.out.qa (HX3.out.hi.ok (by omega)) HX3.out.hB2 (HTAB.out w3 HX3.out.be) hs (by omega) (by omega) (by rw [lineV_len]; omega)
          have HRC : Hid (∀ (s : ByteArray) vj' vw' W, s.size ≤ 256 → QAt W B b (putQ q s) vj' vw' → Turn b vj vw vj' vw' w3 W → StepM w W B b k c n (.slice (some ⟨g, 0, none⟩) n cap) (putQ q s) wss (putL q.next s) vj' vw' xs) := fun s vj' vw' W hs hq ht =>
            HX3.out.add hq ht (HX3.out.hi.put (by have := HFT.out; omega) hs)
          obtain ⟨S, hS⟩ : ∃ S : ByteArray, S = (ByteArray.mk #[106, 111, 98, 32]).extract 0 (x / 8 % 5).toNat := ⟨_, rfl⟩
          have hsz : S.size ≤ 256 := by
            rw [hS, ByteArray.size_extract]
            have : (ByteArray.mk #[106, 111, 98, 32]).size = 4 := rfl
            omega
          have HPS := Lib.hid (HPU.out S hsz)
          have HSS := Lib.hid hS
          have HSZ := Lib.hid hsz
          clear r0 hp hS hsz HPU
          go_wp2_with fail
          rw [← HSS.out]
          refine HPS.out.mono ?_
          rintro e w4 ⟨vj4, vw4, rfl, hq4, ht4⟩
          have HM4 := Lib.hid (HRC.out S vj4 vw4 w4 HSZ.out hq4 ht4)
          clear hq4 ht4 HPS HRC
          obtain ⟨q4, hq4⟩ : ∃ q4, q4 = putQ q S := ⟨_, rfl⟩
          rw [← hq4] at HM4
          have hwl4 : q4.writes.length = m + 1 := by rw [hq4, HM.out]; show (q.writes ++ [_]).length = _; simp
          clear hq4
          have HXL := Lib.hid (show xs.length = n from by rw [HM4.out.st.len, statesV_len]; exact HM4.out.nn.symm)
          have HWR4 := Lib.hid (writes_any B b q4 vj4 vw4 w4 HM4.out.qa (by rw [hwl4]; omega))
          have HJL := Lib.hid (show q4.jobs.length ≤ 64 from by have h1 := HM4.out.hi.jl; have h2 := HM4.out.kk; rw [List.length_append, List.length_singleton] at h1; omega)
          have HWL4 := Lib.hid hwl4
          clear hwl4
          go_wp2_with fail
          refine HWR4.out.mono ?_
          rintro e w5 ⟨v5, rfl, hv5, hb5⟩
          obtain ⟨o5, c5, rfl, -, -⟩ := hv5.flat (fun _ => rfl)
          have HM5 := Lib.hid (HM4.out.below hb5)
          rw [HWL4.out]
          have HJ5 := Lib.hid (jobs_any B b q4 vj4 vw4 w5 HM5.out.qa HJL.out)
          have e5 : (m : Int) < ((m + 1 : Nat) : Int) := by omega
          clear hv5 hb5 HWR4 HM4
          go_wp2_with fail
          refine HJ5.out.mono ?_
          rintro e w6 ⟨v6, rfl, hv6, hb6⟩
          obtain ⟨o6, c6, rfl, -, -⟩ := hv6.flat (fun _ => rfl)
          obtain ⟨n6, hn6⟩ : ∃ n6, n6 = (q4.jobs.map showJ).length := ⟨_, rfl⟩
          rw [← hn6] at hv6
          rw [← hn6]
          have HV6 := Lib.hid hv6
          have HB6 := Lib.hid hb6
          have HOW := Lib.hid ((HM5.out.st.below hb6).own.below (balloc (Below.refl _ w6) (.cells #[.slice o6 n6 c6] 29)))
          have HSZ : Hid (w.heap.size ≤ (w6.alloc (.cells #[.slice o6 n6 c6] 29)).heap.size) := by show _ ≤ _; have h1 := HM5.out.be.size; have h2 := hb6.size; rw [World.size_alloc]; omega
          have HNEW : Hid (∀ j u, (encV (.slice o6 n6 c6))[j]? = some u → (w6.alloc (.cells #[.slice o6 n6 c6] 29)).cell? ((⟨w6.heap.size, 0, none⟩ : Addr).add j) = some u) := World.news_of_block (cs := #[.slice o6 n6 c6]) (t := 29) (fr := (0, 0)) (heap_alloc_new w6 _)
          clear hv6 hb6 hn6 HJ5
          go_wp2_with (at_builtin; refine wpList_app1L rfl (.tmp 79) (.tmp 82) 44 rfl elemRowS Tryz.underlying44 w.heap.size _ xs encV rfl HOW.out (.slice o6 n6 c6) ⟨w6.heap.size, 0, none⟩ 1 rfl rfl HNEW.out ?c1 ?c2 ?c3 ?c4 ?_)
          case c1 => intro u hu; obtain rfl : u = .slice o6 n6 c6 := (by simpa [encV] using hu); rfl
          case c2 => rw [HXL.out]; omega
          case c3 => rw [HXL.out]; unfold maxLen; omega
          case c4 => exact HSZ.out
          intro g7 cap7 w7 hown7 hg7 hat7
          have HNX := Lib.hid (HM5.out.note HV6.out HB6.out hown7 hg7 hat7)
          rw [HXL.out] at HNX
          rw [HXL.out]
          clear hown7 hg7 hat7 HOW HV6 HM5 HNEW HB6
          go_wp2
          go_roundw
          case rel => exact ⟨k + 1, c, n + 1, g7, cap7, by omega, by omega, rfl, rfl, by go_num, ⟨by omega, by omega⟩, HNX.out⟩
          case measure => simp [intOf]; omega
        | false =>
          have r4 : ¬ r < 4 := fun h => by have := hp.2 h; cases this
          clear hp
          go_upto_region 14 with fail
          go_upto_if 50 with fail
          go_cut [50] from 52 to 52 (fun s50 wx => ∃ p : Bool, s50 = .bool p ∧ (p = true ↔ r < 6) ∧ w3 = wx)
          case first =>
            have hk : r = 4 ∨ r = 5 ∨ r = 6 ∨ r = 7 := by omega
            clear r0 r4
            rcases hk with rfl | rfl | rfl | rfl
            all_goals
              go_wp2_with fail
              go_meet
              refine ⟨_, rfl, by decide, rfl⟩
          case rest =>
            obtain ⟨p, rfl, hp, rfl⟩ := hcut
            cases p with
            | true =>
              clear hp r4 r0
              obtain ⟨jobs, hjobs⟩ : ∃ jobs, jobs = q.jobs := ⟨_, rfl⟩
              cases jobs with
              | nil =>
                have HTK := Lib.hid (take_none B b q vj vw 5 w3 HX3.out.qa (by decide) (by decide) (by rw [← hjobs]; decide) (fun k hk => by rw [← hjobs] at hk; cases hk))
                clear hjobs
                go_wp2_with fail
                refine HTK.out.mono ?_
                rintro e w4 ⟨rfl, hq4, ht4⟩
                have HX4 : Hid (StepW w (w4.alloc (.cells #[.int .i64 0, .string ⟨#[]⟩] 41)) B b k c n (.slice (some ⟨g, 0, none⟩) n cap) q wss vj vw xs) :=
                  StepW.below ⟨hq4, HX3.out.be.trans (ht4.base HX3.out.qa HX3.out.hB2), HX3.out.hi, HX3.out.kk, HX3.out.nn, HX3.out.st.turn ht4, HX3.out.hB⟩ (balloc (Below.refl _ _) _)
                clear hq4 ht4 HTK
                go_upto_region 23 with fail
                generalize w4.alloc (.cells #[.int .i64 0, .string ⟨#[]⟩] 41) = w5 at *
                have HWR5 := Lib.hid (writes_any B b q vj vw w5 HX4.out.qa (by rw [← HM.out]; omega))
                go_wp2_with fail
                refine HWR5.out.mono ?_
                rintro e w6 ⟨v6, rfl, hv6, hb6⟩
                obtain ⟨o6, c6, rfl, -, -⟩ := hv6.flat (fun _ => rfl)
                have HNX := Lib.hid (HX4.out.below hb6).at
                rw [← HM.out]
                clear hv6 hb6 HWR5
                go_wp2
                go_roundw
                case rel => exact ⟨k + 1, c, n, g, cap, by omega, by omega, rfl, rfl, by go_num, ⟨by omega, by omega⟩, HNX.out⟩
                case measure => simp [intOf]; omega
              | cons x1 rest =>
                have hjobs2 := hjobs.symm
                have hql : 0 < q.jobs.length := by rw [hjobs2]; simp
                have hq0 : q.jobs[0]'hql = x1 := by simp only [hjobs2, List.getElem_cons_zero]
                have h1 := HX3.out.hi.ls
                have h2 := HX3.out.hi.nw
                have h5 := HX3.out.kk
                have hid := HX3.out.hi.ids.low 0 hql
                rw [hq0] at hid
                have hnx := HX3.out.hi.nx
                obtain ⟨f1, f2, f3, f4, f5⟩ := HFT.out
                have HTK0 := take_some B b q vj vw 5 w3 HX3.out.qa (by decide) (by decide) (by omega) 0 hql (by rw [hq0]; exact HX3.out.hi.zero x1 (by rw [hjobs2]; simp)) (fun k hk => by omega) h1.1 (by omega) (by omega) (by omega)
                rw [hq0] at HTK0
                obtain ⟨y, hy⟩ : ∃ y, y = leaseJ x1 (q.leases + 1) (q.now + 5) := ⟨_, rfl⟩
                rw [← hy] at HTK0
                obtain ⟨q1, hq1⟩ : ∃ q1, q1 = takeQ q 0 y := ⟨_, rfl⟩
                rw [← hq1] at HTK0
                have hq1e : q1 = { q with jobs := y :: rest, leases := q.leases + 1 } := by rw [hq1]; unfold takeQ; rw [hjobs2]; rfl
                have hyi : y.id = x1.id := by rw [hy]; rfl
                have hyl : y.lease = q.leases + 1 := by rw [hy]; rfl
                have HTK := Lib.hid HTK0
                have hok1 : QOk q1 := by
                  have ho := HX3.out.hi.ok (by omega)
                  rw [hq1e]
                  exact ⟨ho.area, ho.ep, ho.nx, ⟨by show 0 ≤ q.leases + 1; omega, by show q.leases + 1 ≤ _; omega⟩, ho.nw, ho.sz, ho.sq, ho.wl, by show (y :: rest).length ≤ 64; rw [hjobs2] at f2; simp at f2 ⊢; omega⟩
                have hdl := doneL_len x1.id (by omega) (by omega)
                have HDN : Hid (∀ W, QAt W B b q1 vj vw → Below B w W → Calls Tryz.prog 34 #[.pointer (some ⟨b, 0, none⟩), .int .i64 x1.id, .int .i64 (q.leases + 1)] W (RetDone B b (doneQ q1 x1.id 0) 0 vj vw W)) := fun W hqW hbW => by
                  refine done_yes B b q1 vj vw x1.id (q.leases + 1) 0 W hqW hok1 (Nat.le_trans HX3.out.hB hbW.size) (HTAB.out W hbW) ?_ ?_ ?_ (by omega) (by omega) ?_
                  · exact hok1.jl
                  · rw [hq1e]; show 0 < (y :: rest).length; simp
                  · intro i c' hL
                    rw [hq1e] at hL
                    exact leased_first hL hyi hyl (by omega)
                  · rw [lineV_len, hq1e]
                    show q.size + _ ≤ 65536
                    omega
                have HHD : Hid (Hist (doneQ q1 x1.id 0) (wss ++ [doneL x1.id]) c) := HX3.out.hi.done (by omega) hjobs2 hyi hq1e
                have HWL : Hid ((doneQ q1 x1.id 0).writes.length = m + 1) := by
                  show (q1.writes ++ [_]).length = _
                  rw [HM.out, hq1e]
                  simp
                clear hjobs hjobs2 hql hq0 h1 h2 h5 hid hnx f1 f2 f3 f4 f5 HTK0 hy hq1 hq1e hyi hyl hok1 hdl
                go_wp2_with fail
                refine HTK.out.mono ?_
                rintro e w4 ⟨rfl, hq4, ht4⟩
                have hba := balloc (Below.refl _ w4) (.cells #[.int .i64 x1.id, .string x1.text] 41)
                have HQ5 := Lib.hid (hq4.below hba)
                have HT5 := Lib.hid (ht4.below hba)
                have m0 : (w4.alloc (.cells #[.int .i64 x1.id, .string x1.text] 41)).cell? ⟨w4.heap.size, 0, none⟩ = some (.int .i64 x1.id) := by rw [cell_of_row _ w4.heap.size 0 _ _ (0, 0) (heap_alloc_new w4 _)]; rfl
                clear hq4 ht4 hba HTK
                have HB5 : Hid (Below B w (w4.alloc (.cells #[.int .i64 x1.id, .string x1.text] 41))) := HX3.out.be.trans (HT5.out.base HX3.out.qa HX3.out.hB2)
                go_wp2_with fail
                generalize w4.alloc (.cells #[.int .i64 x1.id, .string x1.text] 41) = w5 at *
                refine (HDN.out _ HQ5.out HB5.out).mono ?_
                rintro e w6 ⟨vj6, vw6, rfl, hq6, ht6⟩
                have HM4 := Lib.hid (HX3.out.add hq6 (HT5.out.trans ht6) HHD.out)
                clear hq6 ht6 HDN HHD HQ5 HT5 HB5 m0
                generalize doneQ q1 x1.id 0 = q4 at *
                obtain ⟨ws, hws⟩ : ∃ ws, ws = doneL x1.id := ⟨_, rfl⟩
                rw [← hws] at HM4
                clear hws
                have hwl4 := HWL.out
                have HXL := Lib.hid (show xs.length = n from by rw [HM4.out.st.len, statesV_len]; exact HM4.out.nn.symm)
                have HWR4 := Lib.hid (writes_any B b q4 vj6 vw6 w6 HM4.out.qa (by rw [hwl4]; omega))
                have HJL := Lib.hid (show q4.jobs.length ≤ 64 from by have h1 := HM4.out.hi.jl; have h2 := HM4.out.kk; rw [List.length_append, List.length_singleton] at h1; omega)
                have HWL4 := Lib.hid hwl4
                clear hwl4
                go_wp2_with fail
                refine HWR4.out.mono ?_
                rintro e w7 ⟨v5, rfl, hv5, hb5⟩
                obtain ⟨o5, c5, rfl, -, -⟩ := hv5.flat (fun _ => rfl)
                have HM5 := Lib.hid (HM4.out.below hb5)
                rw [HWL4.out]
                have HJ5 := Lib.hid (jobs_any B b q4 vj6 vw6 w7 HM5.out.qa HJL.out)
                have e5 : (m : Int) < ((m + 1 : Nat) : Int) := by omega
                clear hv5 hb5 HWR4 HM4
                go_wp2_with fail
                refine HJ5.out.mono ?_
                rintro e w8 ⟨v6, rfl, hv6, hb6⟩
                obtain ⟨o6, c6, rfl, -, -⟩ := hv6.flat (fun _ => rfl)
                obtain ⟨n6, hn6⟩ : ∃ n6, n6 = (q4.jobs.map showJ).length := ⟨_, rfl⟩
                rw [← hn6] at hv6
                rw [← hn6]
                have HV6 := Lib.hid hv6
                have HB6 := Lib.hid hb6
                have HOW := Lib.hid ((HM5.out.st.below hb6).own.below (balloc (Below.refl _ w8) (.cells #[.slice o6 n6 c6] 29)))
                have HSZ : Hid (w.heap.size ≤ (w8.alloc (.cells #[.slice o6 n6 c6] 29)).heap.size) := by show _ ≤ _; have h1 := HM5.out.be.size; have h2 := hb6.size; rw [World.size_alloc]; omega
                have HNEW : Hid (∀ j u, (encV (.slice o6 n6 c6))[j]? = some u → (w8.alloc (.cells #[.slice o6 n6 c6] 29)).cell? ((⟨w8.heap.size, 0, none⟩ : Addr).add j) = some u) := World.news_of_block (cs := #[.slice o6 n6 c6]) (t := 29) (fr := (0, 0)) (heap_alloc_new w8 _)
                clear hv6 hb6 hn6 HJ5
                go_wp2_with (at_builtin; refine wpList_app1L rfl (.tmp 79) (.tmp 82) 44 rfl elemRowS Tryz.underlying44 w.heap.size _ xs encV rfl HOW.out (.slice o6 n6 c6) ⟨w8.heap.size, 0, none⟩ 1 rfl rfl HNEW.out ?c1 ?c2 ?c3 ?c4 ?_)
                case c1 => intro u hu; obtain rfl : u = .slice o6 n6 c6 := (by simpa [encV] using hu); rfl
                case c2 => rw [HXL.out]; omega
                case c3 => rw [HXL.out]; unfold maxLen; omega
                case c4 => exact HSZ.out
                intro g7 cap7 w9 hown7 hg7 hat7
                have HNX := Lib.hid (HM5.out.note HV6.out HB6.out hown7 hg7 hat7)
                rw [HXL.out] at HNX
                rw [HXL.out]
                clear hown7 hg7 hat7 HOW HV6 HM5 HNEW HB6
                go_wp2
                go_roundw
                case rel => exact ⟨k + 1, c, n + 1, g7, cap7, by omega, by omega, rfl, rfl, by go_num, ⟨by omega, by omega⟩, HNX.out⟩
                case measure => simp [intOf]; omega
            | false =>
              have r6 : ¬ r < 6 := fun h => by have := hp.2 h; cases this
              have hk : r = 6 ∨ r = 7 := by omega
              have HNX := Lib.hid HX3.out.at
              clear hp r0 r4 r6
              rcases hk with rfl | rfl
              · cases sy with
                | true =>
                  have HSY := Lib.hid (sync_any B b q vj vw w3 HX3.out.qa (by rw [← HM.out]; omega) HX3.out.hi.areas (by have := HX3.out.hi.small (by have := HFT.out; omega); omega))
                  go_wp2_with fail
                  refine HSY.out.mono ?_
                  rintro e w4 ⟨rfl, hq4, ht4⟩
                  have hsy : Hist (syncQ q) wss (n - 1) := by
                    have e : n - 1 = wss.length := by have := HX3.out.nn; omega
                    rw [e]
                    exact HX3.out.hi.sync
                  have hkw : wss.length ≤ k + 1 := by have := HX3.out.kk; omega
                  have HNS2 : Hid (PlayAt w w4 B b (k + 1) (n - 1) n (.slice (some ⟨g, 0, none⟩) n cap)) :=
                    ⟨syncQ q, wss, _, _, xs, hq4, HX3.out.be.trans (ht4.base HX3.out.qa HX3.out.hB2), hsy, hkw, HX3.out.nn, HX3.out.st.turn ht4⟩
                  clear hsy hkw
                  have en : (n : Int) - 1 = ((n - 1 : Nat) : Int) := by omega
                  clear hq4 ht4 HSY HNX
                  go_wp2
                  go_roundw
                  case rel => exact ⟨k + 1, n - 1, n, g, cap, by omega, by omega, rfl, by rw [← en], by go_num, ⟨by omega, by omega⟩, HNS2.out⟩
                  case measure => simp [intOf]; omega
                | false =>
                  go_wp2
                  go_roundw
                  case rel => exact ⟨k + 1, c, n, g, cap, by omega, by omega, rfl, rfl, by go_num, ⟨by omega, by omega⟩, HNX.out⟩
                  case measure => simp [intOf]; omega
              · go_wp2
                go_roundw
                case rel => exact ⟨k + 1, c, n, g, cap, by omega, by omega, rfl, rfl, by go_num, ⟨by omega, by omega⟩, HNX.out⟩
                case measure => simp [intOf]; omega
    · have HFI : Hid (RetPlay B b w (.returned (.tuple #[.slice (some ⟨g, 0, none⟩) n cap, .int .i64 (c : Nat)])) wr) := by
        obtain ⟨q, wss, vj, vw, xs, h1, h2, h3, h4, h5, h6⟩ := HR.out
        exact ⟨_, c, n, rfl, q, wss, vj, vw, xs, h1, h2, h3, by omega, h5, h6⟩
      by_cases h1 : k < ns
      · have h2 : k = 40 := by
          by_cases e : k = 40
          · exact e
          · exact absurd ⟨h1, by omega⟩ hlt
        subst h2
        clear hlt HR
        go_wp2
        go_ret2
        exact HFI.out
      · obtain rfl : ns = k := by omega
        clear hlt HR
        go_wp2
        go_ret2
        exact HFI.out
end Go.Proofs.YtnnnihjagjfkdaaGreatDoor
