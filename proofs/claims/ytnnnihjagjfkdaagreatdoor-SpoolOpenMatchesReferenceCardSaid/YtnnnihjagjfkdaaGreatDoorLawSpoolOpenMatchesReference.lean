/-
  SpoolOpenMatchesReference: the law returns true for every input, and leaves its arguments as they were. The eight variables that its road names hold what the program's text lays (the given card ties them). No condition beyond the given statement.
-/
import Derived.Test.YtnnnihjagjfkdaaGreatDoorRefA
import Derived.Test.YtnnnihjagjfkdaaGreatDoorRefD
import Derived.Test.YtnnnihjagjfkdaaGreatDoorCards
import Derived.Test.YtnnnihjagjfkdaaGreatDoorTie
import Derived.Test.YtnnnihjagjfkdaaGreatDoorBase
import Derived.Test.YtnnnihjagjfkdaaGreatDoorTabO
import Derived.Test.YtnnnihjagjfkdaaGreatDoorBulk
namespace Go.Proofs.YtnnnihjagjfkdaaGreatDoor
open Go.RowKit
set_option linter.unusedVariables false
theorem run_neqD (a b s t : ByteArray) (w : World) (r : Bool) (h : r = true ↔ (a = b ∧ s = t)) : (binOp .neq 23 (.agg #[.string a, .string s]) (.agg #[.string b, .string t])).run Tryz.prog w = .ok (.bool (!r)) w := by
  go_simp
  by_cases h1 : a.toList = b.toList
  · by_cases h2 : s.toList = t.toList
    · rw [if_pos h1, if_pos h2, h.2 ⟨toList_inj.1 h1, toList_inj.1 h2⟩]; rfl
    · have e : r = false := by
        cases r with
        | false => rfl
        | true => exact absurd (by rw [(h.1 rfl).2]) h2
      rw [if_pos h1, if_neg h2, e]; rfl
  · have e : r = false := by
      cases r with
      | false => rfl
      | true => exact absurd (by rw [(h.1 rfl).1]) h1
    rw [if_neg h1, e]; rfl
def RetW0 (w : World) (e : Ending) (w' : World) : Prop := ∃ o c, e = .returned (.slice o 0 c) ∧ Below w.heap.size w w'
theorem writes_none (B b : Nat) (q : Que) (vj vw : Value) (w : World) (hq : QAt w B b q vj vw) (hw : q.writes = []) :
    Calls Tryz.prog 14 #[.pointer (some ⟨b, 0, none⟩)] w (RetW0 w) := by
  refine (writes_any B b q vj vw w hq (by rw [hw]; decide)).mono fun e w' h => ?_
  obtain ⟨v, rfl, hown, hb⟩ := h
  obtain ⟨o, c, rfl, -, -⟩ := hown.flat (fun _ => rfl)
  exact ⟨o, c, by rw [hw]; rfl, hb⟩
def xB : ByteArray := ⟨#[120]⟩
/-- What Put "x" answers. -/
def RetX (base : Nat) (q : Que) (w : World) (e : Ending) (w' : World) : Prop := Below base w w' ∧
  (((q.jobs.length = 64 ∨ 1073741824 < q.next) ∧ e = .returned (.tuple #[.int .i64 0, .int .i64 16])) ∨
   (¬ (q.jobs.length = 64 ∨ 1073741824 < q.next) ∧ ((65536 < q.size + 60 ∧ e = .returned (.tuple #[.int .i64 0, .int .i64 16]) ∧ Below w.heap.size w w') ∨ e = .returned (.tuple #[.int .i64 q.next, .int .i64 0]))))
theorem putX_any (b base : Nat) (q : Que) (vj vw : Value) (w : World) (hq : QAt w b b q vj vw) (hok : QOk q) (hbb : base ≤ b) (ht : Tabs w) :
    Calls Tryz.prog 15 #[.pointer (some ⟨b, 0, none⟩), .string xB] w (RetX base q w) := by
  have hlt := hq.lt
  by_cases h1 : q.jobs.length = 64 ∨ 1073741824 < q.next
  · refine (put_full b b q vj vw xB w hq (by decide) hok.jl hok.nx.1 h1).mono fun e w' h => ?_
    obtain ⟨rfl, hb⟩ := h
    exact ⟨hb.mono (by omega), .inl ⟨h1, rfl⟩⟩
  · have hj : q.jobs.length < 64 := by have := hok.jl; omega
    have hn : q.next ≤ 1073741824 := by omega
    by_cases h2 : q.size + (lineV q.epoch q.seq (putL q.next xB)).length ≤ 65536
    · refine (put_any b b q vj vw xB w hq hok (by omega) ht (by decide) hj hn h2).mono fun e w' h => ?_
      obtain ⟨vj', vw', rfl, hq', ht'⟩ := h
      exact ⟨(ht'.base hq (by omega)).mono hbb, .inr ⟨h1, .inr rfl⟩⟩
    · refine (put_nofit b b q vj vw xB w hq hok ht (by decide) hj hn (by omega)).mono fun e w' h => ?_
      obtain ⟨rfl, hb⟩ := h
      have h3 := putX_len q.epoch q.seq q.next hok.nx.1 hn
      have h4 : (lineV q.epoch q.seq (putL q.next xB)).length ≤ 60 := h3
      exact ⟨hb.mono (by omega), .inr ⟨h1, .inl ⟨by omega, rfl, hb⟩⟩⟩
set_option maxRecDepth 100000 in
set_option maxHeartbeats 8000000 in
theorem openref_any (a b : ByteArray) (w : World) (ht : Tabz w) :
    Calls Tryz.prog 3 #[.agg #[.string a, .string b]] w (fun e w' => e = .returned (.bool true) ∧ Below w.heap.size w w') := by
  obtain ⟨W1, hW1⟩ : ∃ W1, W1 = w.alloc (.cells #[.string a, .string b] 23) := ⟨_, rfl⟩
  have hb1 : Below w.heap.size w W1 := by rw [hW1]; exact balloc (Below.refl _ w) _
  have hz1 : W1.heap.size = w.heap.size + 1 := by rw [hW1]; exact World.size_alloc _ _
  have c0 : W1.cell? ⟨w.heap.size, 0, none⟩ = some (.string a) := by rw [hW1, cell_of_row _ w.heap.size 0 _ _ (0, 0) (heap_alloc_new w _)]; rfl
  have c1 : W1.cell? ⟨w.heap.size, 1, none⟩ = some (.string b) := by rw [hW1, cell_of_row _ w.heap.size 1 _ _ (0, 0) (heap_alloc_new w _)]; rfl
  have HTB : Hid (∀ W, Below w.heap.size w W → Tabz W) := fun W hb => ht.below hb
  have HQK := Lib.hid (queues4_any W1 (HTB.out W1 hb1).tabs)
  have HB1 := Lib.hid hb1
  clear hb1 ht
  go_enter Tryz.func3, Tryz.ntmps3
  go_upto_region 1 with fail
  rw [← hW1]
  clear hW1
  go_wp2_with fail
  refine HQK.out.mono ?_
  rintro e w2 ⟨rfl, hb2⟩
  have HB2 := Lib.hid (bthen HB1.out hb2)
  have c0 := keepCell hb2 c0
  have c1 := keepCell hb2 c1
  have HOP := Lib.hid (open_any a b w2 (HTB.out w2 HB2.out))
  clear hb2 HQK
  go_wp2_with fail
  refine HOP.out.mono ?_
  intro e w3 hret
  obtain ⟨hop, hb3⟩ := hret
  have c0 := keepCell hb3 c0
  have c1 := keepCell hb3 c1
  have HB3 := Lib.hid (bthen HB2.out hb3)
  have HRS := Lib.hid (restored_of area_any a b w3)
  rcases hop with ⟨c, hov, rfl⟩ | ⟨q, qb, vj, vw, hov, rfl, hold, hq⟩
  · have hc := openV_codes hov
    have t1 : (c != 0) = true := by simpa using hc
    have t2 : (c == c) = true := by simp
    have HOV := Lib.hid hov
    clear hov hb3 hc HOP
    go_wp2_with fail
    refine HRS.out.mono ?_
    intro e w4 hret
    obtain ⟨hb4, (⟨c2, hov2, rfl⟩ | ⟨q2, oj, cj, hov2, rfl, hf⟩)⟩ := hret
    · rw [HOV.out] at hov2
      obtain rfl := Except.error.inj hov2
      have HF := Lib.hid (bthen HB3.out hb4)
      clear hov2 hb4 HRS
      go_wp2_with fail
      go_ret
      exact ⟨rfl, balloc HF.out _⟩
    · rw [HOV.out] at hov2
      cases hov2
  · have HOV := Lib.hid hov
    have HQ := Lib.hid hq
    have hqb : w.heap.size ≤ qb := by have := HB2.out.size; omega
    clear hov hb3 hq HOP
    go_wp2_with fail
    refine HRS.out.mono ?_
    intro e w4 hret
    obtain ⟨hb4, (⟨c2, hov2, rfl⟩ | ⟨q2, oj, cj, hov2, rfl, hf⟩)⟩ := hret
    · rw [HOV.out] at hov2
      cases hov2
    · rw [HOV.out] at hov2
      obtain rfl := Except.ok.inj hov2
      clear hov2 HRS
      obtain ⟨W5, hW5⟩ : ∃ W5, W5 = w4.alloc (.cells #[.string q.a0, .string q.a1] 23) := ⟨_, rfl⟩
      have hb5 : Below w4.heap.size w4 W5 := by rw [hW5]; exact balloc (Below.refl _ w4) _
      have hz5 : W5.heap.size = w4.heap.size + 1 := by rw [hW5]; exact World.size_alloc _ _
      have e0 : W5.cell? ⟨w4.heap.size, 0, none⟩ = some (.string q.a0) := by rw [hW5, cell_of_row _ w4.heap.size 0 _ _ (0, 0) (heap_alloc_new w4 _)]; rfl
      have e1 : W5.cell? ⟨w4.heap.size, 1, none⟩ = some (.string q.a1) := by rw [hW5, cell_of_row _ w4.heap.size 1 _ _ (0, 0) (heap_alloc_new w4 _)]; rfl
      have HB5 := Lib.hid (bthen (bthen HB3.out hb4) hb5)
      have HQ5 := Lib.hid ((HQ.out.below hb4).below hb5)
      have HF5 := Lib.hid (hf.below hb5)
      obtain ⟨hok, hsz, hwr⟩ := open_sizes HOV.out
      have hjl := hok.jl
      have HOK := Lib.hid hok
      have HSZ := Lib.hid hsz
      have HLN0 : Hid (q.a0.size ≤ 65536 ∧ q.a1.size ≤ 65536) := by
        obtain ⟨-, g1, g2⟩ := open_again HOV.out
        have hle : ¬ (65536 < a.data.toList.length ∨ 65536 < b.data.toList.length) := fun h => by
          have := openV_large h
          rw [HOV.out] at this
          cases this
        exact ⟨by omega, by omega⟩
      obtain ⟨n, hn⟩ : ∃ n, n = (q.jobs.map showJ).length := ⟨_, rfl⟩
      have HN : Hid (n = q.jobs.length) := by show _ = _; rw [hn, List.length_map]
      have HJ1 : Hid (∀ W, Below W5.heap.size W5 W → Calls Tryz.prog 12 #[.pointer (some ⟨qb, 0, none⟩)] W (RetJS n (q.jobs.map showJ) W)) := fun W hb => by rw [hn]; exact jobs_flat qb qb q vj vw W (HQ5.out.below hb) hjl
      have HDK : Hid (∀ W, Below W5.heap.size W5 W → Calls Tryz.prog 13 #[.pointer (some ⟨qb, 0, none⟩)] W (RetDk q.a0 q.a1 W)) := fun W hb => disk_any qb qb q vj vw W (HQ5.out.below hb)
      have HWS : Hid (∀ W, Below W5.heap.size W5 W → Calls Tryz.prog 14 #[.pointer (some ⟨qb, 0, none⟩)] W (RetW0 W)) := fun W hb => writes_none qb qb q vj vw W (HQ5.out.below hb) hwr
      have HEQ : Hid (∀ oa ca W, Below W5.heap.size W5 W → Flat W 2 encSj oa (q.jobs.map showJ) → Calls Tryz.prog 11 #[.slice oa n ca, .slice oj n cj] W (fun e w' => e = .returned (.bool true) ∧ Below W.heap.size W w')) := by
        intro oa ca W hb h1
        rw [hn]
        refine (sameJobs_any oa oj _ _ ca cj W h1 (HF5.out.below hb) (by rw [List.length_map]; omega)).mono fun e w' h => ?_
        obtain ⟨⟨x, rfl, hx⟩, hb⟩ := h
        exact ⟨by rw [hx.2 rfl], hb⟩
      have hrn : ∀ W, (binOp .neq 23 (.agg #[.string q.a0, .string q.a1]) (.agg #[.string q.a0, .string q.a1])).run Tryz.prog W = .ok (.bool false) W := fun W => run_neqD q.a0 q.a0 q.a1 q.a1 W true ⟨fun _ => ⟨rfl, rfl⟩, fun _ => rfl⟩
      have HPX : Hid (∀ W, Below W5.heap.size W5 W → Calls Tryz.prog 15 #[.pointer (some ⟨qb, 0, none⟩), .string xB] W (RetX w.heap.size q W)) := fun W hb => putX_any qb w.heap.size q vj vw W (HQ5.out.below hb) HOK.out hqb (HTB.out W (bthen HB5.out hb)).tabs
      rw [← hn]
      obtain ⟨xs, hxs⟩ : ∃ xs, xs = q.jobs.map showJ := ⟨_, rfl⟩
      rw [← hxs] at HJ1 HEQ
      have HW5 := Lib.hid hW5
      clear hxs hn hb4 hb5 hW5 hf hok hsz hwr hjl c0 c1 HF5 HQ HQ5 hold HB3
      go_upto_region 7 with fail
      rw [← HW5.out]
      have hS : Hid (∀ W, Below W5.heap.size W5 W → Below W5.heap.size W5 W ∧ W.cell? ⟨w4.heap.size, 0, none⟩ = some (.string q.a0) ∧ W.cell? ⟨w4.heap.size, 1, none⟩ = some (.string q.a1)) := fun W hb => ⟨hb, keepCell hb e0, keepCell hb e1⟩
      go_cut [58] from 38 to 57 (fun s58 wx => s58 = .bool false ∧ Hid (Below W5.heap.size W5 wx))
      case first =>
        go_region_held3 (fun w' => Below W5.heap.size W5 w' ∧ w'.cell? ⟨w4.heap.size, 0, none⟩ = some (.string q.a0) ∧ w'.cell? ⟨w4.heap.size, 1, none⟩ = some (.string q.a1))
          (first | (refine hS.out _ ?_; (first | assumption | go_grown)))
          (first | fail | (go_at_call 13; ((with_reducible refine (HDK.out _ (And.left (by assumption))).mono ?_); rintro e w7 ⟨rfl, hb7⟩; have hz7 : Below W5.heap.size W5 w7 := bthen (And.left (by assumption)) hb7)) | (go_at_call 12; ((with_reducible refine (HJ1.out _ (And.left (by assumption))).mono ?_); rintro e w8 ⟨oa8, ca8, rfl, hf8, hb8⟩; have hz8 : Below W5.heap.size W5 w8 := bthen (And.left (by assumption)) hb8)) | (go_at_call 14; ((with_reducible refine (HWS.out _ (And.left (by assumption))).mono ?_); rintro e w9 ⟨oa9, ca9, rfl, hb9⟩; have hz9 : Below W5.heap.size W5 w9 := bthen (And.left (by assumption)) hb9)) | (go_at_call 11; ((with_reducible refine (HEQ.out _ _ _ hz8 hf8).mono ?_); rintro e w10 ⟨rfl, hb10⟩; have hz10 : Below W5.heap.size W5 w10 := bthen hz8 hb10)))
        all_goals
          go_wp2_with fail
          go_meet
          exact ⟨rfl, hz9⟩
      case rest =>
        obtain ⟨rfl, hbc⟩ := hcut
        have e0 := keepCell hbc.out e0
        have e1 := keepCell hbc.out e1
        have HPC := Lib.hid (HPX.out wc hbc.out)
        have HBC := Lib.hid (bthen HB5.out hbc.out)
        clear hS hbc HPX HJ1 HDK HWS HEQ hrn
        go_wp2_with fail
        refine HPC.out.mono ?_
        intro e w6 hret
        obtain ⟨hb6, hcase⟩ := hret
        have HF := Lib.hid (HBC.out.trans hb6)
        have HN2 := HN.out
        rcases hcase with ⟨hfull, rfl⟩ | ⟨hroom, (⟨h60, rfl, hbw⟩ | rfl)⟩
        · clear hb6 e0 e1
          by_cases h64 : n = 64
          · have e64 : ((n : Int) == 64) = true := by rw [beq_iff_eq]; omega
            clear hfull h64 HN2
            go_wp2_with fail
            go_ret
            exact ⟨rfl, HF.out⟩
          · have e64 : ((n : Int) == 64) = false := by rw [beq_eq_false_iff_ne]; omega
            have hnx : 1073741824 < q.next := by omega
            clear hfull h64 HN2
            go_wp2_with fail
            go_ret
            exact ⟨rfl, HF.out⟩
        · have e64 : ((n : Int) == 64) = false := by rw [beq_eq_false_iff_ne]; omega
          have hnx : ¬ 1073741824 < q.next := by omega
          have e0 := keepCell hbw e0
          have e1 := keepCell hbw e1
          have hok := HOK.out.sz
          have hsz := HSZ.out
          by_cases h1 : (65536 : Int) < (q.a0.size : Int) + 60
          · have s0 : (q.a0.size : Int) ≤ 100000000 := by
              have := HLN0.out; omega
            clear hb6 hbw hroom HN2 h60 hsz hok
            go_wp2_with fail
            go_ret
            exact ⟨rfl, HF.out⟩
          · have HH : Hid ((q.a0.size : Int) ≤ 65476 ∧ (65536 : Int) < (q.a1.size : Int) + 60 ∧ (q.a1.size : Int) ≤ 100000000) := by
              have := HLN0.out
              exact ⟨by omega, by omega, by omega⟩
            clear hb6 hbw hroom HN2 h60 hsz hok h1
            go_upto_region 13 with fail
            clear e64 hnx
            obtain ⟨A0, hA0⟩ : ∃ A0, A0 = q.a0 := ⟨_, rfl⟩
            obtain ⟨A1, hA1⟩ : ∃ A1, A1 = q.a1 := ⟨_, rfl⟩
            rw [← hA0, ← hA1] at HH
            rw [← hA0] at e0
            rw [← hA1] at e1
            clear hA0 hA1
            obtain ⟨g0, g1, g2⟩ := HH.out
            have h1 : ¬ (65536 : Int) < (A0.size : Int) + 60 := by omega
            go_wp2_with fail
            go_ret
            exact ⟨rfl, HF.out⟩
        · have e64 : ((n : Int) == 64) = false := by rw [beq_eq_false_iff_ne]; omega
          have hnx : ¬ 1073741824 < q.next := by omega
          have enx : (q.next == q.next) = true := by simp
          clear hb6 hroom HN2 e0 e1
          go_wp2_with fail
          go_ret
          exact ⟨rfl, HF.out⟩
end Go.Proofs.YtnnnihjagjfkdaaGreatDoor
namespace Go.Proofs.YtnnnihjagjfkdaaGreatDoor.spoolOpenMatchesReference
open Go.ChangeShapes Go.WideShapes Go.ChangeAt Go.RowKit
set_option linter.unusedVariables false
theorem own : ownKnob Tryz.prog.godebug = none := by kernel_rfl
theorem laidOut : laidOutB Tryz.prog = true := by kernel_rfl
theorem paramsOk : ∀ t ∈ Tryz.f3.params.toList, Tryz.prog.readableRec t = true ∧ t < Tryz.prog.types.size := by
  rw [Tryz.params3]
  intro t ht
  simp only [List.mem_cons, List.not_mem_nil, or_false] at ht
  obtain rfl := ht
  exact ⟨by kernel_rfl, of_decide_eq_true (by kernel_rfl)⟩
set_option maxRecDepth 100000 in
theorem lifted (os : Os) (started : os.Started) (H : Type) (enc : TypeId × Value → H) :
    ReturnsInHanded {} Tryz.checked os 3 .any (fun w args => (Rows.spoolOpenMatchesReferenceSpec.pre enc Tryz.prog Tryz.f3 [] false w args ∧ laidMetH Tryz.prog laid8 w) ∧ sizedMet enc Tryz.prog Tryz.f3 (OpenSpec.ofChange Rows.spoolOpenMatchesReferenceSpec) false w args)
      (Rows.spoolOpenMatchesReferenceSpec.post enc Tryz.prog Tryz.f3 false true false false) := by
  refine returns_laid (C := Tryz.checked) (X := fun w _ => laidMetH Tryz.prog laid8 w) (fun _ _ _ hh h => h.of_heap hh) own started (by kernel_rfl) Tryz.func3
    (ChangeSpec.witness_at (enc := enc) (C := Tryz.checked) (os := os) (X := fun w _ => laidMetH Tryz.prog laid8 w) false (laidWorld os) #[.agg #[.string ⟨#[]⟩, .string ⟨#[]⟩]] 8 rfl (by kernel_rfl) (by kernel_rfl) (by kernel_rfl) (by kernel_rfl) (by kernel_rfl) (laid_met os _)) ?_
  intro W base args ds gs before hval0 hW hL hS
  have hval : ∀ (j : Nat) t v, Tryz.f3.params[j]? = some t → args[j]? = some v → Value.okWide Tryz.prog W .any base t v := hval0
  have hW' := hW
  obtain ⟨p, q, hA0, hV, rfl, hfz, hnd⟩ := hW
  have hA : DataW.TrodAll enc Tryz.prog W 0 (fun _ => true) true Tryz.f3.params.toList args.toList ds p := hA0
  obtain ⟨rfl, rfl⟩ := trodVars_none hV
  rw [Tryz.params3] at hA hval
  obtain ⟨v0, vs0, d0, ds0, p0, q0, hargs, rfl, rfl, h0, r0⟩ := trodAll_cons hA
  obtain ⟨rfl, rfl, rfl⟩ := trodAll_nil r0
  obtain rfl : args = #[v0] := by cases args; simp_all
  obtain ⟨x, y, rfl, hxy⟩ := open_disk h0 (hval 0 23 v0 rfl rfl)
  refine (openref_any x y W (tabz_of hL hS)).mono fun e W1 he => ?_
  obtain ⟨rfl, hbw⟩ := he
  exact ⟨_, rfl, post_law laidOut paramsOk rfl Tryz.underlying4 rfl hW' rfl rfl rfl hbw⟩
theorem said : Rows.SpoolOpenMatchesReferenceSaid :=
  OpenClaim.holds_of_wide 3 Tryz.f3 rfl rfl rfl rfl rfl rfl rfl ⟨rfl, rfl, rfl, rfl, rfl⟩ rfl rfl rfl rfl rfl (by kernel_rfl) Tryz.func3 (by kernel_rfl)
    (of_decide_eq_true (by kernel_rfl)) (by unfold Func.isWrapper; first | (rw [if_pos (by decide +kernel)]; kernel_rfl) | (rw [if_neg (by decide +kernel)]; exact ⟨rfl, rfl⟩))
    (fun os started H enc _ => lifted os started H enc)
theorem plain (f : FuncId) (fn : Func) (hf : Tryz.pinned.checked.prog.funcNamed "printworks/printworkslaw4.SpoolOpenMatchesReference" = some f) (hfn : Tryz.pinned.checked.prog.funcs[f]? = some fn) :
    true = Tryz.pinned.checked.prog.looks [] ∧ ∀ (j : Nat) t, fn.params[j]? = some t → Tryz.pinned.checked.prog.wantsStandIn t = false := by
  obtain rfl : f = 3 := Option.some.inj ((show Tryz.prog.funcNamed "printworks/printworkslaw4.SpoolOpenMatchesReference" = some 3 by kernel_rfl).symm.trans hf) |>.symm
  obtain rfl : fn = Tryz.f3 := (Option.some.inj (Tryz.func3.symm.trans hfn)).symm
  refine ⟨by kernel_rfl, fun j t ht => ?_⟩
  rw [Tryz.params3] at ht
  have hm := Array.mem_of_getElem? ht
  simp only [Array.mem_def, List.mem_cons, List.not_mem_nil, or_false] at hm
  obtain rfl := hm
  exact (show Tryz.prog.wantsStandIn 23 = false by kernel_rfl)
/-- The given card. -/
theorem proved : Rows.SpoolOpenMatchesReferenceCardSaid :=
  Claim7.holds_tied_plain_at .later [] _ _ _ _ said (fun _ h => by cases h) (by kernel_rfl) (fun _ h => by cases h) spoolOpenMatchesReference_row_tie rfl ⟨rfl, rfl⟩ (by kernel_rfl) rfl plain (by kernel_rfl)
#print axioms proved
end Go.Proofs.YtnnnihjagjfkdaaGreatDoor.spoolOpenMatchesReference
