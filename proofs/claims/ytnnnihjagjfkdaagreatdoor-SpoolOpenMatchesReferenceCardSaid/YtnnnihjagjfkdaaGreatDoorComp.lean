/-
  The walk of the queue's Compact. Own text.
-/
import Derived.Test.YtnnnihjagjfkdaaGreatDoorSync
import Derived.Test.YtnnnihjagjfkdaaGreatDoorDone
import Derived.Handy
namespace Go.Proofs.YtnnnihjagjfkdaaGreatDoor
open Go.RowKit
set_option linter.unusedVariables false
def encS (s : ByteArray) : List Value := [.string s]
theorem elemS : ElemType Tryz.prog 9 (.string ⟨#[]⟩) 1 16 := ElemType.mk (by kernel_rfl) rfl (by decide)
theorem Flat.st {w : World} {oa : Option Addr} {xs : List ByteArray} (h : Flat w 1 encS oa xs) {i : Nat} (hi : i < xs.length) :
    ∃ b off, oa = some ⟨b, off, none⟩ ∧ w.cell? ⟨b, off + i, none⟩ = some (.string xs[i]) := by
  obtain ⟨v, hv, b, off, e, hc⟩ := h i hi 0 (by omega)
  simp only [encS, List.getElem?_cons_zero, Option.some.injEq] at hv
  refine ⟨b, off, e, ?_⟩
  rw [hv]
  simpa using hc
/-- The contract of line over a block of its words. -/
theorem line_lit (ep sq : Int) (ws : List ByteArray) (cs : Array Value) (n : Nat) (W : World) (hn : ws.length = n) (hcs : ∀ (j : Nat) (x : ByteArray), ws[j]? = some x → cs[j]? = some (Value.string x)) (hN : n ≤ 100) (hlen : (bodyV (ws.map (·.data.toList))).length ≤ 100000) (he0 : 0 ≤ ep) (he1 : ep ≤ 9223372036854775807) (hs0 : 0 ≤ sq) (hs1 : sq ≤ 9223372036854775807) (ht : Tabs W) :
    Calls Tryz.prog 31 #[.int .i64 ep, .int .i64 sq, .slice (some ⟨W.heap.size, 0, none⟩) n n] (W.alloc (.cells cs 9)) (RetStr (lineV ep sq (ws.map (·.data.toList))) (W.alloc (.cells cs 9))) := by
  subst hn
  exact line_any ep sq W.heap.size 0 ws ws.length _ (fun j x hx => by
    rw [Nat.zero_add, cell_of_row _ W.heap.size j _ _ (0, 0) (heap_alloc_new W _)]
    exact hcs j x hx) (by simp) hN (Nat.le_refl _) hlen he0 he1 hs0 hs1 (ht.below (balloc (Below.refl _ W) _))
def compStrs (q : Que) (k : Nat) : List ByteArray := (compLs q k).map strB
theorem compStrs_len (q : Que) (k : Nat) (h : k ≤ q.jobs.length) : (compStrs q k).length = k + 1 := by unfold compStrs; rw [List.length_map, compLs_len q k h]
def compL (q : Que) (k : Nat) (j : Jb) : List UInt8 := lineV (q.epoch + 1) ((k : Int) + 1) (keepLn j.id j.text)
theorem compStrs_succ (q : Que) {k : Nat} (h : k < q.jobs.length) : compStrs q (k + 1) = compStrs q k ++ [strB (compL q k q.jobs[k])] := by
  unfold compStrs compL
  rw [compLs_succ q h, List.map_append]
  rfl
theorem below_app {w0 w w' : World} {base : Nat} {v : Value} {xs : List ByteArray} {e : TypeId} (h : Own w base e 1 encS v xs) (hb : Below base w0 w) (hw : base ≤ w0.heap.size) (hg : w.grownBy w' v.ownBlock) : Below base w0 w' :=
  ⟨hg.os.trans hb.os, hg.tape.trans hb.tape, hg.output.trans hb.output, Nat.le_trans hb.size hg.size, fun g hlt => by
    have hs := hb.size
    rw [hg.block g (by omega) (fun e => by have := (h.blk e.symm).1; omega), hb.block g hlt]⟩
/-- What the loops of Compact know. -/
structure CompIn (w : World) (B b : Nat) (q : Que) (vj vw : Value) : Prop where
  qa : QAt w B b q vj vw
  ok : QOk q
  ht : Tabs w
  hB : B ≤ w.heap.size
  jo : JobsOk q.jobs
  ep : q.epoch + 1 ≤ 1073741824
  sum : sumL (compLs q q.jobs.length) ≤ 65536
  wa : q.writes.all okArea = true
  bs : q.a0.size + q.a1.size + sizeW q.writes ≤ 1000000000
theorem cell_grown {w w' : World} {v : Value} (hg : w.grownBy w' v.ownBlock) {g : Nat} (hl : g < w.heap.size) (hn : v.ownBlock ≠ some g) (o : Nat) : w'.cell? ⟨g, o, none⟩ = w.cell? ⟨g, o, none⟩ := by
  unfold World.cell?
  simp only
  rw [grown_block hg hl hn]
theorem comp_fin {w wr W1 w6 w9 : World} {u : Value} {xs : List ByteArray} {a c : Value} (hW : W1.heap.size = wr.heap.size + 1) (hb : Below w.heap.size w W1) (ho : Own W1 w.heap.size 9 1 encS u xs) (hz : Below W1.heap.size W1 w6) (o : Obj) (hg : (w6.alloc o).grownBy w9 u.ownBlock) (hn : u.ownBlock ≠ some wr.heap.size)
    (d0 : W1.cell? ⟨wr.heap.size, 0, none⟩ = some a) (d1 : W1.cell? ⟨wr.heap.size, 1, none⟩ = some c) : Below w.heap.size W1 w9 ∧ w9.cell? ⟨wr.heap.size, 0, none⟩ = some a ∧ w9.cell? ⟨wr.heap.size, 1, none⟩ = some c := by
  have h2 := balloc hz o
  have hs := h2.size
  exact ⟨below_app (ho.below h2) (h2.mono hb.size) hb.size hg, (cell_grown hg (by omega) hn 0).trans (keepCell h2 d0), (cell_grown hg (by omega) hn 1).trans (keepCell h2 d1)⟩
/-- The queue behind k writes of Compact. -/
def midC (q : Que) (k : Nat) : Que := { compQ q with writes := compWs (1 - q.area) ((compLs q q.jobs.length).take k) }
theorem midC_end (q : Que) : midC q (q.jobs.length + 1) = compQ q := by
  unfold midC
  rw [List.take_of_length_le (by rw [compLs_len q _ (Nat.le_refl _)]; omega)]
  rfl
theorem midC_succ (q : Que) (k : Nat) (h : k < (compLs q q.jobs.length).length) (S : ByteArray) (hS : S = strB (compLs q q.jobs.length)[k]) (m : Int) (hm : 1 - q.area = m) : midC q (k + 1) = { midC q k with writes := (midC q k).writes ++ [⟨m, S⟩] } := by
  unfold midC compWs
  rw [List.take_succ_eq_append_getElem h, List.map_append, hS, hm]
  rfl
/-- How many bytes the first k lines have. -/
def upTo (q : Que) (k : Nat) : Nat := sumL ((compLs q q.jobs.length).take k)
theorem upTo_succ (q : Que) (k : Nat) (h : k < (compLs q q.jobs.length).length) : upTo q (k + 1) = upTo q k + ((compLs q q.jobs.length)[k]).length := by
  unfold upTo
  rw [List.take_succ_eq_append_getElem h, sumL_snoc]
theorem upTo_le (q : Que) (k : Nat) : upTo q k ≤ sumL (compLs q q.jobs.length) := by
  unfold upTo sumL
  conv => rhs; rw [← List.take_append_drop k (compLs q q.jobs.length)]
  rw [List.map_append, List.sum_append]
  omega
theorem upTo_end (q : Que) (k : Nat) (h : k = q.jobs.length + 1) : upTo q k = sumL (compLs q q.jobs.length) := by
  unfold upTo
  rw [List.take_of_length_le (by rw [compLs_len q _ (Nat.le_refl _)]; omega)]
/-- The queue and the lines behind k writes. -/
def CompAt (w wr : World) (B b : Nat) (q : Que) (vj vw u : Value) (k : Nat) : Prop := ∃ vw', QAt wr B b (midC q k) vj vw' ∧ Turn b vj vw vj vw' w wr ∧ Own wr w.heap.size 9 1 encS u (compStrs q q.jobs.length) ∧ ∀ g, u.ownBlock = some g → ¬ InQ b vj vw' g
set_option maxRecDepth 100000 in
set_option maxHeartbeats 4000000 in
theorem comp_any (B b : Nat) (q : Que) (vj vw : Value) (w : World) (h : CompIn w B b q vj vw) :
    Calls Tryz.prog 22 #[.pointer (some ⟨b, 0, none⟩)] w (RetDone B b (compQ q) 0 vj vw w) := by
  have H := Lib.hid h
  obtain ⟨oj, cj, rfl, hjm, hjf⟩ := h.qa.jobs.flat (fun _ => rfl)
  have HJF := Lib.hid hjf
  have hep := h.ok.ep
  have hep2 := h.ep
  have hnx := h.ok.nx
  have hjl := h.ok.jl
  obtain ⟨n, hn⟩ : ∃ n, n = q.jobs.length := ⟨_, rfl⟩
  have HN := Lib.hid hn
  have c1 : w.cell? ⟨b, 1, none⟩ = some (.int .i64 q.epoch) := h.qa.tab.at' 1 (by omega)
  have c2 : w.cell? ⟨b, 2, none⟩ = some (.int .i64 q.next) := h.qa.tab.at' 2 (by omega)
  have c5 : w.cell? ⟨b, 5, none⟩ = some (.slice oj q.jobs.length cj) := h.qa.tab.at' 5 (by omega)
  rw [← hn] at c5 hjl
  have HIT : Hid (∀ x W, 0 ≤ x → x ≤ 4294967296 → Below w.heap.size w W → Calls Tryz.prog 29 #[.int .i64 x] W (RetStr (Lib.itoa x) W)) := fun x W h0 h1 hb => itoa_any x W h0 (by omega) (H.out.ht.below hb)
  have HCO : Hid (∀ (s : ByteArray) W, s.size ≤ 256 → Calls Tryz.prog 30 #[.string s] W (RetStr (codedV s.data.toList) W)) := fun s W hs => coded_any s W (by omega)
  have HL0 : Hid (∀ W, Below w.heap.size w W → Calls Tryz.prog 31 #[.int .i64 (q.epoch + 1), .int .i64 0, .slice (some ⟨W.heap.size, 0, none⟩) 4 4] (W.alloc (.cells #[.string ⟨#[98, 101, 103, 105, 110]⟩, .string (strB (Lib.itoa (q.epoch + 1))), .string (strB (Lib.itoa q.next)), .string (strB (Lib.itoa (n : Int)))] 9))
      (RetStr (lineV (q.epoch + 1) 0 (beginLn (q.epoch + 1) q.next q.jobs.length)) (W.alloc (.cells #[.string ⟨#[98, 101, 103, 105, 110]⟩, .string (strB (Lib.itoa (q.epoch + 1))), .string (strB (Lib.itoa q.next)), .string (strB (Lib.itoa (n : Int)))] 9)))) := fun W hb => by
    rw [hn]
    exact line_lit (q.epoch + 1) 0 (beginW (q.epoch + 1) q.next q.jobs.length) _ 4 W rfl (fun j x hx => by
      match j, hx with
      | 0, hx => exact congrArg (fun y : Option ByteArray => y.map Value.string) hx
      | 1, hx => exact congrArg (fun y : Option ByteArray => y.map Value.string) hx
      | 2, hx => exact congrArg (fun y : Option ByteArray => y.map Value.string) hx
      | 3, hx => exact congrArg (fun y : Option ByteArray => y.map Value.string) hx
      | j + 4, hx => exact congrArg (fun y : Option ByteArray => y.map Value.string) hx) (by omega)
      (by have := beginLn_len (q.epoch + 1) q.next q.jobs.length (by omega) (by omega) (by omega) (by omega) (by omega) (by omega); show (bodyV (beginLn _ _ _)).length ≤ _; omega) (by omega) (by omega) (by omega) (by omega) (H.out.ht.below hb)
  have HLK : Hid (∀ k W (x : Jb), k < n → Below w.heap.size w W → (0 ≤ x.id ∧ x.id ≤ 2147483648 ∧ x.text.size ≤ 256) → Calls Tryz.prog 31 #[.int .i64 (q.epoch + 1), .int .i64 ((k : Int) + 1), .slice (some ⟨W.heap.size, 0, none⟩) 3 3] (W.alloc (.cells #[.string ⟨#[107, 101, 101, 112]⟩, .string (strB (Lib.itoa x.id)), .string (strB (codedV x.text.data.toList))] 9))
      (RetStr (compL q k x) (W.alloc (.cells #[.string ⟨#[107, 101, 101, 112]⟩, .string (strB (Lib.itoa x.id)), .string (strB (codedV x.text.data.toList))] 9)))) := fun k W x hk hb hx =>
    line_lit (q.epoch + 1) ((k : Int) + 1) (keepW x.id x.text) _ 3 W rfl (fun j x hx => by
      match j, hx with
      | 0, hx => exact congrArg (fun y : Option ByteArray => y.map Value.string) hx
      | 1, hx => exact congrArg (fun y : Option ByteArray => y.map Value.string) hx
      | 2, hx => exact congrArg (fun y : Option ByteArray => y.map Value.string) hx
      | j + 3, hx => exact congrArg (fun y : Option ByteArray => y.map Value.string) hx) (by omega)
      (by have := keepLn_len x.id x.text hx.1 (by omega) hx.2.2; show (bodyV (keepLn _ _)).length ≤ _; omega) (by omega) (by omega) (by omega) (by omega) (H.out.ht.below hb)
  have hS : Hid (∀ W, Below w.heap.size w W → Below w.heap.size w W ∧ W.cell? ⟨b, 2, none⟩ = some (.int .i64 q.next) ∧ W.cell? ⟨b, 5, none⟩ = some (.slice oj n cj)) := fun W hb => ⟨hb, keepCell hb c2, keepCell hb c5⟩
  have HL0V : Hid (compStrs q 0 = [strB (lineV (q.epoch + 1) 0 (beginLn (q.epoch + 1) q.next q.jobs.length))]) := rfl
  obtain ⟨L0, hL0⟩ : ∃ L0, L0 = lineV (q.epoch + 1) 0 (beginLn (q.epoch + 1) q.next q.jobs.length) := ⟨_, rfl⟩
  rw [← hL0] at HL0 HL0V
  clear h hjf hjm hn hL0
  have x1 : IntKind.i64.wrap (q.epoch + 1) = q.epoch + 1 := IntWalk.i64_in _ (by omega)
  go_enter Tryz.func22, Tryz.ntmps22
  go_upto_region 4 with fail
  go_region_held3 (fun w' => Below w.heap.size w w' ∧ w'.cell? ⟨b, 2, none⟩ = some (.int .i64 q.next) ∧ w'.cell? ⟨b, 5, none⟩ = some (.slice oj n cj))
    ((refine hS.out _ ?_; (first | assumption | exact balloc (by assumption) _ | go_grown)))
    (first | fail | (go_at_call 29; ((with_reducible refine (HIT.out _ _ (by omega) (by omega) (And.left (by assumption))).mono ?_); rintro e w3 ⟨rfl, hb3⟩; have hz3 : Below w.heap.size w w3 := bthen (And.left (by assumption)) hb3)) | (go_at_call 31; ((with_reducible refine (HL0.out _ (by assumption)).mono ?_); rintro e w6 ⟨rfl, hb6⟩; have hz6 : Below w.heap.size w w6 := bthen (balloc (by assumption) _) hb6)))
  have HB6 : Hid (Below w.heap.size w (w6.alloc (.cells #[.string (strB L0)] 9))) := balloc hz6 _
  have HO6 : Hid (Own (w6.alloc (.cells #[.string (strB L0)] 9)) w.heap.size 9 1 encS (.slice (some ⟨w6.heap.size, 0, none⟩) 1 1) (compStrs q 0)) := by
    show Own _ _ _ _ _ _ _
    rw [HL0V.out]
    exact Own.lit w6 w.heap.size 1 encS [strB L0] 9 (fun _ => rfl) (by simp [maxLen]) hz6.size
  clear hS hz6 hb6 HL0 HL0V
  go_wp2
  go_loopw [4, 41] (fun v i wr => ∃ k : Nat, k ≤ n ∧ i = .int .i64 k ∧ Hid (Own wr w.heap.size 9 1 encS v (compStrs q k) ∧ Below w.heap.size w wr)) (fun _ i _ => n - (intOf i).toNat)
  case atStart => exact ⟨0, by omega, rfl, HO6.out, HB6.out⟩
  case round =>
    clear HO6 HB6
    obtain ⟨k, hk, rfl, HR⟩ := hrel
    by_cases hlt : k < n
    · have hkx : k < q.jobs.length := by have := HN.out; omega
      obtain ⟨bj, offj, rfl, i0, i1, i2, i3⟩ := (HJF.out.below HR.out.2).jb hkx
      have kd : (k : Int) < (n : Int) := by omega
      have k0 : (0 : Int) ≤ (k : Int) := by omega
      have hx : 0 ≤ q.jobs[k].id ∧ q.jobs[k].id ≤ 2147483648 ∧ q.jobs[k].text.size ≤ 256 := H.out.jo _ (List.getElem_mem hkx)
      have HSU : Hid (∀ y, y = q.jobs[k] → compStrs q (k + 1) = compStrs q k ++ [strB (compL q k y)]) := fun y hy => by rw [hy]; exact compStrs_succ q hkx
      obtain ⟨x, hxx⟩ : ∃ x, x = q.jobs[k] := ⟨_, rfl⟩
      have HSX := Lib.hid (HSU.out x hxx)
      rw [← hxx] at i0 i1 i2 i3 hx
      have HXB := Lib.hid hx
      obtain ⟨hx1, hx2, hx3⟩ := hx
      have hwl := HR.out.2.size
      have hLN : (compStrs q k).length ≤ 65 := by rw [compStrs_len q k (by omega)]; omega
      have HLN := Lib.hid hLN
      have HNB : Hid (u4.ownBlock ≠ some wr.heap.size) := fun e => by have := (HR.out.1.blk e).2; omega
      have HO := Lib.hid (HR.out.1.alloc (.cells #[.int .i64 x.id, .string x.text, .int .i64 x.lease, .int .i64 x.till] 73))
      have HB1 := Lib.hid (balloc HR.out.2 (.cells #[.int .i64 x.id, .string x.text, .int .i64 x.lease, .int .i64 x.till] 73))
      clear hxx HSU HR hLN
      go_upto_region 8 with fail
      have d0 : (wr.alloc (.cells #[.int .i64 x.id, .string x.text, .int .i64 x.lease, .int .i64 x.till] 73)).cell? ⟨wr.heap.size, 0, none⟩ = some (.int .i64 x.id) := by rw [cell_of_row _ wr.heap.size 0 _ _ (0, 0) (heap_alloc_new wr _)]; rfl
      have d1 : (wr.alloc (.cells #[.int .i64 x.id, .string x.text, .int .i64 x.lease, .int .i64 x.till] 73)).cell? ⟨wr.heap.size, 1, none⟩ = some (.string x.text) := by rw [cell_of_row _ wr.heap.size 1 _ _ (0, 0) (heap_alloc_new wr _)]; rfl
      have hzW : (wr.alloc (.cells #[.int .i64 x.id, .string x.text, .int .i64 x.lease, .int .i64 x.till] 73)).heap.size = wr.heap.size + 1 := World.size_alloc _ _
      have x2 : IntKind.i64.wrap ((k : Int) + 1) = (k : Int) + 1 := IntWalk.i64_in _ (by omega)
      clear i0 i1 i2 i3
      generalize wr.alloc (.cells #[.int .i64 x.id, .string x.text, .int .i64 x.lease, .int .i64 x.till] 73) = W1 at *
      have hS : Hid (∀ W, Below W1.heap.size W1 W → Below w.heap.size W1 W ∧ W.cell? ⟨wr.heap.size, 0, none⟩ = some (.int .i64 x.id) ∧ W.cell? ⟨wr.heap.size, 1, none⟩ = some (.string x.text)) := fun W hb => ⟨hb.mono HB1.out.size, keepCell hb d0, keepCell hb d1⟩
      have HW1 := Lib.hid hzW
      have HWL := Lib.hid hwl
      clear hzW
      go_region_held3 (fun w' => Below w.heap.size W1 w' ∧ w'.cell? ⟨wr.heap.size, 0, none⟩ = some (.int .i64 x.id) ∧ w'.cell? ⟨wr.heap.size, 1, none⟩ = some (.string x.text))
        (first | exact hfin | (refine hS.out _ ?_; (first | assumption | exact balloc (by assumption) _ | go_grown)))
        (first | fail | (go_at_call 29; ((with_reducible refine (HIT.out _ _ (by omega) (by omega) (HB1.out.trans (And.left (by assumption)))).mono ?_); rintro e w3 ⟨rfl, hb3⟩; have hz3 : Below W1.heap.size W1 w3 := bthen (by go_grown) hb3)) | (go_at_call 30; ((with_reducible refine (HCO.out _ _ (by omega)).mono ?_); rintro e w4 ⟨rfl, hb4⟩; have hz4 : Below W1.heap.size W1 w4 := bthen hz3 hb4)) | (go_at_call 31; ((with_reducible refine (HLK.out k _ x hlt (HB1.out.trans (hz4.mono HB1.out.size)) HXB.out).mono ?_); rintro e w6 ⟨rfl, hb6⟩; have hz6 : Below W1.heap.size W1 w6 := bthen (balloc hz4 _) hb6)) | (refine step_app1L (by rfl) (.tmp 46) (.tmp 60) 64 (by rfl) elemS Tryz.underlying64 w.heap.size u4 (compStrs q k) encS (by rfl) ((HO.out.below hz6).alloc (.cells #[.string (strB (compL q k x))] 9)) (strB (compL q k x)) ⟨w6.heap.size, 0, none⟩ 1 (by rfl) (by rfl) (World.news_of_block (cs := #[.string (strB (compL q k x))]) (t := 9) (fr := (0, 0)) (heap_alloc_new w6 _)) (by simp [encS, Value.oneCell']) (by have := HLN.out; omega) (by have := HLN.out; unfold maxLen; omega) (by have h1 := HB1.out.size; have h2 := hz6.size; simp; omega) ?_; intro g9 cap9 w9 hown9 hg9 hat9; have hfin : Below w.heap.size W1 w9 ∧ w9.cell? ⟨wr.heap.size, 0, none⟩ = some (.int .i64 x.id) ∧ w9.cell? ⟨wr.heap.size, 1, none⟩ = some (.string x.text) := comp_fin HW1.out HB1.out HO.out hz6 _ hg9 HNB.out d0 d1))
      have HNX : Hid (Own w9 w.heap.size 9 1 encS (.slice (some ⟨g9, 0, none⟩) ((compStrs q k).length + 1) cap9) (compStrs q (k + 1)) ∧ Below w.heap.size w w9) := by
        refine ⟨?_, HB1.out.trans hfin.1⟩
        rw [HSX.out]
        exact hown9
      clear hown9 hg9 hfin hz3 hz4 hz6 hb3 hb4 hb6 HO HB1 HSX d0 d1 hS x2
      go_wp2
      go_roundw
      case rel => exact ⟨k + 1, by omega, by go_num, HNX⟩
      case measure => simp [intOf]; omega
    · obtain rfl : n = k := by omega
      obtain ⟨ol, cl, rfl, hlm, hlf⟩ := HR.out.1.flat (fun _ => rfl)
      have hLL : (compStrs q n).length = n + 1 := compStrs_len q n (by have := HN.out; omega)
      rw [hLL] at HR ⊢
      have HLF := Lib.hid hlf
      have HLEN : Hid (∀ j, j < n + 1 → j < (compLs q q.jobs.length).length) := fun j hj => by rw [compLs_len q _ (Nat.le_refl _)]; have := HN.out; omega
      have HU0 : Hid (upTo q 0 = 0) := rfl
      have HU1 : Hid (∀ j, upTo q j ≤ 65536) := fun j => Nat.le_trans (upTo_le q j) H.out.sum
      have HU2 : Hid (upTo q (n + 1) = sumL (compLs q q.jobs.length)) := upTo_end q (n + 1) (by have := HN.out; omega)
      have HLI : Hid (∀ j (hj : j < (compStrs q n).length) (hj2 : j < (compLs q q.jobs.length).length), (compStrs q n)[j] = strB (compLs q q.jobs.length)[j]) := fun j hj hj2 => by
        simp only [compStrs, HN.out, List.getElem_map]
      clear hlf hlm
      obtain ⟨wo, rfl⟩ : ∃ wo : World, wo = wr := ⟨_, rfl⟩
      go_wp2
      go_loopw [7, 65] (fun s i wx => ∃ j : Nat, j ≤ n + 1 ∧ i = .int .i64 j ∧ s = .int .i64 (upTo q j : Nat) ∧ wo = wx) (fun _ i _ => n + 1 - (intOf i).toNat)
      case atStart => exact ⟨0, by omega, rfl, by rw [HU0.out]; rfl, rfl⟩
      case round =>
        obtain ⟨j, hj, rfl, rfl, rfl⟩ := hrel
        by_cases hlt : j < n + 1
        · have hj1 : j < (compStrs q n).length := by omega
          have hj2 := HLEN.out j hlt
          obtain ⟨bl, offl, rfl, l0⟩ := HLF.out.st hj1
          have HUS := Lib.hid (upTo_succ q j hj2)
          have hle := HU1.out j
          have hle2 := HU1.out (j + 1)
          obtain ⟨S, hS⟩ : ∃ S, S = (compStrs q n)[j] := ⟨_, rfl⟩
          rw [← hS] at l0
          have hSz : S.size = ((compLs q q.jobs.length)[j]).length := by rw [hS, HLI.out j hj1 hj2, strB_size]
          have HUS2 : Hid (upTo q (j + 1) = upTo q j + S.size) := by show _ = _; rw [HUS.out, hSz]
          have hsz : S.size ≤ 65536 := by have := HUS2.out; omega
          have jd : (j : Int) < ((n + 1 : Nat) : Int) := by omega
          have j0 : (0 : Int) ≤ (j : Int) := by omega
          clear hS hSz HUS
          have hle3 : upTo q j + S.size ≤ 65536 := by have := HUS2.out; omega
          obtain ⟨p, hp⟩ : ∃ p, p = upTo q j := ⟨_, rfl⟩
          rw [← hp] at HUS2 hle hle3 ⊢
          clear hp hle2
          go_wp2
          go_roundw
          case rel => exact ⟨j + 1, by omega, by go_num, by rw [HUS2.out]; go_num, trivial⟩
          case measure => simp [intOf]; omega
        · obtain rfl : j = n + 1 := by omega
          have hsm := HU1.out (n + 1)
          obtain ⟨M, hM⟩ : ∃ M, M = upTo q (n + 1) := ⟨_, rfl⟩
          rw [← hM] at hsm ⊢
          have HM : Hid (M = sumL (compLs q q.jobs.length)) := by show M = _; rw [hM, HU2.out]
          have HQW := Lib.hid (H.out.qa)
          have hbw := HR.out.2
          have HSY := Lib.hid (sync_any B b q _ vw wo (H.out.qa.below hbw) (by have := H.out.ok.wl; omega) H.out.wa H.out.bs)
          have hin : ∀ g, (Value.slice ol (n + 1) cl).ownBlock = some g → ¬ InQ b (.slice oj q.jobs.length cj) vw g := fun g e e2 => by
            have h1 := (HR.out.1.blk e).1
            have h2 := (H.out.qa.inq e2).2
            omega
          have HIN := Lib.hid hin
          have hsm2 : (M : Int) ≤ 65536 := by omega
          clear hM hbw hin hlt hsm HU0 HU1 HU2
          go_wp2_with fail
          refine HSY.out.mono ?_
          rintro e w5 ⟨rfl, hq5, ht5⟩
          have HO5 := Lib.hid (HR.out.1.turn ht5 HIN.out)
          have HT5 := Lib.hid ((Turn.ofBelow HR.out.2).trans ht5)
          have HQ5 := Lib.hid hq5
          have HAR : Hid (q.area = 0 ∨ q.area = 1) := H.out.ok.area
          obtain ⟨m, hm, hm2⟩ : ∃ m : Nat, 1 - q.area = (m : Int) ∧ m ≤ 1 := by
            rcases HAR.out with h | h
            · exact ⟨1, by omega, by omega⟩
            · exact ⟨0, by omega, by omega⟩
          have d0 : w5.cell? ⟨b, 0, none⟩ = some (.int .i64 q.area) := hq5.tab.at' 0 (by omega)
          have d1 : w5.cell? ⟨b, 1, none⟩ = some (.int .i64 q.epoch) := hq5.tab.at' 1 (by omega)
          have d9 : w5.cell? ⟨b, 9, none⟩ = some (.int .i64 q.size) := hq5.tab.at' 9 (by omega)
          have d10 : w5.cell? ⟨b, 10, none⟩ = some (.int .i64 q.seq) := hq5.tab.at' 10 (by omega)
          have df := hq5.tab.fz
          have x4 : IntKind.i64.wrap (1 - q.area) = 1 - q.area := IntWalk.i64_in _ (by omega)
          have HMM := Lib.hid hm
          have HIN5 : Hid (∀ g, (Value.slice ol (n + 1) cl).ownBlock = some g → ¬ InQ b (.slice oj q.jobs.length cj) (.slice none 0 0) g) := fun g e e2 => by
            rcases e2 with e2 | e2 | e2
            · exact HIN.out g e (.inl e2)
            · exact HIN.out g e (.inr (.inl e2))
            · cases e2
          obtain ⟨W6, hW6⟩ : ∃ W6, W6 = (((w5.setCell ⟨b, 0, none⟩ (.int .i64 (m : Int))).setCell ⟨b, 1, none⟩ (.int .i64 (q.epoch + 1))).setCell ⟨b, 10, none⟩ (.int .i64 ((n : Int) + 1))).setCell ⟨b, 9, none⟩ (.int .i64 (M : Int)) := ⟨_, rfl⟩
          have HQ6 : Hid (QAt W6 B b { syncQ q with area := (m : Int), epoch := q.epoch + 1, seq := (n : Int) + 1, size := (M : Int) } (.slice oj q.jobs.length cj) (.slice none 0 0)) := by
            show QAt _ _ _ _ _ _
            rw [hW6]
            have q1 := QAt.put (q' := { syncQ q with area := (m : Int) }) hq5 (i := 0) (by omega) (.int .i64 (m : Int)) rfl rfl (fun j hj => by
              match j, hj with
              | 0, _ => rfl
              | 1, _ => rfl
              | 2, _ => rfl
              | 3, _ => rfl
              | 4, _ => rfl
              | 5, _ => rfl
              | 6, _ => rfl
              | 7, _ => rfl
              | 8, _ => rfl
              | 9, _ => rfl
              | 10, _ => rfl)
            have q2 := QAt.put (q' := { syncQ q with area := (m : Int), epoch := q.epoch + 1 }) q1 (i := 1) (by omega) (.int .i64 (q.epoch + 1)) rfl rfl (fun j hj => by
              match j, hj with
              | 0, _ => rfl
              | 1, _ => rfl
              | 2, _ => rfl
              | 3, _ => rfl
              | 4, _ => rfl
              | 5, _ => rfl
              | 6, _ => rfl
              | 7, _ => rfl
              | 8, _ => rfl
              | 9, _ => rfl
              | 10, _ => rfl)
            have q3 := QAt.put (q' := { syncQ q with area := (m : Int), epoch := q.epoch + 1, seq := (n : Int) + 1 }) q2 (i := 10) (by omega) (.int .i64 ((n : Int) + 1)) rfl rfl (fun j hj => by
              match j, hj with
              | 0, _ => rfl
              | 1, _ => rfl
              | 2, _ => rfl
              | 3, _ => rfl
              | 4, _ => rfl
              | 5, _ => rfl
              | 6, _ => rfl
              | 7, _ => rfl
              | 8, _ => rfl
              | 9, _ => rfl
              | 10, _ => rfl)
            exact QAt.put (q' := { syncQ q with area := (m : Int), epoch := q.epoch + 1, seq := (n : Int) + 1, size := (M : Int) }) q3 (i := 9) (by omega) (.int .i64 (M : Int)) rfl rfl (fun j hj => by
              match j, hj with
              | 0, _ => rfl
              | 1, _ => rfl
              | 2, _ => rfl
              | 3, _ => rfl
              | 4, _ => rfl
              | 5, _ => rfl
              | 6, _ => rfl
              | 7, _ => rfl
              | 8, _ => rfl
              | 9, _ => rfl
              | 10, _ => rfl)
          have HT6 : Hid (Turn b (.slice oj q.jobs.length cj) vw (.slice oj q.jobs.length cj) (.slice none 0 0) w W6) := by
            show Turn _ _ _ _ _ _ _
            rw [hW6]
            exact (((HT5.out.set 0 _).set 1 _).set 10 _).set 9 _
          have hOW6 : Own W6 w.heap.size 9 1 encS (.slice ol (n + 1) cl) (compStrs q n) := by
            have hne : (Value.slice ol (n + 1) cl).ownBlock ≠ some b := fun e => HIN5.out b e (.inl rfl)
            rw [hW6]
            exact own_other (own_other (own_other (own_other HO5.out hne _) hne _) hne _) hne _
          have HO6 := Lib.hid hOW6
          have HW6 := Lib.hid hW6
          clear hq5 ht5 hW6 hOW6 HSY HR HIN HO5
          go_upto_region 20 with fail
          rw [← HW6.out]
          clear HW6 d0 d1 d9 d10 df x4 HQ5
          have e0 : W6.cell? ⟨b, 0, none⟩ = some (.int .i64 (m : Int)) := HQ6.out.tab.at' 0 (by omega)
          obtain ⟨vc, ec⟩ : ∃ vc, W6.cell? ⟨b, 6 + m, none⟩ = some vc := ⟨_, HQ6.out.tab.at' (6 + m) (by omega)⟩
          have ef := HQ6.out.tab.fz
          have m0 : (0 : Int) ≤ (m : Int) := by omega
          have m1 : (m : Int) < 2 := by omega
          have HQ7 : Hid (QAt ((W6.setCell ⟨b, 6 + m, none⟩ (.string ⟨#[]⟩)).drew) B b (midC q 0) (.slice oj q.jobs.length cj) (.slice none 0 0)) := by
            refine QAt.drewN (QAt.put (q' := midC q 0) HQ6.out (i := 6 + m) (by omega) (.string ⟨#[]⟩) rfl rfl fun j hj => ?_) 1
            have hm := HMM.out
            have hn := HN.out
            have hM := HM.out
            rcases HAR.out with h | h
            · obtain rfl : m = 1 := by omega
              match j, hj with
              | 0, _ => show Value.int .i64 _ = Value.int .i64 (1 - q.area); rw [h]; rfl
              | 1, _ => rfl
              | 2, _ => rfl
              | 3, _ => rfl
              | 4, _ => rfl
              | 5, _ => rfl
              | 6, _ => show Value.string _ = Value.string (if q.area = 0 then _ else _); rw [if_pos h]; rfl
              | 7, _ => show Value.string _ = Value.string (if q.area = 0 then _ else _); rw [if_pos h]
              | 8, _ => rfl
              | 9, _ => show Value.int .i64 (M : Int) = Value.int .i64 _; rw [hM]; rfl
              | 10, _ => show Value.int .i64 ((n : Int) + 1) = Value.int .i64 _; rw [hn]; rfl
            · obtain rfl : m = 0 := by omega
              match j, hj with
              | 0, _ => show Value.int .i64 _ = Value.int .i64 (1 - q.area); rw [h]; rfl
              | 1, _ => rfl
              | 2, _ => rfl
              | 3, _ => rfl
              | 4, _ => rfl
              | 5, _ => rfl
              | 6, _ => show Value.string _ = Value.string (if q.area = 0 then _ else _); rw [if_neg (by omega)]
              | 7, _ => show Value.string _ = Value.string (if q.area = 0 then _ else _); rw [if_neg (by omega)]; rfl
              | 8, _ => rfl
              | 9, _ => show Value.int .i64 (M : Int) = Value.int .i64 _; rw [hM]; rfl
              | 10, _ => show Value.int .i64 ((n : Int) + 1) = Value.int .i64 _; rw [hn]; rfl
          have HT7 : Hid (Turn b (.slice oj q.jobs.length cj) vw (.slice oj q.jobs.length cj) (.slice none 0 0) w ((W6.setCell ⟨b, 6 + m, none⟩ (.string ⟨#[]⟩)).drew)) := (HT6.out.set (6 + m) (.string ⟨#[]⟩)).drewN 1
          have HO7 : Hid (Own ((W6.setCell ⟨b, 6 + m, none⟩ (.string ⟨#[]⟩)).drew) w.heap.size 9 1 encS (.slice ol (n + 1) cl) (compStrs q n)) :=
            own_other HO6.out (fun e => HIN5.out b e (.inl rfl)) _
          have HNJ : Hid (n = q.jobs.length) := HN.out
          have HC0 : Hid (CompAt w ((W6.setCell ⟨b, 6 + m, none⟩ (.string ⟨#[]⟩)).drew) B b q (.slice oj q.jobs.length cj) vw (.slice ol (n + 1) cl) 0) :=
            ⟨_, HQ7.out, HT7.out, by have h := HO7.out; rw [HNJ.out] at h ⊢; exact h, HIN5.out⟩
          have HME : Hid (midC q (n + 1) = compQ q) := by show _ = _; rw [HNJ.out]; exact midC_end q
          clear HQ6 HT6 HO6 HQ7 HT7 HO7 HM
          go_region
          all_goals
            go_wp2
            go_loopw [109] (fun i wr => ∃ k : Nat, k ≤ n + 1 ∧ i = .int .i64 k ∧ Hid (CompAt w wr B b q (.slice oj q.jobs.length cj) vw (.slice ol (n + 1) cl) k)) (fun i _ => n + 1 - (intOf i).toNat)
            case atStart => exact ⟨0, by omega, rfl, HC0.out⟩
            case round =>
              clear HC0 e0 ec ef
              obtain ⟨k, hk, rfl, HR⟩ := hrel
              obtain ⟨vw8, hq8, ht8, ho8, hap8⟩ := HR.out
              by_cases hlt : k < n + 1
              · have hj2 := HLEN.out k hlt
                have hj1 : k < (compStrs q n).length := by omega
                have ho9 := ho8
                rw [← HNJ.out] at ho9
                obtain ⟨o9, c9, e9, -, hlf⟩ := ho9.flat (fun _ => rfl)
                simp only [Value.slice.injEq] at e9
                obtain ⟨rfl, -, rfl⟩ := e9
                obtain ⟨bl, offl, rfl, l0⟩ := hlf.st hj1
                obtain ⟨S, hS⟩ : ∃ S, S = (compStrs q n)[k] := ⟨_, rfl⟩
                rw [← hS] at l0
                have HSS : Hid (midC q (k + 1) = { midC q k with writes := (midC q k).writes ++ [⟨(m : Int), S⟩] }) := midC_succ q k hj2 S (by rw [hS, HLI.out k hj1 hj2]) m HMM.out
                have hwl : (midC q k).writes.length = k := by
                  show (compWs _ _).length = k
                  unfold compWs
                  rw [List.length_map, List.length_take]
                  omega
                have HWL := Lib.hid hwl
                have d8 : wr.cell? ⟨b, 8, none⟩ = some vw8 := hq8.tab.at' 8 (by omega)
                have d0 : wr.cell? ⟨b, 0, none⟩ = some (.int .i64 (m : Int)) := (hq8.tab.at' 0 (by omega)).trans (by show some (Value.int .i64 (1 - q.area)) = _; rw [HMM.out])
                have jd : (k : Int) < ((n + 1 : Nat) : Int) := by omega
                have j0 : (0 : Int) ≤ (k : Int) := by omega
                have hB3 : B ≤ wr.heap.size := Nat.le_trans H.out.hB ht8.size
                have hlt3 := hq8.lt
                have HQA := Lib.hid (hq8.below (balloc (Below.refl _ wr) (.cells #[.int .i64 (m : Int), .string S] 54)))
                have HTA := Lib.hid (ht8.below (balloc (Below.refl _ wr) (.cells #[.int .i64 (m : Int), .string S] 54)))
                have HOW := Lib.hid hq8.wr
                have HOL := Lib.hid (ho8.alloc (.cells #[.int .i64 (m : Int), .string S] 54))
                have HAP := Lib.hid hap8
                have HOB : Hid (∀ g, (Value.slice (some ⟨bl, offl, none⟩) (n + 1) cl).ownBlock = some g → g < wr.heap.size) := fun g e => (ho8.blk e).2
                clear hq8 ht8 ho8 hap8 hlf ho9 hS hwl HR
                go_upto_region 24 with fail
                go_region_law (first | (refine step_app1L (by rfl) (.tmp 117) (.tmp 124) 35 (by rfl) elemWr Tryz.underlying35 B vw8 (midC q k).writes encWr (by rfl) (HOW.out.alloc (.cells #[.int .i64 (m : Int), .string S] 54)) ⟨(m : Int), S⟩ ⟨wr.heap.size, 0, none⟩ 1 (by rfl) (by rfl) (World.news_of_block (cs := #[.int .i64 (m : Int), .string S]) (t := 54) (fr := (0, 0)) (heap_alloc_new wr _)) (by simp [encWr, Value.oneCell']) (by have := HWL.out; omega) (by have := HWL.out; unfold maxLen; omega) (by simp; omega) ?_; intro g5 cap5 w5 hown5 hg5 hat5; have hgg : (wr.alloc (.cells #[.int .i64 (m : Int), .string S] 54)).grownBy w5 vw8.ownBlock := ⟨hg5.os, hg5.tape, hg5.output, hg5.size, hg5.block⟩; have hft := HQA.out.tab.ofBlock (grown_block hgg HQA.out.lt HQA.out.nw); have n8 : w5.cell? ⟨b, 8, none⟩ = some vw8 := hft.at' 8 (by omega); have n0 : w5.cell? ⟨b, 0, none⟩ = some (.int .i64 (m : Int)) := (hft.at' 0 (by omega)).trans (by show some (Value.int .i64 (1 - q.area)) = _; rw [HMM.out]); have nf := hft.fz 8; have HG5 := Lib.hid hgg; have HOWN5 := Lib.hid hown5; have HAT5 := Lib.hid hat5; clear hgg hft hg5 hown5 hat5) | fail)
                all_goals
                  have HQ5 := Lib.hid (HQA.out.growW HG5.out HOWN5.out HAT5.out)
                  have HT5 := Lib.hid ((HTA.out.growW (n := (midC q k).writes.length + 1) (cap := cap5) HG5.out HAT5.out).set 8 (.slice (some ⟨g5, 0, none⟩) ((midC q k).writes.length + 1) cap5))
                  have HOX : Hid (Own (w5.setCell ⟨b, 8, none⟩ (.slice (some ⟨g5, 0, none⟩) ((midC q k).writes.length + 1) cap5)) w.heap.size 9 1 encS (.slice (some ⟨bl, offl, none⟩) (n + 1) cl) (compStrs q q.jobs.length)) :=
                    own_other (HOL.out.ofBlocks fun j hj => grown_block HG5.out (HOL.out.blk hj).2 fun e => HAP.out j hj (.inr (.inr e))) (fun e => HAP.out b e (.inl rfl)) _
                  have HAX : Hid (∀ g, (Value.slice (some ⟨bl, offl, none⟩) (n + 1) cl).ownBlock = some g → ¬ InQ b (.slice oj q.jobs.length cj) (.slice (some ⟨g5, 0, none⟩) ((midC q k).writes.length + 1) cap5) g) := fun g e e2 => by
                    rcases e2 with e2 | e2 | e2
                    · exact HAP.out g e (.inl e2)
                    · exact HAP.out g e (.inr (.inl e2))
                    · have e3 : g5 = g := by simpa [Value.ownBlock] using e2
                      subst e3
                      have hl := HOB.out _ e
                      rcases HAT5.out with e4 | e4
                      · exact HAP.out _ e (.inr (.inr e4))
                      · have e5 : g5 = wr.heap.size + 1 := e4.trans (World.size_alloc _ _)
                        omega
                  clear HG5 HOWN5 HAT5 n8 n0 nf d8 d0 HQA HTA HOW HOL HAP HOB hlt3 hB3
                  generalize w5.setCell ⟨b, 8, none⟩ (.slice (some ⟨g5, 0, none⟩) ((midC q k).writes.length + 1) cap5) = w7 at *
                  have HNX : Hid (CompAt w w7 B b q (.slice oj q.jobs.length cj) vw (.slice (some ⟨bl, offl, none⟩) (n + 1) cl) (k + 1)) := ⟨_, by rw [HSS.out]; exact HQ5.out, HT5.out, HOX.out, HAX.out⟩
                  clear HQ5 HT5 HOX HAX HSS
                  go_wp2
                  go_roundw
                  case rel => exact ⟨k + 1, by omega, by go_num, HNX⟩
                  case measure => simp [intOf]; omega
              · obtain rfl : k = n + 1 := by omega
                have HF : Hid (RetDone B b (compQ q) 0 (.slice oj q.jobs.length cj) vw w (.returned (.int .i64 0)) wr) := ⟨_, vw8, rfl, by rw [← HME.out]; exact hq8, ht8⟩
                clear hq8 ht8 ho8 hap8 HR
                go_wp2
                go_ret
                exact HF.out
end Go.Proofs.YtnnnihjagjfkdaaGreatDoor
