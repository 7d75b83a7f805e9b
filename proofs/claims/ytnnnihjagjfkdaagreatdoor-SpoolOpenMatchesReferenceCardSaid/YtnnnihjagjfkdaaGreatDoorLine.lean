/-
  The walk of spool.line. Own text.
-/
import Derived.Test.YtnnnihjagjfkdaaGreatDoorCode
import Derived.WalkSmall
import Derived.Lib.ItoaLen
import Derived.Lib.AppendIntMem
namespace Go.Proofs.YtnnnihjagjfkdaaGreatDoor
open Go.RowKit
set_option linter.unusedVariables false
/-- The two tables that are read. -/
structure Tabs (w : World) : Prop where
  steps : StepsAt w
  pow : Lib.TabIs Tryz.prog w "internal/strconv.uint64pow10" .u64 Lib.pow10Tab
theorem gPow : Tryz.prog.globalNamed "internal/strconv.uint64pow10" = some 2 := by kernel_rfl
theorem Tabs.lt {w : World} (h : Tabs w) : 2 < w.heap.size := by
  have := cell?_lt (Lib.TabIs.cell h.pow gPow 0 (by decide))
  exact this
theorem Tabs.below {w w' : World} (h : Tabs w) (hb : Below w.heap.size w w') : Tabs w' := ⟨h.steps.below hb, var?_below hb gPow h.lt h.pow⟩
/-- A record's bytes. -/
def bodyV (ws : List (List UInt8)) : List UInt8 := Lib.join ws [32]
def lineV (ep sq : Int) (ws : List (List UInt8)) : List UInt8 := bodyV ws ++ [32] ++ hexV (sumV (Lib.itoa ep ++ [32] ++ Lib.itoa sq ++ [32] ++ bodyV ws)) ++ [10]
theorem lineV_len (ep sq : Int) (ws : List (List UInt8)) : (lineV ep sq ws).length = (bodyV ws).length + 10 := by
  unfold lineV
  simp only [List.length_append, hexV_len, List.length_cons, List.length_nil]
def strB (l : List UInt8) : ByteArray := ⟨l.toArray⟩
theorem strB_size (l : List UInt8) : (strB l).size = l.length := by simp [strB, ByteArray.size]
theorem strB_data (l : List UInt8) : (strB l).data.toList = l := rfl
theorem strB_app (a b : List UInt8) : strB a ++ strB b = strB (a ++ b) := str_app a b
theorem strB_eq (s : ByteArray) : strB s.data.toList = s := by
  obtain ⟨⟨l⟩⟩ := s
  rfl
def RetStr (l : List UInt8) (w : World) (e : Ending) (w' : World) : Prop := e = .returned (.string (strB l)) ∧ Below w.heap.size w w'
theorem itoa_any (n : Int) (w : World) (h0 : 0 ≤ n) (h1 : n ≤ 9223372036854775807) (ht : Tabs w) :
    Calls Tryz.prog 29 #[.int .i64 n] w (RetStr (Lib.itoa n) w) := by
  refine (Tryz.strconv_Itoa n (by omega) h1 w ht.pow).mono ?_
  rintro e w' ⟨rfl, k, os, rfl⟩
  exact ⟨rfl, Lib.below_grow _ _ (Nat.le_refl _) _ _⟩
theorem itoa_gen (n : Int) (w : World) (h0 : -9223372036854775808 ≤ n) (h1 : n ≤ 9223372036854775807) (ht : Tabs w) :
    Calls Tryz.prog 29 #[.int .i64 n] w (RetStr (Lib.itoa n) w) := by
  refine (Tryz.strconv_Itoa n h0 h1 w ht.pow).mono ?_
  rintro e w' ⟨rfl, k, os, rfl⟩
  exact ⟨rfl, Lib.below_grow _ _ (Nat.le_refl _) _ _⟩
theorem sum_str (l : List UInt8) (w : World) (hs : l.length ≤ 1000000) (ht : Tabs w) :
    Calls Tryz.prog 49 #[.string (strB l)] w fun e w' => e = .returned (.int .u32 (sumV l)) ∧ w = w' := by
  have h := sum_any (strB l) w (by rw [strB_size]; unfold maxLen; omega) ht.steps
  rw [strB_data] at h
  exact h
set_option maxRecDepth 100000 in
set_option maxHeartbeats 2000000 in
theorem line_gen (ep sq : Int) (g off : Nat) (ws : List ByteArray) (c : Nat) (w : World) (hcells : ∀ j x, ws[j]? = some x → w.cell? ⟨g, off + j, none⟩ = some (.string x)) (hg : g < w.heap.size) (hN : ws.length ≤ 100000) (hc : ws.length ≤ c)
    (hlen : (bodyV (ws.map (·.data.toList))).length ≤ 100000) (he0 : -9223372036854775808 ≤ ep) (he1 : ep ≤ 9223372036854775807) (hs0 : 0 ≤ sq) (hs1 : sq ≤ 9223372036854775807) (ht : Tabs w) :
    Calls Tryz.prog 31 #[.int .i64 ep, .int .i64 sq, .slice (some ⟨g, off, none⟩) ws.length c] w (RetStr (lineV ep sq (ws.map (·.data.toList))) w) := by
  have HJ : Hid (Calls Tryz.prog 47 #[.slice (some ⟨g, off, none⟩) ws.length c, .string ⟨#[32]⟩] w (RetStr (bodyV (ws.map (·.data.toList))) w)) :=
    Tryz.strings_Join g off c ws ⟨#[32]⟩ w hcells hg (by omega) hc (by show (bodyV (ws.map (·.data.toList))).length ≤ _; omega)
  have HT := Lib.hid ht
  have HLV : Hid (∀ b, b = bodyV (ws.map (·.data.toList)) → lineV ep sq (ws.map (·.data.toList)) = b ++ [32] ++ hexV (sumV (Lib.itoa ep ++ [32] ++ Lib.itoa sq ++ [32] ++ b)) ++ [10]) := fun b hb => by rw [hb]; rfl
  have hi1 := Lib.itoa_length_le ep (by omega) he1
  have hi2 := Lib.itoa_length_le sq (by omega) hs1
  obtain ⟨n, hn⟩ : ∃ n, n = ws.length := ⟨_, rfl⟩
  rw [← hn] at HJ
  rw [← hn]
  obtain ⟨b, hb⟩ : ∃ b, b = bodyV (ws.map (·.data.toList)) := ⟨_, rfl⟩
  have HLB := Lib.hid (HLV.out b hb)
  rw [← hb] at HJ hlen
  generalize lineV ep sq (ws.map (·.data.toList)) = L at *
  clear hcells hg hN hc ht HLV hn hb
  go_enter Tryz.func31, Tryz.ntmps31
  go_wp2_with fail
  refine HJ.out.mono ?_
  rintro e w2 ⟨rfl, hb2⟩
  have HB2 := Lib.hid hb2
  clear hb2 HJ
  obtain ⟨B, hB⟩ : ∃ B, B = strB b := ⟨_, rfl⟩
  rw [← hB]
  have hBs : B.size ≤ 100000 := by rw [hB, strB_size]; exact hlen
  have HBB := Lib.hid hB
  clear hB
  have hE := Lib.hid (fun W (h : Tabs W) => itoa_gen ep W he0 he1 h)
  have hS := Lib.hid (fun W (h : Tabs W) => itoa_any sq W hs0 hs1 h)
  go_wp2_with fail
  refine (hE.out _ (HT.out.below HB2.out)).mono ?_
  rintro e w3 ⟨rfl, hb3⟩
  have HB3 := Lib.hid (bthen HB2.out hb3)
  clear hb3
  obtain ⟨E, hEq⟩ : ∃ E, E = strB (Lib.itoa ep) := ⟨_, rfl⟩
  rw [← hEq]
  have hEs : E.size ≤ 21 := by rw [hEq, strB_size]; exact hi1
  have HEE := Lib.hid hEq
  clear hEq
  go_wp2_with fail
  refine (hS.out _ (HT.out.below HB3.out)).mono ?_
  rintro e w4 ⟨rfl, hb4⟩
  have HB4 := Lib.hid (bthen HB3.out hb4)
  clear hb4
  obtain ⟨S, hSq⟩ : ∃ S, S = strB (Lib.itoa sq) := ⟨_, rfl⟩
  rw [← hSq]
  have hSs : S.size ≤ 21 := by rw [hSq, strB_size]; exact hi2
  have HSS := Lib.hid hSq
  clear hSq
  go_wp2_with fail
  obtain ⟨T, hT⟩ : ∃ T, T = Lib.itoa ep ++ [32] ++ Lib.itoa sq ++ [32] ++ b := ⟨_, rfl⟩
  have eT : E ++ (⟨#[32]⟩ : ByteArray) ++ S ++ (⟨#[32]⟩ : ByteArray) ++ B = strB T := by
    rw [HEE.out, HSS.out, HBB.out, show (⟨#[32]⟩ : ByteArray) = strB [32] from rfl, strB_app, strB_app, strB_app, strB_app, hT]
  have hTl : T.length ≤ 1000000 := by
    rw [hT]
    simp only [List.length_append, List.length_cons, List.length_nil]
    omega
  rw [eT]
  rw [← hT] at HLB
  clear hT eT
  refine (sum_str T w4 hTl (HT.out.below HB4.out)).mono ?_
  rintro e w5 ⟨rfl, rfl⟩
  obtain ⟨x, hx⟩ : ∃ x, x = sumV T := ⟨_, rfl⟩
  have x0 : 0 ≤ x := by rw [hx]; exact (sumV_bd T).1
  have x1 : x < 4294967296 := by rw [hx]; exact (sumV_bd T).2
  rw [← hx] at HLB
  rw [← hx]
  clear hx
  go_wp2_with fail
  refine (hex_any x _ x0 x1).mono ?_
  rintro e w6 ⟨rfl, hb6⟩
  have HB6 := Lib.hid (bthen HB4.out hb6)
  clear hb6
  have hXs : (hexV x).length = 8 := hexV_len x
  obtain ⟨X, hX⟩ : ∃ X, X = strB (hexV x) := ⟨_, rfl⟩
  rw [show (⟨(hexV x).toArray⟩ : ByteArray) = X from hX.symm]
  have hXz : X.size ≤ 8 := by rw [hX, strB_size]; omega
  have HXX := Lib.hid hX
  clear hX
  go_wp2
  go_ret
  refine ⟨?_, HB6.out⟩
  have eF : B ++ (⟨#[32]⟩ : ByteArray) ++ X ++ (⟨#[10]⟩ : ByteArray) = strB L := by
    rw [HBB.out, HXX.out, show (⟨#[32]⟩ : ByteArray) = strB [32] from rfl, show (⟨#[10]⟩ : ByteArray) = strB [10] from rfl, strB_app, strB_app, strB_app, HLB.out]
  rw [← eF]
  rfl
theorem line_any (ep sq : Int) (g off : Nat) (ws : List ByteArray) (c : Nat) (w : World) (hcells : ∀ j x, ws[j]? = some x → w.cell? ⟨g, off + j, none⟩ = some (.string x)) (hg : g < w.heap.size) (hN : ws.length ≤ 100) (hc : ws.length ≤ c)
    (hlen : (bodyV (ws.map (·.data.toList))).length ≤ 100000) (he0 : 0 ≤ ep) (he1 : ep ≤ 9223372036854775807) (hs0 : 0 ≤ sq) (hs1 : sq ≤ 9223372036854775807) (ht : Tabs w) :
    Calls Tryz.prog 31 #[.int .i64 ep, .int .i64 sq, .slice (some ⟨g, off, none⟩) ws.length c] w (RetStr (lineV ep sq (ws.map (·.data.toList))) w) :=
  line_gen ep sq g off ws c w hcells hg (by omega) hc hlen (by omega) he1 hs0 hs1 ht
end Go.Proofs.YtnnnihjagjfkdaaGreatDoor
