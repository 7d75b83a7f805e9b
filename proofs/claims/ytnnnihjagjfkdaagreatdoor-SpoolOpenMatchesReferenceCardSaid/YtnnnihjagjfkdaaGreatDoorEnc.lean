/-
  Groups of four bytes written with 85 digits: plain. No program in sight. The walk of filter.group. A strings.Builder: WriteString at this program's numbers; what a larger world keeps. The walk of filter.text's encode. Own text.
-/
import Derived.Test.YtnnnihjagjfkdaaGreatDoorHex
namespace Go.Proofs.YtnnnihjagjfkdaaGreatDoor
set_option linter.unusedVariables false
def byteAt (l : List UInt8) (k : Nat) : Int := ((l.getD k 0).toNat : Int)
theorem byteAt_bd (l : List UInt8) (k : Nat) : 0 ≤ byteAt l k ∧ byteAt l k < 256 := by
  unfold byteAt
  have := (l.getD k 0).toNat_lt
  omega
def numTo (l : List UInt8) : Nat → Int
  | 0 => 0
  | k + 1 => numTo l k * 256 + byteAt l k
def p256 : Nat → Int
  | 0 => 1
  | 1 => 256
  | 2 => 65536
  | 3 => 16777216
  | _ => 4294967296
theorem numTo_bd (l : List UInt8) (k : Nat) (h : k ≤ 4) : 0 ≤ numTo l k ∧ numTo l k < p256 k := by
  have b0 := byteAt_bd l 0
  have b1 := byteAt_bd l 1
  have b2 := byteAt_bd l 2
  have b3 := byteAt_bd l 3
  match k, h with
  | 0, _ => simp [numTo, p256]
  | 1, _ => simp only [numTo, p256]; omega
  | 2, _ => simp only [numTo, p256]; omega
  | 3, _ => simp only [numTo, p256]; omega
  | 4, _ => simp only [numTo, p256]; omega
theorem numTo_small (l : List UInt8) (k : Nat) (h : k < 4) : 0 ≤ numTo l k ∧ numTo l k < 16777216 := by
  have := numTo_bd l k (by omega)
  match k, h with
  | 0, _ => simp only [p256] at this; omega
  | 1, _ => simp only [p256] at this; omega
  | 2, _ => simp only [p256] at this; omega
  | 3, _ => simp only [p256] at this; omega
theorem bits_or256 {a c : Int} (h0 : 0 ≤ a) (h1 : a < 16777216) (c0 : 0 ≤ c) (c1 : c < 256) : bits .or .u32 (a * 256) c = a * 256 + c := by
  show IntKind.u32.wrap ((BitVec.ofInt 32 (a * 256) ||| BitVec.ofInt 32 c).toNat : Int) = _
  rw [BitVec.toNat_or, bv32 (by omega) (by omega), bv32 c0 (by omega)]
  obtain ⟨n, rfl⟩ := Int.eq_ofNat_of_zero_le h0
  obtain ⟨m, rfl⟩ := Int.eq_ofNat_of_zero_le c0
  have e : (((n : Int) * 256).toNat ||| (m : Int).toNat) = n * 256 + m := by
    have e1 : ((n : Int) * 256).toNat = n <<< 8 := by rw [Nat.shiftLeft_eq]; omega
    rw [e1, Int.toNat_natCast, ← Nat.shiftLeft_add_eq_or_of_lt (by omega), Nat.shiftLeft_eq]
  rw [e, IntKind.wrap_u32]
  omega
def p85 : Nat → Int
  | 0 => 1
  | 1 => 85
  | 2 => 7225
  | 3 => 614125
  | 4 => 52200625
  | _ => 4437053125
/-- Digit j of five. -/
def digV (v : Int) (j : Nat) : Int := 33 + v / p85 (4 - j) % 85
theorem digV_bd {v : Int} (h0 : 0 ≤ v) (j : Nat) : 33 ≤ digV v j ∧ digV v j ≤ 117 := by
  unfold digV
  generalize v / p85 (4 - j) = q
  omega
def digC (v : Int) (j : Nat) : UInt8 := UInt8.ofNat (digV v j).toNat
theorem digC_toNat {v : Int} (h0 : 0 ≤ v) (j : Nat) : ((digC v j).toNat : Int) = digV v j := by
  have h := digV_bd h0 j
  unfold digC
  rw [UInt8.toNat_ofNat_of_lt' (by show (digV v j).toNat < 256; omega)]
  omega
/-- The code of one to four bytes. -/
def groupV (l : List UInt8) : List UInt8 := if numTo l 4 = 0 ∧ l.length = 4 then [122] else (List.range (l.length + 1)).map (digC (numTo l 4))
theorem groupV_len (l : List UInt8) : 1 ≤ (groupV l).length ∧ (groupV l).length ≤ l.length + 1 := by
  unfold groupV
  split <;> simp
/-- The code of a text. -/
def textV : Nat → List UInt8 → List UInt8
  | 0, _ => []
  | n + 1, l => groupV (l.take 4) ++ textV n (l.drop 4)
/-- How many groups. -/
def manyG (l : List UInt8) : Nat := (l.length + 3) / 4
def encText (l : List UInt8) : List UInt8 := textV (manyG l) l
theorem encText_nil : encText [] = [] := rfl
theorem encText_step {l : List UInt8} (h : l ≠ []) : encText l = groupV (l.take 4) ++ encText (l.drop 4) := by
  have hl : 0 < l.length := List.length_pos_iff.2 h
  unfold encText
  have e : manyG l = manyG (l.drop 4) + 1 := by
    unfold manyG
    rw [List.length_drop]
    omega
  rw [e]
  rfl
theorem textV_len (n : Nat) : ∀ l : List UInt8, (textV n l).length ≤ 5 * n := by
  induction n with
  | zero => intro l; simp [textV]
  | succ n ih =>
    intro l
    have h1 := groupV_len (l.take 4)
    have h2 := ih (l.drop 4)
    simp only [textV, List.length_append]
    have : (l.take 4).length ≤ 4 := List.length_take_le _ _
    omega
theorem encText_len (l : List UInt8) : (encText l).length ≤ 5 * ((l.length + 3) / 4) := textV_len _ _
end Go.Proofs.YtnnnihjagjfkdaaGreatDoor
namespace Go.Proofs.YtnnnihjagjfkdaaGreatDoor
open Go.RowKit
set_option linter.unusedVariables false
theorem byteAt_str {s : ByteArray} {k : Nat} (h : k < s.size) : byteAt s.data.toList k = (s[k].toNat : Int) := by
  unfold byteAt
  rw [List.getD_eq_getElem?_getD, List.getElem?_eq_getElem (by simpa using h)]
  rfl
theorem byteAt_out {s : ByteArray} {k : Nat} (h : s.size ≤ k) : byteAt s.data.toList k = 0 := by
  unfold byteAt
  rw [List.getD_eq_getElem?_getD, List.getElem?_eq_none (by simpa using h)]
  rfl
/-- The digits behind k rounds. -/
def digN (v : Int) (k j : Nat) : Int := if 5 - k ≤ j then digV v j else 0
theorem p85_step {v : Int} {k : Nat} (h : k < 5) : v / p85 k / 85 = v / p85 (k + 1) := by
  match k, h with
  | 0, _ => simp only [p85]; omega
  | 1, _ => simp only [p85]; omega
  | 2, _ => simp only [p85]; omega
  | 3, _ => simp only [p85]; omega
  | 4, _ => simp only [p85]; omega
/-- The first n cells of an array of five. -/
theorem run_cut5 (W : World) (g n : Nat) (hn : n ≤ 5) : (Instr.sliceAt 207 (.pointer (some ⟨g, 0, none⟩)) none (some (.int .i64 (n : Int))) none).run Tryz.prog W = .ok (.slice (some ⟨g, 0, none⟩) n 5) W := by
  have hal : Tryz.prog.arrayLen 207 = 5 := by kernel_rfl
  rw [run_sliceAt_array_h (P := Tryz.prog) W 207 ⟨g, 0, none⟩ (by kernel_rfl) .i64 (n : Int) (by omega) (by rw [hal]; omega)]
  go_simp
set_option maxRecDepth 100000 in
set_option maxHeartbeats 2000000 in
theorem group_any (s : ByteArray) (w : World) (h1 : 1 ≤ s.size) (h4 : s.size ≤ 4) :
    Calls Tryz.prog 151 #[.string s] w fun e w' => e = .returned (.string ⟨(groupV s.data.toList).toArray⟩) ∧ Below w.heap.size w w' := by
  have hlen : s.data.toList.length = s.size := by simp
  obtain ⟨l, hl⟩ : ∃ l, l = s.data.toList := ⟨_, rfl⟩
  have HL := Lib.hid hl
  have HBS : Hid (∀ k (h : k < s.size), byteAt l k = (s[k].toNat : Int)) := fun k h => by rw [hl]; exact byteAt_str h
  have HBO : Hid (∀ k, s.size ≤ k → byteAt l k = 0) := fun k h => by rw [hl]; exact byteAt_out h
  rw [← hl] at hlen
  have HLEN := Lib.hid hlen
  rw [← hl]
  clear hl hlen
  go_enter Tryz.func151, Tryz.ntmps151
  go_wp2
  go_loop [3, 7] (fun v i => ∃ k : Nat, k ≤ 4 ∧ i = .int .i64 k ∧ v = .int .u32 (numTo l k)) (fun _ i => 4 - (intOf i).toNat)
  case atStart => exact ⟨0, by omega, rfl, rfl⟩
  case round =>
    obtain ⟨k, hk, rfl, rfl⟩ := hrel
    by_cases hlt : k < 4
    · obtain ⟨b0, b1⟩ := numTo_small l k hlt
      have HS : Hid (numTo l (k + 1) = numTo l k * 256 + byteAt l k) := rfl
      generalize numTo l k = v at *
      by_cases hks : k < s.size
      · have hby := HBS.out k hks
        have hc : (s[k].toNat : Int) < 256 := by have := s[k].toNat_lt; omega
        have hor : bits .or .u32 (v * 256) (s[k].toNat : Int) = v * 256 + (s[k].toNat : Int) := bits_or256 b0 b1 (by omega) hc
        have HBY := Lib.hid hby
        clear hby
        go_wp2
        go_round
        case rel => exact ⟨k + 1, by omega, by go_num, by rw [HS.out, HBY.out]⟩
        case measure => simp [intOf]; omega
      · have hby := HBO.out k (by omega)
        have HBY := Lib.hid hby
        clear hby
        go_wp2
        go_round
        case rel => exact ⟨k + 1, by omega, by go_num, by rw [HS.out, HBY.out, Int.add_zero]⟩
        case measure => simp [intOf]; omega
    · obtain rfl : k = 4 := by omega
      obtain ⟨v0, v1⟩ := numTo_bd l 4 (by omega)
      simp only [p256] at v1
      have HG : Hid (groupV l = if numTo l 4 = 0 ∧ s.size = 4 then [122] else (List.range (s.size + 1)).map (digC (numTo l 4))) := by show groupV l = _; unfold groupV; rw [HLEN.out]
      generalize numTo l 4 = v at *
      by_cases hz : v = 0 ∧ s.size = 4
      · obtain ⟨hz1, hz2⟩ := hz
        have e1 : (v == 0) = true := by simpa using hz1
        have e2 : ((s.size : Int) == 4) = true := by simp; omega
        have HZ : Hid (groupV l = [122]) := by rw [HG.out, if_pos ⟨hz1, hz2⟩]; rfl
        clear hz1 hz2
        go_wp2
        go_ret
        exact ⟨by rw [HZ.out]; rfl, Below.refl _ _⟩
      · have HZ : Hid (groupV l = (List.range (s.size + 1)).map (digC v)) := by rw [HG.out, if_neg hz]; rfl
        have ht : (v == 0) = false ∨ (v == 0) = true ∧ ((s.size : Int) == 4) = false := by
          by_cases hv : v = 0
          · exact .inr ⟨by simpa using hv, by simp; omega⟩
          · exact .inl (by simpa using hv)
        have hi5 : (s.size : Int) + 1 ≤ 5 := by omega
        have hsl := fun (W : World) (g : Nat) => run_cut5 W g (s.size + 1) (by omega)
        have ecast : ((s.size + 1 : Nat) : Int) = (s.size : Int) + 1 := by omega
        simp only [ecast] at hsl
        clear hz HG ecast
        rcases ht with e1 | ⟨e1, e2⟩
        all_goals
          go_wp2
          have HM : Hid (FTab (Value.int .u8) (w.alloc (.cells #[.int .u8 0, .int .u8 0, .int .u8 0, .int .u8 0, .int .u8 0] 207)) w.heap.size 5 (digN v 0)) := by
            refine ⟨fun i hi => ?_, fun o => ?_⟩
            · have hb := heap_alloc_new w (.cells #[.int .u8 0, .int .u8 0, .int .u8 0, .int .u8 0, .int .u8 0] 207)
              rw [cell_of_row _ w.heap.size i _ _ (0, 0) hb]
              match i, hi with
              | 0, _ => rfl
              | 1, _ => rfl
              | 2, _ => rfl
              | 3, _ => rfl
              | 4, _ => rfl
            · unfold World.frozen?
              rw [heap_alloc_new]
              simp
          have HB := Lib.hid (balloc (Below.refl _ w) (.cells #[.int .u8 0, .int .u8 0, .int .u8 0, .int .u8 0, .int .u8 0] 207))
          generalize w.alloc (.cells #[.int .u8 0, .int .u8 0, .int .u8 0, .int .u8 0, .int .u8 0] 207) = w1 at *
          go_loopw [3, 6] (fun u i wr => ∃ k : Nat, k ≤ 5 ∧ i = .int .i64 (4 - (k : Int)) ∧ u = .int .u32 (v / p85 k) ∧ Hid (FTab (Value.int .u8) wr w.heap.size 5 (digN v k) ∧ Below w.heap.size w wr)) (fun _ i _ => (intOf i + 1).toNat)
          case atStart => exact ⟨0, by omega, rfl, by simp [p85], HM.out, HB.out⟩
          case round =>
            obtain ⟨k, hk, rfl, rfl, HR⟩ := hrel
            by_cases hlt : k < 5
            · have hp := p85_step (v := v) hlt
              have HS := Lib.hid hp
              have HD : Hid (digV v (4 - k) = 33 + v / p85 k % 85) := by
                show 33 + v / p85 (4 - (4 - k)) % 85 = _
                rw [show 4 - (4 - k) = k by omega]
              have q0 : 0 ≤ v / p85 k := Int.ediv_nonneg v0 (by unfold p85; split <;> omega)
              have q1 : v / p85 k < 4294967296 := by have := Int.ediv_le_self (p85 k) v0; omega
              obtain ⟨q, hq⟩ : ∃ q, q = v / p85 k := ⟨_, rfl⟩
              rw [← hq] at HS HD q0 q1
              rw [← hq]
              have f1 : ∃ u, wr.cell? ⟨w.heap.size, 4 - k, none⟩ = some (.int .u8 u) := ⟨_, HR.out.1.at' (4 - k) (by omega)⟩
              obtain ⟨u, f1⟩ := f1
              have f2 := HR.out.1.fz (4 - k)
              have ei : (4 - (k : Int)).toNat = 4 - k := by omega
              have i0 : (0 : Int) ≤ 4 - (k : Int) := by omega
              have i1 : 4 - (k : Int) < 5 := by omega
              have r0 : 0 ≤ q % 85 := by omega
              have r1 : q % 85 < 85 := by omega
              have HE : Hid (FTab (Value.int .u8) (wr.setCell ⟨w.heap.size, 4 - k, none⟩ (.int .u8 (33 + q % 85))) w.heap.size 5 (digN v (k + 1)) ∧ Below w.heap.size w (wr.setCell ⟨w.heap.size, 4 - k, none⟩ (.int .u8 (33 + q % 85)))) := by
                refine ⟨(HR.out.1.set (by omega) _).congr fun i hi => ?_, HR.out.2.setCell (p := ⟨w.heap.size, 4 - k, none⟩) (Nat.le_refl _) _⟩
                unfold digN
                by_cases e : i = 4 - k
                · subst e
                  rw [if_pos rfl, if_pos (by omega), HD.out]
                · rw [if_neg e]
                  by_cases e2 : 5 - k ≤ i
                  · rw [if_pos e2, if_pos (by omega)]
                  · rw [if_neg e2, if_neg (by omega)]
              clear hp hq
              go_wp2
              go_roundw
              case rel => exact ⟨k + 1, by omega, by go_num, by rw [← HS.out], HE.out⟩
              case measure => simp [intOf]; omega
            · obtain rfl : k = 5 := by omega
              have HF := HR.out.1
              have hcv : ∀ dst, Tryz.prog.underlying dst = some .string → (convert 121 dst (.slice (some ⟨w.heap.size, 0, none⟩) (s.size + 1) 5)).run Tryz.prog wr = .ok (.string ⟨(groupV l).toArray⟩) wr := fun dst hd => by
                have hgl : ((List.range (s.size + 1)).map (digC v)).length = s.size + 1 := by simp
                have h := run_convert_bytes_back (P := Tryz.prog) wr 121 dst 5 ⟨w.heap.size, 0, none⟩ 5 ((List.range (s.size + 1)).map (digC v)) Tryz.underlying121 Tryz.underlying5 hd (fun j hj => by
                  rw [add_none, Nat.zero_add]
                  have hj8 : j < 5 := by rw [hgl] at hj; omega
                  have h1 := HF.at' j hj8
                  have hd := digC_toNat v0 j
                  simpa [digN, hd] using h1)
                rw [hgl] at h
                rw [HZ.out]
                exact h
              have hcv9 := hcv 9 Tryz.underlying9
              clear HF hcv
              go_wp2
              go_ret
              exact ⟨rfl, HR.out.2⟩
end Go.Proofs.YtnnnihjagjfkdaaGreatDoor
namespace Go.Proofs.YtnnnihjagjfkdaaGreatDoor
open Go.RowKit
set_option linter.unusedVariables false
theorem lays166 : Lays.n166 Tryz.prog Tryz.lays156_ren := { Tryz.lays156 with }
/-- WriteString. -/
theorem writeStr (B b : Nat) (bs : List Value) (s : ByteArray) (w : World) (h : Lib.IsBuilder 123 5 B b bs w) (hlen : bs.length + s.size ≤ 140737488355328) (hBw : B ≤ w.heap.size) :
    Calls Tryz.prog 67 #[.pointer (some ⟨b, 0, none⟩), .string s] w fun e w' => e = .returned (.tuple #[.int .i64 s.size, .nilIface]) ∧ (Lib.BuilderAt 123 5 B b (.pointer (some ⟨b, 0, none⟩)) (bs ++ Lib.strCells s) w' ∧ Below B w w') :=
  Any.Builder_WriteString lays166 Tryz.Builder_Extra_156 B b bs s w h hlen hBw
theorem ownsRow_below {w w' : World} {base : Nat} {e : TypeId} {k : Nat} {v : Value} {n : Nat} {cs : List Value} (h : w.ownsRow base e k v n cs) (hb : Below w.heap.size w w') : w'.ownsRow base e k v n cs := by
  refine ⟨h.1, ?_⟩
  rcases h.2 with hn | ⟨g, cap, cur, rfl, hbg, hg, rest⟩
  · exact .inl hn
  · refine .inr ⟨g, cap, cur, rfl, hbg, ?_, rest⟩
    rw [hb.block g (Array.getElem?_eq_some_iff.1 hg).1]
    exact hg
theorem builderAt_below {T e : TypeId} {B b : Nat} {p : Value} {bs : List Value} {w w' : World} (h : Lib.BuilderAt T e B b p bs w) (hb : Below w.heap.size w w') : Lib.BuilderAt T e B b p bs w' := by
  obtain ⟨h0, v, h1, h2, h3⟩ := h
  refine ⟨h0, v, ?_, ownsRow_below h2 hb, h3⟩
  rw [hb.block b (Array.getElem?_eq_some_iff.1 h1).1]
  exact h1
theorem isBuilder_below {T e : TypeId} {B b : Nat} {bs : List Value} {w w' : World} (h : Lib.IsBuilder T e B b bs w) (hb : Below w.heap.size w w') : Lib.IsBuilder T e B b bs w' :=
  h.elim (fun h => .inl (builderAt_below h hb)) (fun h => .inr (builderAt_below h hb))
theorem strCells_eq (s : ByteArray) : Lib.strCells s = Lib.byteCells s.data.toList := rfl
theorem byteCells_append (l r : List UInt8) : Lib.byteCells (l ++ r) = Lib.byteCells l ++ Lib.byteCells r := by
  unfold Lib.byteCells
  exact List.map_append
end Go.Proofs.YtnnnihjagjfkdaaGreatDoor
namespace Go.Proofs.YtnnnihjagjfkdaaGreatDoor
open Go.RowKit
set_option linter.unusedVariables false
section
variable {P : Program} {w : World} {ops : Array Oper} {rest : List Oper} {o : Oper} {a : Act} {Q : Exit → Act → World → Prop}
/-- min of two ints, as a number of the prover's. -/
theorem wpList_min2 (hgd : o.guard = none) (x y : Operand) (ts : Array TypeId) (ho : o.op = .call { callee := .builtin .min, args := #[x, y], argTypes := ts })
    (p q r : Int) (hx : a.eval x = .int .i64 p) (hy : a.eval y = .int .i64 q) (hr : (if q < p then q else p) = r) (h : wpList P ops Q rest (a.put o.dst (.int .i64 r)) w) : wpList P ops Q (o :: rest) a w := by
  refine wpList_plain hgd fun K hK => ?_
  unfold Oper.wp execOp
  simp only [ho, resolve, invoke, builtin, Sem.run_bind, Sem.run_pure, Result.andThen_ok, List.map_toArray, List.map_cons, List.map_nil, hx, hy, Builtin.min_, List.foldlM, Builtin.min2, hr]
  exact hK _ _ h
end
theorem byteCells_len (l : List UInt8) : (Lib.byteCells l).length = l.length := by simp [Lib.byteCells]
theorem extractL (s : ByteArray) (a b : Nat) : (s.extract a b).data.toList = (s.data.toList.drop a).take (b - a) := by
  simp [ByteArray.extract, ByteArray.copySlice]
theorem extractL_size (s : ByteArray) (a b : Nat) (h : b ≤ s.size) : (s.extract a b).size = b - a := by
  have h1 : (s.extract a b).size = (s.extract a b).data.toList.length := by rw [Array.length_toList]; rfl
  have h2 : s.data.toList.length = s.size := by simp
  rw [h1, extractL, List.length_take, List.length_drop, h2]
  omega
set_option maxRecDepth 100000 in
set_option maxHeartbeats 2000000 in
theorem enc_any (s : ByteArray) (w : World) (hs : s.size ≤ 16384) :
    Calls Tryz.prog 149 #[.agg #[], .string s] w fun e w' => e = .returned (.string ⟨(encText s.data.toList).toArray⟩) ∧ Below w.heap.size w w' := by
  have hle : (encText s.data.toList).length ≤ 20500 := by
    have h := encText_len s.data.toList
    have : s.data.toList.length = s.size := by simp
    omega
  have HLE := Lib.hid hle
  clear hle
  go_enter Tryz.func149, Tryz.ntmps149
  go_wp2
  have HB0 := Lib.hid (Lib.fresh_isBuilder 123 5 (w.alloc (.cells #[] 146)))
  have HW0 := Lib.hid (balloc (balloc (Below.refl _ w) (.cells #[] 146)) (.cells #[.pointer none, .slice none 0 0] 123))
  have hz : (w.alloc (.cells #[] 146)).heap.size = w.heap.size + 1 := World.size_alloc _ _
  rw [hz] at HB0
  have hz1 : w.heap.size + 1 < ((w.alloc (.cells #[] 146)).alloc (.cells #[.pointer none, .slice none 0 0] 123)).heap.size := by simp
  clear hz
  generalize (w.alloc (.cells #[] 146)).alloc (.cells #[.pointer none, .slice none 0 0] 123) = w1 at *
  go_loopw [1] (fun v wr => ∃ (r : ByteArray) (out : List UInt8), v = .string r ∧ r.size ≤ 16384 ∧ Hid (encText s.data.toList = out ++ encText r.data.toList ∧ Lib.IsBuilder 123 5 (w.heap.size + 1) (w.heap.size + 1) (Lib.byteCells out) wr ∧ Below w.heap.size w wr) ∧ w.heap.size + 1 < wr.heap.size) (fun v _ => match v with | .string r => r.size | _ => 0)
  case atStart => exact ⟨s, [], rfl, hs, ⟨rfl, HB0.out, HW0.out⟩, hz1⟩
  case round =>
    clear HB0 HW0 hz1
    obtain ⟨r, out, rfl, hr, HR, hz⟩ := hrel
    by_cases h0 : r.size = 0
    · have hnil : r.data.toList = [] := List.eq_nil_of_length_eq_zero (by simpa using h0)
      have hr0 : r = ⟨#[]⟩ := by
        obtain ⟨⟨l⟩⟩ := r
        have : l = [] := hnil
        rw [this]
      subst hr0
      have HS := Lib.hid (Tryz.Builder_String_any (w.heap.size + 1) (w.heap.size + 1) out wr HR.out.2.1 (by omega))
      go_wp2_with (go_at_call 68; refine HS.out.mono ?_; rintro e w3 ⟨rfl, hb3⟩; have HB3 := Lib.hid hb3; clear hb3)
      go_ret
      refine ⟨?_, ?_⟩
      · have := HR.out.1
        rw [show encText (⟨#[]⟩ : ByteArray).data.toList = [] from rfl, List.append_nil] at this
        rw [this]
        rfl
      · exact HR.out.2.2.trans (HB3.out.mono (by omega))
    · have hne : r.toList.isEmpty = false := by
        rw [ByteArray.toList_eq]
        cases h : r.data.toList with
        | nil => exact absurd (show r.size = 0 from by rw [show r.size = r.data.toList.length from by rw [Array.length_toList]; rfl, h]; rfl) h0
        | cons a l => rfl
      have hne2 : ¬ r.toList = [] := fun e => by rw [e] at hne; cases hne
      have hne3 : (!r.toList.isEmpty) = true := by rw [hne]; rfl
      obtain ⟨n, hn⟩ : ∃ n : Nat, n = if r.size < 4 then r.size else 4 := ⟨_, rfl⟩
      have n1 : 1 ≤ n := by split at hn <;> omega
      have n4 : n ≤ 4 := by split at hn <;> omega
      have nr : n ≤ r.size := by split at hn <;> omega
      have hmin : min (r.size : Int) 4 = (n : Int) := by split at hn <;> omega
      clear hn
      have hg : (r.extract 0 n).size = n := by rw [extractL_size r 0 n nr]; rfl
      have hd : (r.extract 0 n).data.toList = r.data.toList.take n := by rw [extractL]; rfl
      have HGR := Lib.hid (fun W => group_any (r.extract 0 n) W (by omega) (by omega))
      have hrl : r.data.toList.length = r.size := by simp
      have het : r.data.toList.take n = r.data.toList.take 4 := by
        by_cases h : n = 4
        · rw [h]
        · rw [List.take_of_length_le (by omega), List.take_of_length_le (by omega)]
      have hed : (r.extract n r.size).data.toList = r.data.toList.drop 4 := by
        rw [extractL, List.take_of_length_le (by rw [List.length_drop]; omega)]
        by_cases h : n = 4
        · rw [h]
        · rw [List.drop_of_length_le (by omega), List.drop_of_length_le (by omega)]
      have hcode : groupV (r.extract 0 n).data.toList = groupV (r.data.toList.take 4) := by rw [hd, het]
      have hne4 : r.data.toList ≠ [] := fun e => h0 (by rw [← hrl, e]; rfl)
      obtain ⟨g, hgv⟩ : ∃ g : ByteArray, g = ⟨(groupV (r.extract 0 n).data.toList).toArray⟩ := ⟨_, rfl⟩
      have hgd : g.data.toList = groupV (r.data.toList.take 4) := by rw [hgv, hcode]
      have hstep : encText s.data.toList = (out ++ g.data.toList) ++ encText (r.extract n r.size).data.toList := by
        rw [HR.out.1, encText_step hne4, hgd, hed, List.append_assoc]
      have hosz : out.length + g.size ≤ 20500 := by
        have h1 := congrArg List.length hstep
        rw [List.length_append, List.length_append] at h1
        have h2 := HLE.out
        have h3 : g.data.toList.length = g.size := by simp
        omega
      have HST := Lib.hid hstep
      have HGV := Lib.hid hgv
      have hrs : (r.extract n r.size).size = r.size - n := extractL_size r n r.size (Nat.le_refl _)
      have HRS := Lib.hid hrs
      clear hg hd hrl het hed hcode hgd hstep hrs hgv hne4
      go_wp2_with fail
      refine (HGR.out _).mono ?_
      rintro e w3 ⟨rfl, hb3⟩
      rw [← HGV.out]
      have hib := isBuilder_below HR.out.2.1 hb3
      have hz3 := hb3.size
      have HB3 := Lib.hid (bthen HR.out.2.2 hb3)
      have HWS := Lib.hid (writeStr (w.heap.size + 1) (w.heap.size + 1) (Lib.byteCells out) g w3 hib (by rw [byteCells_len]; omega) (by omega))
      clear hib hb3
      go_wp2_with fail
      refine HWS.out.mono ?_
      rintro e w4 ⟨rfl, hba, hb4⟩
      have hz4 := hb4.size
      have HN : Hid (encText s.data.toList = (out ++ g.data.toList) ++ encText (r.extract n r.size).data.toList ∧ Lib.IsBuilder 123 5 (w.heap.size + 1) (w.heap.size + 1) (Lib.byteCells (out ++ g.data.toList)) w4 ∧ Below w.heap.size w w4) :=
        ⟨HST.out, .inr (by rw [byteCells_append]; exact hba), HB3.out.trans (hb4.mono (by omega))⟩
      clear hba hb4
      go_wp2
      go_roundw
      case rel => exact ⟨_, _, rfl, by rw [HRS.out]; omega, HN, by omega⟩
      case measure => simp only [HRS.out]; omega
end Go.Proofs.YtnnnihjagjfkdaaGreatDoor
