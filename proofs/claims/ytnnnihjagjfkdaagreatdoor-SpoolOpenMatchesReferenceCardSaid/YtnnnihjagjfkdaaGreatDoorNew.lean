/-
  The walk of spool.New. Own text.
-/
import Derived.Test.YtnnnihjagjfkdaaGreatDoorPut
namespace Go.Proofs.YtnnnihjagjfkdaaGreatDoor
open Go.RowKit
set_option linter.unusedVariables false
def beginWs : List ByteArray := [⟨#[98, 101, 103, 105, 110]⟩, ⟨#[49]⟩, ⟨#[49]⟩, ⟨#[48]⟩]
def beginL : List (List UInt8) := beginWs.map (·.data.toList)
theorem beginL_len : (lineV 1 0 beginL).length = 21 := by rw [lineV_len]; decide
def zeroQ : Que := ⟨0, 1, 1, 0, 0, [], ⟨#[]⟩, ⟨#[]⟩, [], 0, 0⟩
def newQ : Que := ⟨0, 1, 1, 0, 0, [], strB (lineV 1 0 beginL), ⟨#[]⟩, [], 21, 1⟩
theorem newQ_ok : QOk newQ := ⟨.inl rfl, by decide, by decide, by decide, by decide, by decide, by decide, by decide, by decide⟩
def RetNew (w : World) (e : Ending) (w' : World) : Prop := e = .returned (.pointer (some ⟨w.heap.size, 0, none⟩)) ∧ QAt w' w.heap.size w.heap.size newQ (.slice none 0 0) (.slice none 0 0) ∧ Below w.heap.size w w'
theorem zeroQ_at (w : World) : QAt (w.alloc (.cells #[.int .i64 0, .int .i64 1, .int .i64 1, .int .i64 0, .int .i64 0, .slice none 0 0, .string ⟨#[]⟩, .string ⟨#[]⟩, .slice none 0 0, .int .i64 0, .int .i64 0] 61)) w.heap.size w.heap.size zeroQ (.slice none 0 0) (.slice none 0 0) := by
  refine ⟨⟨fun i hi => ?_, fun o => ?_⟩, Own.nil _ _ _ _ _, Own.nil _ _ _ _ _, Nat.le_refl _, by simp [Value.ownBlock], by simp [Value.ownBlock], fun g h => by simp [Value.ownBlock] at h⟩
  · have hb := heap_alloc_new w (.cells #[.int .i64 0, .int .i64 1, .int .i64 1, .int .i64 0, .int .i64 0, .slice none 0 0, .string ⟨#[]⟩, .string ⟨#[]⟩, .slice none 0 0, .int .i64 0, .int .i64 0] 61)
    rw [cell_of_row _ w.heap.size i _ _ (0, 0) hb]
    match i, hi with
    | 0, _ => rfl
    | 1, _ => rfl
    | 2, _ => rfl
    | 3, _ => rfl
    | 4, _ => rfl
    | 5, _ => rfl
    | 6, _ => rfl
    | 7, _ => rfl
    | 8, _ => rfl
    | 9, _ => rfl
    | 10, _ => rfl
  · unfold World.frozen?
    rw [heap_alloc_new]
    simp
set_option maxRecDepth 100000 in
set_option maxHeartbeats 4000000 in
theorem new_any (w : World) (ht : Tabs w) : Calls Tryz.prog 18 #[] w (RetNew w) := by
  have hz := zeroQ_at w
  have hb1 := balloc (Below.refl _ w) (.cells #[.int .i64 0, .int .i64 1, .int .i64 1, .int .i64 0, .int .i64 0, .slice none 0 0, .string ⟨#[]⟩, .string ⟨#[]⟩, .slice none 0 0, .int .i64 0, .int .i64 0] 61)
  have hs1 : (w.alloc (.cells #[.int .i64 0, .int .i64 1, .int .i64 1, .int .i64 0, .int .i64 0, .slice none 0 0, .string ⟨#[]⟩, .string ⟨#[]⟩, .slice none 0 0, .int .i64 0, .int .i64 0] 61)).heap.size = w.heap.size + 1 := World.size_alloc _ _
  obtain ⟨W1, hW1⟩ : ∃ W1, W1 = w.alloc (.cells #[.int .i64 0, .int .i64 1, .int .i64 1, .int .i64 0, .int .i64 0, .slice none 0 0, .string ⟨#[]⟩, .string ⟨#[]⟩, .slice none 0 0, .int .i64 0, .int .i64 0] 61) := ⟨_, rfl⟩
  rw [← hW1] at hz hb1 hs1
  have hb2 := balloc (Below.refl _ W1) (.cells #[.string ⟨#[98, 101, 103, 105, 110]⟩, .string ⟨#[49]⟩, .string ⟨#[49]⟩, .string ⟨#[48]⟩] 9)
  have HLN : Hid (Calls Tryz.prog 31 #[.int .i64 1, .int .i64 0, .slice (some ⟨W1.heap.size, 0, none⟩) 4 4] (W1.alloc (.cells #[.string ⟨#[98, 101, 103, 105, 110]⟩, .string ⟨#[49]⟩, .string ⟨#[49]⟩, .string ⟨#[48]⟩] 9)) (RetStr (lineV 1 0 beginL) (W1.alloc (.cells #[.string ⟨#[98, 101, 103, 105, 110]⟩, .string ⟨#[49]⟩, .string ⟨#[49]⟩, .string ⟨#[48]⟩] 9)))) :=
    line_any 1 0 W1.heap.size 0 beginWs 4 _ (fun j x hx => by
      rw [Nat.zero_add, cell_of_row _ W1.heap.size j _ _ (0, 0) (heap_alloc_new W1 _)]
      match j, hx with
      | 0, hx => exact congrArg (fun y : Option ByteArray => y.map Value.string) hx
      | 1, hx => exact congrArg (fun y : Option ByteArray => y.map Value.string) hx
      | 2, hx => exact congrArg (fun y : Option ByteArray => y.map Value.string) hx
      | 3, hx => exact congrArg (fun y : Option ByteArray => y.map Value.string) hx
      | j + 4, hx => exact congrArg (fun y : Option ByteArray => y.map Value.string) hx) (by simp) (show 4 ≤ 100 by omega) (Nat.le_refl 4) (by decide) (by omega) (by omega) (by omega) (by omega) (ht.below (bthen hb1 hb2))
  have HQ1 := Lib.hid (hz.below hb2)
  have HB1 := Lib.hid (bthen hb1 hb2)
  have HW1 := Lib.hid hW1
  rw [hs1] at HLN
  have hLl : (strB (lineV 1 0 beginL)).size = 21 := by rw [strB_size, beginL_len]
  have HNQ : Hid (newQ = ⟨0, 1, 1, 0, 0, [], strB (lineV 1 0 beginL), ⟨#[]⟩, [], 21, 1⟩) := rfl
  generalize lineV 1 0 beginL = L at *
  clear hz hb1 hb2 hW1 hs1 ht
  go_enter Tryz.func18, Tryz.ntmps18
  go_wp2_with fail
  rw [← HW1.out]
  refine HLN.out.mono ?_
  rintro e w3 ⟨rfl, hb3⟩
  obtain ⟨S, hS⟩ : ∃ S, S = strB L := ⟨_, rfl⟩
  rw [← hS] at hLl HNQ
  rw [← hS]
  have HQ3 := Lib.hid (HQ1.out.below hb3)
  have HB3 := Lib.hid (bthen HB1.out hb3)
  have hLI : (S.size : Int) = 21 := by omega
  clear hb3 HLN HQ1 HB1 hS hLl
  have c6 : w3.cell? ⟨w.heap.size, 6, none⟩ = some (.string ⟨#[]⟩) := HQ3.out.tab.at' 6 (by omega)
  have c9 : w3.cell? ⟨w.heap.size, 9, none⟩ = some (.int .i64 0) := HQ3.out.tab.at' 9 (by omega)
  have c10 : w3.cell? ⟨w.heap.size, 10, none⟩ = some (.int .i64 0) := HQ3.out.tab.at' 10 (by omega)
  have cf := HQ3.out.tab.fz
  have HF : Hid (RetNew w (.returned (.pointer (some ⟨w.heap.size, 0, none⟩))) (((w3.setCell ⟨w.heap.size, 6, none⟩ (.string S)).setCell ⟨w.heap.size, 9, none⟩ (.int .i64 21)).setCell ⟨w.heap.size, 10, none⟩ (.int .i64 1))) := by
    refine ⟨rfl, ?_, ((HB3.out.setCell (p := ⟨w.heap.size, 6, none⟩) (Nat.le_refl _) _).setCell (p := ⟨w.heap.size, 9, none⟩) (Nat.le_refl _) _).setCell (p := ⟨w.heap.size, 10, none⟩) (Nat.le_refl _) _⟩
    rw [HNQ.out]
    refine QAt.put (q := ⟨0, 1, 1, 0, 0, [], S, ⟨#[]⟩, [], 21, 0⟩) (QAt.put (q := ⟨0, 1, 1, 0, 0, [], S, ⟨#[]⟩, [], 0, 0⟩) (QAt.put HQ3.out (i := 6) (by omega) _ rfl rfl fun j hj => by
        match j, hj with
        | 0, _ => rfl
        | 1, _ => rfl
        | 2, _ => rfl
        | 3, _ => rfl
        | 4, _ => rfl
        | 5, _ => rfl
        | 6, _ => rfl
        | 7, _ => rfl
        | 8, _ => rfl
        | 9, _ => rfl
        | 10, _ => rfl) (i := 9) (by omega) _ rfl rfl fun j hj => by
        match j, hj with
        | 0, _ => rfl
        | 1, _ => rfl
        | 2, _ => rfl
        | 3, _ => rfl
        | 4, _ => rfl
        | 5, _ => rfl
        | 6, _ => rfl
        | 7, _ => rfl
        | 8, _ => rfl
        | 9, _ => rfl
        | 10, _ => rfl) (i := 10) (by omega) _ rfl rfl fun j hj => by
        match j, hj with
        | 0, _ => rfl
        | 1, _ => rfl
        | 2, _ => rfl
        | 3, _ => rfl
        | 4, _ => rfl
        | 5, _ => rfl
        | 6, _ => rfl
        | 7, _ => rfl
        | 8, _ => rfl
        | 9, _ => rfl
        | 10, _ => rfl
  clear HQ3 HB3
  go_wp2
  go_ret
  exact HF.out
end Go.Proofs.YtnnnihjagjfkdaaGreatDoor
