/-
  The walk of inverse.Quick. Own text.
-/
import Derived.Test.YtiokmfmcmfbjoaaInvC
namespace Go.Proofs.Ytiokmfmcmfbjoaa
open Go.RowKit
set_option linter.unusedVariables false
theorem run_any (w0 : World) (b ba bs bl bh bf bt d : Nat) (st : Int) (P : Prof) (oi : Option Addr) (ci : Nat) (oc : Option Addr) (cc : Nat) (ov : Option Addr) (cv : Nat) (tv m : Nat → Int)
    (G : Geo w0.heap.size bs bl bh bf bt) (hh : HeldAt w0 b P oi ci oc cc ov cv) (hok : OkProf P) (tt : Int) (hA : AskAt w0 ba tv st tt) (hd : d = P.inks.length) (htt : (d : Int) * 255 ≤ tt) (hst : 1 ≤ st ∧ st ≤ 255)
    (htv : ∀ o, o < 3 → tv o = labV P (candL d st m) o) (htb : ∀ o, o < 3 → -65535 ≤ tv o ∧ tv o ≤ 65535) : ∀ (n : Nat) (F T lo hi : Nat → Int) (bv : Value) (far : Int) (w : World), widthV F T d < (n : Int) → BoxOk d st F T → SrcA w0 b ba bs bl bh bf bt d st (distV P d st tv) F T lo hi bv far w →
    Calls Try.prog 23 #[.pointer (some ⟨bs, 0, none⟩)] w (RetRun w0 b ba bs bl bh bf bt d st (distV P d st tv) F T bv far m) := by
  intro n
  induction n with
  | zero =>
    intro F T lo hi bv far w hw hb hs
    have := widthV_nonneg (F := F) (T := T) d fun i hi => (hb i hi).2.1
    omega
  | succ n ih =>
    intro F T lo hi bv far w hw hb hs
    exact run_step w0 b ba bs bl bh bf bt d st F T lo hi bv far w P oi ci oc cc ov cv tv m G hs hh hok tt hA hd htt hst hb htv htb (fun F' T' lo hi bv far w hlt hb hs => ih F' T' lo hi bv far w (by omega) hb hs)
/-- Four rows of zeros. -/
theorem four_rows (w : World) (d : Nat) (t : TypeId) (o : Obj) (g : Nat) (h1 : w.heap.size ≤ g) (h2 : g < w.heap.size + 4) :
    FTab (Value.int .i64) (((((w.alloc (.cells (madeArr (.int .i64 0) d) t)).alloc (.cells (madeArr (.int .i64 0) d) t)).alloc (.cells (madeArr (.int .i64 0) d) t)).alloc (.cells (madeArr (.int .i64 0) d) t)).alloc o) g d (fun _ => 0) := by
  obtain ⟨R, hR⟩ : ∃ R, R = Obj.cells (madeArr (.int .i64 0) d) t := ⟨_, rfl⟩
  have mk : ∀ w : World, FTab (Value.int .i64) (w.alloc R) w.heap.size d (fun _ => 0) := fun w => by rw [hR]; exact FTab.made (Value.int .i64) w d 0 t
  rw [← hR]
  have s1 : (w.alloc R).heap.size = w.heap.size + 1 := World.size_alloc _ _
  have s2 : ((w.alloc R).alloc R).heap.size = w.heap.size + 1 + 1 := by rw [World.size_alloc, s1]
  have s3 : (((w.alloc R).alloc R).alloc R).heap.size = w.heap.size + 1 + 1 + 1 := by rw [World.size_alloc, s2]
  have s4 : ((((w.alloc R).alloc R).alloc R).alloc R).heap.size = w.heap.size + 1 + 1 + 1 + 1 := by rw [World.size_alloc, s3]
  rcases (show g = w.heap.size ∨ g = w.heap.size + 1 ∨ g = w.heap.size + 1 + 1 ∨ g = w.heap.size + 1 + 1 + 1 by omega) with rfl | rfl | rfl | rfl
  · exact ((((mk w).alloc (by omega) R).alloc (by omega) R).alloc (by omega) R).alloc (by omega) o
  · have h := (((mk (w.alloc R)).alloc (by omega) R).alloc (by omega) R).alloc (by omega) o
    rw [s1] at h
    exact h
  · have h := ((mk ((w.alloc R).alloc R)).alloc (by omega) R).alloc (by omega) o
    rw [s2] at h
    exact h
  · have h := (mk (((w.alloc R).alloc R).alloc R)).alloc (by omega) o
    rw [s3] at h
    exact h
/-- A new search. -/
theorem src_made {w : World} {b ba bl bh bf bt d : Nat} {st : Int} {dist : (Nat → Int) → Int} {t tS : TypeId} (h1 : w.heap.size ≤ bl ∧ bl < w.heap.size + 4) (h2 : w.heap.size ≤ bh ∧ bh < w.heap.size + 4) (h3 : w.heap.size ≤ bf ∧ bf < w.heap.size + 4) (h4 : w.heap.size ≤ bt ∧ bt < w.heap.size + 4)
    (n1 : bl ≠ bh) (n2 : bl ≠ bf) (n3 : bl ≠ bt) (n4 : bh ≠ bf) (n5 : bh ≠ bt) (n6 : bf ≠ bt) :
    Geo w.heap.size (w.heap.size + 1 + 1 + 1 + 1) bl bh bf bt ∧ SrcA w b ba (w.heap.size + 1 + 1 + 1 + 1) bl bh bf bt d st dist (fun _ => 0) (fun _ => 0) (fun _ => 0) (fun _ => 0) (.slice none 0 0) 0
      (((((w.alloc (.cells (madeArr (.int .i64 0) d) t)).alloc (.cells (madeArr (.int .i64 0) d) t)).alloc (.cells (madeArr (.int .i64 0) d) t)).alloc (.cells (madeArr (.int .i64 0) d) t)).alloc (.cells #[.pointer (some ⟨b, 0, none⟩), .pointer (some ⟨ba, 0, none⟩), .slice none 0 0, .int .i64 0, .slice (some ⟨bl, 0, none⟩) d d, .slice (some ⟨bh, 0, none⟩) d d, .slice (some ⟨bf, 0, none⟩) d d, .slice (some ⟨bt, 0, none⟩) d d] tS)) := by
  obtain ⟨W4, hW4⟩ : ∃ W4, W4 = (((w.alloc (.cells (madeArr (.int .i64 0) d) t)).alloc (.cells (madeArr (.int .i64 0) d) t)).alloc (.cells (madeArr (.int .i64 0) d) t)).alloc (.cells (madeArr (.int .i64 0) d) t) := ⟨_, rfl⟩
  have s4 : W4.heap.size = w.heap.size + 1 + 1 + 1 + 1 := by rw [hW4]; simp
  have b4 : Below w.heap.size w W4 := by rw [hW4]; exact balloc (balloc (balloc (balloc (Below.refl _ _) _) _) _) _
  have rows := fun o g => four_rows w d t o g
  rw [← hW4] at rows ⊢
  obtain ⟨cs, hcs⟩ : ∃ cs : Array Value, cs = #[.pointer (some ⟨b, 0, none⟩), .pointer (some ⟨ba, 0, none⟩), .slice none 0 0, .int .i64 0, .slice (some ⟨bl, 0, none⟩) d d, .slice (some ⟨bh, 0, none⟩) d d, .slice (some ⟨bf, 0, none⟩) d d, .slice (some ⟨bt, 0, none⟩) d d] := ⟨_, rfl⟩
  rw [← hcs]
  have hbox : BoxAt (W4.alloc (.cells cs tS)) W4.heap.size 0 cs := BoxAt.new _ _ _
  rw [s4] at hbox
  have s5 : (W4.alloc (.cells cs tS)).heap.size = w.heap.size + 1 + 1 + 1 + 1 + 1 := by rw [World.size_alloc, s4]
  refine ⟨⟨by omega, h1.1, h2.1, h3.1, h4.1, by omega, by omega, by omega, by omega, n1, n2, n3, n4, n5, n6⟩, ⟨balloc b4 _, ⟨fun i hi => ?_, fun o => ?_⟩, rows _ _ h1.1 h1.2, rows _ _ h2.1 h2.2, rows _ _ h3.1 h3.2, rows _ _ h4.1 h4.2, by omega, by omega, by omega, by omega, by omega, .inl rfl⟩⟩
  · have h := fun v hv => hbox.at' i v hv
    simp only [Nat.zero_add] at h
    refine h _ ?_
    rw [hcs]
    match i, hi with
    | 0, _ => rfl
    | 1, _ => rfl
    | 2, _ => rfl
    | 3, _ => rfl
    | 4, _ => rfl
    | 5, _ => rfl
    | 6, _ => rfl
    | 7, _ => rfl
  · have h := heap_alloc_new W4 (.cells cs tS)
    rw [s4] at h
    simp [World.frozen?, h]
theorem src_made' {w : World} {b ba bl bh bf bt d : Nat} {st : Int} {dist : (Nat → Int) → Int} {t tS : TypeId} (h1 : w.heap.size ≤ bl ∧ bl < w.heap.size + 4) (h2 : w.heap.size ≤ bh ∧ bh < w.heap.size + 4) (h3 : w.heap.size ≤ bf ∧ bf < w.heap.size + 4) (h4 : w.heap.size ≤ bt ∧ bt < w.heap.size + 4)
    (n1 : bl ≠ bh) (n2 : bl ≠ bf) (n3 : bl ≠ bt) (n4 : bh ≠ bf) (n5 : bh ≠ bt) (n6 : bf ≠ bt) :
    Geo w.heap.size (w.heap.size + 1 + 1 + 1 + 1) bl bh bf bt ∧ SrcA w b ba (w.heap.size + 1 + 1 + 1 + 1) bl bh bf bt d st dist (fun _ => 0) (fun _ => 0) (fun _ => 0) (fun _ => 0) (.slice none 0 0) 0
      (((((w.alloc (.cells (madeArr (.int .i64 0) d) t)).alloc (.cells (madeArr (.int .i64 0) d) t)).alloc (.cells (madeArr (.int .i64 0) d) t)).alloc (.cells (madeArr (.int .i64 0) d) t)).alloc (.cells #[.pointer (some ⟨b, 0, none⟩), .pointer (some ⟨ba, 0, none⟩), .slice none 0 0, .int .i64 0, .slice (some ⟨bl, 0, none⟩) d d, .slice (some ⟨bh, 0, none⟩) d d, .slice (some ⟨bf, 0, none⟩) d d, .slice (some ⟨bt, 0, none⟩) d d] tS)).drew :=
  ⟨(src_made (w := w) (b := b) (ba := ba) (d := d) (st := st) (dist := dist) (t := t) (tS := tS) h1 h2 h3 h4 n1 n2 n3 n4 n5 n6).1, (src_made (w := w) h1 h2 h3 h4 n1 n2 n3 n4 n5 n6).2.drew⟩
/-- What the search returns. -/
def RetFind (P : Prof) (d : Nat) (st : Int) (tv : Nat → Int) (w : World) (e : Ending) (w' : World) : Prop :=
  ∃ (g : Nat) (M : Nat → Int), e = .returned (.tuple #[.slice (some ⟨g, 0, none⟩) d d, .int .i64 0, .int .i64 0]) ∧ FTab (Value.int .i64) w' g d (fun i => M i * st) ∧ (∀ i, i < d → 0 ≤ M i * st ∧ M i * st ≤ 255) ∧ distV P d st tv M = 0 ∧ Below w.heap.size w w'
end Go.Proofs.Ytiokmfmcmfbjoaa
