/-
  The world behind a node's count. Own text.
-/
import Derived.Test.YtmfmpmemdplloaaWalkA
import Derived.StillTailTactics
namespace Go.Proofs.Ytmfmpmemdplloaa
open Go.RowKit
theorem size_setCell (w : World) (a : Addr) (v : Value) : (w.setCell a v).heap.size = w.heap.size := by simp [World.setCell]
theorem below_count {w : World} {kb : Nat} (h : kb < w.heap.size) (v : Value) (o : Obj) : Below kb w ((w.setCell ⟨kb, 1, none⟩ v).alloc o) :=
  ((Below.refl kb w).setCell (p := ⟨kb, 1, none⟩) (Nat.le_refl _) v).alloc (by rw [size_setCell]; omega) o
theorem below_count2 {w : World} {kb : Nat} (h : kb < w.heap.size) (v v' : Value) (j : Nat) (o : Obj) : Below kb w (((w.setCell ⟨kb, 1, none⟩ v).setCell ⟨kb, j, none⟩ v').alloc o) :=
  (((Below.refl kb w).setCell (p := ⟨kb, 1, none⟩) (Nat.le_refl _) v).setCell (p := ⟨kb, j, none⟩) (Nat.le_refl _) v').alloc (by rw [size_setCell, size_setCell]; omega) o
end Go.Proofs.Ytmfmpmemdplloaa
