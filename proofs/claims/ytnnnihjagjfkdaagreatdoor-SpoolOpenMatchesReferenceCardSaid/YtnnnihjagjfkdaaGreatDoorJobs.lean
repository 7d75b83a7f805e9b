/-
  The walks of the queue's Jobs and Writes. Own text.
-/
import Derived.Test.YtnnnihjagjfkdaaGreatDoorNew
import Derived.WalkSpells
namespace Go.Proofs.YtnnnihjagjfkdaaGreatDoor
open Go.RowKit
set_option linter.unusedVariables false
/-- A job as the queue shows it. -/
structure Sj where
  id : Int
  text : ByteArray
def encSj (j : Sj) : List Value := [.int .i64 j.id, .string j.text]
def showJ (j : Jb) : Sj := ⟨j.id, j.text⟩
theorem elemSj : ElemType Tryz.prog 41 (.agg #[.int .i64 0, .string ⟨#[]⟩]) 2 24 := ElemType.mk (by kernel_rfl) rfl (by decide)
theorem Flat.jb {w : World} {oa : Option Addr} {xs : List Jb} (h : Flat w 4 encJb oa xs) {i : Nat} (hi : i < xs.length) :
    ∃ b off, oa = some ⟨b, off, none⟩ ∧ w.cell? ⟨b, off + i * 4, none⟩ = some (.int .i64 xs[i].id) ∧ w.cell? ⟨b, off + i * 4 + 1, none⟩ = some (.string xs[i].text) ∧ w.cell? ⟨b, off + i * 4 + 2, none⟩ = some (.int .i64 xs[i].lease) ∧ w.cell? ⟨b, off + i * 4 + 3, none⟩ = some (.int .i64 xs[i].till) := by
  obtain ⟨v0, h0, b, off, e, c0⟩ := h i hi 0 (by omega)
  obtain ⟨v1, h1, b1, off1, e1, c1⟩ := h i hi 1 (by omega)
  obtain ⟨v2, h2, b2, off2, e2, c2⟩ := h i hi 2 (by omega)
  obtain ⟨v3, h3, b3, off3, e3, c3⟩ := h i hi 3 (by omega)
  rw [e] at e1 e2 e3
  simp only [Option.some.injEq, Addr.mk.injEq, and_true] at e1 e2 e3
  obtain ⟨rfl, rfl⟩ := e1
  obtain ⟨rfl, rfl⟩ := e2
  obtain ⟨rfl, rfl⟩ := e3
  simp only [encJb, List.getElem?_cons_zero, List.getElem?_cons_succ, Option.some.injEq] at h0 h1 h2 h3
  subst h0 h1 h2 h3
  exact ⟨b, off, e, by simpa using c0, by simpa [Nat.add_assoc] using c1, by simpa [Nat.add_assoc] using c2, by simpa [Nat.add_assoc] using c3⟩
def RetRows {α : Type} (e0 : TypeId) (k : Nat) (enc : α → List Value) (xs : List α) (w : World) (e : Ending) (w' : World) : Prop := ∃ v, e = .returned v ∧ Own w' w.heap.size e0 k enc v xs ∧ Below w.heap.size w w'
set_option maxRecDepth 100000 in
set_option maxHeartbeats 4000000 in
theorem jobs_any (B b : Nat) (q : Que) (vj vw : Value) (w : World) (hq : QAt w B b q vj vw) (hjl : q.jobs.length ≤ 64) :
    Calls Tryz.prog 12 #[.pointer (some ⟨b, 0, none⟩)] w (RetRows 41 2 encSj (q.jobs.map showJ) w) := by
  obtain ⟨oj, cj, rfl, hjm, hjf⟩ := hq.jobs.flat (fun _ => rfl)
  have c5 : w.cell? ⟨b, 5, none⟩ = some (.slice oj q.jobs.length cj) := hq.tab.at' 5 (by omega)
  have HJF := Lib.hid hjf
  obtain ⟨xs, hxs⟩ : ∃ xs, xs = q.jobs := ⟨_, rfl⟩
  rw [← hxs] at c5 HJF hjl
  rw [← hxs]
  obtain ⟨n, hn⟩ : ∃ n, n = xs.length := ⟨_, rfl⟩
  rw [← hn] at c5 hjl
  have HNN := Lib.hid hn
  clear hjf hjm hxs hq hn
  go_enter Tryz.func12, Tryz.ntmps12
  go_wp2
  go_loopw [3, 11] (fun v i wr => ∃ k : Nat, k ≤ n ∧ i = .int .i64 k ∧ Hid (Own wr w.heap.size 41 2 encSj v ((xs.take k).map showJ) ∧ Below w.heap.size w wr)) (fun _ i _ => n - (intOf i).toNat)
  case atStart => exact ⟨0, by omega, rfl, Own.nil _ _ _ _ _, Below.refl _ _⟩
  case round =>
    obtain ⟨k, hk, rfl, HR⟩ := hrel
    by_cases hlt : k < n
    · have hkx : k < xs.length := by have := HNN.out; omega
      obtain ⟨bj, offj, rfl, i0, i1, i2, i3⟩ := (HJF.out.below HR.out.2).jb hkx
      have kd : (k : Int) < (n : Int) := by omega
      have k0 : (0 : Int) ≤ (k : Int) := by omega
      obtain ⟨x, hx⟩ : ∃ x, x = xs[k] := ⟨_, rfl⟩
      rw [← hx] at i0 i1 i2 i3
      have HX : Hid ((xs.take (k + 1)).map showJ = (xs.take k).map showJ ++ [showJ x]) := by
        show (xs.take (k + 1)).map showJ = _
        rw [List.take_succ_eq_append_getElem hkx, List.map_append, hx]
        rfl
      have hwl := cell?_lt i0
      simp only at hwl
      have hkl : ((xs.take k).map showJ).length = k := by rw [List.length_map, List.length_take]; omega
      have HKL := Lib.hid hkl
      clear hx hkl
      have HO := Lib.hid ((HR.out.1.alloc (.cells #[.int .i64 x.id, .string x.text, .int .i64 x.lease, .int .i64 x.till] 73)).alloc (.cells #[.int .i64 x.id, .string x.text] 41))
      have HB := Lib.hid (balloc (balloc HR.out.2 (.cells #[.int .i64 x.id, .string x.text, .int .i64 x.lease, .int .i64 x.till] 73)) (.cells #[.int .i64 x.id, .string x.text] 41))
      have hwz := HR.out.2.size
      have HNEW : Hid (∀ j u, (encSj (showJ x))[j]? = some u → ((wr.alloc (.cells #[.int .i64 x.id, .string x.text, .int .i64 x.lease, .int .i64 x.till] 73)).alloc (.cells #[.int .i64 x.id, .string x.text] 41)).cell? ((⟨wr.heap.size + 1, 0, none⟩ : Addr).add j) = some u) := by
        have h := World.news_of_block (cs := #[.int .i64 x.id, .string x.text]) (t := 41) (fr := (0, 0)) (heap_alloc_new (wr.alloc (.cells #[.int .i64 x.id, .string x.text, .int .i64 x.lease, .int .i64 x.till] 73)) _)
        rw [World.size_alloc] at h
        exact h
      clear HR
      go_wp2_with (at_builtin; refine wpList_app1 rfl (.tmp 15) (.tmp 18) 29 rfl elemSj Tryz.underlying29 w.heap.size u3 _ encSj rfl HO.out (showJ x) ⟨wr.heap.size + 1, 0, none⟩ 1 rfl rfl HNEW.out ?c1 ?c2 ?c3 ?c4 ?_)
      case c1 => simp [encSj, Value.oneCell']
      case c2 => rw [HKL.out]; omega
      case c3 => rw [HKL.out]; unfold maxLen; omega
      case c4 => simp; omega
      intro v' w5 hown5 hg5
      have HN : Hid (Own w5 w.heap.size 41 2 encSj v' ((xs.take (k + 1)).map showJ) ∧ Below w.heap.size w w5) := ⟨by rw [HX.out, List.map_take]; exact hown5, HO.out.grown HB.out (Nat.le_refl _) hg5⟩
      clear hown5 hg5 HO HB HNEW
      go_wp2
      go_roundw
      case rel => exact ⟨k + 1, by omega, by go_num, HN⟩
      case measure => simp [intOf]; omega
    · obtain rfl : n = k := by omega
      have HE : Hid (RetRows 41 2 encSj (xs.map showJ) w (.returned u3) wr) := by
        have h := HR.out.1
        rw [List.take_of_length_le (by have := HNN.out; omega)] at h
        exact ⟨_, rfl, h, HR.out.2⟩
      go_wp2
      go_ret
      exact HE.out
set_option maxHeartbeats 1000000 in
theorem cloneWr (ad : Addr) (xs : List Wr) (cap : Nat) (w : World) (hm : xs.length ≤ 1000000000) (hx : Flat w 2 encWr (some ad) xs) :
    Calls Tryz.prog 27 #[.slice (some ad) xs.length cap] w (RetRows 54 2 encWr xs w) := by
  have hq : ∀ (w : World) (a : Option Addr) (n c n' c' : Nat), (binOp .eql 35 (.slice a n c) (.slice none n' c')).run Tryz.prog w = .ok (.bool a.isNone) w := fun w a n c n' c' => Lib.run_eql_slice_nil w _ _ a n c n' c' Tryz.underlying35
  have hb0 := balloc (Below.refl _ w) (.cells #[] 54)
  have hown := Own.lit w w.heap.size 2 encWr [] 54 (fun _ => rfl) (by decide) (Nat.le_refl _)
  have hxa := hx.below hb0
  have HS := Lib.hid (show IsSlice (w.alloc (.cells #[] 54)) 2 encWr (.slice (some ad) xs.length cap) xs from ⟨_, _, rfl, (fun h => by cases h), by unfold maxLen; omega, hxa⟩)
  clear hx hxa
  go_enter Tryz.func27, Tryz.ntmps27
  go_wp2_with (at_builtin; go_must (refine wpList_appRow rfl (.tmp 5) (.tmp 6) 35 rfl elemWr Tryz.underlying35 w.heap.size _ [] encWr rfl hown xs _ rfl HS.out (fun _ => rfl) ?c1 ?c2 ?c3 ?c4 ?_))
  case c1 => intro y; simp [encWr, Value.oneCell']
  case c2 => simp; omega
  case c3 => simp; unfold maxLen; omega
  case c4 => simp
  intro v' w3 hown3 hg3
  have HF : Hid (RetRows 54 2 encWr xs w (.returned v') w3) := ⟨v', rfl, hown3, hown.grown hb0 (Nat.le_refl _) hg3⟩
  clear hown3 hg3 hown
  go_wp2
  go_ret
  exact HF.out
theorem cloneWr_nil (w : World) :
    Calls Tryz.prog 27 #[.slice none 0 0] w (RetRows 54 2 encWr [] w) := by
  have hq : ∀ (w : World) (a : Option Addr) (n c n' c' : Nat), (binOp .eql 35 (.slice a n c) (.slice none n' c')).run Tryz.prog w = .ok (.bool a.isNone) w := fun w a n c n' c' => Lib.run_eql_slice_nil w _ _ a n c n' c' Tryz.underlying35
  go_enter Tryz.func27, Tryz.ntmps27
  go_wp2
  go_ret
  exact ⟨_, rfl, Own.nil _ _ _ _ _, Below.refl _ _⟩
set_option maxHeartbeats 1000000 in
theorem writes_any (B b : Nat) (q : Que) (vj vw : Value) (w : World) (hq : QAt w B b q vj vw) (hm : q.writes.length ≤ 1000000000) :
    Calls Tryz.prog 14 #[.pointer (some ⟨b, 0, none⟩)] w (RetRows 54 2 encWr q.writes w) := by
  have c8 : w.cell? ⟨b, 8, none⟩ = some vw := hq.tab.at' 8 (by omega)
  have HC : Hid (Calls Tryz.prog 27 #[vw] w (RetRows 54 2 encWr q.writes w)) := by
    show Calls _ _ _ _ _
    rcases hq.wr.2 with ⟨e, hn⟩ | ⟨g, cap, cur, e, _⟩
    · subst e
      have : q.writes = [] := List.eq_nil_of_length_eq_zero hn
      rw [this]
      exact cloneWr_nil w
    · obtain ⟨oa, c, e2, _, hf⟩ := hq.wr.flat (fun _ => rfl)
      subst e
      cases e2
      exact cloneWr _ q.writes _ w hm hf
  clear hq hm
  go_enter Tryz.func14, Tryz.ntmps14
  go_wp2_with (go_at_call 27; refine HC.out.mono ?_; rintro e w' ⟨v, rfl, hv, hb⟩; have HF : Hid (RetRows 54 2 encWr q.writes w (.returned v) w') := ⟨v, rfl, hv, hb⟩; clear hv hb)
  go_ret
  exact HF.out
end Go.Proofs.YtnnnihjagjfkdaaGreatDoor
