/-
  The walks of the reference's texts with 85 digits: Lettered, unletter, jobText. Own text.
-/
import Derived.Test.YtnnnihjagjfkdaaGreatDoorRefX
namespace Go.Proofs.YtnnnihjagjfkdaaGreatDoor
open Go.RowKit
set_option linter.unusedVariables false
def encB (c : UInt8) : List Value := [.int .u8 c.toNat]
theorem elemU8 : ElemType Tryz.prog 5 (.int .u8 0) 1 1 := ElemType.mk (by kernel_rfl) rfl (by decide)
theorem Flat.by {w : World} {oa : Option Addr} {xs : List UInt8} (h : Flat w 1 encB oa xs) {i : Nat} (hi : i < xs.length) :
    ∃ b off, oa = some ⟨b, off, none⟩ ∧ w.cell? ⟨b, off + i, none⟩ = some (.int .u8 (xs[i].toNat : Int)) := by
  obtain ⟨v0, h0, b, off, e, c0⟩ := h i hi 0 (by omega)
  simp only [encB, List.getElem?_cons_zero, Option.some.injEq] at h0
  subst h0
  exact ⟨b, off, e, by simpa using c0⟩
/-- Bytes in memory as a text. -/
theorem conv_own {w : World} {base : Nat} {v : Value} {l : List UInt8} (h : Own w base 5 1 encB v l) : (convert 121 9 v).run Tryz.prog w = .ok (.string (strB l)) w := by
  obtain ⟨oa, cap, rfl, hm, hf⟩ := h.flat (fun _ => rfl)
  cases l with
  | nil =>
    rcases h.2 with ⟨e, _⟩ | ⟨g, c, cur, e, _⟩
    · rw [e]
      rw [run_convert_bytes_string w 121 9 5 none 0 0 Tryz.underlying121 Tryz.underlying5 Tryz.underlying9]
      rfl
    · rw [e]
      exact run_convert_bytes_back (P := Tryz.prog) w 121 9 5 ⟨g, 0, none⟩ c [] Tryz.underlying121 Tryz.underlying5 Tryz.underlying9 (fun j hj => by simp at hj)
  | cons x r =>
    obtain ⟨b, off, rfl, _⟩ := hf.by (i := 0) (by simp)
    refine run_convert_bytes_back (P := Tryz.prog) w 121 9 5 ⟨b, off, none⟩ cap (x :: r) Tryz.underlying121 Tryz.underlying5 Tryz.underlying9 (fun j hj => ?_)
    obtain ⟨b2, off2, e, hc⟩ := hf.by hj
    simp only [Option.some.injEq, Addr.mk.injEq, and_true] at e
    obtain ⟨rfl, rfl⟩ := e
    rw [add_none]
    exact hc
/-- What is left of a number behind its first digits. -/
def remV (v : Int) : Nat → Int
  | 0 => v
  | j + 1 => remV v j % p85 (4 - j)
theorem remV_dig {v : Int} (h0 : 0 ≤ v) (h1 : v < 4294967296) (j : Nat) (hj : j ≤ 4) : 33 + remV v j / p85 (4 - j) = digV v j ∧ 0 ≤ remV v j ∧ remV v j < 4294967296 := by
  have e1 : remV v 1 = v % 52200625 := rfl
  have e2 : remV v 2 = remV v 1 % 614125 := rfl
  have e3 : remV v 3 = remV v 2 % 7225 := rfl
  have e4 : remV v 4 = remV v 3 % 85 := rfl
  match j, hj with
  | 0, _ => show 33 + v / 52200625 = 33 + v / 52200625 % 85 ∧ 0 ≤ v ∧ v < 4294967296; omega
  | 1, _ => show 33 + remV v 1 / 614125 = 33 + v / 614125 % 85 ∧ _; omega
  | 2, _ => show 33 + remV v 2 / 7225 = 33 + v / 7225 % 85 ∧ _; omega
  | 3, _ => show 33 + remV v 3 / 85 = 33 + v / 85 % 85 ∧ _; omega
  | 4, _ => show 33 + remV v 4 / 1 = 33 + v / 1 % 85 ∧ _; rw [Int.ediv_one, Int.ediv_one]; omega
/-- The divisor behind j digits. -/
def divV (j : Nat) : Int := if j ≤ 4 then p85 (4 - j) else 0
theorem p85_bd (k : Nat) : 1 ≤ p85 (4 - k) ∧ p85 (4 - k) ≤ 52200625 := by
  match k with
  | 0 => decide
  | 1 => decide
  | 2 => decide
  | 3 => decide
  | k + 4 => rw [show 4 - (k + 4) = 0 by omega]; decide
theorem divV_succ (k : Nat) (h : k ≤ 4) : divV (k + 1) = p85 (4 - k) / 85 := by
  match k, h with
  | 0, _ => decide
  | 1, _ => decide
  | 2, _ => decide
  | 3, _ => decide
  | 4, _ => decide
theorem numTo_succ (l : List UInt8) (k : Nat) : numTo l (k + 1) = numTo l k * 256 + byteAt l k := rfl
/-- Bytes that were appended so far. -/
def BytesAt (w wr : World) (v : Value) (l : List UInt8) : Prop := Below w.heap.size w wr ∧ Own wr w.heap.size 5 1 encB v l
def PSl (v : Value) (n : Nat) : Prop := ∃ oa cap, v = .slice oa n cap
set_option maxRecDepth 100000 in
set_option maxHeartbeats 8000000 in
theorem lettered_any (s : ByteArray) (w : World) (h1 : 1 ≤ s.size) (h4 : s.size ≤ 4) :
    Calls Tryz.prog 79 #[.string s] w (RetStr (groupV s.data.toList) w) := by
  obtain ⟨L, hL⟩ : ∃ L, L = s.data.toList := ⟨_, rfl⟩
  have hLl : L.length = s.size := by rw [hL]; simp
  have HLL := Lib.hid hLl
  have HBY : Hid (∀ k (h : k < s.size), byteAt L k = (s[k].toNat : Int)) := fun k h => by
    unfold byteAt
    rw [hL, List.getD_eq_getElem?_getD, List.getElem?_eq_getElem (by simpa using h)]
    rfl
  have HBZ : Hid (∀ k, s.size ≤ k → byteAt L k = 0) := fun k h => by
    unfold byteAt
    rw [List.getD_eq_getElem?_getD, List.getElem?_eq_none (by omega)]
    rfl
  rw [← hL]
  clear hL hLl
  have HB0 : Hid (BytesAt w w (.slice none 0 0) []) := ⟨Below.refl _ _, Own.nil _ _ _ _ _⟩
  go_enter Tryz.func79, Tryz.ntmps79
  go_wp2
  go_loopw [3, 4] (fun u i wr => (u = .slice none 0 0 ∧ i = .int .i64 0 ∧ w = wr) ∨ (i = .int .i64 4 ∧ (∃ oa k cap, u = .slice oa k cap) ∧ Hid (BytesAt w wr u (groupV L)))) (fun _ i _ => 4 - (intOf i).toNat)
  case atStart => exact .inl ⟨rfl, rfl, rfl⟩
  case round =>
    rcases hrel with ⟨rfl, rfl, rfl⟩ | ⟨rfl, ⟨oa, k, cap, rfl⟩, HR⟩
    · have kdn : 0 < s.size := by omega
      have kd : (0 : Int) < (s.size : Int) := by omega
      have km : min 4 ((s.size : Int) - 0) = (s.size : Int) := by omega
      have km2 : min 4 (s.size : Int) = (s.size : Int) := by omega
      go_wp2
      go_loopw [6, 20] (fun v i wx => ∃ k : Nat, k ≤ 4 ∧ i = .int .i64 k ∧ v = .int .i64 (numTo L k) ∧ w = wx) (fun _ i _ => 4 - (intOf i).toNat)
      case atStart => exact ⟨0, by omega, rfl, rfl, rfl⟩
      case round =>
        obtain ⟨k, hk, rfl, rfl, rfl⟩ := hrel
        by_cases hk4 : k < 4
        · obtain ⟨x0, x1⟩ := numTo_small L k hk4
          have hsucc := numTo_succ L k
          obtain ⟨x, hx⟩ : ∃ x, x = numTo L k := ⟨_, rfl⟩
          rw [← hx] at x0 x1 hsucc
          rw [← hx]
          have g1 : IntKind.i64.wrap (x * 256) = x * 256 := IntWalk.i64_in _ (by omega)
          have k4 : (k : Int) < 4 := by omega
          have kk0 : (0 : Int) ≤ (k : Int) := by omega
          by_cases hks : k < s.size
          · have ks : (k : Int) < (s.size : Int) := by omega
            have hc : (s[k].toNat : Int) < 256 := by have := s[k].toNat_lt; omega
            have HE : Hid (numTo L (k + 1) = x * 256 + (s[k].toNat : Int)) := by show _ = _; rw [hsucc, HBY.out k hks]
            clear hsucc hx
            go_wp2
            go_roundw
            case rel => exact ⟨k + 1, by omega, by go_num, by rw [HE.out], by first | rfl | trivial⟩
            case measure => simp [intOf]; omega
          · have ks : ¬ (k : Int) < (s.size : Int) := by omega
            have HE : Hid (numTo L (k + 1) = x * 256) := by show _ = _; rw [hsucc, HBZ.out k (by omega)]; omega
            clear hsucc hx
            go_wp2
            go_roundw
            case rel => exact ⟨k + 1, by omega, by go_num, by rw [HE.out], by first | rfl | trivial⟩
            case measure => simp [intOf]; omega
        · obtain rfl : k = 4 := by omega
          rw [show ((4 : Nat) : Int) = 4 from rfl]
          obtain ⟨v0, v1⟩ := numTo_bd L 4 (by omega)
          simp only [p256] at v1
          obtain ⟨V, hV⟩ : ∃ V, V = numTo L 4 := ⟨_, rfl⟩
          rw [← hV] at v0 v1
          rw [← hV]
          by_cases hz : V = 0 ∧ s.size = 4
          · obtain ⟨hz1, hz2⟩ := hz
            have HG : Hid (groupV L = [122]) := by show _ = _; unfold groupV; rw [if_pos ⟨by rw [← hV]; exact hz1, by rw [HLL.out]; exact hz2⟩]
            have e4 : ((s.size : Int) == 4) = true := by rw [beq_iff_eq]; omega
            have e0 : (V == 0) = true := by rw [beq_iff_eq]; exact hz1
            have HOW := Lib.hid (HB0.out.2.below (balloc (Below.refl _ w) (.cells #[.int .u8 122] 5)))
            have HNEW : Hid (∀ j u, (encB 122)[j]? = some u → (w.alloc (.cells #[.int .u8 122] 5)).cell? ((⟨w.heap.size, 0, none⟩ : Addr).add j) = some u) := World.news_of_block (cs := #[.int .u8 122]) (t := 5) (fr := (0, 0)) (heap_alloc_new w _)
            clear hV hz1 hz2
            go_wp2_with (at_builtin; refine wpList_app1L rfl (.tmp 43) (.tmp 44) 121 rfl elemU8 Tryz.underlying121 w.heap.size _ [] encB rfl HOW.out 122 ⟨w.heap.size, 0, none⟩ 1 rfl rfl HNEW.out ?c1 ?c2 ?c3 ?c4 ?_)
            case c1 => intro u hu; obtain rfl : u = .int .u8 ((122 : UInt8).toNat : Int) := (by simpa [encB] using hu); rfl
            case c2 => decide
            case c3 => decide
            case c4 => rw [World.size_alloc]; omega
            intro g7 cap7 w7 hown7 hg7 hat7
            have HNX : Hid (BytesAt w w7 (.slice (some ⟨g7, 0, none⟩) 1 cap7) (groupV L)) := by
              refine ⟨Below.grown (balloc (Below.refl _ w) _) hg7 (by rw [World.size_alloc]; omega) (fun j e => by cases e), ?_⟩
              rw [HG.out]
              exact hown7
            clear hown7 hg7 hat7 HOW HNEW
            go_wp2
            go_roundw
            case rel => exact .inr ⟨by go_num, ⟨_, _, _, rfl⟩, HNX.out⟩
            case measure => simp [intOf]
          · have HG : Hid (groupV L = (List.range (s.size + 1)).map (digC V)) := by
              show _ = _
              unfold groupV
              rw [if_neg (fun h => hz ⟨by rw [hV]; exact h.1, by rw [← HLL.out]; exact h.2⟩), HLL.out, hV]
            go_upto_region 14 with fail
            go_cut [42] from 37 to 42 (fun s42 wx => s42 = .bool false ∧ w = wx)
            case first =>
              by_cases hz1 : V = 0
              · have e4 : ((s.size : Int) == 4) = false := by rw [beq_eq_false_iff_ne]; exact fun e => hz ⟨hz1, by omega⟩
                have e0 : (V == 0) = true := by rw [beq_iff_eq]; exact hz1
                clear hz1 hV hz
                go_wp2_with fail
                go_meet
                exact ⟨rfl, by first | rfl | trivial⟩
              · have e4 : (V == 0) = false := by rw [beq_eq_false_iff_ne]; exact hz1
                clear hz1 hV hz
                go_wp2_with fail
                go_meet
                exact ⟨rfl, by first | rfl | trivial⟩
            case rest =>
              obtain ⟨rfl, rfl⟩ := hcut
              clear hV hz
              obtain ⟨N, hN⟩ : ∃ N, N = s.size + 1 := ⟨_, rfl⟩
              rw [← hN] at HG
              have hNi : (s.size : Int) + 1 = (N : Int) := by omega
              have N5 : N ≤ 5 := by omega
              clear hN
              go_wp2
              go_loopw [3, 6, 8, 48] (fun u v d j wr => ∃ (k : Nat) (oa : Option Addr) (cap : Nat), k ≤ N ∧ j = .int .i64 k ∧ v = .int .i64 (remV V k) ∧ d = .int .i64 (divV k) ∧ u = .slice oa k cap ∧ Hid (BytesAt w wr (.slice oa k cap) ((List.range k).map (digC V)))) (fun _ _ _ j _ => N - (intOf j).toNat)
              case atStart => exact ⟨0, none, 0, by omega, rfl, rfl, rfl, rfl, HB0.out⟩
              case round =>
                obtain ⟨k, oa, cap, hk, rfl, rfl, rfl, rfl, HR⟩ := hrel
                by_cases hkN : k < N
                · obtain ⟨d1, d2, d3⟩ := remV_dig v0 v1 k (by omega)
                  have hdb := digV_bd v0 k
                  have hdc := digC_toNat v0 k
                  have hdv : divV k = p85 (4 - k) := if_pos (by omega)
                  have hp : 1 ≤ p85 (4 - k) ∧ p85 (4 - k) ≤ 52200625 := p85_bd k
                  have hrs : remV V (k + 1) = remV V k % p85 (4 - k) := rfl
                  have hds : divV (k + 1) = p85 (4 - k) / 85 := divV_succ k (by omega)
                  rw [hdv]
                  obtain ⟨x, hx⟩ : ∃ x, x = remV V k := ⟨_, rfl⟩
                  obtain ⟨d, hd⟩ : ∃ d, d = p85 (4 - k) := ⟨_, rfl⟩
                  obtain ⟨c, hc⟩ : ∃ c, c = digC V k := ⟨_, rfl⟩
                  rw [← hx, ← hd] at d1 hrs
                  rw [← hx] at d2 d3
                  rw [← hd] at hp hds
                  rw [← hc] at hdc
                  rw [← hx, ← hd]
                  have hq : x / d = (c.toNat : Int) - 33 := by omega
                  have hq2 : IntKind.i64.wrap (x.tdiv d) = (c.toNat : Int) - 33 := by
                    rw [Int.tdiv_eq_ediv_of_nonneg d2, hq]
                    exact IntWalk.i64_in _ (by omega)
                  have hcc : 33 + ((c.toNat : Int) - 33) = (c.toNat : Int) := by omega
                  have hcb : (33 : Int) ≤ (c.toNat : Int) ∧ (c.toNat : Int) ≤ 117 := by omega
                  have hm0 := Int.emod_nonneg x (b := d) (by omega)
                  have hm1 := Int.emod_lt_of_pos x (b := d) (by omega)
                  have hm2 : IntKind.i64.wrap (x.tmod d) = x % d := by
                    rw [Int.tmod_eq_emod_of_nonneg d2]
                    exact IntWalk.i64_in _ (by omega)
                  have hd5 : 0 ≤ d / 85 ∧ d / 85 ≤ 52200625 := by omega
                  have dne : (d == 0) = false := by rw [beq_eq_false_iff_ne]; omega
                  have kd2 : (k : Int) < (N : Int) := by omega
                  have HLE : Hid (((List.range k).map (digC V)).length = k) := by show _ = _; simp
                  have HOW := Lib.hid (HR.out.2.below (balloc (Below.refl _ wr) (.cells #[.int .u8 (c.toNat : Int)] 5)))
                  have HSZ : Hid (w.heap.size ≤ (wr.alloc (.cells #[.int .u8 (c.toNat : Int)] 5)).heap.size) := by show _ ≤ _; have h1 := HR.out.1.size; rw [World.size_alloc]; omega
                  have HNEW : Hid (∀ j u, (encB c)[j]? = some u → (wr.alloc (.cells #[.int .u8 (c.toNat : Int)] 5)).cell? ((⟨wr.heap.size, 0, none⟩ : Addr).add j) = some u) := World.news_of_block (cs := #[.int .u8 (c.toNat : Int)]) (t := 5) (fr := (0, 0)) (heap_alloc_new wr _)
                  have HC := Lib.hid hc
                  have HRS := Lib.hid hrs
                  have HDS := Lib.hid hds
                  clear hc hrs hds hx hd hdv d1 hdc hdb hq
                  go_wp2_with (at_builtin; refine wpList_app1L rfl (.tmp 50) (.tmp 56) 121 rfl elemU8 Tryz.underlying121 w.heap.size _ ((List.range k).map (digC V)) encB rfl HOW.out c ⟨wr.heap.size, 0, none⟩ 1 rfl rfl HNEW.out ?c1 ?c2 ?c3 ?c4 ?_)
                  case c1 => intro u hu; obtain rfl : u = .int .u8 (c.toNat : Int) := (by simpa [encB] using hu); rfl
                  case c2 => rw [HLE.out]; omega
                  case c3 => rw [HLE.out]; unfold maxLen; omega
                  case c4 => exact HSZ.out
                  intro g7 cap7 w7 hown7 hg7 hat7
                  have HNX : Hid (BytesAt w w7 (.slice (some ⟨g7, 0, none⟩) (k + 1) cap7) ((List.range (k + 1)).map (digC V))) := by
                    refine ⟨Below.grown (balloc HR.out.1 _) hg7 HSZ.out (fun j e => (HOW.out.blk e).1), ?_⟩
                    rw [List.range_succ, List.map_append, List.map_singleton, ← HC.out]
                    exact hown7
                  clear hown7 hg7 hat7 HOW HNEW HSZ
                  go_wp2
                  go_roundw
                  case rel => exact ⟨k + 1, _, _, by omega, by go_num, by rw [HRS.out], by rw [HDS.out], rfl, HNX.out⟩
                  case measure => simp [intOf]; omega
                · obtain rfl : k = N := by omega
                  have HNX : Hid (BytesAt w wr (.slice oa k cap) (groupV L)) := by rw [HG.out]; exact HR.out
                  go_wp2
                  go_roundw
                  case rel => exact .inr ⟨by go_num, ⟨_, _, _, rfl⟩, HNX.out⟩
                  case measure => simp [intOf]
    · have kd : ¬ (4 : Int) < (s.size : Int) := by omega
      have hcv := conv_own HR.out.2
      have HF : Hid (RetStr (groupV L) w (.returned (.string (strB (groupV L)))) wr) := ⟨rfl, HR.out.1⟩
      go_wp2
      go_ret
      exact HF.out
end Go.Proofs.YtnnnihjagjfkdaaGreatDoor
