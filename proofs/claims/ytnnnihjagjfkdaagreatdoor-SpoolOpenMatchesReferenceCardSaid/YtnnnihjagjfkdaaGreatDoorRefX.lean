/-
  The walks of the reference's texts: Hexed, Decimal, Parts. Own text.
-/
import Derived.Test.YtnnnihjagjfkdaaGreatDoorRefW
import Derived.RegionTactic
import Derived.BigRegion
namespace Go.Proofs.YtnnnihjagjfkdaaGreatDoor
open Go.RowKit
set_option linter.unusedVariables false
/-- The last k digits of eight. -/
def hexEnd (x : Int) (k : Nat) : List UInt8 := (List.range k).map fun i => hexC x (8 - k + i)
theorem hexEnd_succ (x : Int) {k : Nat} (h : k < 8) : hexEnd x (k + 1) = hexC x (7 - k) :: hexEnd x k := by
  unfold hexEnd
  rw [List.range_succ_eq_map, List.map_cons, List.map_map]
  congr 1
  · congr 1; omega
  · refine List.map_congr_left fun i _ => ?_
    show hexC x (8 - (k + 1) + (i + 1)) = hexC x (8 - k + i)
    congr 1; omega
theorem hexEnd_all (x : Int) : hexEnd x 8 = hexV x := by
  unfold hexEnd hexV
  refine List.map_congr_left fun i _ => ?_
  show hexC x (8 - 8 + i) = hexC x i
  congr 1; omega
theorem hexLit : ∀ j, j < 16 → (ByteArray.mk #[48, 49, 50, 51, 52, 53, 54, 55, 56, 57, 97, 98, 99, 100, 101, 102]).extract j (j + 1) = ⟨#[hexTab.getD j 0]⟩ := by decide +kernel
theorem strB_cons (c : UInt8) (l : List UInt8) : (ByteArray.mk #[c]) ++ strB l = strB (c :: l) := by
  apply ByteArray.ext
  apply Array.ext'
  rw [ByteArray.data_append, Array.toList_append]
  rfl
set_option maxRecDepth 100000 in
set_option maxHeartbeats 2000000 in
theorem hexed_any (x : Int) (w : World) (h0 : 0 ≤ x) (h1 : x < 4294967296) :
    Calls Tryz.prog 57 #[.int .u32 x] w fun e w' => e = .returned (.string (strB (hexV x))) ∧ w = w' := by
  go_enter Tryz.func57, Tryz.ntmps57
  go_wp2
  go_loop [0, 3, 4] (fun c o i => ∃ (k : Nat) (y : Int) (l : ByteArray), k ≤ 8 ∧ i = .int .i64 k ∧ c = .int .u32 y ∧ o = .string l ∧ Hid (y = x / 16 ^ k ∧ l = strB (hexEnd x k)) ∧ (0 ≤ y ∧ y < 4294967296) ∧ l.size ≤ 8) (fun _ _ i => 8 - (intOf i).toNat)
  case atStart => exact ⟨0, x, ⟨#[]⟩, by omega, rfl, rfl, rfl, ⟨by simp, rfl⟩, ⟨h0, h1⟩, by decide⟩
  case round =>
    obtain ⟨k, y, l, hk, rfl, rfl, rfl, HY, ⟨y0, y1⟩, hl8⟩ := hrel
    by_cases hlt : k < 8
    · have kd : (k : Int) < 8 := by omega
      obtain ⟨j, hj⟩ : ∃ j : Nat, y % 16 = (j : Int) := ⟨(y % 16).toNat, by omega⟩
      have j16 : j < 16 := by omega
      have HL := Lib.hid (hexLit j j16)
      have HN : Hid (y / 16 = x / 16 ^ (k + 1) ∧ (ByteArray.mk #[hexTab.getD j 0]) ++ l = strB (hexEnd x (k + 1))) := by
        refine ⟨?_, ?_⟩
        · rw [HY.out.1, Int.pow_succ, Int.ediv_ediv_of_nonneg (Int.pow_nonneg (by omega))]
        · rw [HY.out.2, strB_cons, hexEnd_succ x hlt]
          congr 2
          show _ = hexTab.getD ((x / 2 ^ (28 - 4 * (7 - k))).toNat % 16) 0
          have e : (2 : Int) ^ (28 - 4 * (7 - k)) = 16 ^ k := by
            rw [show 28 - 4 * (7 - k) = 4 * k by omega, Int.pow_mul]
            rfl
          rw [e, ← HY.out.1]
          congr 1
          omega
      have yb : 0 ≤ y / 16 ∧ y / 16 < 4294967296 := by omega
      have hx1 : ((ByteArray.mk #[48, 49, 50, 51, 52, 53, 54, 55, 56, 57, 97, 98, 99, 100, 101, 102]).extract j (j + 1)).size = 1 := by rw [HL.out]; rfl
      have hls : ((ByteArray.mk #[hexTab.getD j 0]) ++ l).size ≤ 8 := by
        rw [HN.out.2, strB_size]
        unfold hexEnd
        rw [List.length_map, List.length_range]
        omega
      clear HY
      go_wp2
      go_round
      case rel => exact ⟨k + 1, y / 16, _, by omega, by go_num, rfl, by rw [HL.out], ⟨HN.out.1, HN.out.2⟩, yb, hls⟩
      case measure => simp [intOf]; omega
    · obtain rfl : k = 8 := by omega
      have HE : Hid (l = strB (hexV x)) := by show _ = _; rw [HY.out.2, hexEnd_all]
      go_wp2
      go_ret
      refine ⟨?_, rfl⟩
      rw [← HE.out]
      rfl
set_option maxRecDepth 100000 in
set_option maxHeartbeats 4000000 in
theorem decimal_any (n : Nat) (w : World) (hn : n < 1000000000000) :
    Calls Tryz.prog 59 #[.int .i64 n] w (RetStr (Lib.itoa n) w) := by
  have hit : Lib.itoa (n : Int) = Lib.decDigits n := by unfold Lib.itoa; rw [if_neg (by omega)]; simp
  rw [hit]
  by_cases h0 : n = 0
  · subst h0
    have hv : Lib.decDigits 0 = [48] := by rw [Lib.decDigits_one (by omega)]; rfl
    rw [hv]
    go_enter Tryz.func59, Tryz.ntmps59
    go_wp2
    go_ret
    exact ⟨rfl, Below.refl _ _⟩
  · have e0 : ((n : Int) == 0) = false := by rw [beq_eq_false_iff_ne]; omega
    have e1 : ¬ (n : Int) < 0 := by omega
    have HN0 : Hid (n ≠ 0) := h0
    clear h0 hit
    go_enter Tryz.func59, Tryz.ntmps59
    go_wp2
    go_loopw [0, 3] (fun mv o wr => ∃ (m : Nat) (l : ByteArray), m ≤ n ∧ mv = .int .i64 m ∧ o = .string l ∧ l.size ≤ 18 ∧ Hid (Lib.decDigits n = (if m = 0 then [] else Lib.decDigits m) ++ l.data.toList ∧ Below w.heap.size w wr)) (fun mv _ _ => (intOf mv).toNat)
    case atStart => exact ⟨n, ⟨#[]⟩, Nat.le_refl _, rfl, rfl, by decide, by rw [if_neg HN0.out]; simp, Below.refl _ _⟩
    case round =>
      clear e0 e1
      obtain ⟨m, l, hm, rfl, rfl, hl18, HR⟩ := hrel
      by_cases hz : m = 0
      · subst hz
        have HE : Hid (l = strB (Lib.decDigits n)) := by
          show _ = _
          rw [HR.out.1, if_pos rfl, List.nil_append, strB_eq]
        go_wp2
        go_ret
        refine ⟨?_, HR.out.2⟩
        rw [← HE.out]
        rfl
      · have e0 : ((m : Int) == 0) = false := by rw [beq_eq_false_iff_ne]; omega
        have e3 : ((m : Int) != 0) = true := by rw [bne_iff_ne]; omega
        obtain ⟨j, hj⟩ : ∃ j : Nat, j = m % 10 := ⟨_, rfl⟩
        have ej : (m : Int) % 10 = (j : Int) := by omega
        have j9 : j ≤ 9 := by omega
        have eq : (m : Int) / 10 = ((m / 10 : Nat) : Int) := by omega
        obtain ⟨d, hd⟩ : ∃ d : UInt8, d = UInt8.ofNat (48 + j) := ⟨_, rfl⟩
        have hdn : (d.toNat : Int) = 48 + (j : Int) := by
          rw [hd, UInt8.toNat_ofNat_of_lt' (by show 48 + j < 256; omega)]
          omega
        have HN : Hid (Lib.decDigits n = (if m / 10 = 0 then [] else Lib.decDigits (m / 10)) ++ ((ByteArray.mk #[d]) ++ l).data.toList) := by
          show _ = _
          rw [HR.out.1, if_neg hz, ByteArray.data_append, Array.toList_append]
          show _ = _ ++ ([d] ++ _)
          rw [← List.append_assoc]
          congr 1
          by_cases h10 : m < 10
          · rw [Lib.decDigits_one h10, if_pos (by omega), hd]
            have : j = m := by omega
            rw [this]; rfl
          · rw [Lib.decDigits, dif_neg h10, if_neg (by omega), hd, hj]
        have hls : ((ByteArray.mk #[d]) ++ l).size ≤ 18 := by
          have h1 := congrArg List.length HN.out
          have h2 := digits_short n (by omega)
          rw [List.length_append] at h1
          have h3 : ((ByteArray.mk #[d]) ++ l).data.toList.length = ((ByteArray.mk #[d]) ++ l).size := by rw [Array.length_toList]; rfl
          omega
        have hcv : ∀ W : World, (convert 121 9 (.slice (some ⟨W.heap.size, 0, none⟩) 1 1)).run Tryz.prog (W.alloc (.cells #[.int .u8 (48 + (j : Int))] 5)) = .ok (.string ⟨#[d]⟩) (W.alloc (.cells #[.int .u8 (48 + (j : Int))] 5)) := fun W => by
          refine run_convert_bytes_back (P := Tryz.prog) _ 121 9 5 ⟨W.heap.size, 0, none⟩ 1 [d] Tryz.underlying121 Tryz.underlying5 Tryz.underlying9 (fun i hi => ?_)
          have hi0 : i = 0 := by simpa using hi
          subst hi0
          rw [add_none, Nat.zero_add, cell_of_row _ W.heap.size 0 _ _ (0, 0) (heap_alloc_new W _)]
          show some (Value.int .u8 (48 + (j : Int))) = some (Value.int .u8 (d.toNat : Int))
          rw [hdn]
        have HB := Lib.hid (balloc HR.out.2 (.cells #[.int .u8 (48 + (j : Int))] 5))
        have hs1 : (ByteArray.mk #[d]).size = 1 := rfl
        have m0 : (0 : Int) ≤ (m : Int) := by omega
        have m1 : (m : Int) ≤ 1000000000000 := by omega
        have hq : IntKind.i64.wrap ((m : Int).tdiv 10) = ((m / 10 : Nat) : Int) := by
          rw [Int.tdiv_eq_ediv_of_nonneg m0, eq]
          exact IntWalk.i64_in _ (by omega)
        clear HR hj hd hdn eq
        go_wp2
        go_roundw
        case rel => exact ⟨m / 10, _, by omega, rfl, rfl, hls, HN.out, HB.out⟩
        case measure => simp [intOf]; omega
/-- The parts of a text. -/
def splitV (c : UInt8) : List UInt8 → List (List UInt8)
  | [] => [[]]
  | b :: r => if b = c then [] :: splitV c r else match splitV c r with
    | [] => [[b]]
    | w :: ws => (b :: w) :: ws
theorem splitV_ne (c : UInt8) (l : List UInt8) : splitV c l ≠ [] := by
  cases l with
  | nil => simp [splitV]
  | cons b r =>
    unfold splitV
    split
    · simp
    · split <;> simp
theorem splitV_words (l : List UInt8) : splitV 32 l = wordsV l := by
  induction l with
  | nil => rfl
  | cons b r ih =>
    by_cases h : b = 32
    · unfold splitV wordsV
      rw [if_pos h, if_pos h, ih]
    · unfold splitV wordsV
      rw [if_neg h, if_neg h, ih]
      cases wordsV r <;> rfl
theorem splitV_hit (c : UInt8) (r : List UInt8) : splitV c (c :: r) = [] :: splitV c r := by
  conv => lhs; unfold splitV
  rw [if_pos rfl]
theorem splitV_miss {c b : UInt8} (h : b ≠ c) {r w : List UInt8} {ws : List (List UInt8)} (e : splitV c r = w :: ws) : splitV c (b :: r) = (b :: w) :: ws := by
  conv => lhs; unfold splitV
  rw [if_neg h, e]
def pstep (c : UInt8) (acc : List (List UInt8)) (b : UInt8) : List (List UInt8) := if b = c then acc ++ [[]] else acc.dropLast ++ [acc.getLastD [] ++ [b]]
def partsF (c : UInt8) (l : List UInt8) : List (List UInt8) := l.foldl (pstep c) [[]]
theorem pstep_hit (c : UInt8) (acc : List (List UInt8)) : pstep c acc c = acc ++ [[]] := if_pos rfl
theorem pstep_miss {c b : UInt8} (h : b ≠ c) (pre : List (List UInt8)) (x : List UInt8) : pstep c (pre ++ [x]) b = pre ++ [x ++ [b]] := by
  unfold pstep
  rw [if_neg h, List.dropLast_concat]
  simp
theorem parts_fold (c : UInt8) (l : List UInt8) : ∀ (pre : List (List UInt8)) (x : List UInt8), l.foldl (pstep c) (pre ++ [x]) = pre ++ (match splitV c l with | [] => [x] | w :: ws => (x ++ w) :: ws) := by
  induction l with
  | nil => intro pre x; simp [splitV]
  | cons b r ih =>
    intro pre x
    rw [List.foldl_cons]
    by_cases h : b = c
    · subst h
      rw [pstep_hit, ih (pre ++ [x]) [], splitV_hit]
      cases e : splitV b r with
      | nil => exact absurd e (splitV_ne b r)
      | cons w ws => simp
    · rw [pstep_miss h, ih pre (x ++ [b])]
      cases e : splitV c r with
      | nil => exact absurd e (splitV_ne c r)
      | cons w ws => rw [splitV_miss h e]; simp
theorem partsF_split (c : UInt8) (l : List UInt8) : partsF c l = splitV c l := by
  have h := parts_fold c l [] []
  rw [List.nil_append, List.nil_append] at h
  unfold partsF
  rw [h]
  cases e : splitV c l with
  | nil => exact absurd e (splitV_ne c l)
  | cons w ws => rfl
theorem splitV_le (c : UInt8) (l : List UInt8) : ∀ x ∈ splitV c l, x.length ≤ l.length := by
  induction l with
  | nil => intro x hx; simp [splitV] at hx; rw [hx]; exact Nat.le_refl _
  | cons b r ih =>
    intro x hx
    by_cases h : b = c
    · subst h
      rw [splitV_hit] at hx
      rcases List.mem_cons.1 hx with e | e
      · rw [e]; simp
      · have := ih x e; rw [List.length_cons]; omega
    · cases e : splitV c r with
      | nil => exact absurd e (splitV_ne c r)
      | cons w ws =>
        rw [splitV_miss h e] at hx
        rw [e] at ih
        rcases List.mem_cons.1 hx with e2 | e2
        · have := ih w (by simp); rw [e2, List.length_cons, List.length_cons]; omega
        · have := ih x (by simp [e2]); rw [List.length_cons]; omega
theorem partsF_snoc (c : UInt8) (l : List UInt8) (b : UInt8) : partsF c (l ++ [b]) = pstep c (partsF c l) b := by
  unfold partsF
  rw [List.foldl_append]
  rfl
theorem partsF_ne (c : UInt8) (l : List UInt8) : ∃ pre x, partsF c l = pre ++ [x] := by
  have h := splitV_ne c l
  rw [← partsF_split] at h
  exact ⟨_, _, (List.dropLast_concat_getLast h).symm⟩
def encT (s : List UInt8) : List Value := [.string (strB s)]
theorem elemStrT : ElemType Tryz.prog 9 (.string ⟨#[]⟩) 1 16 := ElemType.mk (by kernel_rfl) rfl (by decide)
theorem Flat.tx {w : World} {oa : Option Addr} {xs : List (List UInt8)} (h : Flat w 1 encT oa xs) {i : Nat} (hi : i < xs.length) :
    ∃ b off, oa = some ⟨b, off, none⟩ ∧ w.cell? ⟨b, off + i, none⟩ = some (.string (strB xs[i])) := by
  obtain ⟨v0, h0, b, off, e, c0⟩ := h i hi 0 (by omega)
  simp only [encT, List.getElem?_cons_zero, Option.some.injEq] at h0
  subst h0
  exact ⟨b, off, e, by simpa using c0⟩
theorem extract_one (x : List UInt8) (s : ByteArray) (k : Nat) (h : k < s.size) : strB x ++ s.extract k (k + 1) = strB (x ++ [s[k]]) := by
  apply ByteArray.ext
  apply Array.ext'
  rw [ByteArray.data_append, Array.toList_append, extractL, dropB s k h]
  simp [strB]
/-- The parts so far. -/
def PartsAt (w wr : World) (c : UInt8) (s : ByteArray) (k n : Nat) (v : Value) : Prop := Below w.heap.size w wr ∧ Own wr w.heap.size 9 1 encT v (partsF c (s.data.toList.take k)) ∧ (partsF c (s.data.toList.take k)).length = n
def RetParts (xs : List (List UInt8)) (w : World) (e : Ending) (w' : World) : Prop := ∃ v, e = .returned v ∧ Own w' w.heap.size 9 1 encT v xs ∧ Below w.heap.size w w'
set_option maxRecDepth 100000 in
set_option maxHeartbeats 4000000 in
theorem parts_any (s : ByteArray) (c : UInt8) (w : World) (hs : s.size ≤ 1000000) :
    Calls Tryz.prog 41 #[.string s, .int .u8 c.toNat] w (RetParts (splitV c s.data.toList) w) := by
  have HS0 : Hid (PartsAt w (w.alloc (.cells #[.string ⟨#[]⟩] 9)) c s 0 1 (.slice (some ⟨w.heap.size, 0, none⟩) 1 1)) :=
    ⟨balloc (Below.refl _ w) _, Own.lit w w.heap.size 1 encT [[]] 9 (fun _ => rfl) (by simp [maxLen]) (Nat.le_refl _), rfl⟩
  go_enter Tryz.func41, Tryz.ntmps41
  go_upto_region 2 with fail
  generalize w.alloc (.cells #[.string ⟨#[]⟩] 9) = w1 at *
  go_wp2
  go_loopw [5, 10] (fun v i wr => ∃ k n g cap : Nat, k ≤ s.size ∧ i = .int .i64 k ∧ v = .slice (some ⟨g, 0, none⟩) n cap ∧ (1 ≤ n ∧ n ≤ k + 1) ∧ Hid (PartsAt w wr c s k n (.slice (some ⟨g, 0, none⟩) n cap))) (fun _ i _ => s.size - (intOf i).toNat)
  case atStart => exact ⟨0, 1, _, 1, by omega, rfl, rfl, ⟨by omega, by omega⟩, HS0.out⟩
  case round =>
    clear HS0
    obtain ⟨k, n, g, cap, hk, rfl, rfl, ⟨n1, nk⟩, HR⟩ := hrel
    by_cases hlt : k < s.size
    · have kd : (k : Int) < (s.size : Int) := by omega
      have k0 : (0 : Int) ≤ (k : Int) := by omega
      have htk : s.data.toList.take (k + 1) = s.data.toList.take k ++ [s[k]] := take_snocB s k hlt
      have hcc : (s[k].toNat : Int) < 256 := by have := s[k].toNat_lt; omega
      by_cases hc : s[k] = c
      · have e1 : ((s[k].toNat : Int) == (c.toNat : Int)) = true := by rw [hc]; simp
        have HPF : Hid (partsF c (s.data.toList.take (k + 1)) = partsF c (s.data.toList.take k) ++ [[]]) := by show _ = _; rw [htk, partsF_snoc, hc, pstep_hit]
        have HOW := Lib.hid (HR.out.2.1.below (balloc (Below.refl _ wr) (.cells #[.string ⟨#[]⟩] 9)))
        have HSZ : Hid (w.heap.size ≤ (wr.alloc (.cells #[.string ⟨#[]⟩] 9)).heap.size) := by show _ ≤ _; have h1 := HR.out.1.size; rw [World.size_alloc]; omega
        have HNEW : Hid (∀ j u, (encT [])[j]? = some u → (wr.alloc (.cells #[.string ⟨#[]⟩] 9)).cell? ((⟨wr.heap.size, 0, none⟩ : Addr).add j) = some u) := World.news_of_block (cs := #[.string ⟨#[]⟩]) (t := 9) (fr := (0, 0)) (heap_alloc_new wr _)
        have HLN := Lib.hid HR.out.2.2
        clear htk hc
        go_wp2_with (at_builtin; refine wpList_app1L rfl (.tmp 18) (.tmp 19) 64 rfl elemStrT Tryz.underlying64 w.heap.size _ (partsF c (s.data.toList.take k)) encT rfl HOW.out [] ⟨wr.heap.size, 0, none⟩ 1 rfl rfl HNEW.out ?c1 ?c2 ?c3 ?c4 ?_)
        case c1 => intro u hu; obtain rfl : u = .string (strB []) := (by simpa [encT] using hu); rfl
        case c2 => rw [HLN.out]; omega
        case c3 => rw [HLN.out]; unfold maxLen; omega
        case c4 => exact HSZ.out
        intro g7 cap7 w7 hown7 hg7 hat7
        have hbw : Below w.heap.size w w7 := Below.grown (balloc HR.out.1 _) hg7 (by have := HSZ.out; exact this) (fun j e => (HOW.out.blk e).1)
        have HNX : Hid (PartsAt w w7 c s (k + 1) (n + 1) (.slice (some ⟨g7, 0, none⟩) (n + 1) cap7)) := by
          refine ⟨hbw, ?_, by rw [HPF.out, List.length_append, HLN.out]; rfl⟩
          rw [HPF.out]
          rw [HLN.out] at hown7
          exact hown7
        rw [HLN.out]
        clear hown7 hg7 hat7 hbw HOW HNEW HSZ
        go_wp2
        go_roundw
        case rel => exact ⟨k + 1, n + 1, g7, cap7, by omega, by go_num, rfl, ⟨by omega, by omega⟩, HNX.out⟩
        case measure => simp [intOf]; omega
      · have e1 : ((s[k].toNat : Int) == (c.toNat : Int)) = false := by
          rw [beq_eq_false_iff_ne]
          exact fun e => hc (UInt8.toNat_inj.1 (by omega))
        obtain ⟨pre, x, hpx⟩ := partsF_ne c (s.data.toList.take k)
        have hpl : pre.length + 1 = n := by have h1 := HR.out.2.2; rw [hpx, List.length_append] at h1; exact h1
        have HPF : Hid (partsF c (s.data.toList.take (k + 1)) = pre ++ [x ++ [s[k]]]) := by show _ = _; rw [htk, partsF_snoc, hpx, pstep_miss hc]
        have hown := HR.out.2.1
        rw [hpx] at hown
        obtain ⟨oax, cax, e5, -, hfl⟩ := hown.flat (fun _ => rfl)
        simp only [Value.slice.injEq] at e5
        obtain ⟨rfl, -, rfl⟩ := e5
        obtain ⟨b9, off9, e9, c9⟩ := hfl.tx (i := pre.length) (by simp)
        simp only [Option.some.injEq, Addr.mk.injEq, and_true] at e9
        obtain ⟨rfl, rfl⟩ := e9
        rw [List.getElem_append_right (Nat.le_refl _)] at c9
        simp only [Nat.sub_self, List.getElem_singleton, Nat.zero_add] at c9
        obtain ⟨p, hp⟩ : ∃ p, p = pre.length := ⟨_, rfl⟩
        rw [← hp] at c9 hpl
        have en : (n : Int) - 1 = (p : Int) := by omega
        have p0 : (0 : Int) ≤ (p : Int) := by omega
        have pn : (p : Int) < (n : Int) := by omega
        have HEX := Lib.hid (extract_one x s k hlt)
        have hset : Own (wr.setCell ⟨g, p, none⟩ (.string (strB (x ++ [s[k]])))) w.heap.size 9 1 encT (.slice (some ⟨g, 0, none⟩) n cap) (pre ++ [x ++ [s[k]]]) := by
          have h := hown.setAt (fun _ => rfl) (i := pre.length) (by simp) (j := 0) (by omega) (v := .string (strB (x ++ [s[k]]))) (y := x ++ [s[k]]) (by simp [encT])
          rw [Nat.mul_one, Nat.add_zero, ← hp] at h
          have e : (pre ++ [x]).set p (x ++ [s[k]]) = pre ++ [x ++ [s[k]]] := by rw [hp, List.set_append_right _ _ (Nat.le_refl _)]; simp
          rw [e] at h
          exact h
        have hblk := (hown.blk (g := g) rfl).1
        have HNX : Hid (PartsAt w ((wr.setCell ⟨g, p, none⟩ (.string (strB (x ++ [s[k]])))).drew) c s (k + 1) n (.slice (some ⟨g, 0, none⟩) n cap)) := by
          refine ⟨bdrewN (HR.out.1.setCell (p := ⟨g, p, none⟩) hblk _) 1, ?_, by rw [HPF.out]; simp; omega⟩
          rw [HPF.out]
          exact hset.drewN 1
        have hxs : (strB x).size ≤ 1000000 := by
          have h1 := splitV_le c (s.data.toList.take k) x (by rw [← partsF_split, hpx]; simp)
          rw [List.length_take] at h1
          rw [strB_size]
          omega
        have hes : (s.extract k (k + 1)).size = 1 := by rw [extractL_size s k (k + 1) hlt]; omega
        have hfz : wr.frozen? ⟨g, p, none⟩ = false := by
          rcases hown.2 with ⟨e, _⟩ | ⟨g1, cap1, cur, e, _, hrow, _⟩
          · cases e
          · simp only [Value.slice.injEq, Option.some.injEq, Addr.mk.injEq, and_true] at e
            obtain ⟨rfl, -, -⟩ := e
            unfold World.frozen?
            rw [hrow]
            simp
        clear htk hc hpx hown hfl hset hblk hp
        go_upto_region 7 with fail
        go_region
        all_goals
          rw [HEX.out]
          generalize (wr.setCell ⟨g, p, none⟩ (.string (strB (x ++ [s[k]])))).drew = w5 at *
          clear c9 hfz
          go_wp2
          go_roundw
          case rel => exact ⟨k + 1, n, g, cap, by omega, by go_num, rfl, ⟨by omega, by omega⟩, HNX.out⟩
          case measure => simp [intOf]; omega
    · obtain rfl : s.size = k := by omega
      have HE : Hid (RetParts (splitV c s.data.toList) w (.returned (.slice (some ⟨g, 0, none⟩) n cap)) wr) := by
        have h1 := HR.out.2.1
        rw [List.take_of_length_le (by simp), partsF_split] at h1
        exact ⟨_, rfl, h1, HR.out.1⟩
      go_wp2
      go_ret
      exact HE.out
end Go.Proofs.YtnnnihjagjfkdaaGreatDoor
