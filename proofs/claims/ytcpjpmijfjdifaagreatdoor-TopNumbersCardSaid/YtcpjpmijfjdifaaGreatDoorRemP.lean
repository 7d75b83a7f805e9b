/-
  Copies that are made again: the plain law. No program in sight. Own text.
-/
import Derived.Test.YtcpjpmijfjdifaaGreatDoorCollP
namespace Go.Proofs.YtcpjpmijfjdifaaGreatDoor
open Go.RowKit
set_option linter.unusedVariables false
theorem scanV_of : ∀ (l : List Pt) (last : Int), (∀ x ∈ l, 0 ≤ x.copy ∧ x.copy ≤ 9999 ∧ (x.copy ≠ 0 → last < x.copy)) → (l.Pairwise fun x y => y.copy ≠ 0 → x.copy < y.copy) → scanV last l = 0
  | [], _, _, _ => rfl
  | x :: l, last, h, hp => by
    obtain ⟨h1, h2⟩ := List.pairwise_cons.1 hp
    have hx := h x (by simp)
    unfold scanV
    rw [if_neg (by omega), if_neg (by rintro ⟨h3, h4⟩; have := hx.2.2 h3; omega)]
    refine scanV_of l _ (fun y hy => ?_) h2
    have hy2 := h y (by simp [hy])
    exact ⟨hy2.1, hy2.2.1, fun h0 => by have := h1 y hy h0; have := hy2.2.2 h0; omega⟩
theorem rowErr_of {l : List Pt} (h : RowOk l) : rowErr l = 0 := by
  unfold rowErr
  rw [if_neg (by have := h.len; omega)]
  refine scanV_of l 0 (fun x hx => ?_) h.inc
  have := h.rng x hx
  exact ⟨this.1, this.2, fun h0 => by omega⟩
theorem feedScan_of : ∀ (fs : List (List Pt)), (∀ l ∈ fs, RowOk l) → feedScan fs = 0
  | [], _ => rfl
  | l :: r, h => by
    unfold feedScan
    rw [if_pos (rowErr_of (h l (by simp)))]
    exact feedScan_of r fun m hm => h m (by simp [hm])
theorem checkV_of {fs : List (List Pt)} (h : FeedOk fs) : checkV fs = 0 := by
  unfold checkV
  rw [if_neg (by have := h.one; have := h.few; omega)]
  exact feedScan_of fs h.rows
theorem runErr_none {fs : List (List Pt)} (h : FeedOk fs) : runErr fs [] = 0 := by
  unfold runErr
  rw [if_pos (checkV_of h)]
  rfl
/-! ### Rows of all copies -/
def numRow (many : Nat) (s : Nat → Bool) : List Pt := (List.range many).map fun (c : Nat) => ⟨(c : Int) + 1, s c⟩
def numFs (kinds many : Nat) (s : Nat → Nat → Bool) : List (List Pt) := (List.range kinds).map fun k => numRow many (s k)
theorem numRow_succ (many : Nat) (s : Nat → Bool) : numRow (many + 1) s = numRow many s ++ [⟨(many : Int) + 1, s many⟩] := by simp [numRow, List.range_succ]
theorem numRow_len (many : Nat) (s : Nat → Bool) : (numRow many s).length = many := by simp [numRow]
theorem numFs_succ (kinds many : Nat) (s : Nat → Nat → Bool) : numFs (kinds + 1) many s = numFs kinds many s ++ [numRow many (s kinds)] := by simp [numFs, List.range_succ]
theorem numFs_len (kinds many : Nat) (s : Nat → Nat → Bool) : (numFs kinds many s).length = kinds := by simp [numFs]
theorem numFs_get (kinds many : Nat) (s : Nat → Nat → Bool) (k : Nat) (h : k < (numFs kinds many s).length) : (numFs kinds many s)[k] = numRow many (s k) := by simp [numFs]
theorem numRow_get (many : Nat) (s : Nat → Bool) (c : Nat) (h : c < (numRow many s).length) : (numRow many s)[c] = ⟨(c : Int) + 1, s c⟩ := by simp [numRow]
theorem numFs_ln (kinds many : Nat) (s : Nat → Nat → Bool) (k : Nat) (h : k < kinds) : ln (numFs kinds many s) k = many := by
  rw [ln_get _ k (by rw [numFs_len]; exact h), numFs_get, numRow_len]
theorem numFs_at (kinds many : Nat) (s : Nat → Nat → Bool) (k c : Nat) (h : k < kinds) (hc : c < many) : ptAt (numFs kinds many s) k c = ⟨(c : Int) + 1, s k c⟩ := by
  have h1 : k < (numFs kinds many s).length := by rw [numFs_len]; exact h
  have h2 : c < (numFs kinds many s)[k].length := by rw [numFs_get, numRow_len]; exact hc
  rw [ptAt_get _ k c h1 h2]
  simp [numFs, numRow]
theorem numRow_ok (many : Nat) (s : Nat → Bool) (hm : many ≤ 512) : RowOk (numRow many s) := by
  refine ⟨by rw [numRow_len]; exact hm, fun x hx => ?_, ?_⟩
  · simp only [numRow, List.mem_map, List.mem_range] at hx
    obtain ⟨c, hc, rfl⟩ := hx
    constructor <;> (show _ ≤ _; simp; omega)
  · unfold numRow
    rw [List.pairwise_map]
    refine List.pairwise_lt_range.imp fun h => ?_
    intro _
    show _ + (1 : Int) < _ + 1
    omega
theorem numFs_ok {kinds many : Nat} (s : Nat → Nat → Bool) (h1 : 1 ≤ kinds) (h2 : kinds ≤ 8) (hm : many ≤ 512) : FeedOk (numFs kinds many s) :=
  ⟨by rw [numFs_len]; exact h1, by rw [numFs_len]; exact h2, fun l hl => by
    simp only [numFs, List.mem_map, List.mem_range] at hl
    obtain ⟨k, _, rfl⟩ := hl
    exact numRow_ok many _ hm⟩
theorem numFs_inc {kinds many : Nat} (s : Nat → Nat → Bool) (h1 : 1 ≤ kinds) (h2 : kinds ≤ 8) (hm : many ≤ 512) : Inc (numFs kinds many s) :=
  inc_of (numFs_ok s h1 h2 hm) fun l hl x hx => by
    simp only [numFs, List.mem_map, List.mem_range] at hl
    obtain ⟨k, _, rfl⟩ := hl
    simp only [numRow, List.mem_map, List.mem_range] at hx
    obtain ⟨c, _, rfl⟩ := hx
    show 0 < _ + (1 : Int)
    omega
theorem numFs_known {kinds many : Nat} (s : Nat → Nat → Bool) (h1 : 1 ≤ kinds) (x : Int) : (∃ l ∈ numFs kinds many s, ∃ y ∈ l, y.copy = x) ↔ 1 ≤ x ∧ x ≤ many := by
  constructor
  · rintro ⟨l, hl, y, hy, rfl⟩
    simp only [numFs, List.mem_map, List.mem_range] at hl
    obtain ⟨k, _, rfl⟩ := hl
    simp only [numRow, List.mem_map, List.mem_range] at hy
    obtain ⟨c, hc, rfl⟩ := hy
    constructor <;> (show _ ≤ _; simp; omega)
  · rintro ⟨g1, g2⟩
    refine ⟨numRow many (s 0), ?_, ⟨x, s 0 (x - 1).toNat⟩, ?_, rfl⟩
    · simp only [numFs, List.mem_map, List.mem_range]
      exact ⟨0, by omega, rfl⟩
    · simp only [numRow, List.mem_map, List.mem_range]
      exact ⟨(x - 1).toNat, by omega, by congr 1; omega⟩
/-- The good copies of any run are copies. -/
theorem good_rng {kinds many : Nat} {s : Nat → Nat → Bool} {F : List Ft} {c : Nat} {a : Nat → Nat} {g : List Int} {p : List (List Int)} (h1 : 1 ≤ kinds) (h2 : kinds ≤ 8) (hm : many ≤ 512) (h : Runs (numFs kinds many s) F 0 (fun _ => 0) [] [] c a g p) : ∀ x ∈ g, 1 ≤ x ∧ x ≤ many := by
  have hi := (h.inv (RunInv.zero _)).1
  intro x hx
  obtain ⟨i, hi2, rfl⟩ := List.mem_iff_getElem.1 hx
  have hip : i < p.length := by rw [hi.len]; exact hi2
  have ho := hi.ok i hi2 hip
  have hl := ho.len
  rw [numFs_len] at hl
  obtain ⟨q, _, _, q2, _, q4⟩ := ho.at' 0 (by omega)
  rw [numFs_ln _ _ _ _ (by omega)] at q2
  have hc : cp (numFs kinds many s) 0 q = (q : Int) + 1 := by unfold cp; rw [numFs_at _ _ _ _ _ (by omega) q2]
  rw [hc] at q4
  omega
theorem strict_of {l : List Int} (h : l.Pairwise (· ≤ ·)) (hn : l.Nodup) : l.Pairwise (· < ·) := (h.and hn).imp fun ⟨h1, h2⟩ => by omega
def upTo (many : Nat) : List Int := (List.range many).map fun (c : Nat) => (c : Int) + 1
theorem upTo_len (many : Nat) : (upTo many).length = many := by simp [upTo]
theorem upTo_get (many i : Nat) (h : i < (upTo many).length) : (upTo many)[i] = (i : Int) + 1 := by simp [upTo]
theorem upTo_mem {many : Nat} {x : Int} : x ∈ upTo many ↔ 1 ≤ x ∧ x ≤ many := by
  unfold upTo
  simp only [List.mem_map, List.mem_range]
  constructor
  · rintro ⟨c, hc, rfl⟩; omega
  · rintro ⟨h1, h2⟩; exact ⟨(x - 1).toNat, by omega, by omega⟩
theorem upTo_srt (many : Nat) : (upTo many).Pairwise (· < ·) := by
  unfold upTo
  rw [List.pairwise_map]
  exact List.pairwise_lt_range.imp fun h => by omega
/-- The copies of both runs are all copies. -/
theorem both_all {kinds many : Nat} {s : Nat → Nat → Bool} {F : List Ft} {c : Nat} {a : Nat → Nat} {g : List Int} {p : List (List Int)} (h1 : 1 ≤ kinds) (h2 : kinds ≤ 8) (hm : many ≤ 512) (h : Runs (numFs kinds many s) F 0 (fun _ => 0) [] [] c a g p) {ms : List Int} (hms : IsMissing (numFs kinds many s) g ms) : srt (g ++ ms) = upTo many := by
  have hg := h.srt (numFs_inc s h1 h2 hm)
  have hr := good_rng h1 h2 hm h
  have hmem : ∀ x, x ∈ ms ↔ x ∉ g ∧ 1 ≤ x ∧ x ≤ many := fun x => by
    rw [hms.2, numFs_known s h1]
    constructor
    · rintro ⟨_, h4, h5⟩; exact ⟨h4, h5⟩
    · rintro ⟨h4, h5⟩; exact ⟨by omega, h4, h5⟩
  have hnd : (g ++ ms).Nodup := by
    refine List.nodup_append.2 ⟨hg.imp fun h => by omega, hms.1.imp fun h => by omega, fun x hx y hy e => ?_⟩
    subst e
    exact ((hmem x).1 hy).1 hx
  refine sorted_unique _ _ (strict_of (srt_sorted _) ((srt_perm _).nodup_iff.2 hnd)) (upTo_srt many) fun x => ?_
  rw [(srt_perm _).mem_iff, List.mem_append, upTo_mem, hmem]
  constructor
  · rintro (h | h)
    · exact hr x h
    · exact h.2
  · intro h
    by_cases e : x ∈ g
    · exact .inl e
    · exact .inr ⟨e, h⟩
/-! ### The second run -/
def plainRow (ms : List Int) : List Pt := ms.map fun x => ⟨x, false⟩
theorem plainRow_ok {ms : List Int} (hs : ms.Pairwise (· < ·)) (hr : ∀ x ∈ ms, 1 ≤ x ∧ x ≤ 9999) (hl : ms.length ≤ 512) : RowOk (plainRow ms) := by
  refine ⟨by simpa [plainRow] using hl, fun x hx => ?_, ?_⟩
  · simp only [plainRow, List.mem_map] at hx
    obtain ⟨y, hy, rfl⟩ := hx
    have := hr y hy
    constructor <;> (show _ ≤ _; simp; omega)
  · unfold plainRow
    rw [List.pairwise_map]
    refine hs.imp fun h => ?_
    intro _
    exact h
def plainFs (kinds : Nat) (ms : List Int) : List (List Pt) := List.replicate kinds (plainRow ms)
theorem plainFs_len (kinds : Nat) (ms : List Int) : (plainFs kinds ms).length = kinds := by simp [plainFs]
theorem plainFs_succ (kinds : Nat) (ms : List Int) : plainFs (kinds + 1) ms = plainFs kinds ms ++ [plainRow ms] := by simp [plainFs, List.replicate_succ']
theorem plainFs_ok {kinds : Nat} {ms : List Int} (h1 : 1 ≤ kinds) (h2 : kinds ≤ 8) (hs : ms.Pairwise (· < ·)) (hr : ∀ x ∈ ms, 1 ≤ x ∧ x ≤ 9999) (hl : ms.length ≤ 512) : FeedOk (plainFs kinds ms) :=
  ⟨by rw [plainFs_len]; exact h1, by rw [plainFs_len]; exact h2, fun l h => by
    obtain ⟨_, rfl⟩ := List.mem_replicate.1 h
    exact plainRow_ok hs hr hl⟩
theorem plainFs_get (kinds : Nat) (ms : List Int) (k : Nat) (h : k < (plainFs kinds ms).length) : (plainFs kinds ms)[k] = plainRow ms := by simp [plainFs]
theorem plainFs_ln (kinds : Nat) (ms : List Int) (k : Nat) (h : k < kinds) : ln (plainFs kinds ms) k = ms.length := by
  rw [ln_get _ k (by rw [plainFs_len]; exact h), plainFs_get]
  simp [plainRow]
theorem plainFs_at (kinds : Nat) (ms : List Int) (k i : Nat) (h : k < kinds) (hi : i < ms.length) : ptAt (plainFs kinds ms) k i = ⟨ms[i], false⟩ := by
  have h1 : k < (plainFs kinds ms).length := by rw [plainFs_len]; exact h
  have h2 : i < (plainFs kinds ms)[k].length := by rw [plainFs_get]; simpa [plainRow] using hi
  rw [ptAt_get _ k i h1 h2]
  simp [plainFs, plainRow]
theorem second_run {kinds : Nat} {ms : List Int} (h1 : 1 ≤ kinds) (h2 : kinds ≤ 8) (hs : ms.Pairwise (· < ·)) (hr : ∀ x ∈ ms, 1 ≤ x ∧ x ≤ 9999) (hl : ms.length ≤ 512) {c : Nat} {a : Nat → Nat} {g : List Int} {p : List (List Int)} (h : Runs (plainFs kinds ms) [] 0 (fun _ => 0) [] [] c a g p) : g = ms ∧ finX (plainFs kinds ms) g a 0 = [] := by
  have hI : Inc (plainFs kinds ms) := inc_of (plainFs_ok h1 h2 hs hr hl) fun l h x hx => by
    obtain ⟨_, rfl⟩ := List.mem_replicate.1 h
    simp only [plainRow, List.mem_map] at hx
    obtain ⟨y, hy, rfl⟩ := hx
    have := hr y hy
    show 0 < y
    omega
  have hg : g = ms := by
    refine h.alls hI (fun k hk i hi => ?_) hs fun x => ?_
    · rw [plainFs_len] at hk
      rw [plainFs_ln _ _ _ hk] at hi
      unfold sp
      rw [plainFs_at _ _ _ _ hk hi]
    · constructor
      · intro hx k hk
        rw [plainFs_len] at hk
        obtain ⟨i, hi, rfl⟩ := List.mem_iff_getElem.1 hx
        refine ⟨i, Nat.zero_le _, by rw [plainFs_ln _ _ _ hk]; exact hi, ?_⟩
        unfold cp
        rw [plainFs_at _ _ _ _ hk hi]
      · intro hx
        obtain ⟨i, _, hi, e⟩ := hx 0 (by rw [plainFs_len]; omega)
        rw [plainFs_ln _ _ _ (by omega)] at hi
        unfold cp at e
        rw [plainFs_at _ _ _ _ (by omega) hi] at e
        rw [← e]
        exact List.getElem_mem hi
  subst hg
  refine ⟨rfl, (missing_is _ g).unique ⟨List.Pairwise.nil, fun x => ?_⟩⟩
  constructor
  · intro h; cases h
  · rintro ⟨_, hn, l, hl2, y, hy, e⟩
    obtain ⟨_, rfl⟩ := List.mem_replicate.1 hl2
    simp only [plainRow, List.mem_map] at hy
    obtain ⟨z, hz, rfl⟩ := hy
    exact absurd (e ▸ hz) hn
theorem miss_rng {kinds many : Nat} {s : Nat → Nat → Bool} (h1 : 1 ≤ kinds) {g ms : List Int} (hms : IsMissing (numFs kinds many s) g ms) : (∀ x ∈ ms, 1 ≤ x ∧ x ≤ many) ∧ ms.length ≤ many := by
  have hr : ∀ x ∈ ms, 1 ≤ x ∧ x ≤ many := fun x hx => (numFs_known s h1 x).1 ((hms.2 x).1 hx).2.2
  refine ⟨hr, ?_⟩
  have hge : ∀ i (h : i < ms.length), (i : Int) + 1 ≤ ms[i] := fun i => by
    induction i with
    | zero => intro h; have := hr _ (List.getElem_mem h); simpa using this.1
    | succ i ih =>
      intro h
      have h3 := ih (by omega)
      have h4 := List.pairwise_iff_getElem.1 hms.1 i (i + 1) (by omega) h (by omega)
      omega
  by_cases e : ms.length ≤ many
  · exact e
  · exfalso
    have h3 := hge many (by omega)
    have h4 := (hr _ (List.getElem_mem (show many < ms.length by omega))).2
    omega
end Go.Proofs.YtcpjpmijfjdifaaGreatDoor
