/-
  The cheapest assignment by prices: one step of a search. No program in sight. Own text.
-/
import Derived.Test.YtjggcnpnjnmamaaHung
namespace Go.Proofs.Ytjggcnpnjnmamaa
set_option linter.unusedVariables false
variable {N m k : Nat} {c : Nat → Nat → Int} {u v : Nat → Int} {row : Nat → Nat} {D : List Nat} {p : Nat} {far : Nat → Int} {fr : Nat → Nat}
theorem Search.rowN (h : Search N m k c u v row D p far fr) {j : Nat} (hj : j ≤ m) (hr : row j ≠ 0) : 1 ≤ row j ∧ row j ≤ N := by
  have := h.kN
  by_cases e : j = 0
  · subst e; rw [h.row0]; omega
  · have := h.range j (by omega) hj; omega
/-- The prices lie between the greatest cost and its opposite. -/
theorem Search.bounds (h : Search N m k c u v row D p far fr) (hN : N ≤ m) (hc : ∀ r j, 0 ≤ c r j ∧ c r j ≤ 1048576) :
    (∀ r, 1 ≤ r → r ≤ N → 0 ≤ u r ∧ u r ≤ 1048576) ∧ (∀ j, 1 ≤ j → j ≤ m → -1048576 ≤ v j ∧ v j ≤ 0) := by
  obtain ⟨f, f1, f2, f3⟩ := h.afree hN
  have hv := h.free f f1 f2 f3
  have hu : ∀ r, 1 ≤ r → r ≤ N → 0 ≤ u r ∧ u r ≤ 1048576 := fun r r1 r2 => by
    have h1 := h.feas.le r f r1 r2 f1 f2
    have h2 := h.feas.upos r r1 r2
    have h3 := hc r f
    omega
  refine ⟨hu, fun j j1 j2 => ?_⟩
  have h1 := h.feas.vneg j j1 j2
  by_cases e : row j = 0
  · have := h.free j j1 j2 e; omega
  · have h2 := h.tight j j1 j2 e
    obtain ⟨r1, r2⟩ := h.rowN j2 e
    have h3 := hu _ r1 r2
    have h4 := hc (row j) j
    omega
/-- Behind the look from p each far one is the least slack. -/
theorem Search.look (h : Search N m k c u v row D p far fr) (hN : N ≤ m) (hc : ∀ r j, 0 ≤ c r j ∧ c r j ≤ 1048576) (hp : row p ≠ 0) :
    ∀ j, 1 ≤ j → j ≤ m → j ∉ p :: D →
      (∀ j', j' ∈ p :: D → farR c u v row D p far (m + 1) j ≤ c (row j') j - u (row j') - v j) ∧
      (frR c u v row D p far fr (m + 1) j ∈ p :: D ∧ farR c u v row D p far (m + 1) j = c (row (frR c u v row D p far fr (m + 1) j)) j - u (row (frR c u v row D p far fr (m + 1) j)) - v j) ∧
      0 ≤ farR c u v row D p far (m + 1) j ∧ farR c u v row D p far (m + 1) j ≤ 2097152 := by
  intro j j1 j2 hj
  obtain ⟨hu, hv⟩ := h.bounds hN hc
  obtain ⟨r1, r2⟩ := h.rowN h.pm hp
  have b1 := hu _ r1 r2
  have b2 := hv j j1 j2
  have b3 := hc (row p) j
  have b4 := h.feas.le (row p) j r1 r2 j1 j2
  have hjD : j ∉ D := fun e => hj (List.mem_cons_of_mem _ e)
  unfold farR frR
  by_cases hlt : c (row p) j - u (row p) - v j < far j
  · have hyes : 1 ≤ j ∧ j < m + 1 ∧ j ∉ p :: D ∧ c (row p) j - u (row p) - v j < far j := ⟨j1, by omega, hj, hlt⟩
    rw [if_pos hyes, if_pos hyes]
    refine ⟨fun j' hj' => ?_, ⟨List.mem_cons_self, rfl⟩, by omega, by omega⟩
    rcases List.mem_cons.1 hj' with rfl | hm
    · exact Int.le_refl _
    · have := h.farle j j1 j2 hjD j' hm
      omega
  · have hno : ¬ (1 ≤ j ∧ j < m + 1 ∧ j ∉ p :: D ∧ c (row p) j - u (row p) - v j < far j) := fun e => hlt e.2.2.2
    rw [if_neg hno, if_neg hno]
    have hne : D ≠ [] := fun e => by
      have := (h.first e).2 j
      omega
    obtain ⟨q1, q2⟩ := h.fareq hne j j1 j2 hjD
    refine ⟨fun j' hj' => ?_, ⟨List.mem_cons_of_mem _ q1, q2⟩, ?_, by omega⟩
    · rcases List.mem_cons.1 hj' with rfl | hm
      · omega
      · exact h.farle j j1 j2 hjD j' hm
    · obtain ⟨s1, s2⟩ := h.din _ q1
      obtain ⟨t1, t2⟩ := h.rowN s1 s2
      have := h.feas.le _ j t1 t2 j1 j2
      omega
/-- The nearest column is there. -/
theorem Search.near (h : Search N m k c u v row D p far fr) (hN : N ≤ m) (hc : ∀ r j, 0 ≤ c r j ∧ c r j ≤ 1048576) (hp : row p ≠ 0) {next : Nat} {delta : Int}
    (hn : Near m (p :: D) (farR c u v row D p far (m + 1)) (m + 1) next delta) : 1 ≤ next ∧ next ≤ m ∧ next ∉ p :: D ∧ delta = farR c u v row D p far (m + 1) next ∧ 0 ≤ delta ∧ delta ≤ 2097152 := by
  obtain ⟨f, f1, f2, f3⟩ := h.afree hN
  have hf : f ∉ p :: D := fun e => by
    rcases List.mem_cons.1 e with rfl | hm
    · exact hp f3
    · exact (h.din f hm).2 f3
  have h1 := hn.le f f1 (by omega) hf
  have h2 := (h.look hN hc hp f f1 f2 hf).2.2.2
  rcases hn.is with ⟨rfl, rfl⟩ | ⟨n1, n2, n3, n4⟩
  · omega
  · have := (h.look hN hc hp next n1 (by omega) n3).2.2.1
    exact ⟨n1, by omega, n3, n4, by omega, by omega⟩
/-- One step: the prices are moved by the nearest slack. -/
theorem Search.step (h : Search N m k c u v row D p far fr) (hN : N ≤ m) (hc : ∀ r j, 0 ≤ c r j ∧ c r j ≤ 1048576) (hp : row p ≠ 0) {next : Nat} {delta : Int}
    (hn : Near m (p :: D) (farR c u v row D p far (m + 1)) (m + 1) next delta) {U V F : Nat → Int}
    (hU1 : ∀ j, j ∈ p :: D → U (row j) = u (row j) + delta) (hU2 : ∀ r, (∀ j, j ∈ p :: D → row j ≠ r) → U r = u r)
    (hV1 : ∀ j, j ∈ p :: D → V j = v j - delta) (hV2 : ∀ j, j ∉ p :: D → V j = v j) (hF : ∀ j, j ≤ m → j ∉ p :: D → F j = farR c u v row D p far (m + 1) j - delta) :
    Search N m k c U V row (p :: D) next F (frR c u v row D p far fr (m + 1)) := by
  obtain ⟨n1, n2, n3, n4, n5, n6⟩ := h.near hN hc hp hn
  have hdin : ∀ j, j ∈ p :: D → j ≤ m ∧ row j ≠ 0 := fun j hj => by
    rcases List.mem_cons.1 hj with rfl | hm
    · exact ⟨h.pm, hp⟩
    · exact h.din j hm
  have hlook := h.look hN hc hp
  have hother : ∀ j, j ≤ m → row j ≠ 0 → j ∉ p :: D → U (row j) = u (row j) := fun j j2 hr hj => hU2 _ (fun j' hj' e => by
    have := h.inj j' j (hdin j' hj').1 j2 (hdin j' hj').2 e
    subst this; exact hj hj')
  have hr : ∀ r, (∃ j, j ∈ p :: D ∧ row j = r) ∨ (∀ j, j ∈ p :: D → row j ≠ r) := fun r => by
    by_cases e : ∃ j, j ∈ p :: D ∧ row j = r
    · exact .inl e
    · exact .inr (fun j hj e2 => e ⟨j, hj, e2⟩)
  refine ⟨⟨fun r j r1 r2 j1 j2 => ?_, fun j j1 j2 => ?_, fun r r1 r2 => ?_⟩, h.kN, fun j j1 j2 hj => ?_, fun j j1 j2 hj => ?_, h.inj, h.range, h.cover, h.row0, fun r r1 r2 => ?_, List.nodup_cons.2 ⟨h.pD, h.nd⟩, hdin, n3, n2, fun e => by simp at e, fun _ => ⟨by omega, ?_, ?_⟩, ?_, fun j hj hj0 => ?_, fun j j1 j2 hj j' hj' => ?_, fun _ j j1 j2 hj => ?_⟩
  · have h1 := h.feas.le r j r1 r2 j1 j2
    by_cases hj : j ∈ p :: D
    · rw [hV1 j hj]
      rcases hr r with ⟨j', hj', rfl⟩ | hno
      · rw [hU1 j' hj']; omega
      · rw [hU2 r hno]; omega
    · rw [hV2 j hj]
      rcases hr r with ⟨j', hj', rfl⟩ | hno
      · rw [hU1 j' hj']
        have h2 := (hlook j j1 j2 hj).1 j' hj'
        have h3 := hn.le j j1 (by omega) hj
        omega
      · rw [hU2 r hno]; exact h1
  · have := h.feas.vneg j j1 j2
    by_cases hj : j ∈ p :: D
    · rw [hV1 j hj]; omega
    · rw [hV2 j hj]; omega
  · have := h.feas.upos r r1 r2
    rcases hr r with ⟨j', hj', rfl⟩ | hno
    · rw [hU1 j' hj']; omega
    · rw [hU2 r hno]; omega
  · have h1 := h.tight j j1 j2 hj
    by_cases hd : j ∈ p :: D
    · rw [hV1 j hd, hU1 j hd]; omega
    · rw [hV2 j hd, hother j j2 hj hd]; exact h1
  · have hd : j ∉ p :: D := fun e => (hdin j e).2 hj
    rw [hV2 j hd]; exact h.free j j1 j2 hj
  · rw [hU2 r (fun j hj e => ?_)]
    · exact h.uz r r1 r2
    · by_cases e0 : j = 0
      · subst e0; rw [h.row0] at e; omega
      · have := h.range j (by omega) (hdin j hj).1; omega
  · by_cases e : D = []
    · rw [(h.first e).1]; exact List.mem_cons_self
    · exact List.mem_cons_of_mem _ (h.later e).2.1
  · rw [hF next n2 n3]; omega
  · have hw : ∀ L : List Nat, (∀ j, j ∈ L → j ∈ D) → Ways fr L → Ways (frR c u v row D p far fr (m + 1)) L := by
      intro L hL hw
      induction hw with
      | nil => exact .nil
      | zero => exact .zero
      | cons j L hj hf _ ih =>
        refine .cons j L hj ?_ (ih (fun q hq => hL q (List.mem_cons_of_mem _ hq)))
        have hjD := hL j List.mem_cons_self
        unfold frR
        rw [if_neg (fun e => e.2.2.1 (List.mem_cons_of_mem _ hjD))]
        exact hf
    by_cases e : D = []
    · subst e
      rw [(h.first rfl).1]
      exact .zero
    · refine .cons p D (h.later e).1 ?_ (hw D (fun _ hq => hq) h.ways)
      unfold frR
      rw [if_neg (fun e => e.2.2.1 List.mem_cons_self)]
      exact (h.fareq e p (by have := (h.later e).1; omega) h.pm h.pD).1
  · have hfr : frR c u v row D p far fr (m + 1) j = fr j := by
      unfold frR
      rw [if_neg (fun e => e.2.2.1 hj)]
    rw [hfr, hV1 j hj]
    rcases List.mem_cons.1 hj with rfl | hm
    · have hne : D ≠ [] := fun e => hj0 (h.first e).1
      obtain ⟨q1, q2⟩ := h.fareq hne j (by omega) h.pm h.pD
      have := (h.later hne).2.2
      rw [hU1 _ (List.mem_cons_of_mem _ q1)]
      omega
    · have hin : fr j ∈ D := by
        have hw := h.ways
        clear hlook hother hU1 hU2 hV1 hV2 hF hn
        have : ∀ L : List Nat, (∀ q, q ∈ L → q ∈ D) → Ways fr L → j ∈ L → fr j ∈ D := by
          intro L hL hw hjL
          induction hw with
          | nil => cases hjL
          | zero => exact absurd (List.mem_singleton.1 hjL) hj0
          | cons q L hq hf _ ih =>
            rcases List.mem_cons.1 hjL with rfl | hjL
            · exact hL _ (List.mem_cons_of_mem _ hf)
            · exact ih (fun a ha => hL a (List.mem_cons_of_mem _ ha)) hjL
        exact this D (fun _ hq => hq) hw hm
      have := h.edge j hm hj0
      rw [hU1 _ (List.mem_cons_of_mem _ hin)]
      omega
  · rw [hF j j2 hj, hV2 j hj, hU1 j' hj']
    have := (hlook j j1 j2 hj).1 j' hj'
    omega
  · obtain ⟨q1, q2⟩ := (hlook j j1 j2 hj).2.1
    refine ⟨q1, ?_⟩
    rw [hF j j2 hj, hV2 j hj, hU1 _ q1]
    omega
end Go.Proofs.Ytjggcnpnjnmamaa
