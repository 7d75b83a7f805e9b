/-
  The walk of the reference's Restored. Own text.
-/
import Derived.Test.YtnnnihjagjfkdaaGreatDoorRefM
import Derived.Test.YtnnnihjagjfkdaaGreatDoorRefE
namespace Go.Proofs.YtnnnihjagjfkdaaGreatDoor
open Go.RowKit
set_option linter.unusedVariables false
structure AreaW (base : Nat) (S : List UInt8) (ok : Bool) (oj : Option Addr) (nj : Nat) (ep nx sz : Int) (w' : World) : Prop where
  no : ok = false → begunV S = none
  yes : ok = true → ∃ q0 s0 q s, begunV S = some (q0, s0) ∧ runV (s0.rest.length + 1) q0 s0 = (q, s) ∧ ep = q0.epoch ∧ nx = q.next ∧ sz = s.read ∧ nj = (q.jobs.map showJ).length ∧ Flat w' 2 encSj oj (q.jobs.map showJ)
  far : ∀ a, oj = some a → base ≤ a.block
theorem area_w {S : List UInt8} {w w' : World} {e : Ending} (h : RetArea S w e w') : ∃ oj nj cj ep nx sz ok, e = .returned (.tuple #[.agg #[.slice oj nj cj, .int .i64 ep, .int .i64 nx, .int .i64 sz], .bool ok]) ∧ AreaW w.heap.size S ok oj nj ep nx sz w' ∧ Below w.heap.size w w' := by
  obtain ⟨hb, (⟨h1, x, y, z, rfl⟩ | ⟨q0, s0, q, s, vj, h1, h2, rfl, hown⟩)⟩ := h
  · exact ⟨none, 0, 0, x, y, z, false, rfl, ⟨fun _ => h1, fun h => (by cases h), fun a e => (by cases e)⟩, hb⟩
  · obtain ⟨oj, cj, rfl, -, hf⟩ := hown.flat (fun _ => rfl)
    exact ⟨oj, _, cj, _, _, _, true, rfl, ⟨fun h => (by cases h), fun _ => ⟨q0, s0, q, s, h1, h2, rfl, rfl, rfl, rfl, hf⟩, fun a e => (hown.blk (g := a.block) (by rw [e]; rfl)).1⟩, hb⟩
section
variable {base : Nat} {S : List UInt8} {ok : Bool} {oj : Option Addr} {nj : Nat} {ep nx sz : Int} {w w' : World}
theorem AreaW.below (h : AreaW base S ok oj nj ep nx sz w) (hb : Below w.heap.size w w') : AreaW base S ok oj nj ep nx sz w' :=
  ⟨h.no, fun e => by obtain ⟨q0, s0, q, s, h1, h2, h3, h4, h5, h6, h7⟩ := h.yes e; exact ⟨q0, s0, q, s, h1, h2, h3, h4, h5, h6, h7.below hb⟩, h.far⟩
theorem AreaW.size (h : AreaW base S ok oj nj ep nx sz w) (hk : ok = true) : ∃ rd : Nat, sz = rd ∧ rd ≤ S.length := by
  obtain ⟨q0, s0, q, s, h1, h2, h3, h4, h5, h6, h7⟩ := h.yes hk
  have a1 := run_sum (s0.rest.length + 1) q0 s0 (begun_sum h1)
  have a2 := run_up (s0.rest.length + 1) q0 s0 (begun_up h1).1
  rw [h2] at a1 a2
  obtain ⟨u0, u1⟩ := a2
  unfold Sums at a1
  simp only at a1 u0 u1
  refine ⟨s.read.toNat, by omega, by omega⟩
end
def RetRest (a b : ByteArray) (w : World) (e : Ending) (w' : World) : Prop := Below w.heap.size w w' ∧
  ((∃ c, openV a.data.toList b.data.toList = .error c ∧ e = .returned (.tuple #[.slice none 0 0, .int .i64 0, .agg #[.string ⟨#[]⟩, .string ⟨#[]⟩], .int .i64 c])) ∨
   ∃ q oj cj, openV a.data.toList b.data.toList = .ok q ∧ e = .returned (.tuple #[.slice oj (q.jobs.map showJ).length cj, .int .i64 q.next, .agg #[.string q.a0, .string q.a1], .int .i64 0]) ∧ Flat w' 2 encSj oj (q.jobs.map showJ))
def twoF (x y : ByteArray) : Nat → Value
  | 0 => .string x
  | _ => .string y
theorem twoF_new (w : World) (x y : ByteArray) : FTab (fun v : Value => v) (w.alloc (.cells #[.string x, .string y] 23)) w.heap.size 2 (twoF x y) := by
  refine ⟨fun i hi => ?_, fun o => ?_⟩
  · rw [cell_of_row _ w.heap.size i _ _ (0, 0) (heap_alloc_new w _)]
    match i, hi with
    | 0, _ => rfl
    | 1, _ => rfl
  · unfold World.frozen?
    rw [heap_alloc_new]
    simp
def dkW (W : World) (t : Nat) (x y : ByteArray) : World := (W.setCell ⟨t, 0, none⟩ (.string x)).setCell ⟨t, 1, none⟩ (.string y)
structure DkAt (w W : World) (t : Nat) (x y : ByteArray) : Prop where
  be : Below w.heap.size w W
  c0 : W.cell? ⟨t, 0, none⟩ = some (.string x)
  c1 : W.cell? ⟨t, 1, none⟩ = some (.string y)
theorem dk_set {w W : World} {t : Nat} {x y x0 y0 : ByteArray} (h : FTab (fun v : Value => v) W t 2 (twoF x0 y0)) (hb : Below w.heap.size w W) (hl : w.heap.size ≤ t) : DkAt w (dkW W t x y) t x y := by
  have t1 := (h.set (i := 0) (by omega) (.string x)).set (i := 1) (by omega) (.string y)
  exact ⟨(hb.setCell (p := ⟨t, 0, none⟩) hl _).setCell (p := ⟨t, 1, none⟩) hl _, t1.at' 0 (by omega), t1.at' 1 (by omega)⟩
theorem Flat.dkW {α : Type} {w : World} {t k : Nat} {x y : ByteArray} {enc : α → List Value} {oa : Option Addr} {xs : List α} (h : Flat w k enc oa xs) (hn : ∀ a, oa = some a → a.block ≠ t) : Flat (dkW w t x y) k enc oa xs := fun i hi j hj => by
  obtain ⟨u, hu, b1, off, e, hc⟩ := h i hi j hj
  have hne := hn _ e
  refine ⟨u, hu, b1, off, e, ?_⟩
  unfold Go.Proofs.YtnnnihjagjfkdaaGreatDoor.dkW
  rw [cell_far _ hne, cell_far _ hne]
  exact hc
theorem restRes : Tryz.f10.results = #[.tmp 2, .tmp 3, .cell 4 23, .tmp 5] := rfl
set_option maxRecDepth 100000 in
set_option maxHeartbeats 8000000 in
theorem restored_of (hA : ∀ (s : ByteArray) (w : World), s.size ≤ 65536 → Calls Tryz.prog 26 #[.string s] w (RetArea s.data.toList w)) (a b : ByteArray) (w : World) :
    Calls Tryz.prog 10 #[.agg #[.string a, .string b]] w (RetRest a b w) := by
  obtain ⟨W0, hW0⟩ : ∃ W0, W0 = w.alloc (.cells #[.string a, .string b] 23) := ⟨_, rfl⟩
  obtain ⟨W1, hW1⟩ : ∃ W1, W1 = W0.alloc (.cells #[.string ⟨#[]⟩, .string ⟨#[]⟩] 23) := ⟨_, rfl⟩
  have hb0 : Below w.heap.size w W0 := by rw [hW0]; exact balloc (Below.refl _ w) _
  have hz0 : W0.heap.size = w.heap.size + 1 := by rw [hW0]; exact World.size_alloc _ _
  have hb1 : Below W0.heap.size W0 W1 := by rw [hW1]; exact balloc (Below.refl _ W0) _
  have hz1 : W1.heap.size = w.heap.size + 2 := by rw [hW1, World.size_alloc, hz0]
  have ht1 : FTab (fun v : Value => v) W1 w.heap.size 2 (twoF a b) := by
    have h : FTab (fun v : Value => v) W0 w.heap.size 2 (twoF a b) := by rw [hW0]; exact twoF_new w a b
    exact h.below hb1 (by omega)
  have ht4 : FTab (fun v : Value => v) W1 (w.heap.size + 1) 2 (twoF ⟨#[]⟩ ⟨#[]⟩) := by
    rw [← hz0, hW1]; exact twoF_new W0 _ _
  have hbw : Below w.heap.size w W1 := bthen hb0 hb1
  have HB1 := Lib.hid hbw
  have HT1 := Lib.hid ht1
  have HT4 := Lib.hid ht4
  have HZ1 := Lib.hid hz1
  have hal : a.data.toList.length = a.size := by simp
  have hbl : b.data.toList.length = b.size := by simp
  have HALB : Hid (a.data.toList.length = a.size ∧ b.data.toList.length = b.size) := ⟨hal, hbl⟩
  have c0 : W1.cell? ⟨w.heap.size, 0, none⟩ = some (.string a) := ht1.at' 0 (by omega)
  have c1 : W1.cell? ⟨w.heap.size, 1, none⟩ = some (.string b) := ht1.at' 1 (by omega)
  have p0 : W1.cell? ⟨w.heap.size + 1, 0, none⟩ = some (.string ⟨#[]⟩) := ht4.at' 0 (by omega)
  have p1 : W1.cell? ⟨w.heap.size + 1, 1, none⟩ = some (.string ⟨#[]⟩) := ht4.at' 1 (by omega)
  have f4 := ht4.fz
  have HW : Hid ((w.alloc (.cells #[.string a, .string b] 23)).alloc (.cells #[.string ⟨#[]⟩, .string ⟨#[]⟩] 23) = W1) := by show _ = _; rw [hW1, hW0]
  clear hb0 hz0 hb1 ht1 ht4 hbw hal hbl hz1
  clear hW1
  clear hW0 W0
  go_enter Tryz.func10, Tryz.ntmps10
  go_upto_region 1 with fail
  rw [HW.out]
  by_cases hlg : 65536 < a.size ∨ 65536 < b.size
  · have HOV : Hid (openV a.data.toList b.data.toList = .error 2) := openV_large (by rw [HALB.out.1, HALB.out.2]; exact hlg)
    have HDK := Lib.hid (dk_set (x := ⟨#[]⟩) (y := ⟨#[]⟩) HT4.out HB1.out (by omega))
    go_cut [19] from 10 to 18 (fun s19 wx => s19 = .bool true ∧ W1 = wx)
    case first =>
      by_cases h1 : 65536 < a.size
      · have h1i : (65536 : Int) < (a.size : Int) := by omega
        clear hlg h1
        go_wp2_with fail
        go_meet
        exact ⟨rfl, rfl⟩
      · have h1i : ¬ (65536 : Int) < (a.size : Int) := by omega
        have h2i : (65536 : Int) < (b.size : Int) := by omega
        clear hlg h1
        go_wp2_with fail
        go_meet
        exact ⟨rfl, rfl⟩
    case rest =>
      obtain ⟨rfl, rfl⟩ := hcut
      clear hlg
      repeat (first | go_values | go_skip | go_guarded | go_step | go_upon)
      obtain ⟨W9, hW9⟩ : ∃ W9, W9 = dkW W1 (w.heap.size + 1) ⟨#[]⟩ ⟨#[]⟩ := ⟨_, rfl⟩
      rw [← hW9] at HDK
      unfold dkW at hW9
      rw [← hW9]
      obtain ⟨r0, r1, r2⟩ := HDK.out
      clear hW9
      refine bodyPost_ret (v := .tuple #[.slice none 0 0, .int .i64 0, .agg #[.string ⟨#[]⟩, .string ⟨#[]⟩], .int .i64 2]) (by simp only [results, restRes]; go_simp) rfl ?_
      exact ⟨r0, .inl ⟨2, HOV.out, rfl⟩⟩
  · have h1i : ¬ (65536 : Int) < (a.size : Int) := by omega
    have h2i : ¬ (65536 : Int) < (b.size : Int) := by omega
    have HA1 := Lib.hid (hA a W1 (by omega))
    have HA2 : Hid (∀ W, Calls Tryz.prog 26 #[.string b] W (RetArea b.data.toList W)) := fun W => hA b W (by omega)
    have HLG := Lib.hid hlg
    clear hlg hA
    go_wp2_with fail
    refine HA1.out.mono ?_
    intro e w2 hret
    obtain ⟨oa, na, ca, epa, nxa, sza, ka, rfl, ha2, hb2⟩ := area_w hret
    obtain ⟨W3, hW3⟩ : ∃ W3, W3 = w2.alloc (.cells #[.slice oa na ca, .int .i64 epa, .int .i64 nxa, .int .i64 sza] 69) := ⟨_, rfl⟩
    have hb3 : Below w2.heap.size w2 W3 := by rw [hW3]; exact balloc (Below.refl _ w2) _
    have hz3 : W3.heap.size = w2.heap.size + 1 := by rw [hW3]; exact World.size_alloc _ _
    have ht6 : FTab (fun v : Value => v) W3 w2.heap.size 4 (arF (.slice oa na ca) epa nxa sza) := by rw [hW3]; exact arF_new w2 _ _ _ _
    have hs12 := hb2.size
    have hz1 := HZ1.out
    have HB3 := Lib.hid (bthen (bthen HB1.out hb2) hb3)
    have HT13 := Lib.hid ((HT1.out.below hb2 (by omega)).below hb3 (by omega))
    have HT43 := Lib.hid ((HT4.out.below hb2 (by omega)).below hb3 (by omega))
    have HT6 := Lib.hid ht6
    have HAA := Lib.hid (ha2.below hb3)
    have HW3 := Lib.hid hW3
    have HZ3 : Hid (W3.heap.size = w2.heap.size + 1 ∧ w.heap.size + 2 ≤ w2.heap.size) := ⟨hz3, by omega⟩
    have c1 : W3.cell? ⟨w.heap.size, 1, none⟩ = some (.string b) := HT13.out.at' 1 (by omega)
    clear hret ha2 hb2 hb3 hz3 ht6 hs12 hz1 hW3 HA1 c0 p0 p1 f4 HT1 HT4 HB1
    go_upto_region 4 with fail
    rw [← HW3.out]
    have HA2 := Lib.hid (HA2.out W3)
    go_wp2_with fail
    refine HA2.out.mono ?_
    intro e w4 hret
    obtain ⟨ob, nb, cb, epb, nxb, szb, kb, rfl, hb2, hb4⟩ := area_w hret
    obtain ⟨W5, hW5⟩ : ∃ W5, W5 = w4.alloc (.cells #[.slice ob nb cb, .int .i64 epb, .int .i64 nxb, .int .i64 szb] 69) := ⟨_, rfl⟩
    have hb5 : Below w4.heap.size w4 W5 := by rw [hW5]; exact balloc (Below.refl _ w4) _
    have ht8 : FTab (fun v : Value => v) W5 w4.heap.size 4 (arF (.slice ob nb cb) epb nxb szb) := by rw [hW5]; exact arF_new w4 _ _ _ _
    have hs34 := hb4.size
    obtain ⟨hz3, hz4⟩ := HZ3.out
    have HB5 := Lib.hid (bthen (bthen HB3.out hb4) hb5)
    have HT15 := Lib.hid ((HT13.out.below hb4 (by omega)).below hb5 (by omega))
    have HT45 := Lib.hid ((HT43.out.below hb4 (by omega)).below hb5 (by omega))
    have HT65 := Lib.hid ((HT6.out.below hb4 (by omega)).below hb5 (by omega))
    have HT8 := Lib.hid ht8
    have HAA5 := Lib.hid ((HAA.out.below hb4).below hb5)
    have HAB5 := Lib.hid (hb2.below hb5)
    have HW5 := Lib.hid hW5
    clear hret hb2 hb4 hb5 ht8 hs34 hz3 hz4 hW5 HA2 c1 HT13 HT43 HT6 HAA HB3
    go_upto_region 5 with fail
    rw [← HW5.out]
    have c0 : W5.cell? ⟨w.heap.size, 0, none⟩ = some (.string a) := HT15.out.at' 0 (by omega)
    have c1 : W5.cell? ⟨w.heap.size, 1, none⟩ = some (.string b) := HT15.out.at' 1 (by omega)
    have p0 : W5.cell? ⟨w.heap.size + 1, 0, none⟩ = some (.string ⟨#[]⟩) := HT45.out.at' 0 (by omega)
    have p1 : W5.cell? ⟨w.heap.size + 1, 1, none⟩ = some (.string ⟨#[]⟩) := HT45.out.at' 1 (by omega)
    have f4 := HT45.out.fz
    have x0 : W5.cell? ⟨w2.heap.size, 0, none⟩ = some (.slice oa na ca) := HT65.out.at' 0 (by omega)
    have x1 : W5.cell? ⟨w2.heap.size, 1, none⟩ = some (.int .i64 epa) := HT65.out.at' 1 (by omega)
    have x2 : W5.cell? ⟨w2.heap.size, 2, none⟩ = some (.int .i64 nxa) := HT65.out.at' 2 (by omega)
    have x3 : W5.cell? ⟨w2.heap.size, 3, none⟩ = some (.int .i64 sza) := HT65.out.at' 3 (by omega)
    have y0 : W5.cell? ⟨w4.heap.size, 0, none⟩ = some (.slice ob nb cb) := HT8.out.at' 0 (by omega)
    have y1 : W5.cell? ⟨w4.heap.size, 1, none⟩ = some (.int .i64 epb) := HT8.out.at' 1 (by omega)
    have y2 : W5.cell? ⟨w4.heap.size, 2, none⟩ = some (.int .i64 nxb) := HT8.out.at' 2 (by omega)
    have y3 : W5.cell? ⟨w4.heap.size, 3, none⟩ = some (.int .i64 szb) := HT8.out.at' 3 (by omega)
    clear h1i h2i HT15 HT65 HT8
    cases ka with
    | false =>
      have hna := HAA5.out.no rfl
      cases kb with
      | false =>
        have HOV : Hid (openV a.data.toList b.data.toList = .error 21) := open_lost HLG.out hna (HAB5.out.no rfl)
        have HDK := Lib.hid (dk_set (x := ⟨#[]⟩) (y := ⟨#[]⟩) HT45.out HB5.out (by omega))
        clear hna
        repeat (first | go_values | go_skip | go_guarded | go_step | go_upon)
        obtain ⟨W9, hW9⟩ : ∃ W9, W9 = dkW W5 (w.heap.size + 1) ⟨#[]⟩ ⟨#[]⟩ := ⟨_, rfl⟩
        rw [← hW9] at HDK
        unfold dkW at hW9
        rw [← hW9]
        obtain ⟨r0, r1, r2⟩ := HDK.out
        clear hW9
        refine bodyPost_ret (v := .tuple #[.slice none 0 0, .int .i64 0, .agg #[.string ⟨#[]⟩, .string ⟨#[]⟩], .int .i64 21]) (by simp only [results, restRes]; go_simp) rfl ?_
        exact ⟨r0, .inl ⟨21, HOV.out, rfl⟩⟩
      | true =>
        have HNA := Lib.hid hna
        clear hna
        have HSEC : Hid (∃ rd : Nat, szb = rd ∧ rd ≤ b.size ∧ ∃ q, openV a.data.toList b.data.toList = .ok q ∧ q.next = nxb ∧ q.a0 = a ∧ q.a1 = b.extract 0 rd ∧ nb = (q.jobs.map showJ).length ∧ Flat W5 2 encSj ob (q.jobs.map showJ)) := by
          obtain ⟨rd, hr1, hr2⟩ := HAB5.out.size rfl
          obtain ⟨q0, s0, q, s, g1, g2, g3, g4, g5, g6, g7⟩ := HAB5.out.yes rfl
          obtain ⟨Q, k1, k2, k3, k4, k5⟩ := open_second HLG.out g1 g2 (.inl HNA.out)
          exact ⟨rd, hr1, by rw [HALB.out.2] at hr2; exact hr2, Q, k1, by rw [k3, g4], k4, by rw [k5, ← g5, hr1]; rfl, by rw [k2]; exact g6, by rw [k2]; exact g7⟩
        obtain ⟨rd, rfl, hrd, q, k1, k2, k3, k4, k5, k6⟩ := HSEC.out
        have HK := Lib.hid (And.intro k1 (And.intro k2 (And.intro k3 (And.intro k4 (And.intro k5 k6)))))
        have hrdi : (rd : Int) ≤ (b.size : Int) := by omega
        have hrd0 : (0 : Int) ≤ (rd : Int) := by omega
        have HDK := Lib.hid (dk_set (x := a) (y := b.extract 0 rd) HT45.out HB5.out (by omega))
        have HFK : Hid (Flat (dkW W5 (w.heap.size + 1) a (b.extract 0 rd)) 2 encSj ob (q.jobs.map showJ)) := k6.dkW (fun ad e => by have h1 := HAB5.out.far ad e; have h2 := HZ3.out; have h3 := HZ1.out; omega)
        clear k1 k2 k3 k4 k5 k6 HSEC hrd
        go_upto_region 9 with fail
        go_region
        all_goals
          repeat (first | go_values | go_skip | go_guarded | go_step | go_upon)
          obtain ⟨W9, hW9⟩ : ∃ W9, W9 = dkW W5 (w.heap.size + 1) a (b.extract 0 rd) := ⟨_, rfl⟩
          rw [← hW9] at HDK HFK
          unfold dkW at hW9
          rw [← hW9]
          obtain ⟨r0, r1, r2⟩ := HDK.out
          clear hW9
          have r1' : W9.drew.cell? ⟨w.heap.size + 1, 0, none⟩ = some (.string a) := r1
          have r2' : W9.drew.cell? ⟨w.heap.size + 1, 1, none⟩ = some (.string (b.extract 0 rd)) := r2
          refine bodyPost_ret (v := .tuple #[.slice ob nb cb, .int .i64 nxb, .agg #[.string a, .string (b.extract 0 rd)], .int .i64 0]) (by simp only [results, restRes]; go_simp) rfl ?_
          obtain ⟨k1, k2, k3, k4, k5, k6⟩ := HK.out
          exact ⟨r0.drew, .inr ⟨q, ob, cb, k1, by rw [k2, k3, k4, k5], HFK.out.below (Below.refl _ _).drew⟩⟩
    | true =>
      cases kb with
      | false =>
        have HNB := Lib.hid (HAB5.out.no rfl)
        have HFIR : Hid (∃ rd : Nat, sza = rd ∧ rd ≤ a.size ∧ ∃ q, openV a.data.toList b.data.toList = .ok q ∧ q.next = nxa ∧ q.a0 = a.extract 0 rd ∧ q.a1 = b ∧ na = (q.jobs.map showJ).length ∧ Flat W5 2 encSj oa (q.jobs.map showJ)) := by
          obtain ⟨rd, hr1, hr2⟩ := HAA5.out.size rfl
          obtain ⟨q0, s0, q, s, g1, g2, g3, g4, g5, g6, g7⟩ := HAA5.out.yes rfl
          obtain ⟨Q, k1, k2, k3, k4, k5⟩ := open_first HLG.out g1 g2 (.inl HNB.out)
          exact ⟨rd, hr1, by rw [HALB.out.1] at hr2; exact hr2, Q, k1, by rw [k3, g4], by rw [k4, ← g5, hr1]; rfl, k5, by rw [k2]; exact g6, by rw [k2]; exact g7⟩
        obtain ⟨rd, rfl, hrd, q, k1, k2, k3, k4, k5, k6⟩ := HFIR.out
        have HK := Lib.hid (And.intro k1 (And.intro k2 (And.intro k3 (And.intro k4 (And.intro k5 k6)))))
        have hrdi : (rd : Int) ≤ (a.size : Int) := by omega
        have hrd0 : (0 : Int) ≤ (rd : Int) := by omega
        have HDK := Lib.hid (dk_set (x := a.extract 0 rd) (y := b) HT45.out HB5.out (by omega))
        have HFK : Hid (Flat (dkW W5 (w.heap.size + 1) (a.extract 0 rd) b) 2 encSj oa (q.jobs.map showJ)) := k6.dkW (fun ad e => by have h1 := HAA5.out.far ad e; have h2 := HZ3.out; have h3 := HZ1.out; omega)
        clear k1 k2 k3 k4 k5 k6 HFIR hrd
        go_upto_region 8 with fail
        go_region
        all_goals
          repeat (first | go_values | go_skip | go_guarded | go_step | go_upon)
          obtain ⟨W9, hW9⟩ : ∃ W9, W9 = dkW W5 (w.heap.size + 1) (a.extract 0 rd) b := ⟨_, rfl⟩
          rw [← hW9] at HDK HFK
          unfold dkW at hW9
          rw [← hW9]
          obtain ⟨r0, r1, r2⟩ := HDK.out
          clear hW9
          have r1' : W9.drew.cell? ⟨w.heap.size + 1, 0, none⟩ = some (.string (a.extract 0 rd)) := r1
          have r2' : W9.drew.cell? ⟨w.heap.size + 1, 1, none⟩ = some (.string b) := r2
          refine bodyPost_ret (v := .tuple #[.slice oa na ca, .int .i64 nxa, .agg #[.string (a.extract 0 rd), .string b], .int .i64 0]) (by simp only [results, restRes]; go_simp) rfl ?_
          obtain ⟨k1, k2, k3, k4, k5, k6⟩ := HK.out
          exact ⟨r0.drew, .inr ⟨q, oa, ca, k1, by rw [k2, k3, k4, k5], HFK.out.below (Below.refl _ _).drew⟩⟩
      | true =>
        by_cases hge : epb ≤ epa
        · have HGE := Lib.hid hge
          have HFIR : Hid (∃ rd : Nat, sza = rd ∧ rd ≤ a.size ∧ ∃ q, openV a.data.toList b.data.toList = .ok q ∧ q.next = nxa ∧ q.a0 = a.extract 0 rd ∧ q.a1 = b ∧ na = (q.jobs.map showJ).length ∧ Flat W5 2 encSj oa (q.jobs.map showJ)) := by
            obtain ⟨rd, hr1, hr2⟩ := HAA5.out.size rfl
            obtain ⟨q0, s0, q, s, g1, g2, g3, g4, g5, g6, g7⟩ := HAA5.out.yes rfl
            obtain ⟨Q, k1, k2, k3, k4, k5⟩ := open_first HLG.out g1 g2 (by
              obtain ⟨q0b, s0b, qb, sb, e1, e2, e3, e4, e5, e6, e7⟩ := HAB5.out.yes rfl
              exact .inr ⟨_, e1, by show ¬ q0.epoch < q0b.epoch; rw [← e3, ← g3]; have := HGE.out; omega⟩)
            exact ⟨rd, hr1, by rw [HALB.out.1] at hr2; exact hr2, Q, k1, by rw [k3, g4], by rw [k4, ← g5, hr1]; rfl, k5, by rw [k2]; exact g6, by rw [k2]; exact g7⟩
          obtain ⟨rd, rfl, hrd, q, k1, k2, k3, k4, k5, k6⟩ := HFIR.out
          have HK := Lib.hid (And.intro k1 (And.intro k2 (And.intro k3 (And.intro k4 (And.intro k5 k6)))))
          have hrdi : (rd : Int) ≤ (a.size : Int) := by omega
          have hrd0 : (0 : Int) ≤ (rd : Int) := by omega
          have HDK := Lib.hid (dk_set (x := a.extract 0 rd) (y := b) HT45.out HB5.out (by omega))
          have HFK : Hid (Flat (dkW W5 (w.heap.size + 1) (a.extract 0 rd) b) 2 encSj oa (q.jobs.map showJ)) := k6.dkW (fun ad e => by have h1 := HAA5.out.far ad e; have h2 := HZ3.out; have h3 := HZ1.out; omega)
          clear k1 k2 k3 k4 k5 k6 HFIR hrd
          go_upto_region 8 with fail
          go_region
          all_goals
            repeat (first | go_values | go_skip | go_guarded | go_step | go_upon)
            obtain ⟨W9, hW9⟩ : ∃ W9, W9 = dkW W5 (w.heap.size + 1) (a.extract 0 rd) b := ⟨_, rfl⟩
            rw [← hW9] at HDK HFK
            unfold dkW at hW9
            rw [← hW9]
            obtain ⟨r0, r1, r2⟩ := HDK.out
            clear hW9
            have r1' : W9.drew.cell? ⟨w.heap.size + 1, 0, none⟩ = some (.string (a.extract 0 rd)) := r1
            have r2' : W9.drew.cell? ⟨w.heap.size + 1, 1, none⟩ = some (.string b) := r2
            refine bodyPost_ret (v := .tuple #[.slice oa na ca, .int .i64 nxa, .agg #[.string (a.extract 0 rd), .string b], .int .i64 0]) (by simp only [results, restRes]; go_simp) rfl ?_
            obtain ⟨k1, k2, k3, k4, k5, k6⟩ := HK.out
            exact ⟨r0.drew, .inr ⟨q, oa, ca, k1, by rw [k2, k3, k4, k5], HFK.out.below (Below.refl _ _).drew⟩⟩
        · have HGE := Lib.hid hge
          have HSEC : Hid (∃ rd : Nat, szb = rd ∧ rd ≤ b.size ∧ ∃ q, openV a.data.toList b.data.toList = .ok q ∧ q.next = nxb ∧ q.a0 = a ∧ q.a1 = b.extract 0 rd ∧ nb = (q.jobs.map showJ).length ∧ Flat W5 2 encSj ob (q.jobs.map showJ)) := by
            obtain ⟨rd, hr1, hr2⟩ := HAB5.out.size rfl
            obtain ⟨q0, s0, q, s, g1, g2, g3, g4, g5, g6, g7⟩ := HAB5.out.yes rfl
            obtain ⟨Q, k1, k2, k3, k4, k5⟩ := open_second HLG.out g1 g2 (by
              obtain ⟨q0b, s0b, qb, sb, e1, e2, e3, e4, e5, e6, e7⟩ := HAA5.out.yes rfl
              exact .inr ⟨_, e1, by show q0b.epoch < q0.epoch; rw [← e3, ← g3]; have := HGE.out; omega⟩)
            exact ⟨rd, hr1, by rw [HALB.out.2] at hr2; exact hr2, Q, k1, by rw [k3, g4], k4, by rw [k5, ← g5, hr1]; rfl, by rw [k2]; exact g6, by rw [k2]; exact g7⟩
          obtain ⟨rd, rfl, hrd, q, k1, k2, k3, k4, k5, k6⟩ := HSEC.out
          have HK := Lib.hid (And.intro k1 (And.intro k2 (And.intro k3 (And.intro k4 (And.intro k5 k6)))))
          have hrdi : (rd : Int) ≤ (b.size : Int) := by omega
          have hrd0 : (0 : Int) ≤ (rd : Int) := by omega
          have HDK := Lib.hid (dk_set (x := a) (y := b.extract 0 rd) HT45.out HB5.out (by omega))
          have HFK : Hid (Flat (dkW W5 (w.heap.size + 1) a (b.extract 0 rd)) 2 encSj ob (q.jobs.map showJ)) := k6.dkW (fun ad e => by have h1 := HAB5.out.far ad e; have h2 := HZ3.out; have h3 := HZ1.out; omega)
          clear k1 k2 k3 k4 k5 k6 HSEC hrd
          go_upto_region 9 with fail
          go_region
          all_goals
            repeat (first | go_values | go_skip | go_guarded | go_step | go_upon)
            obtain ⟨W9, hW9⟩ : ∃ W9, W9 = dkW W5 (w.heap.size + 1) a (b.extract 0 rd) := ⟨_, rfl⟩
            rw [← hW9] at HDK HFK
            unfold dkW at hW9
            rw [← hW9]
            obtain ⟨r0, r1, r2⟩ := HDK.out
            clear hW9
            have r1' : W9.drew.cell? ⟨w.heap.size + 1, 0, none⟩ = some (.string a) := r1
            have r2' : W9.drew.cell? ⟨w.heap.size + 1, 1, none⟩ = some (.string (b.extract 0 rd)) := r2
            refine bodyPost_ret (v := .tuple #[.slice ob nb cb, .int .i64 nxb, .agg #[.string a, .string (b.extract 0 rd)], .int .i64 0]) (by simp only [results, restRes]; go_simp) rfl ?_
            obtain ⟨k1, k2, k3, k4, k5, k6⟩ := HK.out
            exact ⟨r0.drew, .inr ⟨q, ob, cb, k1, by rw [k2, k3, k4, k5], HFK.out.below (Below.refl _ _).drew⟩⟩
end Go.Proofs.YtnnnihjagjfkdaaGreatDoor
