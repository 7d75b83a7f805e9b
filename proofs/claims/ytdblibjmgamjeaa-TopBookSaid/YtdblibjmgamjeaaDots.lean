/-
  mDots' rasters, plain. The walk of mDots. Own text.
-/
import Derived.Test.YtdblibjmgamjeaaPasteV
namespace Go.Proofs.Ytdblibjmgamjeaa
set_option linter.unusedVariables false
/-- The dots of a seed. -/
def dotsI (W H : Nat) (seed : Int) : Img := ⟨W, H, fun x y => (seed * 41 + (y * W + x) * 7 + (y * W + x) * (y * W + x)) % 256⟩
theorem dots_list (W H : Nat) (seed : Int) : listI (dotsI W H seed) = (List.range (W * H)).map fun (k : Nat) => (seed * 41 + (k : Int) * 7 + (k : Int) * (k : Int)) % 256 := by
  show pixN W _ (W * H) = _
  unfold pixN
  refine List.map_congr_left fun k hk => ?_
  have e : ((k / W : Nat) : Int) * (W : Int) + ((k % W : Nat) : Int) = (k : Int) := by
    rw [← Int.natCast_mul, ← Int.natCast_add, Nat.mul_comm, Nat.div_add_mod]
  show (seed * 41 + (((k / W : Nat) : Int) * (W : Int) + ((k % W : Nat) : Int)) * 7 + (((k / W : Nat) : Int) * (W : Int) + ((k % W : Nat) : Int)) * (((k / W : Nat) : Int) * (W : Int) + ((k % W : Nat) : Int))) % 256 = _
  rw [e]
end Go.Proofs.Ytdblibjmgamjeaa
namespace Go.Proofs.Ytdblibjmgamjeaa
open Go.RowKit
set_option linter.unusedVariables false
theorem dotsRes : Try.f9.results = #[.cell 6 37] := rfl
def dotV (seed : Int) (k : Nat) : Int := (seed * 41 + (k : Int) * 7 + (k : Int) * (k : Int)) % 256
set_option maxRecDepth 100000 in
set_option maxHeartbeats 8000000 in
theorem dots_any (a b : Nat) (h : 1 ≤ a ∧ a ≤ 256 ∧ 1 ≤ b ∧ b ≤ 256) (seed : Int) (hs : 0 ≤ seed ∧ seed ≤ 1000) (w : World) :
    Calls Try.prog 9 #[.int .i64 a, .int .i64 b, .int .i64 seed] w (RetGrid (dotsI a b seed) w) := by
  have hN2 : a * b ≤ 65536 := by
    have h1 : a * b ≤ 256 * 256 := Nat.mul_le_mul h.2.1 h.2.2.2
    omega
  obtain ⟨N, hN⟩ : ∃ N, N = a * b := ⟨_, rfl⟩
  rw [← hN] at hN2
  have HLI : Hid (listI (dotsI a b seed) = (List.range N).map (dotV seed)) := by show listI _ = _; rw [hN]; exact dots_list a b seed
  obtain ⟨W1, hW1⟩ : ∃ W1, W1 = (w.alloc (.cells #[.int .i64 0, .int .i64 0, .slice none 0 0] 37)).alloc (.cells #[.int .i64 a, .int .i64 b, .slice none 0 0] 37) := ⟨_, rfl⟩
  have HGU : Hid (GrU w (w.heap.size + 1) w.heap.size W1 (.int .i64 a) (.int .i64 b) (.slice none 0 0) ((List.range 0).map (dotV seed))) := by
    have t6 := outF_new w (.int .i64 0) (.int .i64 0) (.slice none 0 0) 37
    have t7 := outF_new (w.alloc (.cells #[.int .i64 0, .int .i64 0, .slice none 0 0] 37)) (.int .i64 a) (.int .i64 b) (.slice none 0 0) 37
    rw [World.size_alloc] at t7
    have hz : W1.heap.size = w.heap.size + 1 + 1 := by rw [hW1]; simp
    rw [← hW1] at t7
    exact ⟨by rw [hW1]; exact balloc (balloc (Below.refl _ w) _) _, t7, by rw [hW1]; exact t6.alloc (by simp) _, Own.nil _ _ _ _ _, ⟨fun e => by simp [Value.ownBlock] at e, fun e => by simp [Value.ownBlock] at e⟩, by omega, by omega, by omega, Nat.le_refl _, by omega⟩
  have HW1 : Hid ((w.alloc (.cells #[.int .i64 0, .int .i64 0, .slice none 0 0] 37)).alloc (.cells #[.int .i64 a, .int .i64 b, .slice none 0 0] 37) = W1) := hW1.symm
  have x1 : IntKind.i64.wrap ((a : Int) * (b : Int)) = (N : Int) := by rw [← Int.natCast_mul, ← hN]; exact IntWalk.i64_in _ (by omega)
  clear hW1 hN h
  go_enter Try.func9, Try.ntmps9
  go_upto_region 2 with fail
  rw [HW1.out]
  clear HW1
  obtain ⟨g, hg⟩ : ∃ g, g = w.heap.size + 1 := ⟨_, rfl⟩
  rw [← hg] at HGU ⊢
  clear hg
  go_wp2_with fail
  go_loopw [15] (fun i wr => ∃ k : Nat, k ≤ N ∧ i = .int .i64 k ∧ Hid (∃ v, GrU w g w.heap.size wr (.int .i64 a) (.int .i64 b) v ((List.range k).map (dotV seed)))) (fun i _ => N - (intOf i).toNat)
  case atStart => exact ⟨0, by omega, rfl, _, HGU.out⟩
  case round =>
    clear HGU
    obtain ⟨k, hk, rfl, HY⟩ := hrel
    obtain ⟨wa, rfl⟩ : ∃ wa : World, wa = wr := ⟨_, rfl⟩
    by_cases hlt : k < N
    · have kd : (k : Int) < (N : Int) := by omega
      obtain ⟨v, hv⟩ := HY.out
      have HU := Lib.hid hv
      obtain ⟨ov, kv, hvs, -⟩ := hv.op.isSlc
      have hxl : ((List.range k).map (dotV seed)).length = k := by simp
      rw [hxl] at hvs
      subst hvs
      have g2 : wa.cell? ⟨g, 2, none⟩ = some (.slice ov k kv) := hv.tab.at' 2 (by omega)
      have hkk : (0 : Int) ≤ (k : Int) * (k : Int) ∧ (k : Int) * (k : Int) ≤ 4294967296 := by
        constructor
        · exact Int.mul_nonneg (by omega) (by omega)
        · have h1 : (k : Int) * (k : Int) ≤ 65536 * 65536 := Int.mul_le_mul (by omega) (by omega) (by omega) (by omega)
          omega
      obtain ⟨D, hD⟩ : ∃ D, D = dotV seed k := ⟨_, rfl⟩
      have HSN : Hid ((List.range (k + 1)).map (dotV seed) = (List.range k).map (dotV seed) ++ [D]) := by
        show _ = _
        rw [hD, List.range_succ, List.map_append]; rfl
      obtain ⟨K2, hK2⟩ : ∃ q, q = (k : Int) * (k : Int) := ⟨_, rfl⟩
      have hu : IntKind.u8.wrap (seed * 41 + (k : Int) * 7 + K2) = D := by rw [hD, hK2]; rfl
      rw [← hK2] at hkk
      have x2 : IntKind.i64.wrap ((k : Int) * (k : Int)) = K2 := by rw [← hK2]; exact IntWalk.i64_in _ (by omega)
      obtain ⟨xs, hxs⟩ : ∃ xs, xs = (List.range k).map (dotV seed) := ⟨_, rfl⟩
      rw [← hxs] at HU HSN hxl
      have HXL := Lib.hid hxl
      have HAF := Lib.hid (HU.out.below (balloc (Below.refl _ wa) (.cells #[.int .u8 D] 5)))
      have HNEW : Hid (∀ (j : Nat) (u : Value), (encPx D)[j]? = some u → (wa.alloc (.cells #[.int .u8 D] 5)).cell? ((⟨wa.heap.size, 0, none⟩ : Addr).add j) = some u) := World.news_of_block (cs := #[.int .u8 D]) (t := 5) (fr := (0, 0)) (heap_alloc_new wa _)
      clear hv hD hK2 hxs HY hxl
      go_wp2_with (at_builtin; refine wpList_app1L rfl (.tmp 19) (.tmp 30) 35 rfl elemPx Try.underlying35 w.heap.size (.slice ov k kv) xs encPx rfl HAF.out.op D ⟨wa.heap.size, 0, none⟩ 1 rfl rfl HNEW.out ?c1 ?c2 ?c3 ?c4 ?_)
      case c1 => simp [encPx, Value.oneCell']
      case c2 => have := HXL.out; omega
      case c3 => have := HXL.out; unfold maxLen; omega
      case c4 => have := HAF.out.bel.size; omega
      rw [HXL.out]
      intro g5 cap5 w6 hown6 hgr6 hat6
      have hat : (Value.slice (some ⟨g5, 0, none⟩) (k + 1) cap5).ownBlock = (Value.slice ov k kv).ownBlock ∨ (Value.slice (some ⟨g5, 0, none⟩) (k + 1) cap5).ownBlock = some (wa.alloc (.cells #[.int .u8 D] 5)).heap.size := by
        rcases hat6 with e | e
        · exact .inl e.symm
        · exact .inr (by rw [e]; simp [Value.ownBlock])
      have hmid := HAF.out.mid hgr6
      have m2 : w6.cell? ⟨g, 2, none⟩ = some (.slice ov k kv) := hmid.at' 2 (by omega)
      have mf := hmid.fz 2
      have HNX : Hid (GrU w g w.heap.size (w6.setCell ⟨g, 2, none⟩ (.slice (some ⟨g5, 0, none⟩) (k + 1) cap5)) (.int .i64 a) (.int .i64 b) (.slice (some ⟨g5, 0, none⟩) (k + 1) cap5) ((List.range (k + 1)).map (dotV seed))) := by
        show GrU _ _ _ _ _ _ _ _
        rw [HSN.out]
        exact HAF.out.add hown6 hgr6 hat
      clear hown6 hgr6 hat6 hat hmid HNEW HAF HU g2 x2 hu
      go_wp2_with fail
      go_roundw
      case rel => exact ⟨k + 1, by omega, by go_num, _, HNX.out⟩
      case measure => simp [intOf]; omega
    · obtain rfl : N = k := by omega
      obtain ⟨v, hx⟩ := HY.out
      rw [← HLI.out] at hx
      obtain ⟨oq, capq, hv, -⟩ := hx.op.isSlc
      subst hv
      have hrs := res_set (x := .int .i64 a) (y := .int .i64 b) (z := .slice oq (listI (dotsI a b seed)).length capq) hx.res
      have HF : Hid (RetGrid (dotsI a b seed) w (.returned (.agg #[.int .i64 a, .int .i64 b, .slice oq (listI (dotsI a b seed)).length capq])) (resW wa w.heap.size (.int .i64 a) (.int .i64 b) (.slice oq (listI (dotsI a b seed)).length capq))) := by
        refine ⟨oq, capq, rfl, ?_, hrs.bel hx.bel (Nat.le_refl _)⟩
        exact hx.op.heap fun k e => hrs.hp k fun e2 => hx.ne.2 (by rw [e, e2])
      have z0 : wa.cell? ⟨g, 0, none⟩ = some (.int .i64 a) := hx.tab.at' 0 (by omega)
      have z1 : wa.cell? ⟨g, 1, none⟩ = some (.int .i64 b) := hx.tab.at' 1 (by omega)
      have z2 : wa.cell? ⟨g, 2, none⟩ = some (.slice oq (listI (dotsI a b seed)).length capq) := hx.tab.at' 2 (by omega)
      have r0 : wa.cell? ⟨w.heap.size, 0, none⟩ = some (.int .i64 0) := hx.res.at' 0 (by omega)
      have r1 : wa.cell? ⟨w.heap.size, 1, none⟩ = some (.int .i64 0) := hx.res.at' 1 (by omega)
      have r2 : wa.cell? ⟨w.heap.size, 2, none⟩ = some (.slice none 0 0) := hx.res.at' 2 (by omega)
      have rf := hx.res.fz
      have HRS := Lib.hid hrs
      clear hx hrs HLI HY x1
      generalize (listI (dotsI a b seed)).length = L at *
      repeat (first | go_values | go_skip | go_guarded | go_step | go_upon)
      obtain ⟨W9, hW9⟩ : ∃ W9, W9 = resW wa w.heap.size (.int .i64 a) (.int .i64 b) (.slice oq L capq) := ⟨_, rfl⟩
      rw [← hW9] at HF HRS
      unfold resW at hW9
      rw [← hW9]
      have e0 := HRS.out.c0
      have e1 := HRS.out.c1
      have e2 := HRS.out.c2
      clear hW9
      refine bodyPost_ret (v := .agg #[.int .i64 a, .int .i64 b, .slice oq L capq]) (by simp only [results, dotsRes]; go_simp) rfl ?_
      exact HF.out
end Go.Proofs.Ytdblibjmgamjeaa
