/-
  A queue beside a plain list: what stays true step by step. Plain. Own text.
-/
import Derived.Test.YtnnnihjagjfkdaaDoorDone
import Derived.Test.YtnnnihjagjfkdaaDoorBulk
import Derived.Test.YtnnnihjagjfkdaaDoorCompV
namespace Go.Proofs.YtnnnihjagjfkdaaDoor
open Go.RowKit
set_option linter.unusedVariables false
/-- A job as the queue keeps it: without a lease there is no end. -/
def normJ (j : Jb) : Jb := if j.lease = 0 then { j with till := 0 } else j
structure Mod where
  jobs : List Jb
  next : Int
  leases : Int
  now : Int
def modF (m : Mod) (vm : Value) : Nat → Value
  | 0 => vm
  | 1 => .int .i64 m.next
  | 2 => .int .i64 m.leases
  | _ => .int .i64 m.now
theorem elemMj : ElemType Tryd.prog 58 (.agg #[.int .i64 0, .string ⟨#[]⟩, .int .i64 0, .int .i64 0]) 4 40 := ElemType.mk (by kernel_rfl) rfl (by decide)
def InM (b : Nat) (vm : Value) (g : Nat) : Prop := g = b ∨ vm.ownBlock = some g
structure MAt (w : World) (B b : Nat) (m : Mod) (vm : Value) : Prop where
  tab : FTab (fun v : Value => v) w b 4 (modF m vm)
  jobs : Own w B 58 4 encJb vm m.jobs
  bb : B ≤ b
  nj : vm.ownBlock ≠ some b
theorem MAt.lt {w : World} {B b : Nat} {m : Mod} {vm : Value} (h : MAt w B b m vm) : b < w.heap.size := h.tab.lt (by omega)
theorem MAt.inm {w : World} {B b : Nat} {m : Mod} {vm : Value} (h : MAt w B b m vm) {g : Nat} (hg : InM b vm g) : B ≤ g ∧ g < w.heap.size := by
  rcases hg with rfl | hg
  · exact ⟨h.bb, h.lt⟩
  · exact h.jobs.blk hg
theorem MAt.below {w w' : World} {B b : Nat} {m : Mod} {vm : Value} (h : MAt w B b m vm) (hb : Below w.heap.size w w') : MAt w' B b m vm :=
  ⟨h.tab.below hb h.lt, h.jobs.below hb, h.bb, h.nj⟩
theorem MAt.drewN {w : World} {B b : Nat} {m : Mod} {vm : Value} (h : MAt w B b m vm) (n : Nat) : MAt (w.drewN n) B b m vm := ⟨h.tab.drewN n, h.jobs.drewN n, h.bb, h.nj⟩
/-- What an operation of the list may turn. -/
structure MTurn (b : Nat) (vm vm' : Value) (w w' : World) : Prop where
  os : w'.os = w.os
  tape : w'.tape = w.tape
  output : w'.output = w.output
  size : w.heap.size ≤ w'.heap.size
  block : ∀ g, g < w.heap.size → ¬ InM b vm g → w'.heap[g]? = w.heap[g]?
  km : ∀ g, vm'.ownBlock = some g → vm.ownBlock = some g ∨ w.heap.size ≤ g
theorem MTurn.refl (b : Nat) (vm : Value) (w : World) : MTurn b vm vm w w := ⟨rfl, rfl, rfl, Nat.le_refl _, fun _ _ _ => rfl, fun _ h => .inl h⟩
theorem MTurn.trans {b : Nat} {vm v1 v2 : Value} {w w1 w2 : World} (h : MTurn b vm v1 w w1) (k : MTurn b v1 v2 w1 w2) : MTurn b vm v2 w w2 := by
  have hs := h.size
  refine ⟨k.os.trans h.os, k.tape.trans h.tape, k.output.trans h.output, Nat.le_trans hs k.size, fun g hg hn => ?_, fun g hg => ?_⟩
  · rw [k.block g (by omega) ?_, h.block g hg hn]
    rintro (e | e)
    · exact hn (.inl e)
    · rcases h.km g e with e | e
      · exact hn (.inr e)
      · omega
  · rcases k.km g hg with e | e
    · exact h.km g e
    · exact .inr (by omega)
theorem MTurn.below {b : Nat} {vm v1 : Value} {w w1 w2 : World} (h : MTurn b vm v1 w w1) (k : Below w1.heap.size w1 w2) : MTurn b vm v1 w w2 := by
  have hs := h.size
  exact ⟨k.os.trans h.os, k.tape.trans h.tape, k.output.trans h.output, Nat.le_trans hs k.size, fun g hg hn => by rw [k.block g (by omega), h.block g hg hn], h.km⟩
theorem MTurn.alloc {b : Nat} {vm v1 : Value} {w w1 : World} (h : MTurn b vm v1 w w1) (o : Obj) : MTurn b vm v1 w (w1.alloc o) := h.below (balloc (Below.refl _ _) o)
theorem MTurn.drewN {b : Nat} {vm v1 : Value} {w w1 : World} (h : MTurn b vm v1 w w1) (n : Nat) : MTurn b vm v1 w (w1.drewN n) := ⟨h.os, h.tape, h.output, h.size, h.block, h.km⟩
theorem MTurn.set {b : Nat} {vm v1 : Value} {w w1 : World} (h : MTurn b vm v1 w w1) (o : Nat) (v : Value) : MTurn b vm v1 w (w1.setCell ⟨b, o, none⟩ v) := by
  refine ⟨h.os, h.tape, h.output, by simpa using h.size, fun g hg hn => ?_, h.km⟩
  rw [Below.heap_setCell _ _ _ _ (fun e => hn (.inl e))]
  exact h.block g hg hn
theorem MTurn.setNew {b : Nat} {vm v1 : Value} {w w1 : World} (h : MTurn b vm v1 w w1) {m : Nat} (hm : w.heap.size ≤ m) (o : Nat) (v : Value) : MTurn b vm v1 w (w1.setCell ⟨m, o, none⟩ v) := by
  refine ⟨h.os, h.tape, h.output, by simpa using h.size, fun g hg hn => ?_, h.km⟩
  rw [Below.heap_setCell _ _ _ _ (fun e => by have e' : g = m := e; omega)]
  exact h.block g hg hn
theorem MTurn.setJ {b g n c : Nat} {vm : Value} {w w1 : World} (h : MTurn b vm (.slice (some ⟨g, 0, none⟩) n c) w w1) (o : Nat) (v : Value) : MTurn b vm (.slice (some ⟨g, 0, none⟩) n c) w (w1.setCell ⟨g, o, none⟩ v) := by
  refine ⟨h.os, h.tape, h.output, by simpa using h.size, fun j hj hn => ?_, h.km⟩
  rw [Below.heap_setCell _ _ _ _ (fun e => ?_)]
  · exact h.block j hj hn
  · have e' : j = g := e
    subst e'
    rcases h.km j rfl with e | e
    · exact hn (.inr e)
    · omega
theorem MTurn.grow {b g cap n : Nat} {vm v1 : Value} {w w1 w' : World} (h : MTurn b vm v1 w w1) (hg : w1.grownBy w' v1.ownBlock) (hat : v1.ownBlock = some g ∨ g = w1.heap.size) : MTurn b vm (.slice (some ⟨g, 0, none⟩) n cap) w w' := by
  have hs := h.size
  refine ⟨hg.os.trans h.os, hg.tape.trans h.tape, hg.output.trans h.output, Nat.le_trans hs hg.size, fun j hj hn => ?_, fun j hj => ?_⟩
  · rw [hg.block j (by omega) ?_, h.block j hj hn]
    intro e
    rcases h.km j e.symm with e | e
    · exact hn (.inr e)
    · omega
  · have : g = j := by simpa [Value.ownBlock] using hj
    subst this
    rcases hat with e | e
    · exact h.km g e
    · exact .inr (by omega)
/-- Another cell of the list's own block is written. -/
theorem MAt.put {w : World} {B b : Nat} {m : Mod} {vm : Value} (h : MAt w B b m vm) {i : Nat} (hi : i < 4) (v : Value) {m' : Mod} (hj : m'.jobs = m.jobs) (hF : ∀ j, j < 4 → (if j = i then v else modF m vm j) = modF m' vm j) : MAt (w.setCell ⟨b, i, none⟩ v) B b m' vm :=
  ⟨(h.tab.set hi v).congr hF, by rw [hj]; exact own_other h.jobs (fun e => h.nj e) v, h.bb, h.nj⟩
theorem MAt.far {w : World} {B b : Nat} {m : Mod} {vm : Value} (h : MAt w B b m vm) {g : Nat} (hm : ¬ InM b vm g) (o : Nat) (v : Value) : MAt (w.setCell ⟨g, o, none⟩ v) B b m vm :=
  ⟨h.tab.other (fun e => hm (.inl e)) v, own_other h.jobs (fun e => hm (.inr e)) v, h.bb, h.nj⟩
theorem MAt.setJob {w : World} {B b g n c : Nat} {m : Mod} (h : MAt w B b m (.slice (some ⟨g, 0, none⟩) n c)) {i : Nat} (hi : i < m.jobs.length) {j : Nat} (hj : j < 4) {v : Value} {y : Jb} (he : encJb y = (encJb m.jobs[i]).set j v) :
    MAt (w.setCell ⟨g, i * 4 + j, none⟩ v) B b { m with jobs := m.jobs.set i y } (.slice (some ⟨g, 0, none⟩) n c) := by
  have hgb : g ≠ b := fun e => h.nj (by rw [e]; rfl)
  exact ⟨(h.tab.other hgb v).congr fun k hk => by
    match k, hk with
    | 0, _ => rfl
    | 1, _ => rfl
    | 2, _ => rfl
    | 3, _ => rfl, h.jobs.setAt (fun _ => rfl) hi hj he, h.bb, h.nj⟩
/-- A new row for the list's jobs is stored. -/
theorem MAt.row {w w' : World} {B b g n cap : Nat} {m : Mod} {vm : Value} {ys : List Jb} (h : MAt w B b m vm) (hb : w'.heap[b]? = w.heap[b]?) (hown : Own w' B 58 4 encJb (.slice (some ⟨g, 0, none⟩) n cap) ys) (hbg : b ≠ g) :
    MAt (w'.setCell ⟨b, 0, none⟩ (.slice (some ⟨g, 0, none⟩) n cap)) B b { m with jobs := ys } (.slice (some ⟨g, 0, none⟩) n cap) := by
  refine ⟨((h.tab.ofBlock hb).set (i := 0) (by omega) _).congr fun i hi => ?_, own_other hown (fun e => hbg (by simpa [Value.ownBlock] using e.symm)) _, h.bb, fun e => hbg (by simpa [Value.ownBlock] using e.symm)⟩
  match i, hi with
  | 0, _ => rfl
  | 1, _ => rfl
  | 2, _ => rfl
  | 3, _ => rfl
/-- The queue and the list, apart from each other. -/
structure Two (w : World) (B b bm : Nat) (q : Que) (m : Mod) (vj vw vm : Value) : Prop where
  q : QAt w B b q vj vw
  m : MAt w B bm m vm
  ap : ∀ g, InM bm vm g → ¬ InQ b vj vw g
theorem Two.below {w w' : World} {B b bm : Nat} {q : Que} {m : Mod} {vj vw vm : Value} (h : Two w B b bm q m vj vw vm) (hb : Below w.heap.size w w') : Two w' B b bm q m vj vw vm := ⟨h.q.below hb, h.m.below hb, h.ap⟩
theorem Two.drewN {w : World} {B b bm : Nat} {q : Que} {m : Mod} {vj vw vm : Value} (h : Two w B b bm q m vj vw vm) (n : Nat) : Two (w.drewN n) B b bm q m vj vw vm := ⟨h.q.drewN n, h.m.drewN n, h.ap⟩
theorem MAt.turn {w w' : World} {B b bm : Nat} {m : Mod} {vj vw vj' vw' vm : Value} (h : MAt w B bm m vm) (ht : Turn b vj vw vj' vw' w w') (hap : ∀ g, InM bm vm g → ¬ InQ b vj vw g) : MAt w' B bm m vm :=
  ⟨h.tab.ofBlock (ht.block bm h.lt (hap bm (.inl rfl))), h.jobs.ofBlocks fun g hg => ht.block g (h.jobs.blk hg).2 (hap g (.inr hg)), h.bb, h.nj⟩
theorem QAt.mturn {w w' : World} {B b bm : Nat} {q : Que} {vj vw vm vm' : Value} (h : QAt w B b q vj vw) (ht : MTurn bm vm vm' w w') (hap : ∀ g, InM bm vm g → ¬ InQ b vj vw g) : QAt w' B b q vj vw :=
  ⟨h.tab.ofBlock (ht.block b h.lt fun e => hap b e (.inl rfl)), h.jobs.ofBlocks fun g hg => ht.block g (h.jobs.blk hg).2 fun e => hap g e (.inr (.inl hg)), h.wr.ofBlocks fun g hg => ht.block g (h.wr.blk hg).2 fun e => hap g e (.inr (.inr hg)), h.bb, h.nj, h.nw, h.jw⟩
/-- The queue turns. -/
theorem Two.turn {w w' : World} {B b bm : Nat} {q q' : Que} {m : Mod} {vj vw vj' vw' vm : Value} (h : Two w B b bm q m vj vw vm) (hq : QAt w' B b q' vj' vw') (ht : Turn b vj vw vj' vw' w w') : Two w' B b bm q' m vj' vw' vm := by
  refine ⟨hq, h.m.turn ht h.ap, fun g hg e => ?_⟩
  have hlt := (h.m.inm hg).2
  rcases e with e | e | e
  · exact h.ap g hg (.inl e)
  · rcases ht.kj g e with e | e
    · exact h.ap g hg (.inr (.inl e))
    · omega
  · rcases ht.kw g e with e | e
    · exact h.ap g hg (.inr (.inr e))
    · omega
/-- The list turns. -/
theorem Two.mturn {w w' : World} {B b bm : Nat} {q : Que} {m m' : Mod} {vj vw vm vm' : Value} (h : Two w B b bm q m vj vw vm) (hm : MAt w' B bm m' vm') (ht : MTurn bm vm vm' w w') : Two w' B b bm q m' vj vw vm' := by
  refine ⟨h.q.mturn ht h.ap, hm, fun g hg e => ?_⟩
  have hlt := (h.q.inq e).2
  rcases hg with hg | hg
  · exact h.ap g (.inl hg) e
  · rcases ht.km g hg with e2 | e2
    · exact h.ap g (.inr e2) e
    · omega
/-- What a list's operation leaves alone. -/
theorem MTurn.base {B b : Nat} {m : Mod} {vm v1 : Value} {w w1 : World} (h : MTurn b vm v1 w w1) (hq : MAt w B b m vm) (hB : B ≤ w.heap.size) : Below B w w1 := by
  refine ⟨h.os, h.tape, h.output, h.size, fun g hg => h.block g (by omega) fun e => ?_⟩
  have := (hq.inm e).1
  omega
end Go.Proofs.YtnnnihjagjfkdaaDoor
namespace Go.Proofs.YtnnnihjagjfkdaaDoor
open Go.RowKit
set_option linter.unusedVariables false
theorem normJ_id (j : Jb) : (normJ j).id = j.id := by unfold normJ; split <;> rfl
theorem normJ_text (j : Jb) : (normJ j).text = j.text := by unfold normJ; split <;> rfl
theorem normJ_lease (j : Jb) : (normJ j).lease = j.lease := by unfold normJ; split <;> rfl
theorem normJ_till (j : Jb) (h : j.lease ≠ 0) : normJ j = j := by unfold normJ; rw [if_neg h]
theorem normJ_zero (j : Jb) (h : j.lease = 0) : normJ j = leaseJ j 0 0 := by
  unfold normJ leaseJ
  rw [if_pos h]
  obtain ⟨a, b, c, d⟩ := j
  simp only at h
  subst h
  rfl
theorem leaseJ_norm (j : Jb) (n u : Int) (h : n ≠ 0) : leaseJ (normJ j) n u = normJ (leaseJ j n u) := by
  rw [normJ_till (leaseJ j n u) h]
  unfold leaseJ normJ
  split <;> rfl
theorem backJ_norm (j : Jb) : leaseJ (normJ j) 0 0 = normJ { j with lease := 0 } := by
  rw [normJ_zero { j with lease := 0 } rfl]
  unfold leaseJ normJ
  split <;> rfl
theorem showJ_norm (j : Jb) : showJ (normJ j) = showJ j := by unfold showJ; rw [normJ_id, normJ_text]
theorem hasId_norm (id : Int) (j : Jb) : hasId id (normJ j) = hasId id j := by unfold hasId; rw [normJ_id]
/-- The list's own Tick. -/
def expM (u : Int) (j : Jb) : Bool := decide (0 < j.lease) && decide (j.till ≤ u)
def mtickJ (u : Int) (j : Jb) : Jb := if expM u j then { j with lease := 0 } else j
theorem expJ_norm (u : Int) (j : Jb) (h : 0 ≤ j.lease) : expJ u (normJ j) = expM u j := by
  unfold expJ expM
  by_cases hz : j.lease = 0
  · rw [normJ_lease, hz]; simp
  · have h1 : ¬ (normJ j).lease = 0 := by rw [normJ_lease]; exact hz
    have h2 : (0 : Int) < j.lease := by omega
    rw [normJ_till j hz]
    simp [hz, h2]
theorem tickJ_norm (u : Int) (j : Jb) (h : 0 ≤ j.lease) : tickJ u (normJ j) = normJ (mtickJ u j) := by
  unfold tickJ mtickJ
  rw [expJ_norm u j h]
  split
  · exact backJ_norm j
  · rfl
structure Inv (t : Nat) (e : Nat) (q : Que) (m : Mod) : Prop where
  jobs : q.jobs = m.jobs.map normJ
  next : q.next = m.next
  leases : q.leases = m.leases
  now : q.now = m.now
  jl : m.jobs.length ≤ t
  nx : 1 ≤ m.next ∧ m.next ≤ (t : Int) + 1
  ids : ∀ j ∈ m.jobs, (1 ≤ j.id ∧ j.id < m.next) ∧ j.text.size ≤ 256 ∧ 0 ≤ j.lease
  uniq : m.jobs.Pairwise fun a b => a.id < b.id
  ls : 0 ≤ m.leases ∧ m.leases ≤ 64 * (t : Int) + e
  nw : 0 ≤ m.now ∧ m.now ≤ 20 * (t : Int)
  area : q.area = 0 ∨ q.area = 1
  ep : 1 ≤ q.epoch ∧ q.epoch ≤ (t : Int) + 1
  sz : 0 ≤ q.size ∧ q.size ≤ 100 + 420 * (t : Int)
  sq : 0 ≤ q.seq ∧ q.seq ≤ (t : Int) + 1
  wl : q.writes.length ≤ 64 * (t + 1)
  wa : q.writes.all okArea = true
  bs : q.a0.size + q.a1.size + sizeW q.writes ≤ 40000 * (t + 1)
theorem Inv.jlq {t e : Nat} {q : Que} {m : Mod} (h : Inv t e q m) : q.jobs.length = m.jobs.length := by rw [h.jobs, List.length_map]
theorem Inv.qok {t e : Nat} {q : Que} {m : Mod} (h : Inv t e q m) (ht : t ≤ 60) (he : e ≤ 64) : QOk q := by
  have h1 := h.jlq
  have h2 := h.jl
  have h3 := h.nx
  have h4 := h.ls
  have h5 := h.nw
  have h6 := h.ep
  have h7 := h.sz
  have h8 := h.sq
  have h9 := h.wl
  refine ⟨h.area, by omega, by rw [h.next]; omega, by rw [h.leases]; omega, by rw [h.now]; omega, by omega, by omega, by omega, by omega⟩
theorem Inv.next' {t e : Nat} {q : Que} {m : Mod} (h : Inv t e q m) (he : e ≤ 64) : Inv (t + 1) 0 q m := by
  have h2 := h.jl
  have h3 := h.nx
  have h4 := h.ls
  have h5 := h.nw
  have h6 := h.ep
  have h7 := h.sz
  have h8 := h.sq
  have h9 := h.wl
  have h10 := h.bs
  exact ⟨h.jobs, h.next, h.leases, h.now, by omega, by omega, h.ids, h.uniq, by omega, by omega, h.area, by omega, by omega, by omega, by omega, h.wa, by omega⟩
theorem sizeW_snoc (l : List Wr) (x : Wr) : sizeW (l ++ [x]) = sizeW l + x.data.size := by simp [sizeW]
theorem Inv.jobsOk {t e : Nat} {q : Que} {m : Mod} (h : Inv t e q m) (ht : t ≤ 60) : JobsOk q.jobs := by
  intro j hj
  rw [h.jobs, List.mem_map] at hj
  obtain ⟨x, hx, rfl⟩ := hj
  have h1 := h.ids x hx
  have h3 := h.nx
  rw [normJ_id, normJ_text]
  omega
/-- A record is appended. -/
theorem Inv.recd {t e : Nat} {q : Que} {m : Mod} (h : Inv t e q m) (ws : List (List UInt8)) (hl : (bodyV ws).length ≤ 400) : Inv (t + 1) e (recQ q ws) m := by
  have h2 := h.jl
  have h3 := h.nx
  have h4 := h.ls
  have h5 := h.nw
  have h6 := h.ep
  have h7 := h.sz
  have h8 := h.sq
  have h9 := h.wl
  have h10 := h.bs
  have hv := lineV_len q.epoch q.seq ws
  refine ⟨h.jobs, h.next, h.leases, h.now, by omega, by omega, h.ids, h.uniq, by omega, by omega, h.area, ?_, ?_, ?_, ?_, ?_, ?_⟩
  · show 1 ≤ q.epoch ∧ q.epoch ≤ _; omega
  · show 0 ≤ q.size + ((lineV q.epoch q.seq ws).length : Int) ∧ q.size + ((lineV q.epoch q.seq ws).length : Int) ≤ _; omega
  · show 0 ≤ q.seq + 1 ∧ q.seq + 1 ≤ _; omega
  · show (q.writes ++ [_]).length ≤ _; rw [List.length_append, List.length_singleton]; omega
  · show (q.writes ++ [_]).all okArea = true
    rw [List.all_append, h.wa]
    simp [okArea, h.area]
  · show q.a0.size + q.a1.size + sizeW (q.writes ++ [_]) ≤ _
    rw [sizeW_snoc, strB_size]
    omega
def putM (m : Mod) (s : ByteArray) : Mod := { m with jobs := m.jobs ++ [⟨m.next, s, 0, 0⟩], next := m.next + 1 }
theorem Inv.put {t : Nat} {q : Que} {m : Mod} (h : Inv t 0 q m) (ht : t ≤ 60) (s : ByteArray) (hs : s.size ≤ 256) : Inv (t + 1) 0 (putQ q s) (putM m s) := by
  have h3 := h.nx
  have hr := h.recd (putL q.next s) (putL_len q.next s (by rw [h.next]; omega) (by rw [h.next]; omega) hs)
  have h2 := h.jl
  refine ⟨?_, ?_, hr.leases, hr.now, ?_, ?_, ?_, ?_, hr.ls, hr.nw, hr.area, hr.ep, hr.sz, hr.sq, hr.wl, hr.wa, hr.bs⟩
  · show q.jobs ++ [_] = (m.jobs ++ [_]).map normJ
    rw [List.map_append, h.jobs, h.next]
    rfl
  · show q.next + 1 = m.next + 1; rw [h.next]
  · show (m.jobs ++ [_]).length ≤ _; rw [List.length_append, List.length_singleton]; omega
  · show 1 ≤ m.next + 1 ∧ m.next + 1 ≤ _; omega
  · intro j hj
    rcases List.mem_append.1 (show j ∈ m.jobs ++ [_] from hj) with hj | hj
    · have := h.ids j hj
      show (1 ≤ j.id ∧ j.id < m.next + 1) ∧ _
      omega
    · obtain rfl := List.mem_singleton.1 hj
      exact ⟨⟨by show 1 ≤ m.next; omega, by show m.next < m.next + 1; omega⟩, hs, Int.le_refl _⟩
  · show (m.jobs ++ [_]).Pairwise _
    rw [List.pairwise_append]
    refine ⟨h.uniq, List.pairwise_singleton _ _, fun a ha b hb => ?_⟩
    obtain rfl := List.mem_singleton.1 hb
    exact (h.ids a ha).1.2
/-- Only the leases of the jobs are others. -/
theorem Inv.leased {t e e' : Nat} {q q' : Que} {m m' : Mod} (h : Inv t e q m) (hj : q'.jobs = m'.jobs.map normJ) (hi : m'.jobs.map (fun j => (j.id, j.text)) = m.jobs.map fun j => (j.id, j.text)) (hlz : ∀ j ∈ m'.jobs, 0 ≤ j.lease)
    (hn : m'.next = m.next) (hl : q'.leases = m'.leases) (hl2 : 0 ≤ m'.leases ∧ m'.leases ≤ 64 * (t : Int) + e') (hw : q'.now = m'.now) (hw2 : 0 ≤ m'.now ∧ m'.now ≤ 20 * (t : Int))
    (hq : q'.next = q.next ∧ q'.area = q.area ∧ q'.epoch = q.epoch ∧ q'.size = q.size ∧ q'.seq = q.seq ∧ q'.writes = q.writes ∧ q'.a0 = q.a0 ∧ q'.a1 = q.a1) : Inv t e' q' m' := by
  obtain ⟨k1, k2, k3, k4, k5, k6, k7, k8⟩ := hq
  have hlen : m'.jobs.length = m.jobs.length := by simpa using congrArg List.length hi
  have hget (i : Nat) (h1 : i < m'.jobs.length) : m'.jobs[i].id = (m.jobs[i]'(by omega)).id ∧ m'.jobs[i].text = (m.jobs[i]'(by omega)).text := by
    have e1 : (m'.jobs.map fun j => (j.id, j.text))[i]'(by simpa using h1) = (m.jobs.map fun j => (j.id, j.text))[i]'(by simp; omega) := by simp only [hi]
    simpa using e1
  refine ⟨hj, by rw [k1, hn, h.next], hl, hw, by rw [hlen]; exact h.jl, by rw [hn]; exact h.nx, fun j hjm => ?_, ?_, hl2, hw2, by rw [k2]; exact h.area, by rw [k3]; exact h.ep, by rw [k4]; exact h.sz, by rw [k5]; exact h.sq, by rw [k6]; exact h.wl, by rw [k6]; exact h.wa, by rw [k6, k7, k8]; exact h.bs⟩
  · have hz := hlz j hjm
    obtain ⟨i, h1, rfl⟩ := List.mem_iff_getElem.1 hjm
    have h2 := h.ids (m.jobs[i]'(by omega)) (List.getElem_mem _)
    rw [hn, (hget i h1).1, (hget i h1).2]
    exact ⟨h2.1, h2.2.1, hz⟩
  · rw [List.pairwise_iff_getElem]
    intro i j h1 h2 hij
    rw [(hget i h1).1, (hget j h2).1]
    exact List.pairwise_iff_getElem.1 h.uniq i j (by omega) (by omega) hij
theorem map_set_same {α β : Type} (f : α → β) (xs : List α) (i : Nat) (hi : i < xs.length) (y : α) (h : f y = f xs[i]) : (xs.set i y).map f = xs.map f := by
  rw [List.map_set, h]
  apply List.ext_getElem (by simp)
  intro j h1 h2
  by_cases e : i = j
  · subst e; simp
  · rw [List.getElem_set_ne e]
/-- A lease is given at place i. -/
def takeM (m : Mod) (i : Nat) (u : Int) : Mod := { m with leases := m.leases + 1, jobs := m.jobs.modify i fun j => leaseJ j (m.leases + 1) u }
def backM (m : Mod) (i : Nat) : Mod := { m with jobs := m.jobs.modify i fun j => { j with lease := 0 } }
theorem modify_eq_set {α : Type} (f : α → α) (xs : List α) (i : Nat) (hi : i < xs.length) : xs.modify i f = xs.set i (f xs[i]) := by
  apply List.ext_getElem (by simp)
  intro j h1 h2
  rw [List.getElem_modify, List.getElem_set]
  split
  · rename_i e; subst e; rfl
  · rfl
theorem Inv.take {t e : Nat} {q : Que} {m : Mod} (h : Inv t e q m) (ht : t ≤ 60) (i : Nat) (hi : i < q.jobs.length) (u : Int) : Inv t (e + 1) (takeQ q i (leaseJ q.jobs[i] (q.leases + 1) u)) (takeM m i u) := by
  have hi2 : i < m.jobs.length := by rw [← h.jlq]; exact hi
  have h4 := h.ls
  have hge : q.jobs[i] = normJ m.jobs[i] := by simp only [h.jobs, List.getElem_map]
  have hm : (takeM m i u).jobs = m.jobs.set i (leaseJ m.jobs[i] (m.leases + 1) u) := modify_eq_set _ _ _ hi2
  refine h.leased ?_ ?_ ?_ rfl ?_ ?_ h.now h.nw ⟨rfl, rfl, rfl, rfl, rfl, rfl, rfl, rfl⟩
  · show q.jobs.set i _ = _
    rw [hm, List.map_set, ← h.jobs, hge, h.leases, leaseJ_norm _ _ _ (by omega)]
  · rw [hm]
    exact map_set_same _ _ _ hi2 _ rfl
  · intro j hj
    rw [hm] at hj
    rcases List.mem_or_eq_of_mem_set hj with hj | rfl
    · exact (h.ids j hj).2.2
    · show 0 ≤ m.leases + 1; omega
  · show q.leases + 1 = m.leases + 1; rw [h.leases]
  · show 0 ≤ m.leases + 1 ∧ m.leases + 1 ≤ _; omega
theorem Inv.back {t e : Nat} {q : Que} {m : Mod} (h : Inv t e q m) (i : Nat) (hi : i < q.jobs.length) : Inv t e { q with jobs := q.jobs.set i (leaseJ q.jobs[i] 0 0) } (backM m i) := by
  have hi2 : i < m.jobs.length := by rw [← h.jlq]; exact hi
  have hge : q.jobs[i] = normJ m.jobs[i] := by simp only [h.jobs, List.getElem_map]
  have hm : (backM m i).jobs = m.jobs.set i { m.jobs[i] with lease := 0 } := modify_eq_set _ _ _ hi2
  refine h.leased ?_ ?_ ?_ rfl h.leases h.ls h.now h.nw ⟨rfl, rfl, rfl, rfl, rfl, rfl, rfl, rfl⟩
  · show q.jobs.set i _ = _
    rw [hm, List.map_set, ← h.jobs, hge, backJ_norm]
  · rw [hm]
    exact map_set_same _ _ _ hi2 _ rfl
  · intro j hj
    rw [hm] at hj
    rcases List.mem_or_eq_of_mem_set hj with hj | rfl
    · exact (h.ids j hj).2.2
    · exact Int.le_refl _
def tickM (m : Mod) (u : Int) : Mod := { m with now := u, jobs := m.jobs.map (mtickJ u) }
theorem Inv.tick {t : Nat} {q : Que} {m : Mod} (h : Inv t 0 q m) (u : Int) (h1 : m.now ≤ u) (h2 : u ≤ m.now + 20) : Inv (t + 1) 0 (tickQ q u) (tickM m u) := by
  have h5 := h.nw
  refine (h.next' (by omega)).leased ?_ ?_ ?_ rfl h.leases (h.next' (by omega)).ls rfl ⟨by show 0 ≤ u; omega, by show u ≤ _; omega⟩ ⟨rfl, rfl, rfl, rfl, rfl, rfl, rfl, rfl⟩
  · show q.jobs.map (tickJ u) = (m.jobs.map (mtickJ u)).map normJ
    rw [h.jobs, List.map_map, List.map_map]
    exact List.map_congr_left fun j hj => tickJ_norm u j (h.ids j hj).2.2
  · show (m.jobs.map (mtickJ u)).map _ = _
    rw [List.map_map]
    refine List.map_congr_left fun j hj => ?_
    show ((mtickJ u j).id, (mtickJ u j).text) = _
    unfold mtickJ
    split <;> rfl
  · intro j hj
    obtain ⟨x, hx, rfl⟩ := List.mem_map.1 (show j ∈ m.jobs.map (mtickJ u) from hj)
    have hz := (h.ids x hx).2.2
    unfold mtickJ
    split
    · exact Int.le_refl _
    · exact hz
theorem tickIds_norm (xs : List Jb) (u : Int) (h : ∀ j ∈ xs, 0 ≤ j.lease) : tickIds (xs.map normJ) u = (xs.filter (expM u)).map Jb.id := by
  unfold tickIds
  induction xs with
  | nil => rfl
  | cons x xs ih =>
    have h1 := expJ_norm u x (h x (by simp))
    have h2 := ih (fun j hj => h j (by simp [hj]))
    rw [List.map_cons, List.filter_cons, List.filter_cons, h1]
    split
    · rw [List.map_cons, List.map_cons, normJ_id, h2]
    · exact h2
def eraseM (m : Mod) (i : Nat) : Mod := { m with jobs := m.jobs.eraseIdx i }
theorem map_eraseIdx' {α β : Type} (f : α → β) : ∀ (xs : List α) (i : Nat), (xs.eraseIdx i).map f = (xs.map f).eraseIdx i
  | [], _ => rfl
  | x :: xs, 0 => rfl
  | x :: xs, i + 1 => by simp only [List.eraseIdx_cons_succ, List.map_cons, map_eraseIdx' f xs i]
theorem Inv.done {t e : Nat} {q : Que} {m : Mod} (h : Inv t e q m) (ht : t ≤ 60) (i : Nat) (id : Int) (h0 : 0 ≤ id) (h1 : id ≤ 1099511627776) : Inv (t + 1) e (doneQ q id i) (eraseM m i) := by
  have hr := h.recd (doneL id) (doneL_len id h0 (by omega))
  refine ⟨?_, hr.next, hr.leases, hr.now, ?_, hr.nx, ?_, ?_, hr.ls, hr.nw, hr.area, hr.ep, hr.sz, hr.sq, hr.wl, hr.wa, hr.bs⟩
  · show q.jobs.eraseIdx i = (m.jobs.eraseIdx i).map normJ
    rw [map_eraseIdx', h.jobs]
  · show (m.jobs.eraseIdx i).length ≤ _
    have h1 := List.length_eraseIdx_le m.jobs i
    have h2 := h.jl
    omega
  · intro j hj
    exact h.ids j (List.mem_of_mem_eraseIdx hj)
  · exact h.uniq.sublist (List.eraseIdx_sublist _ _)
theorem Inv.sync {t : Nat} {q : Que} {m : Mod} (h : Inv t 0 q m) : Inv (t + 1) 0 (syncQ q) m := by
  have hr := h.next' (by omega)
  refine ⟨hr.jobs, hr.next, hr.leases, hr.now, hr.jl, hr.nx, hr.ids, hr.uniq, hr.ls, hr.nw, hr.area, hr.ep, hr.sz, hr.sq, by simp [syncQ], rfl, ?_⟩
  have h1 := synV_len (q.a0.data.toList, q.a1.data.toList) q.writes
  have h2 := hr.bs
  have e0 : q.a0.data.toList.length = q.a0.size := by simp
  have e1 : q.a1.data.toList.length = q.a1.size := by simp
  show (strB (syncP q).1).size + (strB (syncP q).2).size + 0 ≤ _
  rw [strB_size, strB_size]
  unfold syncP
  simp only at h1
  omega
theorem sizeW_comp (ar : Int) (ls : List (List UInt8)) : sizeW (compWs ar ls) = sumL ls := by
  unfold sizeW compWs sumL
  rw [List.map_map]
  congr 1
theorem okArea_comp (ar : Int) (h : ar = 0 ∨ ar = 1) (ls : List (List UInt8)) : (compWs ar ls).all okArea = true := by
  rw [List.all_eq_true]
  intro x hx
  obtain ⟨s, _, rfl⟩ := List.mem_map.1 hx
  simp [okArea, h]
theorem Inv.comp {t : Nat} {q : Que} {m : Mod} (h : Inv t 0 q m) (ht : t ≤ 60) : Inv (t + 1) 0 (compQ q) m := by
  have hr := h.next' (by omega)
  have hs := h.sync
  have h1 := compLs_le q q.jobs.length (h.jobsOk ht) (Nat.le_refl _) (by rw [h.jlq]; have := h.jl; omega) (by have := h.ep; omega) (by have := h.ep; omega) (by rw [h.next]; have := h.nx; omega) (by rw [h.next]; have := h.nx; omega)
  have h2 := compLs_len q q.jobs.length (Nat.le_refl _)
  have h3 := h.jl
  have h4 := h.jlq
  have h5 := h.ep
  have h6 := h.bs
  have h8 := h.area
  have h7 := synV_len (q.a0.data.toList, q.a1.data.toList) q.writes
  have e0 : q.a0.data.toList.length = q.a0.size := by simp
  have e1 : q.a1.data.toList.length = q.a1.size := by simp
  have e7 : (syncP q).1.length + (syncP q).2.length = q.a0.size + q.a1.size + sizeW q.writes := by unfold syncP; simp only at h7; omega
  refine ⟨hr.jobs, hr.next, hr.leases, hr.now, hr.jl, hr.nx, hr.ids, hr.uniq, hr.ls, hr.nw, ?_, ?_, ?_, ?_, ?_, ?_, ?_⟩
  · show 1 - q.area = 0 ∨ 1 - q.area = 1; omega
  · show 1 ≤ q.epoch + 1 ∧ q.epoch + 1 ≤ _; omega
  · show 0 ≤ (sumL (compLs q q.jobs.length) : Int) ∧ (sumL (compLs q q.jobs.length) : Int) ≤ _; omega
  · show 0 ≤ (q.jobs.length : Int) + 1 ∧ (q.jobs.length : Int) + 1 ≤ _; omega
  · show (compWs _ _).length ≤ _
    unfold compWs
    rw [List.length_map, h2]
    omega
  · exact okArea_comp _ (by omega) _
  · show (if q.area = 0 then strB (syncP q).1 else ⟨#[]⟩).size + (if q.area = 0 then ⟨#[]⟩ else strB (syncP q).2).size + sizeW (compWs _ _) ≤ _
    rw [sizeW_comp]
    have z : (⟨#[]⟩ : ByteArray).size = 0 := rfl
    split
    · rw [z, strB_size]; omega
    · rw [z, strB_size]; omega
def newM : Mod := ⟨[], 1, 0, 0⟩
theorem Inv.new : Inv 0 0 newQ newM := by
  refine ⟨rfl, rfl, rfl, rfl, Nat.le_refl _, by decide, (fun j hj => by cases hj), List.Pairwise.nil, by decide, by decide, .inl rfl, by decide, by decide, by decide, by decide, rfl, ?_⟩
  show (strB (lineV 1 0 beginL)).size + (⟨#[]⟩ : ByteArray).size + sizeW [] ≤ _
  rw [strB_size, beginL_len]
  decide
theorem FoundAt.norm {xs : List Jb} {id r : Int} (h : FoundAt (xs.map normJ) id r) : FoundAt xs id r := by
  rcases h with ⟨k, rfl, hk, h1, h2⟩ | ⟨rfl, h1⟩
  · have hk' : k < xs.length := by simpa using hk
    refine .inl ⟨k, rfl, hk', ?_, fun j hj => ?_⟩
    · rw [← hasId_norm]; simpa using h1
    · have := h2 j hj
      rw [← hasId_norm]; simpa using this
  · exact .inr ⟨rfl, fun j hj => by
      have := h1 j (by simpa using hj)
      rw [← hasId_norm]; simpa using this⟩
/-- The place of a number is one. -/
theorem place_uniq {xs : List Jb} (h : xs.Pairwise fun a b => a.id < b.id) {i j : Nat} (hi : i < xs.length) (hj : j < xs.length) (e : xs[i].id = xs[j].id) : i = j := by
  rw [List.pairwise_iff_getElem] at h
  rcases Nat.lt_trichotomy i j with hlt | heq | hgt
  · have := h i j hi hj hlt; omega
  · exact heq
  · have := h j i hj hi hgt; omega
theorem FoundAt.at {xs : List Jb} (h : xs.Pairwise fun a b => a.id < b.id) {i : Nat} (hi : i < xs.length) {r : Int} (hf : FoundAt xs xs[i].id r) : r = i := by
  rcases hf with ⟨k, rfl, hk, h1, h2⟩ | ⟨rfl, h1⟩
  · have e : xs[k].id = xs[i].id := by simpa [hasId] using h1
    rw [place_uniq h hk hi e]
  · have := h1 i hi
    simp [hasId] at this
end Go.Proofs.YtnnnihjagjfkdaaDoor
