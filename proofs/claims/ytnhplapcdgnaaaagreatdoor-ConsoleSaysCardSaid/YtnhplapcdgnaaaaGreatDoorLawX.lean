import Derived.Test.YtnhplapcdgnaaaaGreatDoorRPoolX
import Derived.LaidEql
import Derived.Lib.Hide
set_option linter.unusedVariables false
set_option linter.unusedSimpArgs false
namespace Go.Proofs.YtnhplapcdgnaaaaGreatDoor
open Go.RowKit
namespace U

theorem ret_bool {a b : Bool} (h : a = b) : Ending.returned (.bool a) = .returned (.bool b) := by rw [h]
theorem errv_zero : errv 0 = .nilIface := rfl
theorem errv_pos {a : Nat} (h : a ≠ 0) : errv a = .iface 37 (.int .i64 a) := by unfold errv; rw [if_neg h]

set_option maxRecDepth 100000 in
set_option maxHeartbeats 400000 in
theorem same_law (w : World) (a b : Nat) :
    Calls Tryz.prog 6 #[errv a, .int .i64 b] w fun e w' => e = .returned (.bool (a == b)) ∧ w = w' := by
  by_cases h0 : a = 0
  · subst h0
    rw [errv_zero]
    go_enter Tryz.func6, Tryz.ntmps6
    go_wp2
    go_ret
    exact ⟨ret_bool (by rw [Bool.eq_iff_iff]; simp; omega), rfl⟩
  · rw [errv_pos h0]
    have ta : ∀ w, (Instr.typeAssert (.iface 37 (.int .i64 a)) 25 37 true).run Tryz.prog w = .ok (.tuple #[.int .i64 a, .bool true]) w := fun w => by kernel_rfl
    go_enter Tryz.func6, Tryz.ntmps6
    go_wp2
    all_goals go_ret
    all_goals exact ⟨ret_bool (by rw [Bool.eq_iff_iff]; simp; try omega), rfl⟩

theorem natAbs_same (w : World) {a b : Nat} (x y : Value) (hx : x = errv a) (hy : y = .int .i64 b) :
    Calls Tryz.prog 6 #[x, y] w fun e w' => e = .returned (.bool (a == b)) ∧ w = w' := by subst hx; subst hy; exact same_law w a b

end U
end Go.Proofs.YtnhplapcdgnaaaaGreatDoor

set_option linter.unusedVariables false
set_option linter.unusedSimpArgs false
namespace Go.Proofs.YtnhplapcdgnaaaaGreatDoor
open Go.RowKit
namespace U

theorem takes3 : (PoolM.fresh 3).take = (((PoolM.fresh 3).setRef 0 1).setRow 0 fun _ => 0, 0, 0) := by
  unfold PoolM.take
  rw [PoolM.free_some (P := PoolM.fresh 3) (k := 0) (by decide) rfl (fun j hj => by omega)]
theorem takes3_left : ((((PoolM.fresh 3).setRef 0 1).setRow 0 fun _ => 0)).left = 2 := by decide

/-- One act, as the law's input has it. -/
structure ActM where
  kind : ByteArray
  n : Int
  a : Int
  b : Int
  v : UInt8
  on : Bool

structure ActAt (w : World) (b o : Nat) (x : ActM) : Prop where
  c0 : w.cell? ⟨b, o, none⟩ = some (.string x.kind)
  c1 : w.cell? ⟨b, o + 1, none⟩ = some (.int .i64 x.n)
  c2 : w.cell? ⟨b, o + 2, none⟩ = some (.int .i64 x.a)
  c3 : w.cell? ⟨b, o + 3, none⟩ = some (.int .i64 x.b)
  c4 : w.cell? ⟨b, o + 4, none⟩ = some (.int .u8 x.v.toNat)
  c5 : w.cell? ⟨b, o + 5, none⟩ = some (.bool x.on)

/-- A slice of acts that came in. -/
def ActsAt (w : World) (A : Option Addr) (l : List ActM) : Prop :=
  l = [] ∨ ∃ b o, A = some ⟨b, o, none⟩ ∧ b < w.heap.size ∧ ∀ i x, l[i]? = some x → ActAt w b (o + i * 6) x
theorem ActAt.upd_ {S : Nat → Prop} {w w' : World} {b o : Nat} {x : ActM} (h : ActAt w b o x) (hu : Upd S w w') (hb : ¬ S b) : ActAt w' b o x :=
  ⟨hu.cell h.c0 hb, hu.cell h.c1 hb, hu.cell h.c2 hb, hu.cell h.c3 hb, hu.cell h.c4 hb, hu.cell h.c5 hb⟩

/-- Where a pool and its model lie beside what was there at first. -/
structure PoolInv (w0 w : World) (L : PoolAt) (m : Nat) (P Q : PoolM) : Prop where
  rp : PoolRep w L P
  rm : RPoolRep w m Q
  up : Upd Non w0 w
  lp : w0.heap.size ≤ L.p
  lb : w0.heap.size ≤ L.bb
  lr : w0.heap.size ≤ L.rb
  lm : w0.heap.size ≤ m
/-- .. beside a box that holds an act. -/
structure Two (w0 w : World) (L : PoolAt) (m : Nat) (P Q : PoolM) (B : Nat) (x : ActM) : Prop extends PoolInv w0 w L m P Q where
  ax : ActAt w B 0 x
  b1 : L.bb < B
  b2 : L.rb < B
  b3 : m < B

section
variable {w0 w w' : World} {L : PoolAt} {m B : Nat} {P Q P' : PoolM} {x : ActM}
theorem PoolRep.lts (r : PoolRep w L P) : L.p < w.heap.size ∧ L.bb < w.heap.size ∧ L.rb < w.heap.size := by
  obtain ⟨_, _, hB, _⟩ := r.bytes
  obtain ⟨_, _, hR, _⟩ := r.counts
  exact ⟨r.st.lt, hB.lt, hR.lt⟩
theorem pool_ne (r : PoolRep w L P) (s : RPoolRep w m Q) : m ≠ L.p ∧ m ≠ L.bb ∧ m ≠ L.rb := by
  obtain ⟨_, _, hB, _⟩ := r.bytes
  obtain ⟨_, _, hR, _⟩ := r.counts
  obtain ⟨_, hM, _⟩ := s.row
  exact ⟨hM.ne_ r.st (by decide), hM.ne_ hB (by decide), hM.ne_ hR (by decide)⟩
theorem PoolInv.alloc (t : PoolInv w0 w L m P Q) (o : Obj) : PoolInv w0 (w.alloc o) L m P Q := ⟨t.rp.alloc o, t.rm.alloc o, t.up.alloc o, t.lp, t.lb, t.lr, t.lm⟩
theorem PoolInv.drewN (t : PoolInv w0 w L m P Q) (n : Nat) : PoolInv w0 (w.drewN n) L m P Q := ⟨t.rp.drewN n, t.rm.drewN n, t.up.drewN n, t.lp, t.lb, t.lr, t.lm⟩
theorem PoolInv.stepP (t : PoolInv w0 w L m P Q) (r : PoolRep w' L P') (u : Upd L.own w w') : PoolInv w0 w' L m P' Q := by
  have ne := pool_ne t.rp t.rm
  refine ⟨r, t.rm.upd_ u ?_, t.up.over u ?_, t.lp, t.lb, t.lr, t.lm⟩
  · rintro (h | h)
    · exact ne.2.1 h
    · exact ne.2.2 h
  · rintro i (rfl | rfl)
    · exact t.lb
    · exact t.lr
theorem PoolInv.stepM (t : PoolInv w0 w L m P Q) (r : RPoolRep w' m P') (u : Upd (at1 m) w w') : PoolInv w0 w' L m P P' := by
  have ne := pool_ne t.rp t.rm
  refine ⟨t.rp.upd_ u (fun h => ne.1 h.symm) (fun h => ne.2.1 h.symm) (fun h => ne.2.2 h.symm), r, t.up.over u ?_, t.lp, t.lb, t.lr, t.lm⟩
  rintro i rfl
  exact t.lm
theorem ActAt.drewN {o : Nat} (h : ActAt w B o x) (n : Nat) : ActAt (w.drewN n) B o x := ⟨h.c0, h.c1, h.c2, h.c3, h.c4, h.c5⟩
theorem Two.drewN (t : Two w0 w L m P Q B x) (n : Nat) : Two w0 (w.drewN n) L m P Q B x := ⟨t.toPoolInv.drewN n, t.ax.drewN n, t.b1, t.b2, t.b3⟩
theorem Two.drew (t : Two w0 w L m P Q B x) : Two w0 w.drew L m P Q B x := t.drewN 1
theorem Two.stepP (t : Two w0 w L m P Q B x) (r : PoolRep w' L P') (u : Upd L.own w w') : Two w0 w' L m P' Q B x :=
  ⟨t.toPoolInv.stepP r u, t.ax.upd_ u (by have := t.b1; have := t.b2; rintro (h | h) <;> omega), t.b1, t.b2, t.b3⟩
theorem Two.stepM (t : Two w0 w L m P Q B x) (r : RPoolRep w' m P') (u : Upd (at1 m) w w') : Two w0 w' L m P P' B x :=
  ⟨t.toPoolInv.stepM r u, t.ax.upd_ u (by have := t.b3; intro h; unfold at1 at h; omega), t.b1, t.b2, t.b3⟩
end

/-- Counts are small: as many as acts were done. -/
def Small (k : Nat) (P : PoolM) : Prop := ∀ i, 0 ≤ P.refs i ∧ P.refs i ≤ k
theorem Small.mono {k k' : Nat} {P : PoolM} (h : Small k P) (hk : k ≤ k') : Small k' P := fun i => ⟨(h i).1, by have := (h i).2; omega⟩
theorem Small.take {k : Nat} {P : PoolM} (h : Small k P) : Small (k + 1) P.take.1 := by
  unfold PoolM.take
  cases P.free with
  | none => exact h.mono (by omega)
  | some f => intro i; show 0 ≤ (if i = f then 1 else P.refs i) ∧ (if i = f then 1 else P.refs i) ≤ _; have := h i; split <;> omega
theorem Small.share {k : Nat} {P : PoolM} (h : Small k P) (hk : k ≤ 1000000) (f by_ : Int) (hb : by_ = 1 ∨ by_ = -1) : Small (k + 1) (P.share f by_).1 := by
  unfold PoolM.share
  by_cases hu : P.used f = true
  · rw [if_pos hu]
    intro i
    show 0 ≤ (if i = f.toNat then wrap64 (P.refs f.toNat + by_) else P.refs i) ∧ (if i = f.toNat then wrap64 (P.refs f.toNat + by_) else P.refs i) ≤ _
    have h1 := h i
    have h2 := h f.toNat
    have h3 : 0 < P.refs f.toNat := by simp [PoolM.used] at hu; omega
    have hw : wrap64 (P.refs f.toNat + by_) = P.refs f.toNat + by_ := IntWalk.wrap64_in _ ⟨by omega, by omega⟩
    rw [hw]
    split <;> rcases hb with rfl | rfl <;> omega
  · rw [if_neg hu]; exact h.mono (by omega)
theorem set_refs (P : PoolM) (f a : Int) (v : UInt8) : (P.set f a v).1.refs = P.refs := by
  unfold PoolM.set; repeat' split
  all_goals rfl
theorem fill_refs (P : PoolM) (f g : Int) : (P.fill f g).1.refs = P.refs := by
  unfold PoolM.fill; repeat' split
  all_goals rfl
theorem Small.of_refs {k : Nat} {P P' : PoolM} (h : Small k P) (e : P'.refs = P.refs) : Small (k + 1) P' := fun i => by rw [e]; exact h.mono (by omega) i

theorem Two.non {w0 w w' : World} {L : PoolAt} {m B : Nat} {P Q : PoolM} {x : ActM} (t : Two w0 w L m P Q B x) (u : Upd Non w w') : Two w0 w' L m P Q B x :=
  ⟨⟨t.rp.upd_ u (fun h => h) (fun h => h) (fun h => h), t.rm.upd_ u (fun h => h), t.up.trans u, t.lp, t.lb, t.lr, t.lm⟩, t.ax.upd_ u (fun h => h), t.b1, t.b2, t.b3⟩
/-- A pool that goes on beside its copy. -/
structure Three (w0 w : World) (L L' : PoolAt) (m : Nat) (P P' : PoolM) : Prop where
  rp : PoolRep w L P'
  inv : PoolInv w0 w L' m P P
  lb : w0.heap.size ≤ L.bb
  lr : w0.heap.size ≤ L.rb
  s1 : ¬ L.own L'.p
  s2 : ¬ L.own L'.bb
  s3 : ¬ L.own L'.rb
theorem Three.drewN {w0 w : World} {L L' : PoolAt} {m : Nat} {P P' : PoolM} (t : Three w0 w L L' m P P') (n : Nat) : Three w0 (w.drewN n) L L' m P P' := ⟨t.rp.drewN n, t.inv.drewN n, t.lb, t.lr, t.s1, t.s2, t.s3⟩
theorem Three.drew {w0 w : World} {L L' : PoolAt} {m : Nat} {P P' : PoolM} (t : Three w0 w L L' m P P') : Three w0 w.drew L L' m P P' := t.drewN 1
theorem Three.step {w0 w w' : World} {L L' : PoolAt} {m : Nat} {P P' P'' : PoolM} (t : Three w0 w L L' m P P') (r : PoolRep w' L P'') (u : Upd L.own w w') : Three w0 w' L L' m P P'' := by
  have ne := pool_ne t.rp t.inv.rm
  refine ⟨r, ⟨t.inv.rp.upd_ u t.s1 t.s2 t.s3, t.inv.rm.upd_ u ?_, t.inv.up.over u ?_, t.inv.lp, t.inv.lb, t.inv.lr, t.inv.lm⟩, t.lb, t.lr, t.s1, t.s2, t.s3⟩
  · rintro (h | h)
    · exact ne.2.1 h
    · exact ne.2.2 h
  · rintro i (rfl | rfl)
    · exact t.lb
    · exact t.lr
theorem Two.copy {w0 w w' : World} {L L' : PoolAt} {m B : Nat} {P : PoolM} {x : ActM} (t : Two w0 w L m P P B x) (r : PoolRep w' L' P) (u : Upd Non w w') (h1 : w.heap.size ≤ L'.p) (h2 : w.heap.size ≤ L'.bb) (h3 : w.heap.size ≤ L'.rb) :
    Three w0 w' L L' m P P := by
  have l := t.rp.lts
  have hs := t.up.size
  refine ⟨t.rp.upd_ u (fun h => h) (fun h => h) (fun h => h), ⟨r, t.rm.upd_ u (fun h => h), t.up.trans u, by omega, by omega, by omega, t.lm⟩, t.lb, t.lr, ?_, ?_, ?_⟩ <;> (unfold PoolAt.own; omega)
theorem take_n (P : PoolM) : P.take.1.n = P.n := by unfold PoolM.take; split <;> rfl
theorem share_n (P : PoolM) (f b : Int) : (P.share f b).1.n = P.n := by unfold PoolM.share; split <;> rfl
theorem set_n (P : PoolM) (f a : Int) (v : UInt8) : (P.set f a v).1.n = P.n := by
  unfold PoolM.set; repeat' split
  all_goals rfl
theorem fill_n (P : PoolM) (f g : Int) : (P.fill f g).1.n = P.n := by
  unfold PoolM.fill; repeat' split
  all_goals rfl
def PI (w : World) (k m q : Nat) (L : PoolAt) (P : PoolM) (wr : World) : Prop := PoolInv w wr L m P P ∧ Small q P ∧ P.n = k

end U
end Go.Proofs.YtnhplapcdgnaaaaGreatDoor
