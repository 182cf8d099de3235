import Derived.Test.YtnhplapcdgnaaaaTopMapD
import Derived.Deep.RegionHeld3
import Derived.Deep.CutBlock
set_option linter.unusedVariables false
set_option linter.unusedSimpArgs false
namespace Go.Proofs.Ytnhplapcdgnaaaa
open Go.RowKit
namespace U

/-- A pool, two maps on it, the array of their pointers, the bytes. -/
structure TM (w W : World) (L : PoolAt) (g0 g1 mb bb : Nat) (P : PoolM) (A B : MapM) (f : Nat → Nat → UInt8) : Prop where
  rp : PoolRep W L P
  a : MRep W g0 146 65 L.p A
  b : MRep W g1 146 65 L.p B
  mr : Row W mb 87 2 (fun i => if i = 0 then .pointer (some ⟨g0, 0, none⟩) else .pointer (some ⟨g1, 0, none⟩))
  bt : BTab W bb 99 512 0 32 f
  ne : g0 ≠ g1
  up : Upd Non w W
  lb : w.heap.size ≤ L.bb
  lr : w.heap.size ≤ L.rb
  l0 : w.heap.size ≤ g0
  l1 : w.heap.size ≤ g1
  lbb : w.heap.size ≤ bb
structure TMX (w W : World) (L : PoolAt) (g0 g1 mb bb : Nat) (P : PoolM) (A B : MapM) (f : Nat → Nat → UInt8) (bx : Nat) (x : ActM) : Prop extends TM w W L g0 g1 mb bb P A B f where
  ax : Row W bx 31 6 (fun i => [Value.string x.kind, .int .i64 x.n, .int .i64 x.a, .int .i64 x.b, .int .u8 x.v.toNat, .bool x.on].getD i undef)
section
variable {w W W' : World} {L : PoolAt} {g0 g1 mb bb bx : Nat} {P P' : PoolM} {A B A' B' : MapM} {f : Nat → Nat → UInt8} {x : ActM}
theorem TM.offs (t : TM w W L g0 g1 mb bb P A B f) {k T N : Nat} {c : Nat → Value} (r : Row W k T N c) (h1 : T ≠ 59) (h2 : T ≠ 3) (h3 : T ≠ 146) : ¬ ownM L g0 k ∧ ¬ ownM L g1 k := by
  obtain ⟨_, _, hB, _⟩ := t.rp.bytes
  obtain ⟨_, _, hR, _⟩ := t.rp.counts
  obtain ⟨_, ha, _⟩ := t.a.row
  obtain ⟨_, hb, _⟩ := t.b.row
  constructor
  · rintro ((h | h) | h)
    · exact r.ne_ hB h1 h
    · exact r.ne_ hR h2 h
    · exact r.ne_ ha h3 h
  · rintro ((h | h) | h)
    · exact r.ne_ hB h1 h
    · exact r.ne_ hR h2 h
    · exact r.ne_ hb h3 h
theorem TM.non (t : TM w W L g0 g1 mb bb P A B f) (u : Upd Non W W') : TM w W' L g0 g1 mb bb P A B f :=
  ⟨t.rp.upd_ u (fun h => h) (fun h => h) (fun h => h), t.a.upd_ u (fun h => h), t.b.upd_ u (fun h => h), t.mr.upd_ u (fun h => h), t.bt.upd_ u (fun h => h), t.ne, t.up.trans u, t.lb, t.lr, t.l0, t.l1, t.lbb⟩
theorem TM.step0 (t : TM w W L g0 g1 mb bb P A B f) (rp : PoolRep W' L P') (r : MRep W' g0 146 65 L.p A') (u : Upd (ownM L g0) W W') : TM w W' L g0 g1 mb bb P' A' B f := by
  obtain ⟨_, hf, _⟩ := t.bt.ex
  have n1 := map_ne t.rp t.b (by decide) (by decide) (by decide)
  refine ⟨rp, r, t.b.upd_ u ?_, t.mr.upd_ u (t.offs t.mr (by decide) (by decide) (by decide)).1, t.bt.upd_ u (t.offs hf (by decide) (by decide) (by decide)).1, t.ne, t.up.over u ?_, t.lb, t.lr, t.l0, t.l1, t.lbb⟩
  · rintro ((h | h) | h)
    · exact n1.2.1 h
    · exact n1.2.2 h
    · exact t.ne h.symm
  · rintro i ((rfl | rfl) | rfl)
    · exact t.lb
    · exact t.lr
    · exact t.l0
theorem TM.step1 (t : TM w W L g0 g1 mb bb P A B f) (rp : PoolRep W' L P') (r : MRep W' g1 146 65 L.p B') (u : Upd (ownM L g1) W W') : TM w W' L g0 g1 mb bb P' A B' f := by
  obtain ⟨_, hf, _⟩ := t.bt.ex
  have n1 := map_ne t.rp t.a (by decide) (by decide) (by decide)
  refine ⟨rp, t.a.upd_ u ?_, r, t.mr.upd_ u (t.offs t.mr (by decide) (by decide) (by decide)).2, t.bt.upd_ u (t.offs hf (by decide) (by decide) (by decide)).2, t.ne, t.up.over u ?_, t.lb, t.lr, t.l0, t.l1, t.lbb⟩
  · rintro ((h | h) | h)
    · exact n1.2.1 h
    · exact n1.2.2 h
    · exact t.ne h
  · rintro i ((rfl | rfl) | rfl)
    · exact t.lb
    · exact t.lr
    · exact t.l1
theorem TM.pool (t : TM w W L g0 g1 mb bb P A B f) (rp : PoolRep W' L P') (u : Upd L.own W W') : TM w W' L g0 g1 mb bb P' A B f := by
  have n0 := map_ne t.rp t.a (by decide) (by decide) (by decide)
  exact t.step0 rp (t.a.upd_ u (fun h => h.elim n0.2.1 n0.2.2)) u.toM
theorem TM.map0 (t : TM w W L g0 g1 mb bb P A B f) (r : MRep W' g0 146 65 L.p A') (u : Upd (at1 g0) W W') : TM w W' L g0 g1 mb bb P A' B f := by
  have n0 := map_ne t.rp t.a (by decide) (by decide) (by decide)
  exact t.step0 (t.rp.upd_ u (fun h => n0.1 h.symm) (fun h => n0.2.1 h.symm) (fun h => n0.2.2 h.symm)) r (u.mono fun _ _ h => .inr h)
theorem TM.map1 (t : TM w W L g0 g1 mb bb P A B f) (r : MRep W' g1 146 65 L.p B') (u : Upd (at1 g1) W W') : TM w W' L g0 g1 mb bb P A B' f := by
  have n0 := map_ne t.rp t.b (by decide) (by decide) (by decide)
  exact t.step1 (t.rp.upd_ u (fun h => n0.1 h.symm) (fun h => n0.2.1 h.symm) (fun h => n0.2.2 h.symm)) r (u.mono fun _ _ h => .inr h)
theorem TM.seals (t : TM w W L g0 g1 mb bb P A B f) (ra : MRep W' g0 146 65 L.p A') (rb : MRep W' g1 146 65 L.p B') (u : Upd (fun k => k = g0 ∨ k = g1) W W') : TM w W' L g0 g1 mb bb P A' B' f := by
  obtain ⟨_, hf, _⟩ := t.bt.ex
  have n0 := map_ne t.rp t.a (by decide) (by decide) (by decide)
  have n1 := map_ne t.rp t.b (by decide) (by decide) (by decide)
  have hm := t.offs t.mr (by decide) (by decide) (by decide)
  have hb := t.offs hf (by decide) (by decide) (by decide)
  exact ⟨t.rp.upd_ u (fun h => h.elim (fun h => n0.1 h.symm) (fun h => n1.1 h.symm)) (fun h => h.elim (fun h => n0.2.1 h.symm) (fun h => n1.2.1 h.symm)) (fun h => h.elim (fun h => n0.2.2 h.symm) (fun h => n1.2.2 h.symm)), ra, rb,
    t.mr.upd_ u (fun h => h.elim (fun h => hm.1 (.inr h)) (fun h => hm.2 (.inr h))), t.bt.upd_ u (fun h => h.elim (fun h => hb.1 (.inr h)) (fun h => hb.2 (.inr h))), t.ne, t.up.over u (by rintro i (rfl | rfl); exact t.l0; exact t.l1), t.lb, t.lr, t.l0, t.l1, t.lbb⟩
theorem TM.setB (t : TM w W L g0 g1 mb bb P A B f) {i j a : Nat} {v : UInt8} (hi : i < 32) (hj : j < 16) (ha : a = 0 + i * 16 + j) : TM w (W.setCell ⟨bb, a, none⟩ (.int .u8 v.toNat)) L g0 g1 mb bb P A B (bset f i j v) := by
  subst ha
  have u : Upd (at1 bb) W (W.setCell ⟨bb, 0 + i * 16 + j, none⟩ (.int .u8 v.toNat)) := (Upd.refl _ _).setCell (p := ⟨bb, 0 + i * 16 + j, none⟩) (fun _ => at1_self) _
  obtain ⟨_, hf, _⟩ := t.bt.ex
  obtain ⟨_, _, hB, _⟩ := t.rp.bytes
  obtain ⟨_, _, hR, _⟩ := t.rp.counts
  obtain ⟨_, haa, _⟩ := t.a.row
  obtain ⟨_, hbb, _⟩ := t.b.row
  exact ⟨t.rp.upd_ u (fun h => hf.ne_ t.rp.st (by decide) h.symm) (fun h => hf.ne_ hB (by decide) h.symm) (fun h => hf.ne_ hR (by decide) h.symm), t.a.upd_ u (fun h => hf.ne_ haa (by decide) h.symm), t.b.upd_ u (fun h => hf.ne_ hbb (by decide) h.symm), t.mr.upd_ u (fun h => hf.ne_ t.mr (by decide) h.symm), t.bt.set_ hi hj, t.ne, t.up.over u (by rintro i rfl; exact t.lbb), t.lb, t.lr, t.l0, t.l1, t.lbb⟩
theorem TM.m0 (t : TM w W L g0 g1 mb bb P A B f) : W.cell? ⟨mb, 0, none⟩ = some (.pointer (some ⟨g0, 0, none⟩)) := t.mr.cell (i := 0) (by omega)
theorem TM.m1 (t : TM w W L g0 g1 mb bb P A B f) : W.cell? ⟨mb, 1, none⟩ = some (.pointer (some ⟨g1, 0, none⟩)) := t.mr.cell (i := 1) (by omega)
theorem TMX.non (t : TMX w W L g0 g1 mb bb P A B f bx x) (u : Upd Non W W') : TMX w W' L g0 g1 mb bb P A B f bx x := ⟨t.toTM.non u, t.ax.upd_ u (fun h => h)⟩
theorem TMX.alloc (t : TMX w W L g0 g1 mb bb P A B f bx x) (o : Obj) : TMX w (W.alloc o) L g0 g1 mb bb P A B f bx x := t.non ((Upd.refl _ _).alloc o)
theorem TMX.drew (t : TMX w W L g0 g1 mb bb P A B f bx x) : TMX w W.drew L g0 g1 mb bb P A B f bx x := t.non (Upd.refl _ _).drew
theorem TMX.drewN (t : TMX w W L g0 g1 mb bb P A B f bx x) (n : Nat) : TMX w (W.drewN n) L g0 g1 mb bb P A B f bx x := t.non ((Upd.refl _ _).drewN n)
theorem TMX.step0 (t : TMX w W L g0 g1 mb bb P A B f bx x) (rp : PoolRep W' L P') (r : MRep W' g0 146 65 L.p A') (u : Upd (ownM L g0) W W') : TMX w W' L g0 g1 mb bb P' A' B f bx x :=
  ⟨t.toTM.step0 rp r u, t.ax.upd_ u (t.toTM.offs t.ax (by decide) (by decide) (by decide)).1⟩
theorem TMX.step1 (t : TMX w W L g0 g1 mb bb P A B f bx x) (rp : PoolRep W' L P') (r : MRep W' g1 146 65 L.p B') (u : Upd (ownM L g1) W W') : TMX w W' L g0 g1 mb bb P' A B' f bx x :=
  ⟨t.toTM.step1 rp r u, t.ax.upd_ u (t.toTM.offs t.ax (by decide) (by decide) (by decide)).2⟩
theorem TMX.pool (t : TMX w W L g0 g1 mb bb P A B f bx x) (rp : PoolRep W' L P') (u : Upd L.own W W') : TMX w W' L g0 g1 mb bb P' A B f bx x :=
  ⟨t.toTM.pool rp u, t.ax.upd_ u (fun h => (t.toTM.offs t.ax (by decide) (by decide) (by decide)).1 (.inl h))⟩
theorem TMX.map0 (t : TMX w W L g0 g1 mb bb P A B f bx x) (r : MRep W' g0 146 65 L.p A') (u : Upd (at1 g0) W W') : TMX w W' L g0 g1 mb bb P A' B f bx x :=
  ⟨t.toTM.map0 r u, t.ax.upd_ u (fun h => (t.toTM.offs t.ax (by decide) (by decide) (by decide)).1 (.inr h))⟩
theorem TMX.map1 (t : TMX w W L g0 g1 mb bb P A B f bx x) (r : MRep W' g1 146 65 L.p B') (u : Upd (at1 g1) W W') : TMX w W' L g0 g1 mb bb P A B' f bx x :=
  ⟨t.toTM.map1 r u, t.ax.upd_ u (fun h => (t.toTM.offs t.ax (by decide) (by decide) (by decide)).2 (.inr h))⟩
theorem TMX.seals (t : TMX w W L g0 g1 mb bb P A B f bx x) (ra : MRep W' g0 146 65 L.p A') (rb : MRep W' g1 146 65 L.p B') (u : Upd (fun k => k = g0 ∨ k = g1) W W') : TMX w W' L g0 g1 mb bb P A' B' f bx x :=
  ⟨t.toTM.seals ra rb u, t.ax.upd_ u (fun h => h.elim (fun h => (t.toTM.offs t.ax (by decide) (by decide) (by decide)).1 (.inr h)) (fun h => (t.toTM.offs t.ax (by decide) (by decide) (by decide)).2 (.inr h)))⟩
theorem TMX.new (t : TM w W L g0 g1 mb bb P A B f) (x : ActM) : TMX w (W.alloc (.cells #[.string x.kind, .int .i64 x.n, .int .i64 x.a, .int .i64 x.b, .int .u8 x.v.toNat, .bool x.on] 31)) L g0 g1 mb bb P A B f W.heap.size x :=
  ⟨t.non ((Upd.refl _ _).alloc _), ⟨_, heap_alloc_new W _, rfl, fun i hi => by
    have : i = 0 ∨ i = 1 ∨ i = 2 ∨ i = 3 ∨ i = 4 ∨ i = 5 := by omega
    rcases this with rfl | rfl | rfl | rfl | rfl | rfl <;> rfl⟩⟩
theorem TMX.a0 (t : TMX w W L g0 g1 mb bb P A B f bx x) : W.cell? ⟨bx, 0, none⟩ = some (.string x.kind) := t.ax.cell (i := 0) (by omega)
theorem TMX.a2 (t : TMX w W L g0 g1 mb bb P A B f bx x) : W.cell? ⟨bx, 2, none⟩ = some (.int .i64 x.a) := t.ax.cell (i := 2) (by omega)
theorem TMX.a3 (t : TMX w W L g0 g1 mb bb P A B f bx x) : W.cell? ⟨bx, 3, none⟩ = some (.int .i64 x.b) := t.ax.cell (i := 3) (by omega)
theorem TMX.a4 (t : TMX w W L g0 g1 mb bb P A B f bx x) : W.cell? ⟨bx, 4, none⟩ = some (.int .u8 x.v.toNat) := t.ax.cell (i := 4) (by omega)
theorem TMX.a5 (t : TMX w W L g0 g1 mb bb P A B f bx x) : W.cell? ⟨bx, 5, none⟩ = some (.bool x.on) := t.ax.cell (i := 5) (by omega)
end
/-- Pages 0 to j are plugged. -/
def plugged (j : Nat) : MapM := { state := fun i => if i < j then 1 else 0, leaf := fun _ => LeafM.none }
theorem plugged_zero : plugged 0 = MapM.fresh := by unfold plugged MapM.fresh; simp
theorem plugged_succ {j : Nat} (hj : j < 16) : mplug (plugged j) j = (plugged (j + 1), 0) := by
  unfold mplug
  rw [if_pos (onB_iff.2 ⟨by omega, by omega⟩), Int.toNat_natCast, if_pos (by unfold plugged; simp)]
  congr 1
  unfold plugged MapM.setState
  congr 1
  funext i
  by_cases e : i = j
  · subst e; simp
  · by_cases h : i < j
    · simp [e, h, show i < j + 1 from by omega]
    · simp [e, h, show ¬ i < j + 1 from by omega]
theorem plugged_cnt (j f : Nat) : mcnt (plugged j) f = 0 := by
  unfold mcnt
  rw [List.countP_eq_zero]
  intro i _ h
  cases h
theorem HeldI.start (n : Nat) : HeldI (PoolM.fresh n) (plugged 16) (plugged 16) (fun _ _ => 0) := by
  have hi : MInv (PoolM.fresh n) (plugged 16) (mcnt (plugged 16)) := by
    refine ⟨fun i hi => .inr (.inl (by unfold plugged; simp [hi])), (fun i _ h => by cases h), fun i _ _ => rfl, fun f _ => ?_, fun f => by rw [plugged_cnt]; omega⟩
    rw [plugged_cnt]; rfl
  exact ⟨hi, hi, (fun i _ h => by cases h), (fun i _ h => by cases h), fun i _ j _ => rfl, fun i _ j _ => rfl⟩

end U
end Go.Proofs.Ytnhplapcdgnaaaa
