import Derived.Test.YtnhplapcdgnaaaaMapLawB
import Derived.Deep.Cut
import Derived.Deep.CutBlock
set_option linter.unusedVariables false
set_option linter.unusedSimpArgs false
namespace Go.Proofs.Ytnhplapcdgnaaaa
open Go.RowKit
namespace U

/-- A pool whose counts are nought beyond its frames: it lies just the same. -/
def PoolM.norm (P : PoolM) : PoolM := { P with refs := fun i => if i < P.n then P.refs i else 0 }
theorem PoolRep.norm {w : World} {h : PoolAt} {P : PoolM} (r : PoolRep w h P) : PoolRep w h P.norm := by
  obtain ⟨N, c, h1, h2, h3⟩ := r.counts
  exact ⟨r.st, r.bytes, ⟨N, c, h1, h2, fun i (hi : i < P.n) => by rw [h3 i hi]; unfold PoolM.norm; simp [hi]⟩, r.n1, r.n64⟩
theorem RPoolRep.norm {w : World} {m : Nat} {P : PoolM} (r : RPoolRep w m P) : RPoolRep w m P.norm := by
  obtain ⟨c, h1, h2, h3, h4⟩ := r.row
  exact ⟨⟨c, h1, h2, h3, fun i (hi : i < P.n) => by rw [h4 i hi]; unfold PoolM.norm; simp [hi]⟩, r.n1, r.n64⟩
theorem norm_pos {P : PoolM} (h : ∀ i, i < P.n → 0 ≤ P.refs i) : ∀ i, 0 ≤ P.norm.refs i := fun i => by
  unfold PoolM.norm
  by_cases e : i < P.n
  · simp [e, h i e]
  · simp [e]
theorem fresh_free {n : Nat} (h : 1 ≤ n) : (PoolM.fresh n).free = some 0 := PoolM.free_some (P := PoolM.fresh n) (k := 0) h rfl (fun j hj => by omega)
theorem MInv.fresh (n : Nat) : MInv (PoolM.fresh n) MapM.fresh (mcnt MapM.fresh) := by
  refine ⟨fun i _ => .inl rfl, (fun i _ h => by cases h), fun i _ _ => rfl, fun f _ => ?_, fun f => ?_⟩
  · have : mcnt MapM.fresh f = 0 := by
      unfold mcnt
      rw [List.countP_eq_zero]
      intro i _ h
      cases h
    rw [this]; rfl
  · have := mcnt_le MapM.fresh f; omega
/-- The other map goes on. -/
theorem MInv.other {P P' : PoolM} {A B A' : MapM} (hb : MInv P B (mcnt A)) (ha : MInv P' A' (mcnt B)) (hn : P'.n = P.n) : MInv P' B (mcnt A') := by
  refine ⟨hb.st, fun i hi ht => by have := hb.here i hi ht; rw [hn]; exact this, hb.none, fun f hf => ?_, fun f => ?_⟩
  · rw [ha.cnt f hf, Nat.add_comm]
  · have := mcnt_le A' f; omega

/-- A pool, two maps, their models; the arrays of their pointers; what was there at first. -/
structure MM (w W : World) (L : PoolAt) (m g0 g1 r0 r1 mb rb : Nat) (P : PoolM) (A B : MapM) : Prop where
  rp : PoolRep W L P
  rm : RPoolRep W m P
  a : MRep W g0 146 65 L.p A
  b : MRep W g1 146 65 L.p B
  ra : RMRep W r0 93 65 m A xn
  rb_ : RMRep W r1 93 65 m B xn
  ma : Row W mb 87 2 (fun i => if i = 0 then .pointer (some ⟨g0, 0, none⟩) else .pointer (some ⟨g1, 0, none⟩))
  mr : Row W rb 89 2 (fun i => if i = 0 then .pointer (some ⟨r0, 0, none⟩) else .pointer (some ⟨r1, 0, none⟩))
  gne : g0 ≠ g1
  rne : r0 ≠ r1
  up : Upd Non w W
  lp : w.heap.size ≤ L.p
  lb : w.heap.size ≤ L.bb
  lr : w.heap.size ≤ L.rb
  lm : w.heap.size ≤ m
  l0 : w.heap.size ≤ g0
  l1 : w.heap.size ≤ g1
  l2 : w.heap.size ≤ r0
  l3 : w.heap.size ≤ r1
  l4 : w.heap.size ≤ mb
  l5 : w.heap.size ≤ rb
section
variable {w W W' : World} {L : PoolAt} {m g0 g1 r0 r1 mb rb : Nat} {P P' : PoolM} {A B A' B' : MapM}
theorem MM.non (t : MM w W L m g0 g1 r0 r1 mb rb P A B) (u : Upd Non W W') : MM w W' L m g0 g1 r0 r1 mb rb P A B :=
  ⟨t.rp.upd_ u (fun h => h) (fun h => h) (fun h => h), t.rm.upd_ u (fun h => h), t.a.upd_ u (fun h => h), t.b.upd_ u (fun h => h), t.ra.upd_ u (fun h => h), t.rb_.upd_ u (fun h => h), t.ma.upd_ u (fun h => h), t.mr.upd_ u (fun h => h), t.gne, t.rne, t.up.trans u, t.lp, t.lb, t.lr, t.lm, t.l0, t.l1, t.l2, t.l3, t.l4, t.l5⟩
theorem MM.alloc (t : MM w W L m g0 g1 r0 r1 mb rb P A B) (o : Obj) : MM w (W.alloc o) L m g0 g1 r0 r1 mb rb P A B := t.non ((Upd.refl _ _).alloc o)
theorem MM.drewN (t : MM w W L m g0 g1 r0 r1 mb rb P A B) (n : Nat) : MM w (W.drewN n) L m g0 g1 r0 r1 mb rb P A B := t.non ((Upd.refl _ _).drewN n)
theorem MM.drew (t : MM w W L m g0 g1 r0 r1 mb rb P A B) : MM w W.drew L m g0 g1 r0 r1 mb rb P A B := t.non (Upd.refl _ _).drew
theorem MM.d0 (t : MM w W L m g0 g1 r0 r1 mb rb P A B) : D2 W W L m g0 g1 r0 r1 P A B P A B := ⟨t.rp, t.rm, t.a, t.b, t.ra, t.rb_, t.gne, t.rne, Upd.refl _ _⟩
theorem MM.d1 (t : MM w W L m g0 g1 r0 r1 mb rb P A B) : D2 W W L m g1 g0 r1 r0 P B A P B A := ⟨t.rp, t.rm, t.b, t.a, t.rb_, t.ra, t.gne.symm, t.rne.symm, Upd.refl _ _⟩
theorem MM.rows (t : MM w W L m g0 g1 r0 r1 mb rb P A B) {g r : Nat} (hg : g = g0 ∨ g = g1) (hr : r = r0 ∨ r = r1) : ¬ stepS L m g r mb ∧ ¬ stepS L m g r rb := by
  obtain ⟨_, _, hB, _⟩ := t.rp.bytes
  obtain ⟨_, _, hR, _⟩ := t.rp.counts
  obtain ⟨_, hA0, _⟩ := t.a.row
  obtain ⟨_, hA1, _⟩ := t.b.row
  obtain ⟨_, hC0, _⟩ := t.ra.row
  obtain ⟨_, hC1, _⟩ := t.rb_.row
  obtain ⟨_, hM, _⟩ := t.rm.row
  constructor
  · rintro (((h | h) | h) | (h | h))
    · exact t.ma.ne_ hB (by decide) h
    · exact t.ma.ne_ hR (by decide) h
    · rcases hg with e | e
      · exact t.ma.ne_ hA0 (by decide) (h.trans e)
      · exact t.ma.ne_ hA1 (by decide) (h.trans e)
    · exact t.ma.ne_ hM (by decide) h
    · rcases hr with e | e
      · exact t.ma.ne_ hC0 (by decide) (h.trans e)
      · exact t.ma.ne_ hC1 (by decide) (h.trans e)
  · rintro (((h | h) | h) | (h | h))
    · exact t.mr.ne_ hB (by decide) h
    · exact t.mr.ne_ hR (by decide) h
    · rcases hg with e | e
      · exact t.mr.ne_ hA0 (by decide) (h.trans e)
      · exact t.mr.ne_ hA1 (by decide) (h.trans e)
    · exact t.mr.ne_ hM (by decide) h
    · rcases hr with e | e
      · exact t.mr.ne_ hC0 (by decide) (h.trans e)
      · exact t.mr.ne_ hC1 (by decide) (h.trans e)
theorem MM.new (t : MM w W L m g0 g1 r0 r1 mb rb P A B) {g r : Nat} (hg : g = g0 ∨ g = g1) (hr : r = r0 ∨ r = r1) : ∀ i, stepS L m g r i → w.heap.size ≤ i := by
  have := t.lb; have := t.lr; have := t.lm; have := t.l0; have := t.l1; have := t.l2; have := t.l3
  rintro i (((rfl | rfl) | rfl) | (rfl | rfl)) <;> omega
theorem MM.step0 (t : MM w W L m g0 g1 r0 r1 mb rb P A B) (d : D2 W W' L m g0 g1 r0 r1 P' A' B P' A' B) : MM w W' L m g0 g1 r0 r1 mb rb P' A' B :=
  ⟨d.rp, d.rm, d.a, d.b, d.ra, d.rb, t.ma.upd_ d.up (t.rows (.inl rfl) (.inl rfl)).1, t.mr.upd_ d.up (t.rows (.inl rfl) (.inl rfl)).2, t.gne, t.rne, t.up.over d.up (t.new (.inl rfl) (.inl rfl)), t.lp, t.lb, t.lr, t.lm, t.l0, t.l1, t.l2, t.l3, t.l4, t.l5⟩
theorem MM.step1 (t : MM w W L m g0 g1 r0 r1 mb rb P A B) (d : D2 W W' L m g1 g0 r1 r0 P' B' A P' B' A) : MM w W' L m g0 g1 r0 r1 mb rb P' A B' :=
  ⟨d.rp, d.rm, d.b, d.a, d.rb, d.ra, t.ma.upd_ d.up (t.rows (.inr rfl) (.inr rfl)).1, t.mr.upd_ d.up (t.rows (.inr rfl) (.inr rfl)).2, t.gne, t.rne, t.up.over d.up (t.new (.inr rfl) (.inr rfl)), t.lp, t.lb, t.lr, t.lm, t.l0, t.l1, t.l2, t.l3, t.l4, t.l5⟩
end
section
variable {w W W' : World} {L L' : PoolAt} {m g0 g1 r0 r1 mb rb g0' g1' : Nat} {P P' : PoolM} {A B A' B' : MapM}
theorem MM.m0 (t : MM w W L m g0 g1 r0 r1 mb rb P A B) : W.cell? ⟨mb, 0, none⟩ = some (.pointer (some ⟨g0, 0, none⟩)) := t.ma.cell (i := 0) (by omega)
theorem MM.m1 (t : MM w W L m g0 g1 r0 r1 mb rb P A B) : W.cell? ⟨mb, 1, none⟩ = some (.pointer (some ⟨g1, 0, none⟩)) := t.ma.cell (i := 1) (by omega)
theorem MM.q0 (t : MM w W L m g0 g1 r0 r1 mb rb P A B) : W.cell? ⟨rb, 0, none⟩ = some (.pointer (some ⟨r0, 0, none⟩)) := t.mr.cell (i := 0) (by omega)
theorem MM.q1 (t : MM w W L m g0 g1 r0 r1 mb rb P A B) : W.cell? ⟨rb, 1, none⟩ = some (.pointer (some ⟨r1, 0, none⟩)) := t.mr.cell (i := 1) (by omega)
/-- What a step of the first map alone leaves. -/
theorem MM.first (t : MM w W L m g0 g1 r0 r1 mb rb P A B) (u : Upd (ownM L g0) W W') : MRep W' g1 146 65 L.p B ∧ W'.cell? ⟨mb, 1, none⟩ = some (.pointer (some ⟨g1, 0, none⟩)) := by
  refine ⟨t.b.upd_ u ?_, u.cell t.m1 fun h => (t.rows (.inl rfl) (.inl rfl)).1 (.inl h)⟩
  obtain ⟨_, h1, h2⟩ := map_ne t.rp t.b (by decide) (by decide) (by decide)
  rintro ((h | h) | h)
  · exact h1 h
  · exact h2 h
  · exact t.gne h.symm
/-- Copies go on. -/
theorem MM.copy {w4 w5 w6 : World} (t : MM w W L m g0 g1 r0 r1 mb rb P A B) (U : Upd Non W w4) (hp : PoolRep w4 L' P) (ha : MRep w4 g0' 146 65 L'.p A) (hb : MRep w4 g1' 146 65 L'.p B)
    (n1 : W.heap.size ≤ L'.p) (n2 : W.heap.size ≤ L'.bb) (n3 : W.heap.size ≤ L'.rb) (n4 : W.heap.size ≤ g0') (n5 : W.heap.size ≤ g1') (hne : g0' ≠ g1') (u5 : Upd (ownM L g0) w4 w5) (u6 : Upd (ownM L g1) w5 w6) :
    MM w ((w6.setCell ⟨mb, 0, none⟩ (.pointer (some ⟨g0', 0, none⟩))).setCell ⟨mb, 1, none⟩ (.pointer (some ⟨g1', 0, none⟩))) L' m g0' g1' r0 r1 mb rb P A B := by
  have t4 := t.non U
  have hl := t.rp.lts
  have hg0 := t.a.lt
  have hg1 := t.b.lt
  have hmb := t.ma.lt
  have hw := t.up.size
  have X : Upd (fun k => (ownM L g0 k ∨ ownM L g1 k) ∨ k = mb) w4 ((w6.setCell ⟨mb, 0, none⟩ (.pointer (some ⟨g0', 0, none⟩))).setCell ⟨mb, 1, none⟩ (.pointer (some ⟨g1', 0, none⟩))) :=
    (((u5.mono fun _ _ h => .inl (.inl h)).trans (u6.mono fun _ _ h => .inl (.inr h))).setCell (p := ⟨mb, 0, none⟩) (fun _ => .inr rfl) _).setCell (p := ⟨mb, 1, none⟩) (fun _ => .inr rfl) _
  have old : ∀ k, ((ownM L g0 k ∨ ownM L g1 k) ∨ k = mb) → k < W.heap.size := by
    rintro k ((((rfl | rfl) | rfl) | ((rfl | rfl) | rfl)) | rfl) <;> omega
  have s0 : ∀ k, ownM L g0 k → stepS L m g0 r0 k := fun k h => .inl h
  have s1 : ∀ k, ownM L g1 k → stepS L m g1 r0 k := fun k h => .inl h
  have m5 := (t4.ma.upd_ u5 (fun h => (t4.rows (.inl rfl) (.inl rfl)).1 (s0 _ h))).upd_ u6 (fun h => (t4.rows (.inr rfl) (.inl rfl)).1 (s1 _ h))
  obtain ⟨_, _, hB, _⟩ := t4.rp.bytes
  obtain ⟨_, _, hR, _⟩ := t4.rp.counts
  obtain ⟨_, hA0, _⟩ := t4.a.row
  obtain ⟨_, hA1, _⟩ := t4.b.row
  have far : ∀ {k T N : Nat} {f : Nat → Value}, Row w4 k T N f → T ≠ 59 → T ≠ 3 → T ≠ 146 → T ≠ 87 → ¬ ((ownM L g0 k ∨ ownM L g1 k) ∨ k = mb) := by
    intro k T N f r e1 e2 e3 e4
    rintro ((((h | h) | h) | ((h | h) | h)) | h)
    · exact r.ne_ hB e1 h
    · exact r.ne_ hR e2 h
    · exact r.ne_ hA0 e3 h
    · exact r.ne_ hB e1 h
    · exact r.ne_ hR e2 h
    · exact r.ne_ hA1 e3 h
    · exact r.ne_ t4.ma e4 h
  obtain ⟨_, hC0, _⟩ := t4.ra.row
  obtain ⟨_, hC1, _⟩ := t4.rb_.row
  obtain ⟨_, hM, _⟩ := t4.rm.row
  have new : ∀ k, W.heap.size ≤ k → ¬ ((ownM L g0 k ∨ ownM L g1 k) ∨ k = mb) := fun k hk h => by have := old k h; omega
  refine ⟨hp.upd_ X (new _ n1) (new _ n2) (new _ n3), t4.rm.upd_ X (far hM (by decide) (by decide) (by decide) (by decide)), ha.upd_ X (new _ n4), hb.upd_ X (new _ n5), t4.ra.upd_ X (far hC0 (by decide) (by decide) (by decide) (by decide)), t4.rb_.upd_ X (far hC1 (by decide) (by decide) (by decide) (by decide)),
    ((m5.set_ (i := 0) _).set_ (i := 1) _).congr fun i hi => ?_, t4.mr.upd_ X (far t4.mr (by decide) (by decide) (by decide) (by decide)), hne, t.rne, t4.up.over X ?_, by omega, by omega, by omega, t.lm, by omega, by omega, t.l2, t.l3, t.l4, t.l5⟩
  · have : i = 0 ∨ i = 1 := by omega
    rcases this with rfl | rfl <;> simp [upd]
  · have := t.lb; have := t.lr; have := t.l0; have := t.l1; have := t.l4
    rintro i ((((rfl | rfl) | rfl) | ((rfl | rfl) | rfl)) | rfl) <;> omega
end
/-- In order. -/
structure MMI (n : Nat) (P : PoolM) (A B : MapM) : Prop where
  n : P.n = n
  a : MInv P A (mcnt B)
  b : MInv P B (mcnt A)

set_option maxRecDepth 100000 in
set_option maxHeartbeats 1000000 in
theorem maps_law (w : World) :
    Calls Try.prog 47 #[] w fun e w' => e = .returned (.bool true) ∧ Upd Non w w' := by
  have h0 := Lib.hid (MInv.fresh 3)
  have h1 := Lib.hid (h0.out.plug 2)
  have e1 : Hid (mplug MapM.fresh 2 = (MapM.fresh.setState 2 1, 0)) := by show _ = _; rfl
  have e2 : Hid (mtouch (PoolM.fresh 3) (MapM.fresh.setState 2 1) 2 true = ((PoolM.fresh 3).take.1, (MapM.fresh.setState 2 1).setLeaf 2 ⟨true, true, 0⟩, 0, false, 0)) := by
    show _ = _
    unfold mtouch
    rw [if_pos (by decide), if_neg (by decide), if_neg (by decide), if_neg (by decide), if_neg (by decide), fresh_free (by omega)]
    rfl
  have e3 : Hid (mleaf ((MapM.fresh.setState 2 1).setLeaf 2 ⟨true, true, 0⟩) 2 = (⟨true, true, 0⟩, 0)) := by show _ = _; rfl
  go_enter Try.func47, Try.ntmps47
  go_wp2_with (first
    | (go_at_call 28; refine (new_ok _ 3 (by omega) (by omega)).mono ?_; rintro e w1 ⟨L, rfl, r, u, l1, l2, l3⟩)
    | (go_at_call 48; refine (mapNew_any _ L.p).mono ?_; rintro e w2 ⟨g, rfl, q2, l4, u2⟩; have r2 := r.upd_ u2 (fun h => h) (fun h => h) (fun h => h))
    | (go_at_call 54; refine (plug_any _ g 65 L.p _ q2 2).mono ?_; rw [e1.out]; rintro e w3 ⟨rfl, q3, u3⟩; unfold errv; have hne := map_ne r2 q2 (by decide) (by decide) (by decide); have r3 := r2.upd_ u3 (fun h => hne.1 h.symm) (fun h => hne.2.1 h.symm) (fun h => hne.2.2 h.symm))
    | (go_at_call 51; refine (touch_any _ L _ g 65 _ r3 q3 2 true (fun k hk ht => by unfold MapM.setState MapM.fresh at ht; cases ht)).mono ?_; rw [e2.out]; rintro e w4 ⟨rfl, r4, q4, u4⟩; unfold errv)
    | (go_at_call 55; refine (mleaf_any _ g 65 L.p _ q4 2).mono ?_; rw [e3.out]; rintro e w5 ⟨rfl, u5⟩; unfold errv LeafM.val)
    | (go_at_call 29; refine (same_law _ 0 0).mono ?_; rintro e w9 ⟨rfl, rfl⟩)
    | fail)
  go_ret
  have hz := u.size
  refine ⟨rfl, (((((u.trans u2).over u3 (by rintro i rfl; omega)).over u4 ?_).trans u5).alloc _)⟩
  rintro i ((rfl | rfl) | rfl) <;> omega

end U
end Go.Proofs.Ytnhplapcdgnaaaa
