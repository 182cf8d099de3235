import Derived.Test.YtnhplapcdgnaaaaGreatDoorRMapX
import Derived.Test.YtnhplapcdgnaaaaGreatDoorLawX
import Derived.Deep.RegionHeld3
import Derived.Outline
import Derived.Deep.Cut
import Derived.Deep.CutBlock
set_option linter.unusedVariables false
set_option linter.unusedSimpArgs false
namespace Go.Proofs.YtnhplapcdgnaaaaGreatDoor
open Go.RowKit
namespace U

theorem leaf_val (l : LeafM) : l.val = .agg #[.bool l.there, .bool l.write, .int .i64 l.frame] := rfl
end U
end Go.Proofs.YtnhplapcdgnaaaaGreatDoor

set_option linter.unusedVariables false
set_option linter.unusedSimpArgs false
namespace Go.Proofs.YtnhplapcdgnaaaaGreatDoor
open Go.RowKit
namespace U

/-- What an act on two maps and their models may change. -/
def stepS (L : PoolAt) (m g r : Nat) : Nat → Prop := fun k => ownM L g k ∨ ownR m r k
def xn : Nat → Value := fun _ => undef
/-- A pool and two maps, their models; A is the one that acts. -/
structure D2 (w W : World) (L : PoolAt) (m g0 g1 r0 r1 : Nat) (P : PoolM) (A B : MapM) (Q : PoolM) (RA RB : MapM) : Prop where
  rp : PoolRep W L P
  rm : RPoolRep W m Q
  a : MRep W g0 175 65 L.p A
  b : MRep W g1 175 65 L.p B
  ra : RMRep W r0 91 65 m RA xn
  rb : RMRep W r1 91 65 m RB xn
  gne : g0 ≠ g1
  rne : r0 ≠ r1
  up : Upd (stepS L m g0 r0) w W
section
variable {w W W' : World} {L : PoolAt} {m g0 g1 r0 r1 bx : Nat} {P P' Q Q' : PoolM} {A B A' RA RB RA' : MapM} {x : ActM}
theorem D2.nes (t : D2 w W L m g0 g1 r0 r1 P A B Q RA RB) : (g0 ≠ L.p ∧ g0 ≠ L.bb ∧ g0 ≠ L.rb) ∧ (g1 ≠ L.p ∧ g1 ≠ L.bb ∧ g1 ≠ L.rb) ∧ (r0 ≠ L.p ∧ r0 ≠ L.bb ∧ r0 ≠ L.rb) ∧ (r1 ≠ L.p ∧ r1 ≠ L.bb ∧ r1 ≠ L.rb) ∧ (g0 ≠ m ∧ g1 ≠ m ∧ r0 ≠ m ∧ r1 ≠ m) ∧ (g0 ≠ r0 ∧ g0 ≠ r1 ∧ g1 ≠ r0 ∧ g1 ≠ r1) := by
  obtain ⟨_, hA, _⟩ := t.a.row
  obtain ⟨_, hB, _⟩ := t.b.row
  obtain ⟨_, hC, _⟩ := t.ra.row
  obtain ⟨_, hD, _⟩ := t.rb.row
  obtain ⟨_, hM, _⟩ := t.rm.row
  exact ⟨map_ne t.rp t.a (by decide) (by decide) (by decide), map_ne t.rp t.b (by decide) (by decide) (by decide), map_ne t.rp t.ra.toM (by decide) (by decide) (by decide), map_ne t.rp t.rb.toM (by decide) (by decide) (by decide),
    ⟨hA.ne_ hM (by decide), hB.ne_ hM (by decide), hC.ne_ hM (by decide), hD.ne_ hM (by decide)⟩, ⟨hA.ne_ hC (by decide), hA.ne_ hD (by decide), hB.ne_ hC (by decide), hB.ne_ hD (by decide)⟩⟩
theorem D2.non (t : D2 w W L m g0 g1 r0 r1 P A B Q RA RB) (u : Upd Non W W') : D2 w W' L m g0 g1 r0 r1 P A B Q RA RB :=
  ⟨t.rp.upd_ u (fun h => h) (fun h => h) (fun h => h), t.rm.upd_ u (fun h => h), t.a.upd_ u (fun h => h), t.b.upd_ u (fun h => h), t.ra.upd_ u (fun h => h), t.rb.upd_ u (fun h => h), t.gne, t.rne, t.up.trans (u.mono fun _ _ h => h.elim)⟩
theorem D2.stepP (t : D2 w W L m g0 g1 r0 r1 P A B Q RA RB) (h1 : PoolRep W' L P') (h2 : MRep W' g0 175 65 L.p A') (u : Upd (ownM L g0) W W') : D2 w W' L m g0 g1 r0 r1 P' A' B Q RA RB := by
  obtain ⟨_, ⟨b0, b1, b2⟩, ⟨c0, c1, c2⟩, ⟨d0, d1, d2⟩, ⟨e0, e1, e2, e3⟩, f0, f1, f2, f3⟩ := t.nes
  have hm := pool_ne t.rp t.rm
  refine ⟨h1, t.rm.upd_ u ?_, h2, t.b.upd_ u ?_, t.ra.upd_ u ?_, t.rb.upd_ u ?_, t.gne, t.rne, t.up.trans (u.mono fun _ _ h => .inl h)⟩
  · rintro ((h | h) | h)
    · exact hm.2.1 h
    · exact hm.2.2 h
    · exact e0 h.symm
  · rintro ((h | h) | h)
    · exact b1 h
    · exact b2 h
    · exact t.gne h.symm
  · rintro ((h | h) | h)
    · exact c1 h
    · exact c2 h
    · exact f0 h.symm
  · rintro ((h | h) | h)
    · exact d1 h
    · exact d2 h
    · exact f1 h.symm
theorem D2.stepR (t : D2 w W L m g0 g1 r0 r1 P A B Q RA RB) (h1 : RPoolRep W' m Q') (h2 : RMRep W' r0 91 65 m RA' xn) (u : Upd (ownR m r0) W W') : D2 w W' L m g0 g1 r0 r1 P A B Q' RA' RB := by
  obtain ⟨⟨a0, a1, a2⟩, ⟨b0, b1, b2⟩, ⟨c0, c1, c2⟩, ⟨d0, d1, d2⟩, ⟨e0, e1, e2, e3⟩, f0, f1, f2, f3⟩ := t.nes
  have hm := pool_ne t.rp t.rm
  refine ⟨t.rp.upd_ u ?_ ?_ ?_, h1, t.a.upd_ u ?_, t.b.upd_ u ?_, h2, t.rb.upd_ u ?_, t.gne, t.rne, t.up.trans (u.mono fun _ _ h => .inr h)⟩
  · rintro (h | h)
    · exact hm.1 h.symm
    · exact c0 h.symm
  · rintro (h | h)
    · exact hm.2.1 h.symm
    · exact c1 h.symm
  · rintro (h | h)
    · exact hm.2.2 h.symm
    · exact c2 h.symm
  · rintro (h | h)
    · exact e0 h
    · exact f0 h
  · rintro (h | h)
    · exact e1 h
    · exact f2 h
  · rintro (h | h)
    · exact e3 h
    · exact t.rne h.symm
end

/-- A byte of any frame. -/
theorem MInv.setAny {P : PoolM} {M : MapM} {E : Nat → Nat} (h : MInv P M E) (f a : Int) (v : UInt8) : MInv (P.set f a v).1 M E := by
  have e1 := set_refs P f a v
  have e2 := set_n P f a v
  refine ⟨h.st, fun i hi ht => ?_, h.none, fun i hi => ?_, h.small⟩
  · have := h.here i hi ht; rw [e2]; exact this
  · rw [e1]; exact h.cnt i (by rw [← e2]; exact hi)
/-- An act answered the same. -/
def MappedPost (w : World) (L : PoolAt) (m g0 g1 r0 r1 : Nat) (P : PoolM) (A B : MapM) (E : Nat → Nat) (e : Ending) (w' : World) : Prop :=
  e = .returned (.bool true) ∧ ∃ P' A', D2 w w' L m g0 g1 r0 r1 P' A' B P' A' B ∧ P'.n = P.n ∧ MInv P' A' E

end U
end Go.Proofs.YtnhplapcdgnaaaaGreatDoor

set_option linter.unusedVariables false
set_option linter.unusedSimpArgs false
namespace Go.Proofs.YtnhplapcdgnaaaaGreatDoor
open Go.RowKit
namespace U

/-- A pool whose counts are nought beyond its frames: it lies just the same. -/
def PoolM.norm (P : PoolM) : PoolM := { P with refs := fun i => if i < P.n then P.refs i else 0 }
theorem PoolRep.norm {w : World} {h : PoolAt} {P : PoolM} (r : PoolRep w h P) : PoolRep w h P.norm := by
  obtain ⟨N, c, h1, h2, h3⟩ := r.counts
  exact ⟨r.st, r.bytes, ⟨N, c, h1, h2, fun i (hi : i < P.n) => by rw [h3 i hi]; unfold PoolM.norm; simp [hi]⟩, r.n1, r.n64⟩
theorem RPoolRep.norm {w : World} {m : Nat} {P : PoolM} (r : RPoolRep w m P) : RPoolRep w m P.norm := by
  obtain ⟨c, h1, h2, h3, h4⟩ := r.row
  exact ⟨⟨c, h1, h2, h3, fun i (hi : i < P.n) => by rw [h4 i hi]; unfold PoolM.norm; simp [hi]⟩, r.n1, r.n64⟩
theorem norm_pos {P : PoolM} (h : ∀ i, i < P.n → 0 ≤ P.refs i) : ∀ i, 0 ≤ P.norm.refs i := fun i => by
  unfold PoolM.norm
  by_cases e : i < P.n
  · simp [e, h i e]
  · simp [e]
theorem fresh_free {n : Nat} (h : 1 ≤ n) : (PoolM.fresh n).free = some 0 := PoolM.free_some (P := PoolM.fresh n) (k := 0) h rfl (fun j hj => by omega)
theorem MInv.fresh (n : Nat) : MInv (PoolM.fresh n) MapM.fresh (mcnt MapM.fresh) := by
  refine ⟨fun i _ => .inl rfl, (fun i _ h => by cases h), fun i _ _ => rfl, fun f _ => ?_, fun f => ?_⟩
  · have : mcnt MapM.fresh f = 0 := by
      unfold mcnt
      rw [List.countP_eq_zero]
      intro i _ h
      cases h
    rw [this]; rfl
  · have := mcnt_le MapM.fresh f; omega
/-- The other map goes on. -/
theorem MInv.other {P P' : PoolM} {A B A' : MapM} (hb : MInv P B (mcnt A)) (ha : MInv P' A' (mcnt B)) (hn : P'.n = P.n) : MInv P' B (mcnt A') := by
  refine ⟨hb.st, fun i hi ht => by have := hb.here i hi ht; rw [hn]; exact this, hb.none, fun f hf => ?_, fun f => ?_⟩
  · rw [ha.cnt f hf, Nat.add_comm]
  · have := mcnt_le A' f; omega

section
variable {w W W' : World} {L : PoolAt} {m g0 g1 r0 r1 mb rb : Nat} {P P' : PoolM} {A B A' B' : MapM}
end
section
variable {w W W' : World} {L L' : PoolAt} {m g0 g1 r0 r1 mb rb g0' g1' : Nat} {P P' : PoolM} {A B A' B' : MapM}
end
/-- In order. -/
structure MMI (n : Nat) (P : PoolM) (A B : MapM) : Prop where
  n : P.n = n
  a : MInv P A (mcnt B)
  b : MInv P B (mcnt A)

end U
end Go.Proofs.YtnhplapcdgnaaaaGreatDoor
