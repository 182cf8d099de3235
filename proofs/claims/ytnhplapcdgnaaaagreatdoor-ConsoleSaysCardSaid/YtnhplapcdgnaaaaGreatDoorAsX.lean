import Derived.Test.YtnhplapcdgnaaaaGreatDoorRHostX
import Derived.Test.YtnhplapcdgnaaaaGreatDoorHostQm
import Derived.Test.YtnhplapcdgnaaaaGreatDoorMem
import Derived.Test.YtnhplapcdgnaaaaGreatDoorChecked
import Derived.WalkKit
import Derived.Lib.Hide
set_option linter.unusedVariables false
set_option linter.unusedSimpArgs false
namespace Go.Proofs.YtnhplapcdgnaaaaGreatDoor
open Go.RowKit
namespace U

/-! The program's host and the reference's, side by side. -/
structure HB (w W : World) (h : Nat) (L : PoolAt) (K : Nat → GAt) (H : HostM) (o m : Nat) (R : Nat → Nat × Value) (O : HostM) : Prop where
  a : HW w W h L K H
  b : RHRep W o m R O
  bn : ∀ k, ownRH o m R O k → w.heap.size ≤ k
  sep : ∀ k, ownH h L K H k → ¬ ownRH o m R O k
section
variable {w W W' : World} {h o m bx : Nat} {L L' : PoolAt} {K K' K2 : Nat → GAt} {R R2 : Nat → Nat × Value} {H O H2 O2 : HostM} {x : ActM} {S : Nat → Prop}
theorem HB.non (t : HB w W h L K H o m R O) (u : Upd Non W W') : HB w W' h L K H o m R O := ⟨t.a.non u, t.b.non u, t.bn, t.sep⟩
theorem HB.alloc (t : HB w W h L K H o m R O) (b : Obj) : HB w (W.alloc b) h L K H o m R O := t.non ((Upd.refl _ _).alloc b)
theorem HB.drew (t : HB w W h L K H o m R O) : HB w W.drew h L K H o m R O := t.non (Upd.refl _ _).drew
theorem HB.drewN (t : HB w W h L K H o m R O) (n : Nat) : HB w (W.drewN n) h L K H o m R O := t.non ((Upd.refl _ _).drewN n)
theorem HB.actA (t : HB w W h L K H o m R O) (s : PH (ownH h L K H) W W' h L K2 H2) : HB w W' h L K2 H2 o m R O :=
  ⟨t.a.act s, t.b.upd_ s.up (fun k h1 h2 => t.sep k h2 h1), t.bn, fun k h1 h2 => (s.own k h1).elim (fun e => t.sep k e h2) (fun e => by have := t.b.lts k h2; omega)⟩
theorem HB.actB (t : HB w W h L K H o m R O) (s : RH (ownRH o m R O) W W' o m R2 O2) : HB w W' h L K H o m R2 O2 :=
  ⟨⟨t.a.r.upd_ s.up (fun k h1 h2 => t.sep k h1 h2), t.a.n, t.a.up.over s.up t.bn⟩, s.rep, fun k hk => (s.own k hk).elim (t.bn k) (fun e => Nat.le_trans t.a.up.size e),
    fun k h1 h2 => (s.own k h2).elim (fun e => t.sep k h1 e) (fun e => by have := t.a.r.lts k h1; omega)⟩
/-- A copy goes on; the old host's blocks may have changed. -/
theorem HB.copy {wc : World} {b : Nat} (t : HB w W h L K H o m R O) (r : HRep wc b L' K' H2) (n : ∀ k, ownH b L' K' H2 k → W.heap.size ≤ k) (u : Upd Non W wc) (up : Upd (ownH h L K H) wc W') : HB w W' b L' K' H2 o m R O := by
  have hz := t.a.up.size
  refine ⟨⟨r.upd_ up fun k h1 h2 => ?_, fun k hk => Nat.le_trans hz (n k hk), (t.a.up.trans u).over up t.a.n⟩, (t.b.non u).upd_ up (fun k h1 h2 => t.sep k h2 h1), t.bn, fun k h1 h2 => ?_⟩
  · have := n k h1
    have := t.a.r.lts k h2
    omega
  · have := n k h1
    have := t.b.lts k h2
    omega
theorem HB.start {w1 w2 : World} (r : HRep w1 h L K H) (n : ∀ k, ownH h L K H k → w.heap.size ≤ k) (u : Upd Non w w1) (r2 : RHRep w2 o m R O) (n2 : ∀ k, ownRH o m R O k → w1.heap.size ≤ k) (u2 : Upd Non w1 w2) : HB w w2 h L K H o m R O :=
  ⟨⟨r.non u2, n, u.trans u2⟩, r2, fun k hk => Nat.le_trans u.size (n2 k hk), fun k h1 h2 => by have := r.lts k h1; have := n2 k h2; omega⟩
end

end U
end Go.Proofs.YtnhplapcdgnaaaaGreatDoor

set_option linter.unusedVariables false
set_option linter.unusedSimpArgs false
namespace Go.Proofs.YtnhplapcdgnaaaaGreatDoor
open Go.RowKit
namespace U

/-! Slices of ints; the reference's SameNumbers. -/
def IAt (w : World) (v : Value) (l : List Int) : Prop :=
  (v = .slice none 0 0 ∧ l = []) ∨ ∃ g o cap, v = .slice (some ⟨g, o, none⟩) l.length cap ∧ g < w.heap.size ∧ ∀ i x, l[i]? = some x → w.cell? ⟨g, o + i, none⟩ = some (.int .i64 x)
theorem IAt.upd_ {S : Nat → Prop} {w w' : World} {v : Value} {l : List Int} (h : IAt w v l) (u : Upd S w w') (hS : ∀ g, v.ownBlock = some g → ¬ S g) : IAt w' v l := by
  rcases h with h | ⟨g, o, cap, rfl, hg, h⟩
  · exact .inl h
  · exact .inr ⟨g, o, cap, rfl, Nat.lt_of_lt_of_le hg u.size, fun i x hx => u.cell (h i x hx) (hS g rfl)⟩
theorem IAt.form {w : World} {v : Value} {l : List Int} (h : IAt w v l) : ∃ A cap, v = .slice A l.length cap := by
  rcases h with ⟨rfl, rfl⟩ | ⟨g, o, cap, rfl, _⟩
  · exact ⟨_, _, rfl⟩
  · exact ⟨_, _, rfl⟩
theorem IAt.at_ {w : World} {v : Value} {l : List Int} (h : IAt w v l) {i : Nat} (hi : i < l.length) : ∃ g o cap, v = .slice (some ⟨g, o, none⟩) l.length cap ∧ g < w.heap.size ∧ w.cell? ⟨g, o + i, none⟩ = some (.int .i64 l[i]) := by
  rcases h with ⟨rfl, rfl⟩ | ⟨g, o, cap, rfl, hg, h⟩
  · simp at hi
  · exact ⟨g, o, cap, rfl, hg, h i _ (List.getElem?_eq_getElem hi)⟩

end U
end Go.Proofs.YtnhplapcdgnaaaaGreatDoor
