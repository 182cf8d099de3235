import Derived.Test.YtnhplapcdgnaaaaGuestA
import Derived.Test.YtnhplapcdgnaaaaRMapD
import Derived.Test.YtnhplapcdgnaaaaRCache
set_option linter.unusedVariables false
set_option linter.unusedSimpArgs false
namespace Go.Proofs.Ytnhplapcdgnaaaa
open Go.RowKit
namespace U

/-! The reference's guest: its map at the head of a block of 68 cells; behind it its cache's slice, its table, its walks. -/
def xg (v : Value) (root walks : Int) : Nat → Value := fun i => if i = 65 then v else if i = 66 then .int .i64 root else .int .i64 walks
structure RG (w W : World) (m r : Nat) (v0 v : Value) (P : PoolM) (M : MapM) (C : List EntryM) (root walks : Int) : Prop where
  rp : RPoolRep W m P
  mr : RMRep W r 109 68 m M (xg v root walks)
  ev : ERow W v C
  fv : v = v0 ∨ Fresh w v
  up : Upd (ownR m r) w W
section
variable {w W W' : World} {m r : Nat} {v0 v v' : Value} {P P' : PoolM} {M M' : MapM} {C C' : List EntryM} {root walks : Int}
theorem RG.start (rp : RPoolRep w m P) (mr : RMRep w r 109 68 m M (xg v root walks)) (ev : ERow w v C) : RG w w m r v v P M C root walks := ⟨rp, mr, ev, .inl rfl, Upd.refl _ _⟩
theorem RG.ne (t : RG w W m r v0 v P M C root walks) : r ≠ m ∧ ∀ k, v.ownBlock = some k → k ≠ m ∧ k ≠ r := by
  obtain ⟨_, hm, _⟩ := t.rp.row
  obtain ⟨_, hr, _⟩ := t.mr.row
  refine ⟨hr.ne_ hm (by decide), fun k hk => ⟨?_, ?_⟩⟩
  · rintro rfl; exact t.ev.ne_row hm (by decide) hk
  · rintro rfl; exact t.ev.ne_row hr (by decide) hk
theorem RG.non (t : RG w W m r v0 v P M C root walks) (u : Upd Non W W') : RG w W' m r v0 v P M C root walks :=
  ⟨t.rp.upd_ u (fun h => h), t.mr.upd_ u (fun h => h), t.ev.upd_ u (fun _ _ => (fun h => h)), t.fv, t.up.over' u (fun _ h => h.elim)⟩
theorem RG.alloc (t : RG w W m r v0 v P M C root walks) (o : Obj) : RG w (W.alloc o) m r v0 v P M C root walks := t.non ((Upd.refl _ _).alloc o)
theorem RG.drewN (t : RG w W m r v0 v P M C root walks) (n : Nat) : RG w (W.drewN n) m r v0 v P M C root walks := t.non ((Upd.refl _ _).drewN n)
theorem RG.drew (t : RG w W m r v0 v P M C root walks) : RG w W.drew m r v0 v P M C root walks := t.non (Upd.refl _ _).drew
theorem RG.mapP (t : RG w W m r v0 v P M C root walks) (rp : RPoolRep W' m P') (mr : RMRep W' r 109 68 m M' (xg v root walks)) (u : Upd (ownR m r) W W') : RG w W' m r v0 v P' M' C root walks :=
  ⟨rp, mr, t.ev.upd_ u (fun k hk h => h.elim (t.ne.2 k hk).1 (t.ne.2 k hk).2), t.fv, t.up.trans u⟩
theorem RG.pool (t : RG w W m r v0 v P M C root walks) (rp : RPoolRep W' m P') (u : Upd (at1 m) W W') : RG w W' m r v0 v P' M C root walks :=
  t.mapP rp (t.mr.upd_ u t.ne.1) u.mR
theorem RG.setX (t : RG w W m r v0 v P M C root walks) {i : Nat} {z : Value} {root' walks' : Int} (hi : 65 ≤ i) (hz : ∀ j, 65 ≤ j → j < 68 → upd (xg v root walks) i z j = xg v' root' walks' j) (e : ERow W v' C') (f : v' = v0 ∨ Fresh w v') :
    RG w (W.setCell ⟨r, i, none⟩ z) m r v0 v' P M C' root' walks' := by
  have u : Upd (at1 r) W (W.setCell ⟨r, i, none⟩ z) := (Upd.refl _ _).setCell (p := ⟨r, i, none⟩) (fun _ => at1_self) _
  obtain ⟨_, hr, _⟩ := t.mr.row
  obtain ⟨c, h1, h2, h3, h4⟩ := (t.mr.setX (v := z) hi).row
  exact ⟨t.rp.upd_ u (fun h => t.ne.1 h.symm), ⟨⟨c, h1, h2, h3, fun j a b => (h4 j a b).trans (hz j a b)⟩, t.mr.big⟩, e.farRow hr (by decide) _, f, t.up.trans u.gR⟩
theorem RG.setC (t : RG w W m r v0 v P M C root walks) (e : ERow W v' C') (f : Fresh w v') : RG w (W.setCell ⟨r, 65, none⟩ v') m r v0 v' P M C' root walks :=
  t.setX (by omega) (fun j h1 h2 => by
    have : j = 65 ∨ j = 66 ∨ j = 67 := by omega
    rcases this with rfl | rfl | rfl <;> rfl) e (.inr f)
theorem RG.setRoot (t : RG w W m r v0 v P M C root walks) (n : Int) : RG w (W.setCell ⟨r, 66, none⟩ (.int .i64 n)) m r v0 v P M C n walks :=
  t.setX (by omega) (fun j h1 h2 => by
    have : j = 65 ∨ j = 66 ∨ j = 67 := by omega
    rcases this with rfl | rfl | rfl <;> rfl) t.ev t.fv
theorem RG.setWalks (t : RG w W m r v0 v P M C root walks) (n : Int) : RG w (W.setCell ⟨r, 67, none⟩ (.int .i64 n)) m r v0 v P M C root n :=
  t.setX (by omega) (fun j h1 h2 => by
    have : j = 65 ∨ j = 66 ∨ j = 67 := by omega
    rcases this with rfl | rfl | rfl <;> rfl) t.ev t.fv
theorem RG.c65 (t : RG w W m r v0 v P M C root walks) : W.cell? ⟨r, 65, none⟩ = some v := t.mr.xc (by omega) (by omega)
theorem RG.c66 (t : RG w W m r v0 v P M C root walks) : W.cell? ⟨r, 66, none⟩ = some (.int .i64 root) := t.mr.xc (by omega) (by omega)
theorem RG.c67 (t : RG w W m r v0 v P M C root walks) : W.cell? ⟨r, 67, none⟩ = some (.int .i64 walks) := t.mr.xc (by omega) (by omega)
theorem RG.c0 (t : RG w W m r v0 v P M C root walks) : W.cell? ⟨r, 0, none⟩ = some (.pointer (some ⟨m, 0, none⟩)) := t.mr.c0
theorem RG.fr (t : RG w W m r v0 v P M C root walks) (i : Nat) : W.frozen? ⟨r, i, none⟩ = false := t.mr.fr i
theorem RG.lt (t : RG w W m r v0 v P M C root walks) : r < W.heap.size := t.mr.lt
/-- An act within another one. -/
theorem RG.inner (t : RG w W m r v0 v P M C root walks) {root' walks' : Int} (s : RG W W' m r v v' P' M' C' root' walks') : RG w W' m r v0 v' P' M' C' root' walks' :=
  ⟨s.rp, s.mr, s.ev, s.fv.elim (fun e => e ▸ t.fv) (fun e => .inr fun g hg => Nat.le_trans t.up.size (e g hg)), t.up.trans s.up⟩
end
/-- What an act leaves. -/
def RGPost (w : World) (m r : Nat) (v0 : Value) (res : Value) (P' : PoolM) (G' : GuestM) (e : Ending) (w' : World) : Prop :=
  e = .returned res ∧ ∃ v', RG w w' m r v0 v' P' G'.m G'.c G'.root G'.walks

end U
end Go.Proofs.Ytnhplapcdgnaaaa
