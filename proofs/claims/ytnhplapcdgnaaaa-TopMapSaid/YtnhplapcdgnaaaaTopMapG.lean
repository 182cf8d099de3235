import Derived.Test.YtnhplapcdgnaaaaTopMapE
set_option linter.unusedVariables false
set_option linter.unusedSimpArgs false
namespace Go.Proofs.Ytnhplapcdgnaaaa
open Go.RowKit
namespace U

/-! TopMap: leaves in boxes. -/
/-- A leaf in a block of its own. -/
def LBox (w : World) (B : Nat) (l : LeafM) : Prop := Row w B 33 3 (fun i => [Value.bool l.there, .bool l.write, .int .i64 l.frame].getD i undef)
section
variable {w W W' w2 : World} {L : PoolAt} {g0 g1 mb bb bx : Nat} {P P' : PoolM} {A B A' B' : MapM} {f : Nat → Nat → UInt8} {x : ActM} {Bx : Nat} {l l2 : LeafM} {Cz : Array Value}
theorem LBox.upd_ {S : Nat → Prop} (t : LBox W Bx l) (u : Upd S W W') (h : ¬ S Bx) : LBox W' Bx l := Row.upd_ t u h
theorem LBox.non (t : LBox W Bx l) (u : Upd Non W W') : LBox W' Bx l := t.upd_ u (fun h => h)
theorem LBox.drew (t : LBox W Bx l) : LBox W.drew Bx l := t.upd_ (Upd.refl Non _).drew (fun h => h)
theorem LBox.drewN (t : LBox W Bx l) (n : Nat) : LBox (W.drewN n) Bx l := t.upd_ ((Upd.refl Non _).drewN n) (fun h => h)
theorem LBox.c0 (t : LBox W Bx l) : W.cell? ⟨Bx, 0, none⟩ = some (.bool l.there) := Row.cell t (i := 0) (by omega)
theorem LBox.c2 (t : LBox W Bx l) : W.cell? ⟨Bx, 2, none⟩ = some (.int .i64 l.frame) := Row.cell t (i := 2) (by omega)
theorem LBox.lt (t : LBox W Bx l) : Bx < W.heap.size := Row.lt t
theorem LBox.new (w : World) (l : LeafM) : LBox (w.alloc (.cells #[.bool l.there, .bool l.write, .int .i64 l.frame] 33)) w.heap.size l :=
  (Row.new w 33 #[.bool l.there, .bool l.write, .int .i64 l.frame]).congr fun i hi => by
    have hi : i < 3 := hi
    have : i = 0 ∨ i = 1 ∨ i = 2 := by omega
    rcases this with rfl | rfl | rfl <;> rfl
theorem LBox.old (u2 : Upd Non (w.alloc (.cells Cz 33)) w2) (hC : Cz.size = 3) (l : LeafM) :
    LBox (((w2.setCell ⟨w.heap.size, 0, none⟩ (.bool l.there)).setCell ⟨w.heap.size, 1, none⟩ (.bool l.write)).setCell ⟨w.heap.size, 2, none⟩ (.int .i64 l.frame)) w.heap.size l := by
  have r := (Row.new w 33 Cz).upd_ u2 (fun h => h)
  rw [hC] at r
  exact (((r.set_ (i := 0) (.bool l.there)).set_ (i := 1) (.bool l.write)).set_ (i := 2) (.int .i64 l.frame)).congr fun i hi => by
    have : i = 0 ∨ i = 1 ∨ i = 2 := by omega
    rcases this with rfl | rfl | rfl <;> simp [upd]
theorem Upd.tbox {a w : World} {b : Nat} (u : Upd Non a w) (hb : a.heap.size ≤ b) (v0 v1 v2 : Value) :
    Upd Non a (((w.setCell ⟨b, 0, none⟩ v0).setCell ⟨b, 1, none⟩ v1).setCell ⟨b, 2, none⟩ v2) := by
  have h : ∀ i, (⟨b, i, none⟩ : Addr).block < a.heap.size → Non (⟨b, i, none⟩ : Addr).block := fun i h => absurd h (by show ¬ b < _; omega)
  exact (((u.setCell (h 0) v0).setCell (h 1) v1).setCell (h 2) v2)
theorem box3_non (u2 : Upd Non (w.alloc (.cells Cz 33)) w2) (v0 v1 v2 : Value) : Upd Non w (((w2.setCell ⟨w.heap.size, 0, none⟩ v0).setCell ⟨w.heap.size, 1, none⟩ v1).setCell ⟨w.heap.size, 2, none⟩ v2) := by
  have h : ∀ i, (⟨w.heap.size, i, none⟩ : Addr).block < w.heap.size → Non (⟨w.heap.size, i, none⟩ : Addr).block := fun i h => absurd h (by show ¬ w.heap.size < _; omega)
  exact ((((((Upd.refl _ _).alloc _).trans u2).setCell (h 0) v0).setCell (h 1) v1).setCell (h 2) v2)
theorem tbox_a {there write : Bool} {fr : Int} (t : TMX w w2 L g0 g1 mb bb P A B f bx x) :
    Hid (TMX w (w2.alloc (.cells #[.bool there, .bool write, .int .i64 fr] 33)) L g0 g1 mb bb P A B f bx x ∧ LBox (w2.alloc (.cells #[.bool there, .bool write, .int .i64 fr] 33)) w2.heap.size ⟨there, write, fr⟩) :=
  ⟨t.alloc _, LBox.new w2 ⟨there, write, fr⟩⟩
theorem tbox_b {there write : Bool} {fr : Int} (t : TMX w W L g0 g1 mb bb P A B f bx x) (u2 : Upd Non (W.alloc (.cells Cz 33)) w2) (hC : Cz.size = 3) :
    Hid (TMX w (((w2.setCell ⟨W.heap.size, 0, none⟩ (.bool there)).setCell ⟨W.heap.size, 1, none⟩ (.bool write)).setCell ⟨W.heap.size, 2, none⟩ (.int .i64 fr)) L g0 g1 mb bb P A B f bx x ∧
      LBox (((w2.setCell ⟨W.heap.size, 0, none⟩ (.bool there)).setCell ⟨W.heap.size, 1, none⟩ (.bool write)).setCell ⟨W.heap.size, 2, none⟩ (.int .i64 fr)) W.heap.size ⟨there, write, fr⟩) :=
  ⟨t.non (box3_non u2 _ _ _), LBox.old u2 hC ⟨there, write, fr⟩⟩
theorem tbox2_a {there write : Bool} {fr : Int} (t : TMX w w2 L g0 g1 mb bb P A B f bx x) (k : LBox w2 Bx l) :
    Hid (TMX w (w2.alloc (.cells #[.bool there, .bool write, .int .i64 fr] 33)) L g0 g1 mb bb P A B f bx x ∧ LBox (w2.alloc (.cells #[.bool there, .bool write, .int .i64 fr] 33)) Bx l ∧
      LBox (w2.alloc (.cells #[.bool there, .bool write, .int .i64 fr] 33)) w2.heap.size ⟨there, write, fr⟩) :=
  ⟨t.alloc _, k.upd_ ((Upd.refl Non _).alloc _) (fun h => h), LBox.new w2 ⟨there, write, fr⟩⟩
theorem tbox2_b {there write : Bool} {fr : Int} (t : TMX w W L g0 g1 mb bb P A B f bx x) (k : LBox W Bx l) (u2 : Upd Non (W.alloc (.cells Cz 33)) w2) (hC : Cz.size = 3) :
    Hid (TMX w (((w2.setCell ⟨W.heap.size, 0, none⟩ (.bool there)).setCell ⟨W.heap.size, 1, none⟩ (.bool write)).setCell ⟨W.heap.size, 2, none⟩ (.int .i64 fr)) L g0 g1 mb bb P A B f bx x ∧
      LBox (((w2.setCell ⟨W.heap.size, 0, none⟩ (.bool there)).setCell ⟨W.heap.size, 1, none⟩ (.bool write)).setCell ⟨W.heap.size, 2, none⟩ (.int .i64 fr)) Bx l ∧
      LBox (((w2.setCell ⟨W.heap.size, 0, none⟩ (.bool there)).setCell ⟨W.heap.size, 1, none⟩ (.bool write)).setCell ⟨W.heap.size, 2, none⟩ (.int .i64 fr)) W.heap.size ⟨there, write, fr⟩) :=
  ⟨t.non (box3_non u2 _ _ _), k.upd_ (box3_non u2 _ _ _) (fun h => h), LBox.old u2 hC ⟨there, write, fr⟩⟩
theorem lbox_offs (t : TMX w W L g0 g1 mb bb P A B f bx x) (k : LBox W Bx l) : ¬ ownM L g0 Bx ∧ ¬ ownM L g1 Bx := t.toTM.offs k (by decide) (by decide) (by decide)
theorem lbox_seals (t : TMX w W L g0 g1 mb bb P A B f bx x) (k : LBox W Bx l) (u : Upd (fun k => k = g0 ∨ k = g1) W W') : LBox W' Bx l := by
  have h := lbox_offs t k
  exact k.upd_ u (fun e => e.elim (fun e => h.1 (.inr e)) (fun e => h.2 (.inr e)))
theorem lbox_step0 (t : TMX w W L g0 g1 mb bb P A B f bx x) (k : LBox W Bx l) (u : Upd (ownM L g0) W W') : LBox W' Bx l := k.upd_ u (lbox_offs t k).1
theorem lbox_step1 (t : TMX w W L g0 g1 mb bb P A B f bx x) (k : LBox W Bx l) (u : Upd (ownM L g1) W W') : LBox W' Bx l := k.upd_ u (lbox_offs t k).2
theorem mleaf_there {M : MapM} {n fr : Int} {wr : Bool} {e : Nat} (h : mleaf M n = (⟨true, wr, fr⟩, e)) : ∃ k : Nat, k < 16 ∧ n = k ∧ (M.leaf k) = ⟨true, wr, fr⟩ := by
  unfold mleaf at h
  by_cases ho : onB n = true
  · rw [if_pos ho] at h
    have := onB_iff.1 ho
    exact ⟨n.toNat, by omega, by omega, congrArg Prod.fst h⟩
  · rw [if_neg ho] at h
    have := congrArg (fun y => y.1.there) h
    cases this
theorem same_comm {P : PoolM} {a b : Int} (h : P.same a b = true) : P.same b a = true := by
  have u := same_used h
  unfold PoolM.same
  rw [u.1, u.2.1, rowB_eq (fun j hj => (u.2.2 j hj).symm)]
  rfl
theorem join_ok {n : Nat} (hn : n < 16) {wr : Bool} {fx fy : Int} (h : A.leaf n = ⟨true, wr, fy⟩) (hne : ¬ fx = fy) (hs : P.same fx fy = true) :
    mjoin P (sealM A fx 16) (n : Int) fx = ((mjoin P (sealM A fx 16) (n : Int) fx).1, (mjoin P (sealM A fx 16) (n : Int) fx).2.1, 0) := by
  have s := sealM_same A fx 16 n
  rw [h] at s
  unfold mjoin
  rw [if_pos (onB_iff.2 ⟨by omega, by omega⟩), Int.toNat_natCast, s.1, s.2.1, if_pos]
  rw [same_comm hs]
  simpa using fun e => hne e.symm
end

end U
end Go.Proofs.Ytnhplapcdgnaaaa
