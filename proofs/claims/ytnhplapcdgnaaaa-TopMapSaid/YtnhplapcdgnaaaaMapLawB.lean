import Derived.Test.YtnhplapcdgnaaaaMapLawA
set_option linter.unusedVariables false
set_option linter.unusedSimpArgs false
namespace Go.Proofs.Ytnhplapcdgnaaaa
open Go.RowKit
namespace U

/-- What an act on two maps and their models may change. -/
def stepS (L : PoolAt) (m g r : Nat) : Nat → Prop := fun k => ownM L g k ∨ ownR m r k
def xn : Nat → Value := fun _ => undef
/-- A pool and two maps, their models; A is the one that acts. -/
structure D2 (w W : World) (L : PoolAt) (m g0 g1 r0 r1 : Nat) (P : PoolM) (A B : MapM) (Q : PoolM) (RA RB : MapM) : Prop where
  rp : PoolRep W L P
  rm : RPoolRep W m Q
  a : MRep W g0 146 65 L.p A
  b : MRep W g1 146 65 L.p B
  ra : RMRep W r0 93 65 m RA xn
  rb : RMRep W r1 93 65 m RB xn
  gne : g0 ≠ g1
  rne : r0 ≠ r1
  up : Upd (stepS L m g0 r0) w W
/-- .. beside a box with an act. -/
structure D2X (w W : World) (L : PoolAt) (m g0 g1 r0 r1 : Nat) (P : PoolM) (A B : MapM) (Q : PoolM) (RA RB : MapM) (bx : Nat) (x : ActM) : Prop extends D2 w W L m g0 g1 r0 r1 P A B Q RA RB where
  ax : Row W bx 31 6 (fun i => [Value.string x.kind, .int .i64 x.n, .int .i64 x.a, .int .i64 x.b, .int .u8 x.v.toNat, .bool x.on].getD i undef)
section
variable {w W W' : World} {L : PoolAt} {m g0 g1 r0 r1 bx : Nat} {P P' Q Q' : PoolM} {A B A' RA RB RA' : MapM} {x : ActM}
theorem D2.nes (t : D2 w W L m g0 g1 r0 r1 P A B Q RA RB) : (g0 ≠ L.p ∧ g0 ≠ L.bb ∧ g0 ≠ L.rb) ∧ (g1 ≠ L.p ∧ g1 ≠ L.bb ∧ g1 ≠ L.rb) ∧ (r0 ≠ L.p ∧ r0 ≠ L.bb ∧ r0 ≠ L.rb) ∧ (r1 ≠ L.p ∧ r1 ≠ L.bb ∧ r1 ≠ L.rb) ∧ (g0 ≠ m ∧ g1 ≠ m ∧ r0 ≠ m ∧ r1 ≠ m) ∧ (g0 ≠ r0 ∧ g0 ≠ r1 ∧ g1 ≠ r0 ∧ g1 ≠ r1) := by
  obtain ⟨_, hA, _⟩ := t.a.row
  obtain ⟨_, hB, _⟩ := t.b.row
  obtain ⟨_, hC, _⟩ := t.ra.row
  obtain ⟨_, hD, _⟩ := t.rb.row
  obtain ⟨_, hM, _⟩ := t.rm.row
  exact ⟨map_ne t.rp t.a (by decide) (by decide) (by decide), map_ne t.rp t.b (by decide) (by decide) (by decide), map_ne t.rp t.ra.toM (by decide) (by decide) (by decide), map_ne t.rp t.rb.toM (by decide) (by decide) (by decide),
    ⟨hA.ne_ hM (by decide), hB.ne_ hM (by decide), hC.ne_ hM (by decide), hD.ne_ hM (by decide)⟩, ⟨hA.ne_ hC (by decide), hA.ne_ hD (by decide), hB.ne_ hC (by decide), hB.ne_ hD (by decide)⟩⟩
theorem D2.non (t : D2 w W L m g0 g1 r0 r1 P A B Q RA RB) (u : Upd Non W W') : D2 w W' L m g0 g1 r0 r1 P A B Q RA RB :=
  ⟨t.rp.upd_ u (fun h => h) (fun h => h) (fun h => h), t.rm.upd_ u (fun h => h), t.a.upd_ u (fun h => h), t.b.upd_ u (fun h => h), t.ra.upd_ u (fun h => h), t.rb.upd_ u (fun h => h), t.gne, t.rne, t.up.trans (u.mono fun _ _ h => h.elim)⟩
theorem D2.stepP (t : D2 w W L m g0 g1 r0 r1 P A B Q RA RB) (h1 : PoolRep W' L P') (h2 : MRep W' g0 146 65 L.p A') (u : Upd (ownM L g0) W W') : D2 w W' L m g0 g1 r0 r1 P' A' B Q RA RB := by
  obtain ⟨_, ⟨b0, b1, b2⟩, ⟨c0, c1, c2⟩, ⟨d0, d1, d2⟩, ⟨e0, e1, e2, e3⟩, f0, f1, f2, f3⟩ := t.nes
  have hm := pool_ne t.rp t.rm
  refine ⟨h1, t.rm.upd_ u ?_, h2, t.b.upd_ u ?_, t.ra.upd_ u ?_, t.rb.upd_ u ?_, t.gne, t.rne, t.up.trans (u.mono fun _ _ h => .inl h)⟩
  · rintro ((h | h) | h)
    · exact hm.2.1 h
    · exact hm.2.2 h
    · exact e0 h.symm
  · rintro ((h | h) | h)
    · exact b1 h
    · exact b2 h
    · exact t.gne h.symm
  · rintro ((h | h) | h)
    · exact c1 h
    · exact c2 h
    · exact f0 h.symm
  · rintro ((h | h) | h)
    · exact d1 h
    · exact d2 h
    · exact f1 h.symm
theorem D2.stepR (t : D2 w W L m g0 g1 r0 r1 P A B Q RA RB) (h1 : RPoolRep W' m Q') (h2 : RMRep W' r0 93 65 m RA' xn) (u : Upd (ownR m r0) W W') : D2 w W' L m g0 g1 r0 r1 P A B Q' RA' RB := by
  obtain ⟨⟨a0, a1, a2⟩, ⟨b0, b1, b2⟩, ⟨c0, c1, c2⟩, ⟨d0, d1, d2⟩, ⟨e0, e1, e2, e3⟩, f0, f1, f2, f3⟩ := t.nes
  have hm := pool_ne t.rp t.rm
  refine ⟨t.rp.upd_ u ?_ ?_ ?_, h1, t.a.upd_ u ?_, t.b.upd_ u ?_, h2, t.rb.upd_ u ?_, t.gne, t.rne, t.up.trans (u.mono fun _ _ h => .inr h)⟩
  · rintro (h | h)
    · exact hm.1 h.symm
    · exact c0 h.symm
  · rintro (h | h)
    · exact hm.2.1 h.symm
    · exact c1 h.symm
  · rintro (h | h)
    · exact hm.2.2 h.symm
    · exact c2 h.symm
  · rintro (h | h)
    · exact e0 h
    · exact f0 h
  · rintro (h | h)
    · exact e1 h
    · exact f2 h
  · rintro (h | h)
    · exact e3 h
    · exact t.rne h.symm
theorem D2X.ane (t : D2X w W L m g0 g1 r0 r1 P A B Q RA RB bx x) : bx ≠ L.p ∧ bx ≠ L.bb ∧ bx ≠ L.rb ∧ bx ≠ g0 ∧ bx ≠ m ∧ bx ≠ r0 := by
  obtain ⟨_, _, hB, _⟩ := t.rp.bytes
  obtain ⟨_, _, hR, _⟩ := t.rp.counts
  obtain ⟨_, hA, _⟩ := t.a.row
  obtain ⟨_, hC, _⟩ := t.ra.row
  obtain ⟨_, hM, _⟩ := t.rm.row
  exact ⟨t.ax.ne_ t.rp.st (by decide), t.ax.ne_ hB (by decide), t.ax.ne_ hR (by decide), t.ax.ne_ hA (by decide), t.ax.ne_ hM (by decide), t.ax.ne_ hC (by decide)⟩
theorem D2X.non (t : D2X w W L m g0 g1 r0 r1 P A B Q RA RB bx x) (u : Upd Non W W') : D2X w W' L m g0 g1 r0 r1 P A B Q RA RB bx x := ⟨t.toD2.non u, t.ax.upd_ u (fun h => h)⟩
theorem D2X.drewN (t : D2X w W L m g0 g1 r0 r1 P A B Q RA RB bx x) (n : Nat) : D2X w (W.drewN n) L m g0 g1 r0 r1 P A B Q RA RB bx x := t.non ((Upd.refl _ _).drewN n)
theorem D2X.drew (t : D2X w W L m g0 g1 r0 r1 P A B Q RA RB bx x) : D2X w W.drew L m g0 g1 r0 r1 P A B Q RA RB bx x := t.non (Upd.refl _ _).drew
theorem D2X.stepP (t : D2X w W L m g0 g1 r0 r1 P A B Q RA RB bx x) (h1 : PoolRep W' L P') (h2 : MRep W' g0 146 65 L.p A') (u : Upd (ownM L g0) W W') : D2X w W' L m g0 g1 r0 r1 P' A' B Q RA RB bx x := by
  obtain ⟨_, h3, h4, h5, _, _⟩ := t.ane
  refine ⟨t.toD2.stepP h1 h2 u, t.ax.upd_ u ?_⟩
  rintro ((h | h) | h)
  · exact h3 h
  · exact h4 h
  · exact h5 h
theorem D2X.stepR (t : D2X w W L m g0 g1 r0 r1 P A B Q RA RB bx x) (h1 : RPoolRep W' m Q') (h2 : RMRep W' r0 93 65 m RA' xn) (u : Upd (ownR m r0) W W') : D2X w W' L m g0 g1 r0 r1 P A B Q' RA' RB bx x := by
  obtain ⟨_, _, _, _, h6, h7⟩ := t.ane
  refine ⟨t.toD2.stepR h1 h2 u, t.ax.upd_ u ?_⟩
  rintro (h | h)
  · exact h6 h
  · exact h7 h
/-- An act on the map alone. -/
theorem D2X.stepG (t : D2X w W L m g0 g1 r0 r1 P A B Q RA RB bx x) (h2 : MRep W' g0 146 65 L.p A') (u : Upd (at1 g0) W W') : D2X w W' L m g0 g1 r0 r1 P A' B Q RA RB bx x := by
  obtain ⟨⟨a0, a1, a2⟩, _⟩ := t.nes
  exact t.stepP (t.rp.upd_ u (fun h => a0 h.symm) (fun h => a1 h.symm) (fun h => a2 h.symm)) h2 (u.mono fun _ _ h => .inr h)
/-- .. on the pool alone. -/
theorem D2X.stepL (t : D2X w W L m g0 g1 r0 r1 P A B Q RA RB bx x) (h1 : PoolRep W' L P') (u : Upd L.own W W') : D2X w W' L m g0 g1 r0 r1 P' A B Q RA RB bx x := by
  obtain ⟨⟨a0, a1, a2⟩, _⟩ := t.nes
  exact t.stepP h1 (t.a.upd_ u (fun h => h.elim a1 a2)) u.toM
theorem D2X.stepM (t : D2X w W L m g0 g1 r0 r1 P A B Q RA RB bx x) (h1 : RPoolRep W' m Q') (u : Upd (at1 m) W W') : D2X w W' L m g0 g1 r0 r1 P A B Q' RA RB bx x := by
  obtain ⟨_, _, _, _, ⟨_, _, e2, _⟩, _⟩ := t.nes
  exact t.stepR h1 (t.ra.upd_ u (fun h => e2 h)) u.mR
theorem D2X.a2 (t : D2X w W L m g0 g1 r0 r1 P A B Q RA RB bx x) : W.cell? ⟨bx, 2, none⟩ = some (.int .i64 x.a) := t.ax.cell (i := 2) (by omega)
theorem D2X.a3 (t : D2X w W L m g0 g1 r0 r1 P A B Q RA RB bx x) : W.cell? ⟨bx, 3, none⟩ = some (.int .i64 x.b) := t.ax.cell (i := 3) (by omega)
theorem D2X.a4 (t : D2X w W L m g0 g1 r0 r1 P A B Q RA RB bx x) : W.cell? ⟨bx, 4, none⟩ = some (.int .u8 x.v.toNat) := t.ax.cell (i := 4) (by omega)
end

/-- A byte of any frame. -/
theorem MInv.setAny {P : PoolM} {M : MapM} {E : Nat → Nat} (h : MInv P M E) (f a : Int) (v : UInt8) : MInv (P.set f a v).1 M E := by
  have e1 := set_refs P f a v
  have e2 := set_n P f a v
  refine ⟨h.st, fun i hi ht => ?_, h.none, fun i hi => ?_, h.small⟩
  · have := h.here i hi ht; rw [e2]; exact this
  · rw [e1]; exact h.cnt i (by rw [← e2]; exact hi)
/-- An act answered the same. -/
def MappedPost (w : World) (L : PoolAt) (m g0 g1 r0 r1 : Nat) (P : PoolM) (A B : MapM) (E : Nat → Nat) (e : Ending) (w' : World) : Prop :=
  e = .returned (.bool true) ∧ ∃ P' A', D2 w w' L m g0 g1 r0 r1 P' A' B P' A' B ∧ P'.n = P.n ∧ MInv P' A' E

set_option maxRecDepth 100000 in
set_option maxHeartbeats 8000000 in
theorem mapped_law (w : World) (L : PoolAt) (m g0 g1 r0 r1 : Nat) (P : PoolM) (A B : MapM) {E : Nat → Nat} (hI : MInv P A E) (t : D2 w w L m g0 g1 r0 r1 P A B P A B) (x : ActM) :
    Calls Try.prog 52 #[.pointer (some ⟨g0, 0, none⟩), .pointer (some ⟨r0, 0, none⟩), .pointer (some ⟨L.p, 0, none⟩), .pointer (some ⟨m, 0, none⟩), .agg #[.string x.kind, .int .i64 x.n, .int .i64 x.a, .int .i64 x.b, .int .u8 x.v.toNat, .bool x.on]] w
      (MappedPost w L m g0 g1 r0 r1 P A B E) := by
  have T : D2X w (w.alloc (.cells #[.string x.kind, .int .i64 x.n, .int .i64 x.a, .int .i64 x.b, .int .u8 x.v.toNat, .bool x.on] 31)) L m g0 g1 r0 r1 P A B P A B w.heap.size x := ⟨t.non ((Upd.refl _ _).alloc _), ⟨_, heap_alloc_new w _, rfl, fun i hi => by
    have : i = 0 ∨ i = 1 ∨ i = 2 ∨ i = 3 ∨ i = 4 ∨ i = 5 := by omega
    rcases this with rfl | rfl | rfl | rfl | rfl | rfl <;> rfl⟩⟩
  have hM := Lib.hid hI.none
  have hF := Lib.hid (fun k hk ht => (hI.here k hk ht).2 : ∀ k, k < 16 → (A.leaf k).there = true → 0 ≤ (A.leaf k).frame ∧ (A.leaf k).frame < P.n)
  have HI := Lib.hid hI
  clear hI t
  go_enter Try.func52, Try.ntmps52
  go_wp2_with fail
  · -- plug
    go_region_held3 (fun w' => w'.cell? ⟨w.heap.size, 2, none⟩ = some (.int .i64 x.a)) (first | exact T2.a2 | simp) (first
      | (go_at_call 54; refine (plug_any _ g0 65 L.p A (D2.a (D2X.toD2 (bx := w.heap.size) (x := x) (by repeat (first | assumption | apply D2X.drew | apply D2X.drewN)))) _).mono ?_; rintro e w2 ⟨rfl, h2, u2⟩; have T2 := D2X.stepG (bx := w.heap.size) (x := x) (by repeat (first | assumption | apply D2X.drew | apply D2X.drewN)) h2 u2; have a2' := T2.a2)
      | (go_at_call 87; refine (rplug_any (by decide) _ P r0 A xn (D2.rm (D2X.toD2 (bx := w.heap.size) (x := x) (by repeat (first | assumption | apply D2X.drew | apply D2X.drewN)))) (D2.ra (D2X.toD2 (bx := w.heap.size) (x := x) (by repeat (first | assumption | apply D2X.drew | apply D2X.drewN)))) _).mono ?_; rintro e w2 ⟨rfl, h1, h2, u2⟩; have T2 := D2X.stepR (bx := w.heap.size) (x := x) (by repeat (first | assumption | apply D2X.drew | apply D2X.drewN)) h1 h2 u2; have a2' := T2.a2)
      | (go_at_call 29; refine (same_law _ _ _).mono ?_; rintro e w9 ⟨rfl, rfl⟩))
    all_goals go_wp2
    all_goals go_ret
    all_goals exact ⟨rfl, P, (mplug A x.a).1, (D2X.toD2 (bx := w.heap.size) (x := x) (by repeat (first | assumption | apply D2X.drew | apply D2X.drewN))), rfl, HI.out.plug _⟩
  · -- unplug
    go_region_held3 (fun w' => w'.cell? ⟨w.heap.size, 2, none⟩ = some (.int .i64 x.a)) (first | exact T2.a2 | simp) (first
      | (go_at_call 50; refine (unplug_any _ L P g0 65 A (D2.rp (D2X.toD2 (bx := w.heap.size) (x := x) (by repeat (first | assumption | apply D2X.drew | apply D2X.drewN)))) (D2.a (D2X.toD2 (bx := w.heap.size) (x := x) (by repeat (first | assumption | apply D2X.drew | apply D2X.drewN)))) _).mono ?_; rintro e w2 ⟨rfl, h1, h2, u2⟩; have T2 := D2X.stepP (bx := w.heap.size) (x := x) (by repeat (first | assumption | apply D2X.drew | apply D2X.drewN)) h1 h2 u2; have a2' := T2.a2)
      | (go_at_call 88; refine (runplug_any (by decide) _ P r0 A xn (D2.rm (D2X.toD2 (bx := w.heap.size) (x := x) (by repeat (first | assumption | apply D2X.drew | apply D2X.drewN)))) (D2.ra (D2X.toD2 (bx := w.heap.size) (x := x) (by repeat (first | assumption | apply D2X.drew | apply D2X.drewN)))) hM.out _).mono ?_; rintro e w2 ⟨rfl, h1, h2, u2⟩; have T2 := D2X.stepR (bx := w.heap.size) (x := x) (by repeat (first | assumption | apply D2X.drew | apply D2X.drewN)) h1 h2 u2; have a2' := T2.a2)
      | (go_at_call 29; refine (same_law _ _ _).mono ?_; rintro e w9 ⟨rfl, rfl⟩))
    all_goals go_wp2
    all_goals go_ret
    all_goals exact ⟨rfl, _, _, (D2X.toD2 (bx := w.heap.size) (x := x) (by repeat (first | assumption | apply D2X.drew | apply D2X.drewN))), (HI.out.unplug _).n, (HI.out.unplug _).inv⟩
  · -- give
    go_region_held3 (fun w' => w'.cell? ⟨w.heap.size, 2, none⟩ = some (.int .i64 x.a)) (first | exact T2.a2 | simp) (first
      | (go_at_call 89; refine (give_any _ L P g0 65 A (D2.rp (D2X.toD2 (bx := w.heap.size) (x := x) (by repeat (first | assumption | apply D2X.drew | apply D2X.drewN)))) (D2.a (D2X.toD2 (bx := w.heap.size) (x := x) (by repeat (first | assumption | apply D2X.drew | apply D2X.drewN)))) _).mono ?_; rintro e w2 ⟨rfl, h1, h2, u2⟩; have T2 := D2X.stepP (bx := w.heap.size) (x := x) (by repeat (first | assumption | apply D2X.drew | apply D2X.drewN)) h1 h2 u2; have a2' := T2.a2)
      | (go_at_call 90; refine (rgive_any (by decide) _ P r0 A xn (D2.rm (D2X.toD2 (bx := w.heap.size) (x := x) (by repeat (first | assumption | apply D2X.drew | apply D2X.drewN)))) (D2.ra (D2X.toD2 (bx := w.heap.size) (x := x) (by repeat (first | assumption | apply D2X.drew | apply D2X.drewN)))) hM.out _).mono ?_; rintro e w2 ⟨rfl, h1, h2, u2⟩; have T2 := D2X.stepR (bx := w.heap.size) (x := x) (by repeat (first | assumption | apply D2X.drew | apply D2X.drewN)) h1 h2 u2; have a2' := T2.a2)
      | (go_at_call 29; refine (same_law _ _ _).mono ?_; rintro e w9 ⟨rfl, rfl⟩))
    all_goals go_wp2
    all_goals go_ret
    all_goals exact ⟨rfl, _, _, (D2X.toD2 (bx := w.heap.size) (x := x) (by repeat (first | assumption | apply D2X.drew | apply D2X.drewN))), (HI.out.give _).n, (HI.out.give _).inv⟩
  · -- back
    go_region_held3 (fun w' => w'.cell? ⟨w.heap.size, 2, none⟩ = some (.int .i64 x.a)) (first | exact T2.a2 | simp) (first
      | (go_at_call 91; refine (back_any _ g0 65 L.p A (D2.a (D2X.toD2 (bx := w.heap.size) (x := x) (by repeat (first | assumption | apply D2X.drew | apply D2X.drewN)))) _).mono ?_; rintro e w2 ⟨rfl, h2, u2⟩; have T2 := D2X.stepG (bx := w.heap.size) (x := x) (by repeat (first | assumption | apply D2X.drew | apply D2X.drewN)) h2 u2; have a2' := T2.a2)
      | (go_at_call 90; refine (rback_any (by decide) _ P r0 A xn (D2.rm (D2X.toD2 (bx := w.heap.size) (x := x) (by repeat (first | assumption | apply D2X.drew | apply D2X.drewN)))) (D2.ra (D2X.toD2 (bx := w.heap.size) (x := x) (by repeat (first | assumption | apply D2X.drew | apply D2X.drewN)))) _).mono ?_; rintro e w2 ⟨rfl, h1, h2, u2⟩; have T2 := D2X.stepR (bx := w.heap.size) (x := x) (by repeat (first | assumption | apply D2X.drew | apply D2X.drewN)) h1 h2 u2; have a2' := T2.a2)
      | (go_at_call 29; refine (same_law _ _ _).mono ?_; rintro e w9 ⟨rfl, rfl⟩))
    all_goals go_wp2
    all_goals go_ret
    all_goals exact ⟨rfl, P, (mback A x.a).1, (D2X.toD2 (bx := w.heap.size) (x := x) (by repeat (first | assumption | apply D2X.drew | apply D2X.drewN))), rfl, HI.out.back _⟩
  · -- seal
    go_region_held3 (fun w' => w'.cell? ⟨w.heap.size, 2, none⟩ = some (.int .i64 x.a)) (first | exact T2.a2 | simp) (first
      | (go_at_call 58; refine (mseal_any _ g0 65 L.p A (D2.a (D2X.toD2 (bx := w.heap.size) (x := x) (by repeat (first | assumption | apply D2X.drew | apply D2X.drewN)))) _).mono ?_; rintro e w2 ⟨rfl, h2, u2⟩; have T2 := D2X.stepG (bx := w.heap.size) (x := x) (by repeat (first | assumption | apply D2X.drew | apply D2X.drewN)) h2 u2; have a2' := T2.a2)
      | (go_at_call 92; refine (rseal_any (by decide) _ P r0 A xn (D2.rm (D2X.toD2 (bx := w.heap.size) (x := x) (by repeat (first | assumption | apply D2X.drew | apply D2X.drewN)))) (D2.ra (D2X.toD2 (bx := w.heap.size) (x := x) (by repeat (first | assumption | apply D2X.drew | apply D2X.drewN)))) _).mono ?_; rintro e w2 ⟨rfl, h1, h2, u2⟩; have T2 := D2X.stepR (bx := w.heap.size) (x := x) (by repeat (first | assumption | apply D2X.drew | apply D2X.drewN)) h1 h2 u2; have a2' := T2.a2)
      | (go_at_call 29; refine (same_law _ _ _).mono ?_; rintro e w9 ⟨rfl, rfl⟩))
    all_goals go_wp2
    all_goals go_ret
    all_goals exact ⟨rfl, P, (mseal A x.a).1, (D2X.toD2 (bx := w.heap.size) (x := x) (by repeat (first | assumption | apply D2X.drew | apply D2X.drewN))), rfl, HI.out.sealed _⟩
  · -- join
    go_region_held3 (fun w' => w'.cell? ⟨w.heap.size, 2, none⟩ = some (.int .i64 x.a) ∧ w'.cell? ⟨w.heap.size, 3, none⟩ = some (.int .i64 x.b)) (first | exact ⟨T2.a2, T2.a3⟩ | simp) (first
      | (go_at_call 57; refine (join_any _ L P g0 65 A (D2.rp (D2X.toD2 (bx := w.heap.size) (x := x) (by repeat (first | assumption | apply D2X.drew | apply D2X.drewN)))) (D2.a (D2X.toD2 (bx := w.heap.size) (x := x) (by repeat (first | assumption | apply D2X.drew | apply D2X.drewN)))) _ _).mono ?_; rintro e w2 ⟨rfl, h1, h2, u2⟩; have T2 := D2X.stepP (bx := w.heap.size) (x := x) (by repeat (first | assumption | apply D2X.drew | apply D2X.drewN)) h1 h2 u2; have a2' := T2.a2; have a3' := T2.a3)
      | (go_at_call 93; refine (rjoin_any (by decide) _ P r0 A xn (D2.rm (D2X.toD2 (bx := w.heap.size) (x := x) (by repeat (first | assumption | apply D2X.drew | apply D2X.drewN)))) (D2.ra (D2X.toD2 (bx := w.heap.size) (x := x) (by repeat (first | assumption | apply D2X.drew | apply D2X.drewN)))) _ _).mono ?_; rintro e w2 ⟨rfl, h1, h2, u2⟩; have T2 := D2X.stepR (bx := w.heap.size) (x := x) (by repeat (first | assumption | apply D2X.drew | apply D2X.drewN)) h1 h2 u2; have a2' := T2.a2; have a3' := T2.a3)
      | (go_at_call 29; refine (same_law _ _ _).mono ?_; rintro e w9 ⟨rfl, rfl⟩))
    all_goals go_wp2
    all_goals go_ret
    all_goals exact ⟨rfl, _, _, (D2X.toD2 (bx := w.heap.size) (x := x) (by repeat (first | assumption | apply D2X.drew | apply D2X.drewN))), (HI.out.join _ _).1.n, (HI.out.join _ _).1.inv⟩
  · -- set
    go_region_held3 (fun w' => w'.cell? ⟨w.heap.size, 2, none⟩ = some (.int .i64 x.a) ∧ w'.cell? ⟨w.heap.size, 3, none⟩ = some (.int .i64 x.b) ∧ w'.cell? ⟨w.heap.size, 4, none⟩ = some (.int .u8 x.v.toNat)) (first | exact ⟨T2.a2, T2.a3, T2.a4⟩ | simp) (first
      | (go_at_call 37; refine (set_any _ L P (D2.rp (D2X.toD2 (bx := w.heap.size) (x := x) (by repeat (first | assumption | apply D2X.drew | apply D2X.drewN)))) _ _ x.v).mono ?_; rintro e w2 ⟨rfl, h1, u2⟩; have T2 := D2X.stepL (bx := w.heap.size) (x := x) (by repeat (first | assumption | apply D2X.drew | apply D2X.drewN)) h1 u2; have a2' := T2.a2; have a3' := T2.a3; have a4' := T2.a4)
      | (go_at_call 38; refine (rset_any _ m P (D2.rm (D2X.toD2 (bx := w.heap.size) (x := x) (by repeat (first | assumption | apply D2X.drew | apply D2X.drewN)))) _ _ x.v).mono ?_; rintro e w2 ⟨rfl, h1, u2⟩; have T2 := D2X.stepM (bx := w.heap.size) (x := x) (by repeat (first | assumption | apply D2X.drew | apply D2X.drewN)) h1 u2; have a2' := T2.a2; have a3' := T2.a3; have a4' := T2.a4)
      | (go_at_call 29; refine (same_law _ _ _).mono ?_; rintro e w9 ⟨rfl, rfl⟩))
    all_goals go_wp2
    all_goals go_ret
    all_goals exact ⟨rfl, _, A, (D2X.toD2 (bx := w.heap.size) (x := x) (by repeat (first | assumption | apply D2X.drew | apply D2X.drewN))), set_n _ _ _ _, HI.out.setAny _ _ _⟩
  · -- touch
    go_wp2_with (first
      | (go_at_call 51; refine (touch_any _ L P g0 65 A (D2.rp (D2X.toD2 (bx := w.heap.size) (x := x) (by repeat (first | assumption | apply D2X.drew | apply D2X.drewN)))) (D2.a (D2X.toD2 (bx := w.heap.size) (x := x) (by repeat (first | assumption | apply D2X.drew | apply D2X.drewN)))) _ _ hF.out).mono ?_; rintro e w2 ⟨rfl, h1, h2, u2⟩; have T2 := D2X.stepP (bx := w.heap.size) (x := x) (by repeat (first | assumption | apply D2X.drew | apply D2X.drewN)) h1 h2 u2; have a2' := T2.a2; have a3' := T2.a3)
      | (go_at_call 94; refine (rtouch_any (by decide) _ P r0 A xn HI.out (D2.rm (D2X.toD2 (bx := w.heap.size) (x := x) (by repeat (first | assumption | apply D2X.drew | apply D2X.drewN)))) (D2.ra (D2X.toD2 (bx := w.heap.size) (x := x) (by repeat (first | assumption | apply D2X.drew | apply D2X.drewN)))) _ _).mono ?_; rintro e w2 ⟨rfl, h1, h2, u2⟩; have T2 := D2X.stepR (bx := w.heap.size) (x := x) (by repeat (first | assumption | apply D2X.drew | apply D2X.drewN)) h1 h2 u2; have a2' := T2.a2; have a3' := T2.a3)
      | (go_at_call 29; refine (same_law _ _ _).mono ?_; rintro e w9 ⟨rfl, rfl⟩))
    all_goals go_ret
    all_goals exact ⟨rfl, _, _, D2X.toD2 (bx := w.heap.size) (x := x) (by repeat (first | assumption | apply D2X.drew | apply D2X.drewN)), (HI.out.touch _ _).1.n, (HI.out.touch _ _).1.inv⟩

end U
end Go.Proofs.Ytnhplapcdgnaaaa
