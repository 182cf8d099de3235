import Derived.Test.YtnhplapcdgnaaaaGreatGuestA
import Derived.Test.YtnhplapcdgnaaaaGreatMapHX
import Derived.Test.YtnhplapcdgnaaaaGreatRangeX
import Derived.Deep.RegionWith
set_option linter.unusedVariables false
set_option linter.unusedSimpArgs false
namespace Go.Proofs.YtnhplapcdgnaaaaGreat
open Go.RowKit
namespace U

/-! The program's guest: where it lies, what its acts change. -/
structure GAt where
  g : Nat
  mb : Nat
  cb : Nat
  v : Value
def GAt.own (K : GAt) : Nat → Prop := fun k => (k = K.g ∨ k = K.mb) ∨ (k = K.cb ∨ K.v.ownBlock = some k)
def GAt.vv (K : GAt) (v : Value) : GAt := { K with v := v }
def gcells (p : Nat) (K : GAt) (root walks : Int) : Nat → Value := fun i => [Value.pointer (some ⟨p, 0, none⟩), .pointer (some ⟨K.mb, 0, none⟩), .pointer (some ⟨K.cb, 0, none⟩), .int .i64 root, .int .i64 walks].getD i undef
/-- A guest: its struct, its map, its cache. -/
structure GRw (w : World) (p : Nat) (K : GAt) (M : MapM) (C : List EntryM) (root walks : Int) : Prop where
  row : Row w K.g 120 5 (gcells p K root walks)
  m : MRep w K.mb 140 65 p M
  cr : Row w K.cb 128 1 (fun _ => K.v)
  ev : ERow w K.v C
def GRep (w : World) (p : Nat) (K : GAt) (G : GuestM) : Prop := GRw w p K G.m (withLeaf G.m G.c) G.root G.walks
def ownG (L : PoolAt) (K : GAt) : Nat → Prop := fun k => L.own k ∨ K.own k

section
variable {w w' : World} {p : Nat} {K : GAt} {M : MapM} {C : List EntryM} {root walks : Int} {S : Nat → Prop}
theorem GRw.upd_ (r : GRw w p K M C root walks) (u : Upd S w w') (h : ∀ k, K.own k → ¬ S k) : GRw w' p K M C root walks :=
  ⟨r.row.upd_ u (h _ (.inl (.inl rfl))), r.m.upd_ u (h _ (.inl (.inr rfl))), r.cr.upd_ u (h _ (.inr (.inl rfl))), r.ev.upd_ u fun g hg => h _ (.inr (.inr hg))⟩
theorem GRw.lts (r : GRw w p K M C root walks) : ∀ k, K.own k → k < w.heap.size := by
  rintro k ((rfl | rfl) | (rfl | h))
  · exact r.row.lt
  · exact r.m.lt
  · exact r.cr.lt
  · exact r.ev.lt h
theorem GRw.nes (r : GRw w p K M C root walks) : (K.g ≠ K.mb ∧ K.g ≠ K.cb ∧ K.mb ≠ K.cb) ∧ ∀ k, K.v.ownBlock = some k → k ≠ K.g ∧ k ≠ K.mb ∧ k ≠ K.cb := by
  obtain ⟨_, hm, _⟩ := r.m.row
  refine ⟨⟨r.row.ne_ hm (by decide), r.row.ne_ r.cr (by decide), hm.ne_ r.cr (by decide)⟩, fun k hk => ⟨?_, ?_, ?_⟩⟩
  · rintro rfl; exact r.ev.ne_row r.row (by decide) hk
  · rintro rfl; exact r.ev.ne_row hm (by decide) hk
  · rintro rfl; exact r.ev.ne_row r.cr (by decide) hk
theorem GRw.off (r : GRw w p K M C root walks) {k T N : Nat} {f : Nat → Value} (h : Row w k T N f) (h1 : T ≠ 120) (h2 : T ≠ 140) (h3 : T ≠ 128) (h4 : T ≠ 138) : ¬ K.own k := by
  obtain ⟨_, hm, _⟩ := r.m.row
  rintro ((e | e) | (e | e))
  · exact h.ne_ r.row h1 e
  · exact h.ne_ hm h2 e
  · exact h.ne_ r.cr h3 e
  · exact r.ev.ne_row h h4 e
theorem GRw.offP {L : PoolAt} {P : PoolM} (r : GRw w p K M C root walks) (rp : PoolRep w L P) : ¬ K.own L.p ∧ ¬ K.own L.bb ∧ ¬ K.own L.rb := by
  obtain ⟨_, _, hB, _⟩ := rp.bytes
  obtain ⟨_, _, hR, _⟩ := rp.counts
  exact ⟨r.off rp.st (by decide) (by decide) (by decide) (by decide), r.off hB (by decide) (by decide) (by decide) (by decide), r.off hR (by decide) (by decide) (by decide) (by decide)⟩
theorem GRw.alloc (r : GRw w p K M C root walks) (o : Obj) : GRw (w.alloc o) p K M C root walks := r.upd_ ((Upd.refl Non w).alloc o) fun _ _ h => h
end

/-- A pool and a guest on it, while an act goes on. -/
structure PG (w W : World) (L : PoolAt) (K : GAt) (v : Value) (P : PoolM) (M : MapM) (C : List EntryM) (root walks : Int) : Prop where
  rp : PoolRep W L P
  gr : GRw W L.p (K.vv v) M C root walks
  fv : v = K.v ∨ Fresh w v
  up : Upd (ownG L K) w W
section
variable {w W W' : World} {L : PoolAt} {K : GAt} {v v' : Value} {P P' : PoolM} {M M' : MapM} {C C' : List EntryM} {root walks : Int}
theorem PG.start (rp : PoolRep w L P) (gr : GRw w L.p K M C root walks) : PG w w L K K.v P M C root walks := ⟨rp, gr, .inl rfl, Upd.refl _ _⟩
theorem PG.own (t : PG w W L K v P M C root walks) : ∀ k, (K.vv v).own k → ownG L K k ∨ w.heap.size ≤ k := by
  rintro k ((h | h) | (h | h))
  · exact .inl (.inr (.inl (.inl h)))
  · exact .inl (.inr (.inl (.inr h)))
  · exact .inl (.inr (.inr (.inl h)))
  · rcases t.fv with e | e
    · exact .inl (.inr (.inr (.inr (by rw [← e]; exact h))))
    · exact .inr (e k h)
theorem PG.ownL (t : PG w W L K v P M C root walks) : ∀ k, L.own k → ¬ (K.vv v).own k := by
  obtain ⟨_, h2, h3⟩ := t.gr.offP t.rp
  rintro k (rfl | rfl)
  · exact h2
  · exact h3
theorem PG.non (t : PG w W L K v P M C root walks) (u : Upd Non W W') : PG w W' L K v P M C root walks :=
  ⟨t.rp.upd_ u (fun h => h) (fun h => h) (fun h => h), t.gr.upd_ u (fun _ _ => (fun h => h)), t.fv, t.up.over' u (fun _ h => h.elim)⟩
theorem PG.alloc (t : PG w W L K v P M C root walks) (o : Obj) : PG w (W.alloc o) L K v P M C root walks := t.non ((Upd.refl _ _).alloc o)
theorem PG.drewN (t : PG w W L K v P M C root walks) (n : Nat) : PG w (W.drewN n) L K v P M C root walks := t.non ((Upd.refl _ _).drewN n)
theorem PG.drew (t : PG w W L K v P M C root walks) : PG w W.drew L K v P M C root walks := t.non (Upd.refl _ _).drew
theorem PG.pool (t : PG w W L K v P M C root walks) (r : PoolRep W' L P') (u : Upd L.own W W') : PG w W' L K v P' M C root walks :=
  ⟨r, t.gr.upd_ u (fun k hk h => t.ownL k h hk), t.fv, t.up.over' u (fun _ h => .inl (.inl h))⟩
theorem PG.mapP (t : PG w W L K v P M C root walks) (rp : PoolRep W' L P') (r : MRep W' K.mb 140 65 L.p M') (u : Upd (ownM L K.mb) W W') : PG w W' L K v P' M' C root walks := by
  obtain ⟨⟨n1, n2, n3⟩, n4⟩ := t.gr.nes
  refine ⟨rp, ⟨t.gr.row.upd_ u ?_, r, t.gr.cr.upd_ u ?_, t.gr.ev.upd_ u ?_⟩, t.fv, t.up.over' u ?_⟩
  · rintro (h | h)
    · exact t.ownL _ h (.inl (.inl rfl))
    · exact n1 h
  · rintro (h | h)
    · exact t.ownL _ h (.inr (.inl rfl))
    · exact n3 h.symm
  · rintro k hk (h | h)
    · exact t.ownL _ h (.inr (.inr hk))
    · exact (n4 k hk).2.1 h
  · rintro k (h | h)
    · exact .inl (.inl h)
    · exact .inl (.inr (.inl (.inr h)))
theorem PG.map (t : PG w W L K v P M C root walks) (r : MRep W' K.mb 140 65 L.p M') (u : Upd (at1 K.mb) W W') : PG w W' L K v P M' C root walks := by
  obtain ⟨h1, h2, h3⟩ := t.gr.offP t.rp
  refine t.mapP (t.rp.upd_ u ?_ ?_ ?_) r (u.mono fun _ _ h => .inr h)
  · exact fun h => h1 (.inl (.inr h))
  · exact fun h => h2 (.inl (.inr h))
  · exact fun h => h3 (.inl (.inr h))
theorem PG.cput (t : PG w W L K v P M C root walks) (r : Row W' K.cb 128 1 (fun _ => v')) (e : ERow W' v' C') (f : Fresh W v') (u : Upd (at1 K.cb) W W') : PG w W' L K v' P M C' root walks := by
  obtain ⟨⟨n1, n2, n3⟩, n4⟩ := t.gr.nes
  obtain ⟨h1, h2, h3⟩ := t.gr.offP t.rp
  refine ⟨t.rp.upd_ u (fun h => h1 (.inr (.inl h))) (fun h => h2 (.inr (.inl h))) (fun h => h3 (.inr (.inl h))), ⟨t.gr.row.upd_ u n2, t.gr.m.upd_ u n3, r, e⟩, .inr fun g hg => Nat.le_trans t.up.size (f g hg), t.up.over' u ?_⟩
  rintro k h
  exact .inl (.inr (.inr (.inl h)))
theorem PG.point (t : PG w W L K v P M C root walks) (r : Row W' K.cb 128 1 (fun _ => v)) (e : ERow W' v C') (u : Upd (fun k => v.ownBlock = some k) W W') : PG w W' L K v P M C' root walks := by
  obtain ⟨⟨n1, n2, n3⟩, n4⟩ := t.gr.nes
  obtain ⟨h1, h2, h3⟩ := t.gr.offP t.rp
  refine ⟨t.rp.upd_ u (fun h => h1 (.inr (.inr h))) (fun h => h2 (.inr (.inr h))) (fun h => h3 (.inr (.inr h))), ⟨t.gr.row.upd_ u (fun h => (n4 _ h).1 rfl), t.gr.m.upd_ u (fun h => (n4 _ h).2.1 rfl), r, e⟩, t.fv, t.up.over' u ?_⟩
  intro k h
  exact t.own k (.inr (.inr h))
theorem PG.setG (t : PG w W L K v P M C root walks) {i : Nat} {z : Value} {root' walks' : Int} (hz : ∀ j, j < 5 → upd (gcells L.p (K.vv v) root walks) i z j = gcells L.p (K.vv v) root' walks' j) :
    PG w (W.setCell ⟨K.g, i, none⟩ z) L K v P M C root' walks' := by
  obtain ⟨⟨n1, n2, n3⟩, n4⟩ := t.gr.nes
  obtain ⟨h1, h2, h3⟩ := t.gr.offP t.rp
  have u : Upd (at1 K.g) W (W.setCell ⟨K.g, i, none⟩ z) := (Upd.refl _ _).setCell (p := ⟨K.g, i, none⟩) (fun _ => at1_self) _
  refine ⟨t.rp.upd_ u (fun h => h1 (.inl (.inl h))) (fun h => h2 (.inl (.inl h))) (fun h => h3 (.inl (.inl h))), ⟨(t.gr.row.set_ z).congr hz, t.gr.m.upd_ u (fun h => n1 h.symm), t.gr.cr.upd_ u (fun h => n2 h.symm), t.gr.ev.upd_ u (fun g hg h => (n4 _ hg).1 h)⟩, t.fv, t.up.over' u ?_⟩
  rintro k h
  exact .inl (.inr (.inl (.inl h)))
theorem PG.setRoot (t : PG w W L K v P M C root walks) (r : Int) : PG w (W.setCell ⟨K.g, 3, none⟩ (.int .i64 r)) L K v P M C r walks :=
  t.setG fun j hj => by
    have : j = 0 ∨ j = 1 ∨ j = 2 ∨ j = 3 ∨ j = 4 := by omega
    rcases this with rfl | rfl | rfl | rfl | rfl <;> rfl
theorem PG.setWalks (t : PG w W L K v P M C root walks) (r : Int) : PG w (W.setCell ⟨K.g, 4, none⟩ (.int .i64 r)) L K v P M C root r :=
  t.setG fun j hj => by
    have : j = 0 ∨ j = 1 ∨ j = 2 ∨ j = 3 ∨ j = 4 := by omega
    rcases this with rfl | rfl | rfl | rfl | rfl <;> rfl
theorem PG.c0 (t : PG w W L K v P M C root walks) : W.cell? ⟨K.g, 0, none⟩ = some (.pointer (some ⟨L.p, 0, none⟩)) := t.gr.row.cell (i := 0) (by omega)
theorem PG.c1 (t : PG w W L K v P M C root walks) : W.cell? ⟨K.g, 1, none⟩ = some (.pointer (some ⟨K.mb, 0, none⟩)) := t.gr.row.cell (i := 1) (by omega)
theorem PG.c2 (t : PG w W L K v P M C root walks) : W.cell? ⟨K.g, 2, none⟩ = some (.pointer (some ⟨K.cb, 0, none⟩)) := t.gr.row.cell (i := 2) (by omega)
theorem PG.c3 (t : PG w W L K v P M C root walks) : W.cell? ⟨K.g, 3, none⟩ = some (.int .i64 root) := t.gr.row.cell (i := 3) (by omega)
theorem PG.c4 (t : PG w W L K v P M C root walks) : W.cell? ⟨K.g, 4, none⟩ = some (.int .i64 walks) := t.gr.row.cell (i := 4) (by omega)
theorem PG.fr (t : PG w W L K v P M C root walks) (i : Nat) : W.frozen? ⟨K.g, i, none⟩ = false := t.gr.row.frozen i
theorem PG.glt (t : PG w W L K v P M C root walks) : K.g < W.heap.size := t.gr.row.lt
theorem PG.m (t : PG w W L K v P M C root walks) : MRep W K.mb 140 65 L.p M := t.gr.m
theorem PG.cr (t : PG w W L K v P M C root walks) : Row W K.cb 128 1 (fun _ => v) := t.gr.cr
theorem PG.ev (t : PG w W L K v P M C root walks) : ERow W v C := t.gr.ev
end
/-- What an act leaves. -/
def GPost (w : World) (L : PoolAt) (K : GAt) (r : Value) (P' : PoolM) (G' : GuestM) (e : Ending) (w' : World) : Prop :=
  e = .returned r ∧ ∃ v', PG w w' L K v' P' G'.m (withLeaf G'.m G'.c) G'.root G'.walks
/-- .. that makes no new cache. -/
def GPost0 (w : World) (L : PoolAt) (K : GAt) (r : Value) (P' : PoolM) (G' : GuestM) (e : Ending) (w' : World) : Prop :=
  e = .returned r ∧ PG w w' L K K.v P' G'.m (withLeaf G'.m G'.c) G'.root G'.walks
/-- An act within another one. -/
theorem PG.inner {w W W' : World} {L : PoolAt} {K : GAt} {v v' : Value} {P P' : PoolM} {M M' : MapM} {C C' : List EntryM} {root walks root' walks' : Int}
    (t : PG w W L K v P M C root walks) (s : PG W W' L (K.vv v) v' P' M' C' root' walks') : PG w W' L K v' P' M' C' root' walks' := by
  refine ⟨s.rp, s.gr, ?_, t.up.over' s.up ?_⟩
  · rcases s.fv with e | e
    · have : v' = v := e
      rw [this]; exact t.fv
    · exact .inr fun g hg => Nat.le_trans t.up.size (e g hg)
  · rintro k (h | h)
    · exact .inl (.inl h)
    · exact t.own k h

end U
end Go.Proofs.YtnhplapcdgnaaaaGreat

set_option linter.unusedVariables false
set_option linter.unusedSimpArgs false
namespace Go.Proofs.YtnhplapcdgnaaaaGreat
open Go.RowKit
namespace U

/-! The program's guest: point, touch, walk. -/
def gpt (M : MapM) (C : List EntryM) (n : Int) : List EntryM := if onB n then C.map (ptE n (M.leaf n.toNat)) else C
section
variable {w W : World} {L : PoolAt} {K : GAt} {v : Value} {P : PoolM} {M : MapM} {C : List EntryM} {root walks : Int} {E : Nat → Nat}

set_option maxRecDepth 100000 in
set_option maxHeartbeats 1000000 in
theorem gpoint_any (t : PG w W L K v P M C root walks) (hC : C.length ≤ 100) (n : Int) :
    Calls Tryz.prog 102 #[.pointer (some ⟨K.g, 0, none⟩), .int .i64 n] W fun e w' => e = .returned (.tuple #[]) ∧ PG w w' L K v P M (gpt M C n) root walks := by
  have c1 := t.c1
  have c2 := t.c2
  have lg := t.glt
  by_cases ho : onB n = true
  · have hm : Hid (mleaf M n = (M.leaf n.toNat, 0)) := by show _ = _; unfold mleaf; rw [if_pos ho]
    have hp : Hid (gpt M C n = C.map (ptE n (M.leaf n.toNat))) := by show _ = _; unfold gpt; rw [if_pos ho]
    generalize M.leaf n.toNat = l at hm hp
    clear ho
    go_enter Tryz.func102, Tryz.ntmps102
    go_wp2_with (first
      | (go_at_call 99; refine (mleaf_any _ K.mb 65 L.p M t.m n).mono ?_; rw [hm.out]; rintro e w2 ⟨rfl, u2⟩; unfold LeafM.val errv; have t2 := t.non u2; have d2 := t2.c2; have lg2 := t2.glt)
      | fail)
    go_region_with (go_at_call 121; refine (cPoint_any _ K.cb v C (PG.cr (by repeat (first | assumption | apply PG.alloc | apply PG.drew | apply PG.drewN))) (PG.ev (by repeat (first | assumption | apply PG.alloc | apply PG.drew | apply PG.drewN))) hC n l).mono ?_; rintro e w3 ⟨rfl, r3, e3, u3⟩; have t3 := PG.point (by repeat (first | assumption | apply PG.alloc | apply PG.drew | apply PG.drewN)) r3 e3 u3)
    all_goals go_wp2
    all_goals go_end0
    all_goals exact ⟨rfl, by rw [hp.out]; exact (by repeat (first | assumption | apply PG.alloc | apply PG.drew | apply PG.drewN))⟩
  · have hm : Hid (mleaf M n = (LeafM.none, 1)) := by show _ = _; unfold mleaf; rw [if_neg ho]
    have hp : Hid (gpt M C n = C) := by show _ = _; unfold gpt; rw [if_neg ho]
    clear ho
    go_enter Tryz.func102, Tryz.ntmps102
    go_wp2_with (first
      | (go_at_call 99; refine (mleaf_any _ K.mb 65 L.p M t.m n).mono ?_; rw [hm.out]; rintro e w2 ⟨rfl, u2⟩; unfold LeafM.val LeafM.none errv; have t2 := t.non u2)
      | fail)
    go_end0
    exact ⟨rfl, by rw [hp.out]; exact (by repeat (first | assumption | apply PG.alloc | apply PG.drew | apply PG.drewN))⟩

theorem gpt_with {M M' : MapM} {L0 : List EntryM} {n : Int} (h : ∀ e ∈ L0, 0 ≤ e.to) (hn : onB n = true) (hM : ∀ i : Nat, (i : Int) ≠ n → M'.leaf i = M.leaf i) : gpt M' (withLeaf M L0) n = withLeaf M' L0 := by
  unfold gpt; rw [if_pos hn]; exact withLeaf_point h (onB_iff.1 hn).1 hM

set_option maxRecDepth 100000 in
set_option maxHeartbeats 1000000 in
theorem gtouch_any {G : GuestM} (t : PG w W L K v P G.m (withLeaf G.m G.c) root walks) (hI : GInv P G E) (n : Int) (wr : Bool) :
    Calls Tryz.prog 96 #[.pointer (some ⟨K.g, 0, none⟩), .int .i64 n, .bool wr] W fun e w' =>
      e = .returned (.tuple #[.int .i64 (mtouch P G.m n wr).2.2.1, errv (mtouch P G.m n wr).2.2.2.2]) ∧ PG w w' L K v (mtouch P G.m n wr).1 (mtouch P G.m n wr).2.1 (withLeaf (mtouch P G.m n wr).2.1 G.c) root walks := by
  have c1 := t.c1
  have lg := t.glt
  have hfr := fun k hk ht => (hI.m.here k hk ht).2
  have hlen : ∀ M : MapM, (withLeaf M G.c).length ≤ 100 := fun M => by rw [withLeaf_length]; have := hI.c.len; omega
  have hto : ∀ e ∈ G.c, 0 ≤ e.to := fun e he => (hI.c.ent e he).1
  have hleaf := Lib.hid (fun i (h : ((i : Nat) : Int) ≠ n) => mtouch_leaf P G.m n wr i h)
  have htouch := Lib.hid (touch_any W L P K.mb 65 G.m t.rp t.m n wr hfr)
  rcases mtouch_cases P G.m n wr with ⟨h1, h2, h3, h4, h5⟩ | ⟨h1, h2, h3, h4, h5⟩
  · have hne : (mtouch P G.m n wr).2.2.2.2 ≠ 0 := h1
    rw [h2, h3, h4]
    have H : Hid (TouchPost W L K.mb 65 (mtouch P G.m n wr) = TouchPost W L K.mb 65 (P, G.m, 0, false, (mtouch P G.m n wr).2.2.2.2)) := by
      show _ = _
      rw [show mtouch P G.m n wr = (P, G.m, 0, false, (mtouch P G.m n wr).2.2.2.2) from by
        rcases hx : mtouch P G.m n wr with ⟨a, b, c, d, e⟩
        rw [hx] at h2 h3 h4 h5
        simp only at h2 h3 h4 h5
        rw [h2, h3, h4, h5]]
    generalize (mtouch P G.m n wr).2.2.2.2 = er at H hne h1
    have hz : errv er = .iface 52 (.int .i64 er) := by unfold errv; rw [if_neg hne]
    rw [hz]
    clear h1 h2 h3 h4 h5 hne
    go_enter Tryz.func96, Tryz.ntmps96
    go_wp2_with (first
      | (go_at_call 119; refine htouch.out.mono ?_; rw [H.out]; rintro e w2 ⟨rfl, r2, q2, u2⟩; rw [hz]; have t2 := t.mapP r2 q2 u2)
      | fail)
    go_ret2
    exact ⟨rfl, t2⟩
  · have H : Hid (TouchPost W L K.mb 65 (mtouch P G.m n wr) = TouchPost W L K.mb 65 ((mtouch P G.m n wr).1, (mtouch P G.m n wr).2.1, (mtouch P G.m n wr).2.2.1, (mtouch P G.m n wr).2.2.2.1, 0)) := by
      show _ = _
      rw [← h1]
    have hg : gpt (mtouch P G.m n wr).2.1 (withLeaf G.m G.c) n = withLeaf (mtouch P G.m n wr).2.1 G.c := gpt_with hto h2 hleaf.out
    have hg := Lib.hid hg
    rw [h1]
    generalize (mtouch P G.m n wr).1 = P' at H ⊢
    generalize (mtouch P G.m n wr).2.2.1 = f at H ⊢
    generalize (mtouch P G.m n wr).2.2.2.1 = mv at H ⊢
    clear h1 h2 h3 h4 h5 hleaf
    generalize (mtouch P G.m n wr).2.1 = M' at H hg ⊢
    go_enter Tryz.func96, Tryz.ntmps96
    go_wp2_with (first
      | (go_at_call 119; refine htouch.out.mono ?_; rw [H.out]; rintro e w2 ⟨rfl, r2, q2, u2⟩; unfold errv; have t2 := t.mapP r2 q2 u2)
      | (go_at_call 102; refine (gpoint_any t2 (hlen _) n).mono ?_; rw [hg.out]; rintro e w3 ⟨rfl, t3⟩)
      | fail)
    go_ret2
    exact ⟨rfl, t3⟩
end

end U
end Go.Proofs.YtnhplapcdgnaaaaGreat

set_option linter.unusedVariables false
set_option linter.unusedSimpArgs false
namespace Go.Proofs.YtnhplapcdgnaaaaGreat
open Go.RowKit
namespace U

/-! The program's guest: walk. -/
section
variable {w W : World} {L : PoolAt} {K : GAt} {v : Value} {P : PoolM} {M : MapM} {C : List EntryM} {root walks : Int} {E : Nat → Nat}

theorem bits_all : ∀ n : Fin 256, (bits .and .u8 ((n.1 : Nat) : Int) 128 == 0) = decide (n.1 < 128) ∧ wrap64 (bits .and .u8 ((n.1 : Nat) : Int) 15) = ((n.1 % 16 : Nat) : Int) ∧ (bits .and .u8 ((n.1 : Nat) : Int) 64 != 0) = (n.1 / 64 % 2 == 1) := by decide +kernel
theorem bits_byte (b : UInt8) : (bits .and .u8 (b.toNat : Int) 128 == 0) = decide (b.toNat < 128) ∧ wrap64 (bits .and .u8 (b.toNat : Int) 15) = ((b.toNat % 16 : Nat) : Int) ∧ (bits .and .u8 (b.toNat : Int) 64 != 0) = (b.toNat / 64 % 2 == 1) :=
  bits_all ⟨b.toNat, b.toNat_lt⟩
def WalkPost (w : World) (L : PoolAt) (K : GAt) (v : Value) (c : List EntryM) (root : Int) (x : PoolM × GuestM × Int × Bool × Nat) (e : Ending) (w' : World) : Prop :=
  e = .returned (.tuple #[.int .i64 x.2.2.1, .bool x.2.2.2.1, errv x.2.2.2.2]) ∧ PG w w' L K v x.1 x.2.1.m (withLeaf x.2.1.m c) root x.2.1.walks

set_option maxRecDepth 100000 in
set_option maxHeartbeats 1000000 in
theorem gwalk_any {G : GuestM} (t : PG w W L K v P G.m (withLeaf G.m G.c) G.root G.walks) (hI : GInv P G E) (page : Int) (h0 : 0 ≤ page) (h1 : page < 16) :
    Calls Tryz.prog 98 #[.pointer (some ⟨K.g, 0, none⟩), .int .i64 page] W (WalkPost w L K v G.c G.root (gwalk P G page)) := by
  have c3 := t.c3
  have lg := t.glt
  have htouch := Lib.hid (gtouch_any t hI G.root false)
  by_cases he : (mtouch P G.m G.root false).2.2.2.2 = 0
  · have hused : (mtouch P G.m G.root false).1.used (mtouch P G.m G.root false).2.2.1 = true := by
      obtain ⟨k, hk, a, b, _⟩ := gtouch_frame (P := P) (G := G) (n := G.root) (wr := false) he
      rw [show (mtouch P G.m G.root false).2.2.1 = _ from b]
      exact (hI.touch G.root false).inv.m.used hk a
    have hget : Hid ((mtouch P G.m G.root false).1.get (mtouch P G.m G.root false).2.2.1 page = (gbyte (mtouch P G.m G.root false).1 (mtouch P G.m G.root false).2.2.1 page, 0)) := by
      show _ = _
      unfold PoolM.get gbyte
      rw [if_neg (by omega), if_pos hused]
    have hF : Hid (gwalk P G page = if (gbyte (mtouch P G.m G.root false).1 (mtouch P G.m G.root false).2.2.1 page).toNat < 128 then ((mtouch P G.m G.root false).1, { G with m := (mtouch P G.m G.root false).2.1, walks := wrap64 (G.walks + 1) }, 0, false, 5)
        else ((mtouch P G.m G.root false).1, { G with m := (mtouch P G.m G.root false).2.1, walks := wrap64 (G.walks + 1) }, (((gbyte (mtouch P G.m G.root false).1 (mtouch P G.m G.root false).2.2.1 page).toNat % 16 : Nat) : Int), (gbyte (mtouch P G.m G.root false).1 (mtouch P G.m G.root false).2.2.1 page).toNat / 64 % 2 == 1, 0)) := by
      show _ = _
      unfold gwalk gtouch
      simp only [he, ne_eq, not_true_eq_false, if_false]
    rw [he] at htouch
    generalize gbyte (mtouch P G.m G.root false).1 (mtouch P G.m G.root false).2.2.1 page = b at hget hF
    generalize (mtouch P G.m G.root false).1 = P1 at htouch hget hF
    generalize (mtouch P G.m G.root false).2.1 = M1 at htouch hget hF
    generalize (mtouch P G.m G.root false).2.2.1 = f at htouch hget hF
    clear he hused
    go_enter Tryz.func98, Tryz.ntmps98
    go_wp2_with (first
      | (go_at_call 96; refine htouch.out.mono ?_; rintro e w2 ⟨rfl, t2⟩; unfold errv; have d0 := t2.c0; have d4 := t2.c4; have lg2 := t2.glt; have f4 := t2.fr 4)
      | (go_at_call 112; refine (get_any _ L P1 t2.rp f page).mono ?_; rw [hget.out]; rintro e w3 ⟨rfl, rfl⟩; unfold errv)
      | fail)
    · rename_i hb
      rw [(bits_byte b).1] at hb
      go_ret3
      refine ⟨?_, ?_⟩
      · rw [hF.out, if_pos (by simpa using hb)]; rfl
      · rw [hF.out, if_pos (by simpa using hb)]; exact t2.setWalks _
    · rename_i hb
      rw [(bits_byte b).1] at hb
      rw [(bits_byte b).2.1, (bits_byte b).2.2]
      go_ret3
      refine ⟨?_, ?_⟩
      · rw [hF.out, if_neg (by simpa using hb)]; rfl
      · rw [hF.out, if_neg (by simpa using hb)]; exact t2.setWalks _
  · have hF : Hid (gwalk P G page = ((mtouch P G.m G.root false).1, { G with m := (mtouch P G.m G.root false).2.1 }, 0, false, (mtouch P G.m G.root false).2.2.2.2)) := by
      show _ = _
      unfold gwalk gtouch
      simp only [he, ne_eq, not_false_eq_true, if_true]
    generalize (mtouch P G.m G.root false).1 = P1 at htouch hF
    generalize (mtouch P G.m G.root false).2.1 = M1 at htouch hF
    generalize (mtouch P G.m G.root false).2.2.1 = f at htouch hF
    generalize (mtouch P G.m G.root false).2.2.2.2 = er at htouch hF he
    have hz : Hid (errv er = .iface 52 (.int .i64 er)) := by show _ = _; unfold errv; rw [if_neg he]
    clear he
    go_enter Tryz.func98, Tryz.ntmps98
    go_wp2_with (first
      | (go_at_call 96; refine htouch.out.mono ?_; rw [hz.out]; rintro e w2 ⟨rfl, t2⟩)
      | fail)
    go_ret3
    refine ⟨?_, ?_⟩
    · rw [hF.out, hz.out]; rfl
    · rw [hF.out]; exact t2
end

end U
end Go.Proofs.YtnhplapcdgnaaaaGreat

set_option linter.unusedVariables false
set_option linter.unusedSimpArgs false
namespace Go.Proofs.YtnhplapcdgnaaaaGreat
open Go.RowKit
namespace U

/-! The program's guest: the frame of an address. -/
section
variable {w W : World} {L : PoolAt} {K : GAt} {v : Value} {P : PoolM} {M : MapM} {C : List EntryM} {root walks : Int} {E : Nat → Nat} {G : GuestM}

def FramePost (w : World) (L : PoolAt) (K : GAt) (x : PoolM × GuestM × Int × Nat) (e : Ending) (w' : World) : Prop :=
  e = .returned (.tuple #[.int .i64 x.2.2.1, errv x.2.2.2]) ∧ ∃ v', PG w w' L K v' x.1 x.2.1.m (withLeaf x.2.1.m x.2.1.c) x.2.1.root x.2.1.walks

theorem tdiv16 {a : Int} (h : 0 ≤ a) : Int.tdiv a 16 = a / 16 := Int.tdiv_eq_ediv_of_nonneg h
theorem errv_ne {k : Nat} (h : k ≠ 0) : errv k = .iface 52 (.int .i64 k) := by unfold errv; rw [if_neg h]

set_option maxRecDepth 100000 in
set_option maxHeartbeats 1000000 in
theorem gframe_off (t : PG w W L K v P G.m (withLeaf G.m G.c) G.root G.walks) (addr : Int) (wr : Bool) (h : addr < 0 ∨ 255 < addr) :
    Calls Tryz.prog 67 #[.pointer (some ⟨K.g, 0, none⟩), .int .i64 addr, .bool wr] W (FramePost w L K (gframe P G addr wr)) := by
  have hF : Hid (gframe P G addr wr = (P, G, 0, 1)) := by show _ = _; unfold gframe; rw [if_pos h]
  go_enter Tryz.func67, Tryz.ntmps67
  go_wp2_with fail
  all_goals first | (exfalso; simp_all; done) | go_ret2
  all_goals exact ⟨by rw [hF.out]; rfl, v, by rw [hF.out]; exact t⟩

set_option maxRecDepth 100000 in
set_option maxHeartbeats 1000000 in
theorem gframe_plain (t : PG w W L K v P G.m (withLeaf G.m G.c) G.root G.walks) (hI : GInv P G E) (addr : Int) (wr : Bool) (h0 : 0 ≤ addr) (h1 : addr ≤ 255) (hr : G.root < 0) :
    Calls Tryz.prog 67 #[.pointer (some ⟨K.g, 0, none⟩), .int .i64 addr, .bool wr] W (FramePost w L K (gframe P G addr wr)) := by
  have hF : Hid (gframe P G addr wr = ((mtouch P G.m (addr / 16) wr).1, { G with m := (mtouch P G.m (addr / 16) wr).2.1 }, (mtouch P G.m (addr / 16) wr).2.2.1, (mtouch P G.m (addr / 16) wr).2.2.2.2)) := by
    show _ = _; unfold gframe gtouch; rw [if_neg (by omega), if_pos hr]
  have c3 := t.c3
  have lg := t.glt
  have htouch := Lib.hid (gtouch_any t hI (addr / 16) wr)
  go_enter Tryz.func67, Tryz.ntmps67
  go_wp2_with (first
    | (go_at_call 96; refine htouch.out.mono ?_; rintro e w2 ⟨rfl, t2⟩)
    | fail)
  all_goals go_ret2
  all_goals exact ⟨by rw [hF.out]; rfl, v, by rw [hF.out]; exact t2⟩
end

end U
end Go.Proofs.YtnhplapcdgnaaaaGreat
