import Derived.Test.YtnhplapcdgnaaaaGuestLawB
import Derived.Test.YtnhplapcdgnaaaaGuestLawC
set_option linter.unusedVariables false
set_option linter.unusedSimpArgs false
namespace Go.Proofs.Ytnhplapcdgnaaaa
open Go.RowKit
namespace U

theorem runs_load : gload (((PoolM.fresh 3).take.1).setByte 0 1 5) { runsG with m := runsG.m.setLeaf 1 ⟨true, true, 0⟩ } 17 = ((((PoolM.fresh 3).take.1).setByte 0 1 5), { runsG with m := runsG.m.setLeaf 1 ⟨true, true, 0⟩ }, 5, 0) := rfl
theorem mcnt_fresh (f : Nat) : mcnt MapM.fresh f = 0 := by
  unfold mcnt
  rw [List.countP_eq_zero]
  intro i _ h
  cases h
theorem GInv.fresh (n : Nat) : GInv (PoolM.fresh n) GuestM.fresh (fun _ => 0) := by
  refine ⟨⟨fun i _ => .inl rfl, (fun i _ h => by cases h), fun i _ _ => rfl, fun f _ => ?_, fun f => by omega⟩, CInv.nil, by show (-1 : Int) ≤ -1; omega, by show (-1 : Int) ≤ 15; omega⟩
  show (PoolM.fresh n).refs f = (mcnt MapM.fresh f + 0 : Nat)
  rw [mcnt_fresh]; rfl

set_option maxRecDepth 100000 in
set_option maxHeartbeats 2000000 in
theorem runs_law (w : World) : Calls Try.prog 60 #[] w fun e w' => e = .returned (.bool true) ∧ Upd Non w w' := by
  have h0 := Lib.hid (GInv.fresh 3)
  have h1 : Hid (GInv (PoolM.fresh 3) runsG (fun _ => 0)) := (h0.out.map ⟨rfl, h0.out.m.plug 1, fun _ _ _ => rfl⟩).inv
  have h2 := Lib.hid (h1.out.store 17 5).inv
  have e1 : Hid (gact GuestM.fresh (PoolM.fresh 3, (mplug GuestM.fresh.m 1).1, (mplug GuestM.fresh.m 1).2) = (PoolM.fresh 3, runsG, 0)) := by show _ = _; rfl
  have e2 := Lib.hid runs_store
  have e3 := Lib.hid runs_load
  rw [e2.out] at h2
  go_enter Try.func60, Try.ntmps60
  go_wp2_with (first
    | (go_at_call 28; refine (new_ok _ 3 (by omega) (by omega)).mono ?_; rintro e w1 ⟨L, rfl, r, u, l1, l2, l3⟩)
    | (go_at_call 61; refine (gnew_any _ L.p).mono ?_; rintro e w2 ⟨K, rfl, g2, k2, u2⟩; have r2 := r.upd_ u2 (fun h => h) (fun h => h) (fun h => h); have t2 := PG.start r2 g2)
    | (go_at_call 96; refine (gplug_any (G := GuestM.fresh) t2 h0.out 1).mono ?_; unfold ActPost; rw [e1.out]; rintro e w3 ⟨rfl, v3, t3⟩; unfold errv)
    | (go_at_call 63; refine (gstore_any (G := runsG) t3 h1.out 17 5).mono ?_; unfold ActPost; rw [e2.out]; rintro e w4 ⟨rfl, v4, t4⟩; unfold errv)
    | (go_at_call 97; refine (gload_any (G := { runsG with m := runsG.m.setLeaf 1 ⟨true, true, 0⟩ }) t4 h2.out 17).mono ?_; unfold LoadPost; rw [e3.out]; rintro e w5 ⟨rfl, v5, t5⟩; unfold errv)
    | (go_at_call 98; refine (groot_any (G := { runsG with m := runsG.m.setLeaf 1 ⟨true, true, 0⟩ }) t5).mono ?_; rintro e w6 ⟨rfl, rfl⟩)
    | (go_at_call 29; refine (same_law _ 0 0).mono ?_; rintro e w9 ⟨rfl, rfl⟩)
    | fail)
  go_ret
  have hz := u.size
  refine ⟨rfl, (u.trans u2).over t5.up ?_⟩
  rintro i ((rfl | rfl) | h)
  · exact l2
  · exact l3
  · exact Nat.le_trans hz (k2 i h)

/-- A guest of the program and the reference's, beside what was there at first. -/
structure GS (w W : World) (L : PoolAt) (K : GAt) (m r : Nat) (vr : Value) (P : PoolM) (G : GuestM) : Prop where
  rp : PoolRep W L P
  gr : GRep W L.p K G
  rm : RPoolRep W m P
  mr : RMRep W r 109 68 m G.m (xg vr G.root G.walks)
  ev : ERow W vr G.c
  sep : ∀ g, K.v.ownBlock = some g → ¬ vr.ownBlock = some g
  up : Upd Non w W
  lp : w.heap.size ≤ L.p
  lb : w.heap.size ≤ L.bb
  lr : w.heap.size ≤ L.rb
  lk : ∀ k, K.own k → w.heap.size ≤ k
  lm : w.heap.size ≤ m
  lg : w.heap.size ≤ r
  lv : Fresh w vr
section
variable {w W W' wc : World} {L L' : PoolAt} {K K' : GAt} {m r : Nat} {vr v' vr' : Value} {P P' : PoolM} {G G' : GuestM}
theorem GS.d (t : GS w W L K m r vr P G) : GD W W L K m r vr K.v vr P P G G := ⟨t.rp, t.gr, t.rm, t.mr, t.ev, .inl rfl, .inl rfl, t.sep, Upd.refl _ _⟩
theorem GS.pg (t : GS w W L K m r vr P G) : PG W W L K K.v P G.m (withLeaf G.m G.c) G.root G.walks := PG.start t.rp t.gr
theorem GS.step (t : GS w W L K m r vr P G) (d : GD W W' L K m r vr v' vr' P' P' G' G') : GS w W' L (K.vv v') m r vr' P' G' := by
  have hz := t.up.size
  refine ⟨d.rp, d.gr, d.rm, d.mr, d.ev, d.sep, t.up.over d.up ?_, t.lp, t.lb, t.lr, ?_, t.lm, t.lg, ?_⟩
  · rintro k (((rfl | rfl) | h) | (rfl | rfl))
    · exact t.lb
    · exact t.lr
    · exact t.lk k h
    · exact t.lm
    · exact t.lg
  · rintro k ((h | h) | (h | h))
    · exact t.lk k (.inl (.inl h))
    · exact t.lk k (.inl (.inr h))
    · exact t.lk k (.inr (.inl h))
    · rcases d.fv with e | e
      · exact t.lk k (.inr (.inr (by rw [← e]; exact h)))
      · exact Nat.le_trans hz (e k h)
  · rcases d.fr with e | e
    · rw [e]; exact t.lv
    · exact fun g hg => Nat.le_trans hz (e g hg)
theorem GS.non (t : GS w W L K m r vr P G) (u : Upd Non W W') : GS w W' L K m r vr P G :=
  ⟨t.rp.upd_ u (fun h => h) (fun h => h) (fun h => h), GRw.upd_ t.gr u (fun _ _ => (fun h => h)), t.rm.upd_ u (fun h => h), t.mr.upd_ u (fun h => h), t.ev.upd_ u (fun _ _ => (fun h => h)), t.sep, t.up.trans u, t.lp, t.lb, t.lr, t.lk, t.lm, t.lg, t.lv⟩
theorem GS.drewN (t : GS w W L K m r vr P G) (n : Nat) : GS w (W.drewN n) L K m r vr P G := t.non ((Upd.refl _ _).drewN n)
theorem GS.drew (t : GS w W L K m r vr P G) : GS w W.drew L K m r vr P G := t.non (Upd.refl _ _).drew
/-- Copies go on; the old ones' blocks may have changed. -/
theorem GS.copy (t : GS w W L K m r vr P G) (u : Upd Non W wc) (rp : PoolRep wc L' P) (gr : GRep wc L'.p K' G) (n1 : W.heap.size ≤ L'.p) (n2 : W.heap.size ≤ L'.bb) (n3 : W.heap.size ≤ L'.rb) (nk : ∀ k, K'.own k → W.heap.size ≤ k) (up : Upd (ownG L K) wc W') :
    GS w W' L' K' m r vr P G := by
  have hz := t.up.size
  have hl := t.rp.lts
  have old : ∀ k, ownG L K k → k < W.heap.size := by
    rintro k ((rfl | rfl) | h)
    · exact hl.2.1
    · exact hl.2.2
    · exact GRw.lts t.gr k h
  have new : ∀ k, W.heap.size ≤ k → ¬ ownG L K k := fun k hk h => by have := old k h; omega
  have d := t.d
  have s : PG W wc L K K.v P G.m (withLeaf G.m G.c) G.root G.walks := t.pg.non u
  have c := t.non u
  obtain ⟨_, hm, _⟩ := c.rm.row
  obtain ⟨_, hr, _⟩ := c.mr.row
  obtain ⟨_, _, hB, _⟩ := c.rp.bytes
  obtain ⟨_, _, hR, _⟩ := c.rp.counts
  have offT : ∀ {k T N : Nat} {f : Nat → Value}, Row wc k T N f → T ≠ 59 → T ≠ 3 → T ≠ 154 → T ≠ 146 → T ≠ 28 → T ≠ 35 → ¬ ownG L K k := by
    intro k T N f h e1 e2 e3 e4 e5 e6
    rintro ((h' | h') | h')
    · exact h.ne_ hB e1 h'
    · exact h.ne_ hR e2 h'
    · exact GRw.off c.gr h e3 e4 e5 e6 h'
  refine ⟨rp.upd_ up (new _ n1) (new _ n2) (new _ n3), GRw.upd_ gr up (fun k hk => new k (nk k hk)), c.rm.upd_ up (offT hm (by decide) (by decide) (by decide) (by decide) (by decide) (by decide)), c.mr.upd_ up (offT hr (by decide) (by decide) (by decide) (by decide) (by decide) (by decide)), c.ev.upd_ up ?_, ?_, c.up.over up ?_, by omega, by omega, by omega, fun k hk => Nat.le_trans hz (nk k hk), t.lm, t.lg, t.lv⟩
  · obtain ⟨_, hmm, _⟩ := c.gr.m.row
    rintro g hg ((h' | h') | ((h' | h') | (h' | h')))
    · exact c.ev.ne_row hB (by decide) (by rw [hg, h'])
    · exact c.ev.ne_row hR (by decide) (by rw [hg, h'])
    · exact c.ev.ne_row c.gr.row (by decide) (by rw [hg, h'])
    · exact c.ev.ne_row hmm (by decide) (by rw [hg, h'])
    · exact c.ev.ne_row c.gr.cr (by decide) (by rw [hg, h'])
    · exact t.sep g h' hg
  · intro g hg h
    have := nk g (.inr (.inr hg))
    have := t.ev.lt h
    omega
  · rintro k ((rfl | rfl) | h)
    · exact t.lb
    · exact t.lr
    · exact t.lk k h
end

end U
end Go.Proofs.Ytnhplapcdgnaaaa
