import Derived.Test.YtnhplapcdgnaaaaGreatDoorGuestA
import Derived.Test.YtnhplapcdgnaaaaGreatDoorRMapX
import Derived.Test.YtnhplapcdgnaaaaGreatDoorRCacheX
import Derived.Test.YtnhplapcdgnaaaaGreatDoorGuestG
import Derived.Deep.Cut
set_option linter.unusedVariables false
set_option linter.unusedSimpArgs false
namespace Go.Proofs.YtnhplapcdgnaaaaGreatDoor
open Go.RowKit
namespace U

/-! The reference's guest: its map at the head of a block of 68 cells; behind it its cache's slice, its table, its walks. -/
def xg (v : Value) (root walks : Int) : Nat → Value := fun i => if i = 65 then v else if i = 66 then .int .i64 root else .int .i64 walks
structure RG (w W : World) (m r : Nat) (v0 v : Value) (P : PoolM) (M : MapM) (C : List EntryM) (root walks : Int) : Prop where
  rp : RPoolRep W m P
  mr : RMRep W r 95 68 m M (xg v root walks)
  ev : ERow W v C
  fv : v = v0 ∨ Fresh w v
  up : Upd (ownR m r) w W
section
variable {w W W' : World} {m r : Nat} {v0 v v' : Value} {P P' : PoolM} {M M' : MapM} {C C' : List EntryM} {root walks : Int}
theorem RG.start (rp : RPoolRep w m P) (mr : RMRep w r 95 68 m M (xg v root walks)) (ev : ERow w v C) : RG w w m r v v P M C root walks := ⟨rp, mr, ev, .inl rfl, Upd.refl _ _⟩
theorem RG.ne (t : RG w W m r v0 v P M C root walks) : r ≠ m ∧ ∀ k, v.ownBlock = some k → k ≠ m ∧ k ≠ r := by
  obtain ⟨_, hm, _⟩ := t.rp.row
  obtain ⟨_, hr, _⟩ := t.mr.row
  refine ⟨hr.ne_ hm (by decide), fun k hk => ⟨?_, ?_⟩⟩
  · rintro rfl; exact t.ev.ne_row hm (by decide) hk
  · rintro rfl; exact t.ev.ne_row hr (by decide) hk
theorem RG.non (t : RG w W m r v0 v P M C root walks) (u : Upd Non W W') : RG w W' m r v0 v P M C root walks :=
  ⟨t.rp.upd_ u (fun h => h), t.mr.upd_ u (fun h => h), t.ev.upd_ u (fun _ _ => (fun h => h)), t.fv, t.up.over' u (fun _ h => h.elim)⟩
theorem RG.alloc (t : RG w W m r v0 v P M C root walks) (o : Obj) : RG w (W.alloc o) m r v0 v P M C root walks := t.non ((Upd.refl _ _).alloc o)
theorem RG.drewN (t : RG w W m r v0 v P M C root walks) (n : Nat) : RG w (W.drewN n) m r v0 v P M C root walks := t.non ((Upd.refl _ _).drewN n)
theorem RG.drew (t : RG w W m r v0 v P M C root walks) : RG w W.drew m r v0 v P M C root walks := t.non (Upd.refl _ _).drew
theorem RG.mapP (t : RG w W m r v0 v P M C root walks) (rp : RPoolRep W' m P') (mr : RMRep W' r 95 68 m M' (xg v root walks)) (u : Upd (ownR m r) W W') : RG w W' m r v0 v P' M' C root walks :=
  ⟨rp, mr, t.ev.upd_ u (fun k hk h => h.elim (t.ne.2 k hk).1 (t.ne.2 k hk).2), t.fv, t.up.trans u⟩
theorem RG.pool (t : RG w W m r v0 v P M C root walks) (rp : RPoolRep W' m P') (u : Upd (at1 m) W W') : RG w W' m r v0 v P' M C root walks :=
  t.mapP rp (t.mr.upd_ u t.ne.1) u.mR
theorem RG.setX (t : RG w W m r v0 v P M C root walks) {i : Nat} {z : Value} {root' walks' : Int} (hi : 65 ≤ i) (hz : ∀ j, 65 ≤ j → j < 68 → upd (xg v root walks) i z j = xg v' root' walks' j) (e : ERow W v' C') (f : v' = v0 ∨ Fresh w v') :
    RG w (W.setCell ⟨r, i, none⟩ z) m r v0 v' P M C' root' walks' := by
  have u : Upd (at1 r) W (W.setCell ⟨r, i, none⟩ z) := (Upd.refl _ _).setCell (p := ⟨r, i, none⟩) (fun _ => at1_self) _
  obtain ⟨_, hr, _⟩ := t.mr.row
  obtain ⟨c, h1, h2, h3, h4⟩ := (t.mr.setX (v := z) hi).row
  exact ⟨t.rp.upd_ u (fun h => t.ne.1 h.symm), ⟨⟨c, h1, h2, h3, fun j a b => (h4 j a b).trans (hz j a b)⟩, t.mr.big⟩, e.farRow hr (by decide) _, f, t.up.trans u.gR⟩
theorem RG.setC (t : RG w W m r v0 v P M C root walks) (e : ERow W v' C') (f : Fresh w v') : RG w (W.setCell ⟨r, 65, none⟩ v') m r v0 v' P M C' root walks :=
  t.setX (by omega) (fun j h1 h2 => by
    have : j = 65 ∨ j = 66 ∨ j = 67 := by omega
    rcases this with rfl | rfl | rfl <;> rfl) e (.inr f)
theorem RG.setRoot (t : RG w W m r v0 v P M C root walks) (n : Int) : RG w (W.setCell ⟨r, 66, none⟩ (.int .i64 n)) m r v0 v P M C n walks :=
  t.setX (by omega) (fun j h1 h2 => by
    have : j = 65 ∨ j = 66 ∨ j = 67 := by omega
    rcases this with rfl | rfl | rfl <;> rfl) t.ev t.fv
theorem RG.setWalks (t : RG w W m r v0 v P M C root walks) (n : Int) : RG w (W.setCell ⟨r, 67, none⟩ (.int .i64 n)) m r v0 v P M C root n :=
  t.setX (by omega) (fun j h1 h2 => by
    have : j = 65 ∨ j = 66 ∨ j = 67 := by omega
    rcases this with rfl | rfl | rfl <;> rfl) t.ev t.fv
theorem RG.c65 (t : RG w W m r v0 v P M C root walks) : W.cell? ⟨r, 65, none⟩ = some v := t.mr.xc (by omega) (by omega)
theorem RG.c66 (t : RG w W m r v0 v P M C root walks) : W.cell? ⟨r, 66, none⟩ = some (.int .i64 root) := t.mr.xc (by omega) (by omega)
theorem RG.c67 (t : RG w W m r v0 v P M C root walks) : W.cell? ⟨r, 67, none⟩ = some (.int .i64 walks) := t.mr.xc (by omega) (by omega)
theorem RG.c0 (t : RG w W m r v0 v P M C root walks) : W.cell? ⟨r, 0, none⟩ = some (.pointer (some ⟨m, 0, none⟩)) := t.mr.c0
theorem RG.fr (t : RG w W m r v0 v P M C root walks) (i : Nat) : W.frozen? ⟨r, i, none⟩ = false := t.mr.fr i
theorem RG.lt (t : RG w W m r v0 v P M C root walks) : r < W.heap.size := t.mr.lt
/-- An act within another one. -/
theorem RG.inner (t : RG w W m r v0 v P M C root walks) {root' walks' : Int} (s : RG W W' m r v v' P' M' C' root' walks') : RG w W' m r v0 v' P' M' C' root' walks' :=
  ⟨s.rp, s.mr, s.ev, s.fv.elim (fun e => e ▸ t.fv) (fun e => .inr fun g hg => Nat.le_trans t.up.size (e g hg)), t.up.trans s.up⟩
end
/-- What an act leaves. -/
def RGPost (w : World) (m r : Nat) (v0 : Value) (res : Value) (P' : PoolM) (G' : GuestM) (e : Ending) (w' : World) : Prop :=
  e = .returned res ∧ ∃ v', RG w w' m r v0 v' P' G'.m G'.c G'.root G'.walks

end U
end Go.Proofs.YtnhplapcdgnaaaaGreatDoor

set_option linter.unusedVariables false
set_option linter.unusedSimpArgs false
namespace Go.Proofs.YtnhplapcdgnaaaaGreatDoor
open Go.RowKit
namespace U

/-! The reference's guest: the frame of an address. -/
section
variable {w W : World} {m r : Nat} {v0 v : Value} {P : PoolM} {E : Nat → Nat} {G : GuestM}

def RFramePost (w : World) (m r : Nat) (v0 : Value) (x : PoolM × GuestM × Int × Nat) (e : Ending) (w' : World) : Prop :=
  e = .returned (.tuple #[.int .i64 x.2.2.1, .int .i64 x.2.2.2]) ∧ ∃ v', RG w w' m r v0 v' x.1 x.2.1.m x.2.1.c x.2.1.root x.2.1.walks

/-- Touch, as the reference's guest calls it. -/
theorem rgtouch_any (t : RG w W m r v0 v P G.m G.c G.root G.walks) (hI : GInv P G E) (n : Int) (wr : Bool) :
    Calls Tryz.prog 109 #[.pointer (some ⟨r, 0, none⟩), .int .i64 n, .bool wr] W fun e w' =>
      e = .returned (.tuple #[.int .i64 (mtouch P G.m n wr).2.2.1, .bool (mtouch P G.m n wr).2.2.2.1, .int .i64 (mtouch P G.m n wr).2.2.2.2]) ∧ RG w w' m r v0 v (mtouch P G.m n wr).1 (mtouch P G.m n wr).2.1 G.c G.root G.walks :=
  (rtouch_any (by decide) W P r G.m (xg v G.root G.walks) hI.m t.rp t.mr n wr).mono (by rintro e w2 ⟨rfl, r2, q2, u2⟩; exact ⟨rfl, t.mapP r2 q2 u2⟩)

set_option maxRecDepth 100000 in
set_option maxHeartbeats 1000000 in
theorem rframe_off (t : RG w W m r v0 v P G.m G.c G.root G.walks) (addr : Int) (wr : Bool) (h : addr < 0 ∨ 255 < addr) :
    Calls Tryz.prog 77 #[.pointer (some ⟨r, 0, none⟩), .int .i64 addr, .bool wr] W (RFramePost w m r v0 (gframe P G addr wr)) := by
  have hF : Hid (gframe P G addr wr = (P, G, 0, 1)) := by show _ = _; unfold gframe; rw [if_pos h]
  go_enter Tryz.func77, Tryz.ntmps77
  go_wp2_with fail
  all_goals first | (exfalso; simp_all; done) | go_ret2
  all_goals exact ⟨by rw [hF.out]; rfl, v, by rw [hF.out]; exact t⟩

set_option maxRecDepth 100000 in
set_option maxHeartbeats 1000000 in
theorem rframe_plain (t : RG w W m r v0 v P G.m G.c G.root G.walks) (hI : GInv P G E) (addr : Int) (wr : Bool) (h0 : 0 ≤ addr) (h1 : addr ≤ 255) (hr : G.root < 0) :
    Calls Tryz.prog 77 #[.pointer (some ⟨r, 0, none⟩), .int .i64 addr, .bool wr] W (RFramePost w m r v0 (gframe P G addr wr)) := by
  have hF : Hid (gframe P G addr wr = ((mtouch P G.m (addr / 16) wr).1, { G with m := (mtouch P G.m (addr / 16) wr).2.1 }, (mtouch P G.m (addr / 16) wr).2.2.1, (mtouch P G.m (addr / 16) wr).2.2.2.2)) := by
    show _ = _; unfold gframe gtouch; rw [if_neg (by omega), if_pos hr]
  have c2 := t.c66
  have lg := t.lt
  have hroot : G.root = -1 := by have := hI.r0; omega
  rw [hroot] at c2
  have htouch := Lib.hid (rgtouch_any t hI (addr / 16) wr)
  clear hroot hr
  go_enter Tryz.func77, Tryz.ntmps77
  go_wp2_with (first
    | (go_at_call 109; refine htouch.out.mono ?_; rintro e w2 ⟨rfl, t2⟩)
    | fail)
  all_goals go_ret2
  all_goals exact ⟨by rw [hF.out]; rfl, v, by rw [hF.out]; exact t2⟩
end

end U
end Go.Proofs.YtnhplapcdgnaaaaGreatDoor

set_option linter.unusedVariables false
set_option linter.unusedSimpArgs false
namespace Go.Proofs.YtnhplapcdgnaaaaGreatDoor
open Go.RowKit
namespace U

section
variable {w W : World} {m r : Nat} {v0 v : Value} {P : PoolM} {E : Nat → Nat} {G : GuestM}

theorem fault_ways (wr may : Bool) : (wr = true ∧ may = false) ∨ (wr = false ∨ (wr = true ∧ may = true)) := by cases wr <;> cases may <;> simp

set_option maxRecDepth 100000 in
set_option maxHeartbeats 2000000 in
theorem rframe_hit (t : RG w W m r v0 v P G.m G.c G.root G.walks) (hI : GInv P G E) (addr : Int) (wr : Bool) (h0 : 0 ≤ addr) (h1 : addr ≤ 255) (hr : 0 ≤ G.root) {i : Nat} (hc : cacheAt G.c G.root (addr / 16) = some i) :
    Calls Tryz.prog 77 #[.pointer (some ⟨r, 0, none⟩), .int .i64 addr, .bool wr] W (RFramePost w m r v0 (gframe P G addr wr)) := by
  have hi := (cacheAt_mem hc).1
  have hlen := hI.c.len
  obtain ⟨g, o, cap, rfl, hg, _⟩ := t.ev.at_ hi
  have hF : Hid (gframe P G addr wr = if (wr && !G.c[i].may) = true then (P, G, 0, 5) else ((mtouch P G.m G.c[i].to wr).1, { G with m := (mtouch P G.m G.c[i].to wr).2.1 }, (mtouch P G.m G.c[i].to wr).2.2.1, (mtouch P G.m G.c[i].to wr).2.2.2.2)) := by
    show _ = _
    unfold gframe
    rw [if_neg (by omega), if_neg (by omega), hc]
    simp only []
    rw [List.getElem?_eq_getElem hi]
    rfl
  have hfind : Hid (∀ W', RG w W' m r v0 (.slice (some ⟨g, o, none⟩) G.c.length cap) P G.m G.c G.root G.walks → Calls Tryz.prog 80 #[.slice (some ⟨g, o, none⟩) G.c.length cap, .int .i64 G.root, .int .i64 (addr / 16)] W' fun e w' => e = .returned (.int .i64 i) ∧ W' = w') := fun W' t' => by
    have := rfind_any W' _ G.c t'.ev (by omega) G.root (addr / 16)
    rw [hc] at this
    exact this
  have htouch : Hid (∀ W', RG w W' m r v0 (.slice (some ⟨g, o, none⟩) G.c.length cap) P G.m G.c G.root G.walks → Calls Tryz.prog 109 #[.pointer (some ⟨r, 0, none⟩), .int .i64 G.c[i].to, .bool wr] W' fun e w' =>
      e = .returned (.tuple #[.int .i64 (mtouch P G.m G.c[i].to wr).2.2.1, .bool (mtouch P G.m G.c[i].to wr).2.2.2.1, .int .i64 (mtouch P G.m G.c[i].to wr).2.2.2.2]) ∧ RG w w' m r v0 (.slice (some ⟨g, o, none⟩) G.c.length cap) (mtouch P G.m G.c[i].to wr).1 (mtouch P G.m G.c[i].to wr).2.1 G.c G.root G.walks) := fun W' t' => rgtouch_any t' hI _ wr
  have her : Hid ((mtouch P G.m G.c[i].to wr).2.2.2.2 ≠ 0 → (mtouch P G.m G.c[i].to wr).2.2.1 = 0) := fun h => mtouch_err h
  generalize mtouch P G.m G.c[i].to wr = T at hF htouch her
  obtain ⟨P1, M1, f, mv, er⟩ := T
  dsimp only at hF htouch her
  have hneg : G.root ≠ -1 := by omega
  have hrb : (G.root == -1) = false := by simpa using hneg
  have c65 := t.c65
  have c66 := t.c66
  have lg := t.lt
  have k0 : (0 : Int) ≤ i := by omega
  have k1 : (i : Int) < G.c.length := by omega
  clear hc hI hneg hr
  go_enter Tryz.func77, Tryz.ntmps77
  go_wp2_with fail
  go_quiet ((go_at_call 80; exact quiet_same (hfind.out _ (t.drewN _))))
  go_upto_region 9 with fail
  have tx := (t.drewN nq).alloc (.cells #[.int .i64 0, .int .i64 0, .int .i64 0, .bool false, .bool false, .bool false, .int .i64 0] 144)
  have bx := Row.new (W.drewN nq) 144 #[.int .i64 0, .int .i64 0, .int .i64 0, .bool false, .bool false, .bool false, .int .i64 0]
  have ux : Upd Non W ((W.drewN nq).alloc (.cells #[.int .i64 0, .int .i64 0, .int .i64 0, .bool false, .bool false, .bool false, .int .i64 0] 144)) := ((Upd.refl _ _).drewN _).alloc _
  have hB : W.heap.size ≤ W.heap.size := Nat.le_refl _
  clear c65 c66 lg
  change Row _ W.heap.size _ 7 _ at bx
  generalize hBe : W.heap.size = B at bx ⊢
  rw [hBe] at hB
  have hB : W.heap.size ≤ B := by omega
  generalize (W.drewN nq).alloc (.cells #[.int .i64 0, .int .i64 0, .int .i64 0, .bool false, .bool false, .bool false, .int .i64 0] 144) = wx at tx bx ux ⊢
  obtain ⟨g', o', cap', hv, hg', hE⟩ := tx.ev.at_ hi
  obtain ⟨⟨rfl, rfl⟩, rfl⟩ : (g = g' ∧ o = o') ∧ cap = cap' := by simpa using hv
  clear hv
  generalize G.c[i] = x at hE hF htouch
  obtain ⟨xr, xp, to0, may, ⟨there, write, fr⟩⟩ := x
  obtain ⟨e0, e1, e2, e3, e4, e5, e6⟩ := hE
  dsimp only at hF htouch e0 e1 e2 e3 e4 e5 e6
  have c65 := tx.c65
  have b0 := bx.cell (i := 0) (by omega)
  have b1 := bx.cell (i := 1) (by omega)
  have b2 := bx.cell (i := 2) (by omega)
  have b3 := bx.cell (i := 3) (by omega)
  have b4 := bx.cell (i := 4) (by omega)
  have b5 := bx.cell (i := 5) (by omega)
  have b6 := bx.cell (i := 6) (by omega)
  have f0 := bx.frozen 0
  have f1 := bx.frozen 1
  have f2 := bx.frozen 2
  have f3 := bx.frozen 3
  have f4 := bx.frozen 4
  have f5 := bx.frozen 5
  have f6 := bx.frozen 6
  go_upto_region 19 with fail
  have t7 := t.non (Upd.box7 ux hB (.int .i64 xr) (.int .i64 xp) (.int .i64 to0) (.bool may) (.bool there) (.bool write) (.int .i64 fr))
  have r7 : EBox _ B ⟨xr, xp, to0, may, ⟨there, write, fr⟩⟩ := (bx.box7 (.int .i64 xr) (.int .i64 xp) (.int .i64 to0) (.bool may) (.bool there) (.bool write) (.int .i64 fr)).congr fun i hi => rfl
  clear b0 b1 b2 b3 b4 b5 b6 f0 f1 f2 f3 f4 f5 f6 e0 e1 e2 e3 e4 e5 e6 c65 bx tx ux t
  generalize (((((((wx.setCell ⟨B, 0, none⟩ (.int .i64 xr)).setCell ⟨B, 1, none⟩ (.int .i64 xp)).setCell ⟨B, 2, none⟩ (.int .i64 to0)).setCell ⟨B, 3, none⟩ (.bool may)).setCell ⟨B, 4, none⟩ (.bool there)).setCell ⟨B, 5, none⟩ (.bool write)).setCell ⟨B, 6, none⟩ (.int .i64 fr)) = w7 at t7 r7 ⊢
  have d2 := r7.cell (i := 2) (by omega)
  have d3 := r7.cell (i := 3) (by omega)
  simp only [EntryM.cells, List.getD_cons_succ, List.getD_cons_zero] at d2 d3
  have lB := r7.lt
  rcases fault_ways wr may with ⟨rfl, rfl⟩ | hw
  · go_wp2_with fail
    go_ret2
    exact ⟨by rw [hF.out]; rfl, _, by rw [hF.out]; exact t7⟩
  · have hw' : (wr && !may) = false := by rcases hw with rfl | ⟨rfl, rfl⟩ <;> simp
    rw [hw', if_neg (by simp)] at hF
    clear hw'
    by_cases he : er = 0
    · subst he
      rcases hw with rfl | ⟨rfl, rfl⟩
      all_goals go_wp2_with fail
      all_goals go_region_with (go_at_call 109; refine (htouch.out _ (by repeat (first | assumption | apply RG.alloc | apply RG.drew | apply RG.drewN))).mono ?_; rintro e w3 ⟨rfl, t3⟩)
      all_goals go_wp2_with fail
      all_goals go_ret2
      all_goals exact ⟨by rw [hF.out]; rfl, _, by rw [hF.out]; exact (by repeat (first | assumption | apply RG.alloc | apply RG.drew | apply RG.drewN))⟩
    · obtain rfl := her.out he
      have hp : (0 : Int) < er := by omega
      clear he
      rcases hw with rfl | ⟨rfl, rfl⟩
      all_goals go_wp2_with fail
      all_goals go_region_with (go_at_call 109; refine (htouch.out _ (by repeat (first | assumption | apply RG.alloc | apply RG.drew | apply RG.drewN))).mono ?_; rintro e w3 ⟨rfl, t3⟩)
      all_goals go_wp2_with fail
      all_goals go_ret2
      all_goals exact ⟨by rw [hF.out]; rfl, _, by rw [hF.out]; exact (by repeat (first | assumption | apply RG.alloc | apply RG.drew | apply RG.drewN))⟩
end

end U
end Go.Proofs.YtnhplapcdgnaaaaGreatDoor
