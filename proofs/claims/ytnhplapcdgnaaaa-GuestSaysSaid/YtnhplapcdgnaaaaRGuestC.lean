import Derived.Test.YtnhplapcdgnaaaaRGuestB
set_option linter.unusedVariables false
set_option linter.unusedSimpArgs false
namespace Go.Proofs.Ytnhplapcdgnaaaa
open Go.RowKit
namespace U

section
variable {w W : World} {m r : Nat} {v0 v : Value} {P : PoolM} {E : Nat → Nat} {G : GuestM}

theorem fault_ways (wr may : Bool) : (wr = true ∧ may = false) ∨ (wr = false ∨ (wr = true ∧ may = true)) := by cases wr <;> cases may <;> simp

set_option maxRecDepth 100000 in
set_option maxHeartbeats 2000000 in
theorem rframe_hit (t : RG w W m r v0 v P G.m G.c G.root G.walks) (hI : GInv P G E) (addr : Int) (wr : Bool) (h0 : 0 ≤ addr) (h1 : addr ≤ 255) (hr : 0 ≤ G.root) {i : Nat} (hc : cacheAt G.c G.root (addr / 16) = some i) :
    Calls Try.prog 137 #[.pointer (some ⟨r, 0, none⟩), .int .i64 addr, .bool wr] W (RFramePost w m r v0 (gframe P G addr wr)) := by
  have hi := (cacheAt_mem hc).1
  have hlen := hI.c.len
  obtain ⟨g, o, cap, rfl, hg, _⟩ := t.ev.at_ hi
  have hF : Hid (gframe P G addr wr = if (wr && !G.c[i].may) = true then (P, G, 0, 5) else ((mtouch P G.m G.c[i].to wr).1, { G with m := (mtouch P G.m G.c[i].to wr).2.1 }, (mtouch P G.m G.c[i].to wr).2.2.1, (mtouch P G.m G.c[i].to wr).2.2.2.2)) := by
    show _ = _
    unfold gframe
    rw [if_neg (by omega), if_neg (by omega), hc]
    simp only []
    rw [List.getElem?_eq_getElem hi]
    rfl
  have hfind : Hid (∀ W', RG w W' m r v0 (.slice (some ⟨g, o, none⟩) G.c.length cap) P G.m G.c G.root G.walks → Calls Try.prog 17 #[.slice (some ⟨g, o, none⟩) G.c.length cap, .int .i64 G.root, .int .i64 (addr / 16)] W' fun e w' => e = .returned (.int .i64 i) ∧ W' = w') := fun W' t' => by
    have := rfind_any W' _ G.c t'.ev (by omega) G.root (addr / 16)
    rw [hc] at this
    exact this
  have htouch : Hid (∀ W', RG w W' m r v0 (.slice (some ⟨g, o, none⟩) G.c.length cap) P G.m G.c G.root G.walks → Calls Try.prog 94 #[.pointer (some ⟨r, 0, none⟩), .int .i64 G.c[i].to, .bool wr] W' fun e w' =>
      e = .returned (.tuple #[.int .i64 (mtouch P G.m G.c[i].to wr).2.2.1, .bool (mtouch P G.m G.c[i].to wr).2.2.2.1, .int .i64 (mtouch P G.m G.c[i].to wr).2.2.2.2]) ∧ RG w w' m r v0 (.slice (some ⟨g, o, none⟩) G.c.length cap) (mtouch P G.m G.c[i].to wr).1 (mtouch P G.m G.c[i].to wr).2.1 G.c G.root G.walks) := fun W' t' => rgtouch_any t' hI _ wr
  have her : Hid ((mtouch P G.m G.c[i].to wr).2.2.2.2 ≠ 0 → (mtouch P G.m G.c[i].to wr).2.2.1 = 0) := fun h => mtouch_err h
  generalize mtouch P G.m G.c[i].to wr = T at hF htouch her
  obtain ⟨P1, M1, f, mv, er⟩ := T
  dsimp only at hF htouch her
  have hneg : G.root ≠ -1 := by omega
  have hrb : (G.root == -1) = false := by simpa using hneg
  have c65 := t.c65
  have c66 := t.c66
  have lg := t.lt
  have k0 : (0 : Int) ≤ i := by omega
  have k1 : (i : Int) < G.c.length := by omega
  clear hc hI hneg hr
  go_enter Try.func137, Try.ntmps137
  go_wp2_with fail
  go_quiet ((go_at_call 17; exact quiet_same (hfind.out _ (t.drewN _))))
  go_upto_region 9 with fail
  have tx := (t.drewN nq).alloc (.cells #[.int .i64 0, .int .i64 0, .int .i64 0, .bool false, .bool false, .bool false, .int .i64 0] 35)
  have bx := Row.new (W.drewN nq) 35 #[.int .i64 0, .int .i64 0, .int .i64 0, .bool false, .bool false, .bool false, .int .i64 0]
  have ux : Upd Non W ((W.drewN nq).alloc (.cells #[.int .i64 0, .int .i64 0, .int .i64 0, .bool false, .bool false, .bool false, .int .i64 0] 35)) := ((Upd.refl _ _).drewN _).alloc _
  have hB : W.heap.size ≤ W.heap.size := Nat.le_refl _
  clear c65 c66 lg
  change Row _ W.heap.size _ 7 _ at bx
  generalize hBe : W.heap.size = B at bx ⊢
  rw [hBe] at hB
  have hB : W.heap.size ≤ B := by omega
  generalize (W.drewN nq).alloc (.cells #[.int .i64 0, .int .i64 0, .int .i64 0, .bool false, .bool false, .bool false, .int .i64 0] 35) = wx at tx bx ux ⊢
  obtain ⟨g', o', cap', hv, hg', hE⟩ := tx.ev.at_ hi
  obtain ⟨⟨rfl, rfl⟩, rfl⟩ : (g = g' ∧ o = o') ∧ cap = cap' := by simpa using hv
  clear hv
  generalize G.c[i] = x at hE hF htouch
  obtain ⟨xr, xp, to0, may, ⟨there, write, fr⟩⟩ := x
  obtain ⟨e0, e1, e2, e3, e4, e5, e6⟩ := hE
  dsimp only at hF htouch e0 e1 e2 e3 e4 e5 e6
  have c65 := tx.c65
  have b0 := bx.cell (i := 0) (by omega)
  have b1 := bx.cell (i := 1) (by omega)
  have b2 := bx.cell (i := 2) (by omega)
  have b3 := bx.cell (i := 3) (by omega)
  have b4 := bx.cell (i := 4) (by omega)
  have b5 := bx.cell (i := 5) (by omega)
  have b6 := bx.cell (i := 6) (by omega)
  have f0 := bx.frozen 0
  have f1 := bx.frozen 1
  have f2 := bx.frozen 2
  have f3 := bx.frozen 3
  have f4 := bx.frozen 4
  have f5 := bx.frozen 5
  have f6 := bx.frozen 6
  go_upto_region 19 with fail
  have t7 := t.non (Upd.box7 ux hB (.int .i64 xr) (.int .i64 xp) (.int .i64 to0) (.bool may) (.bool there) (.bool write) (.int .i64 fr))
  have r7 : EBox _ B ⟨xr, xp, to0, may, ⟨there, write, fr⟩⟩ := (bx.box7 (.int .i64 xr) (.int .i64 xp) (.int .i64 to0) (.bool may) (.bool there) (.bool write) (.int .i64 fr)).congr fun i hi => rfl
  clear b0 b1 b2 b3 b4 b5 b6 f0 f1 f2 f3 f4 f5 f6 e0 e1 e2 e3 e4 e5 e6 c65 bx tx ux t
  generalize (((((((wx.setCell ⟨B, 0, none⟩ (.int .i64 xr)).setCell ⟨B, 1, none⟩ (.int .i64 xp)).setCell ⟨B, 2, none⟩ (.int .i64 to0)).setCell ⟨B, 3, none⟩ (.bool may)).setCell ⟨B, 4, none⟩ (.bool there)).setCell ⟨B, 5, none⟩ (.bool write)).setCell ⟨B, 6, none⟩ (.int .i64 fr)) = w7 at t7 r7 ⊢
  have d2 := r7.cell (i := 2) (by omega)
  have d3 := r7.cell (i := 3) (by omega)
  simp only [EntryM.cells, List.getD_cons_succ, List.getD_cons_zero] at d2 d3
  have lB := r7.lt
  rcases fault_ways wr may with ⟨rfl, rfl⟩ | hw
  · go_wp2_with fail
    go_ret2
    exact ⟨by rw [hF.out]; rfl, _, by rw [hF.out]; exact t7⟩
  · have hw' : (wr && !may) = false := by rcases hw with rfl | ⟨rfl, rfl⟩ <;> simp
    rw [hw', if_neg (by simp)] at hF
    clear hw'
    by_cases he : er = 0
    · subst he
      rcases hw with rfl | ⟨rfl, rfl⟩
      all_goals go_wp2_with fail
      all_goals go_region_with (go_at_call 94; refine (htouch.out _ (by repeat (first | assumption | apply RG.alloc | apply RG.drew | apply RG.drewN))).mono ?_; rintro e w3 ⟨rfl, t3⟩)
      all_goals go_wp2_with fail
      all_goals go_ret2
      all_goals exact ⟨by rw [hF.out]; rfl, _, by rw [hF.out]; exact (by repeat (first | assumption | apply RG.alloc | apply RG.drew | apply RG.drewN))⟩
    · obtain rfl := her.out he
      have hp : (0 : Int) < er := by omega
      clear he
      rcases hw with rfl | ⟨rfl, rfl⟩
      all_goals go_wp2_with fail
      all_goals go_region_with (go_at_call 94; refine (htouch.out _ (by repeat (first | assumption | apply RG.alloc | apply RG.drew | apply RG.drewN))).mono ?_; rintro e w3 ⟨rfl, t3⟩)
      all_goals go_wp2_with fail
      all_goals go_ret2
      all_goals exact ⟨by rw [hF.out]; rfl, _, by rw [hF.out]; exact (by repeat (first | assumption | apply RG.alloc | apply RG.drew | apply RG.drewN))⟩
end

end U
end Go.Proofs.Ytnhplapcdgnaaaa
