import Derived.Test.YtnhplapcdgnaaaaGreatDoorRGuestX
set_option linter.unusedVariables false
set_option linter.unusedSimpArgs false
namespace Go.Proofs.YtnhplapcdgnaaaaGreatDoor
open Go.RowKit
namespace U

section
variable {w W : World} {m r : Nat} {v0 v : Value} {P : PoolM} {E : Nat → Nat} {G : GuestM}

theorem rgtouch2_any (t : RG w W m r v0 v P G.m G.c G.root G.walks) (hI : GInv P G E) (n : Int) (wr : Bool) :
    Calls Tryz.prog 109 #[.pointer (some ⟨r, 0, none⟩), .int .i64 n, .bool wr] W fun e w' =>
      e = .returned (.tuple #[.int .i64 (mtouch P G.m n wr).2.2.1, .bool (mtouch P G.m n wr).2.2.2.1, .int .i64 (mtouch P G.m n wr).2.2.2.2]) ∧ RG w w' m r v0 v (mtouch P G.m n wr).1 (mtouch P G.m n wr).2.1 G.c G.root G.walks ∧ Upd (ownR m r) W w' :=
  (rtouch_any (by decide) W P r G.m (xg v G.root G.walks) hI.m t.rp t.mr n wr).mono (by rintro e w2 ⟨rfl, r2, q2, u2⟩; exact ⟨rfl, t.mapP r2 q2 u2, u2⟩)
/-- A box of the walk's own, beside pool and guest. -/
theorem RG.box {M : MapM} {C : List EntryM} {root walks : Int} (t : RG w W m r v0 v P M C root walks) {B : Nat} {c : Nat → Value} (b : Row W B 144 7 c) : ¬ ownR m r B := by
  obtain ⟨_, hm, _⟩ := t.rp.row
  obtain ⟨_, hr, _⟩ := t.mr.row
  rintro (h | h)
  · exact b.ne_ hm (by decide) h
  · exact b.ne_ hr (by decide) h

theorem RG.far {M : MapM} {C : List EntryM} {root walks : Int} {W' : World} (t : RG w W m r v0 v P M C root walks) {B : Nat} {c : Nat → Value} (b : Row W B 144 7 c) (hv : ∀ g, v.ownBlock = some g → g < B) (hw : w.heap.size ≤ B) (u : Upd (at1 B) W W') :
    RG w W' m r v0 v P M C root walks := by
  obtain ⟨_, hm, _⟩ := t.rp.row
  obtain ⟨_, hr, _⟩ := t.mr.row
  exact ⟨t.rp.upd_ u (fun h => b.ne_ hm (by decide) h.symm), t.mr.upd_ u (fun h => b.ne_ hr (by decide) h.symm), t.ev.upd_ u (fun g hg h => by have := hv g hg; unfold at1 at h; omega), t.fv, t.up.over' u (by rintro i rfl; exact .inr hw)⟩
theorem Upd.set7 {S : Nat → Prop} {a w : World} {b : Nat} (u : Upd S a w) (hb : S b) (v0 v1 v2 v3 v4 v5 v6 : Value) :
    Upd S a (((((((w.setCell ⟨b, 0, none⟩ v0).setCell ⟨b, 1, none⟩ v1).setCell ⟨b, 2, none⟩ v2).setCell ⟨b, 3, none⟩ v3).setCell ⟨b, 4, none⟩ v4).setCell ⟨b, 5, none⟩ v5).setCell ⟨b, 6, none⟩ v6) := by
  have h : ∀ i, (⟨b, i, none⟩ : Addr).block < a.heap.size → S (⟨b, i, none⟩ : Addr).block := fun i _ => hb
  exact (((((((u.setCell (h 0) v0).setCell (h 1) v1).setCell (h 2) v2).setCell (h 3) v3).setCell (h 4) v4).setCell (h 5) v5).setCell (h 6) v6)

theorem ebox_load {w : World} {B : Nat} {e : EntryM} (r : Row w B 144 7 (fun i => (EntryM.cells e).getD i undef)) :
    (Instr.loadAt 144 (.pointer (some ⟨B, 0, none⟩))).run Tryz.prog w.drew = .ok (.agg #[.int .i64 e.root, .int .i64 e.page, .int .i64 e.to, .bool e.may, .bool e.leaf.there, .bool e.leaf.write, .int .i64 e.leaf.frame]) w.drew :=
  load_row (P := Tryz.prog) r.drew 144 0 7 _ (by omega) Tryz.underlying144 rfl (by kernel_rfl)

set_option maxRecDepth 100000 in
set_option maxHeartbeats 2000000 in
theorem rframe_miss (t : RG w W m r v0 v P G.m G.c G.root G.walks) (hI : GInv P G E) (addr : Int) (wr : Bool) (h0 : 0 ≤ addr) (h1 : addr ≤ 255) (hr : 0 ≤ G.root) (hc : cacheAt G.c G.root (addr / 16) = none) :
    Calls Tryz.prog 77 #[.pointer (some ⟨r, 0, none⟩), .int .i64 addr, .bool wr] W (RFramePost w m r v0 (gframe P G addr wr)) := by
  have hlen := hI.c.len
  obtain ⟨A, cap, rfl⟩ := t.ev.form
  have hF := Lib.hid (gframe_miss_eq (P := P) (wr := wr) h0 h1 hr hc)
  have hfind : Hid (∀ W', RG w W' m r v0 (.slice A G.c.length cap) P G.m G.c G.root G.walks → Calls Tryz.prog 80 #[.slice A G.c.length cap, .int .i64 G.root, .int .i64 (addr / 16)] W' fun e w' => e = .returned (.int .i64 (-1)) ∧ W' = w') := fun W' t' => by
    have := rfind_any W' _ G.c t'.ev (by omega) G.root (addr / 16)
    rw [hc] at this
    exact this
  have htouch : Hid (∀ W', RG w W' m r v0 (.slice A G.c.length cap) P G.m G.c G.root G.walks → Calls Tryz.prog 109 #[.pointer (some ⟨r, 0, none⟩), .int .i64 G.root, .bool false] W' fun e w' =>
      e = .returned (.tuple #[.int .i64 (mtouch P G.m G.root false).2.2.1, .bool (mtouch P G.m G.root false).2.2.2.1, .int .i64 (mtouch P G.m G.root false).2.2.2.2]) ∧ RG w w' m r v0 (.slice A G.c.length cap) (mtouch P G.m G.root false).1 (mtouch P G.m G.root false).2.1 G.c G.root G.walks ∧ Upd (ownR m r) W' w') := fun W' t' => rgtouch2_any t' hI _ false
  have hS : gwalk P G (addr / 16) = if (mtouch P G.m G.root false).2.2.2.2 ≠ 0 then ((mtouch P G.m G.root false).1, { G with m := (mtouch P G.m G.root false).2.1 }, 0, false, (mtouch P G.m G.root false).2.2.2.2) else
      if (gbyte (mtouch P G.m G.root false).1 (mtouch P G.m G.root false).2.2.1 (addr / 16)).toNat < 128 then ((mtouch P G.m G.root false).1, { G with m := (mtouch P G.m G.root false).2.1, walks := wrap64 (G.walks + 1) }, 0, false, 5)
      else ((mtouch P G.m G.root false).1, { G with m := (mtouch P G.m G.root false).2.1, walks := wrap64 (G.walks + 1) }, (((gbyte (mtouch P G.m G.root false).1 (mtouch P G.m G.root false).2.2.1 (addr / 16)).toNat % 16 : Nat) : Int), (gbyte (mtouch P G.m G.root false).1 (mtouch P G.m G.root false).2.2.1 (addr / 16)).toNat / 64 % 2 == 1, 0) := rfl
  have hI1 : GInv (mtouch P G.m G.root false).1 { G with m := (mtouch P G.m G.root false).2.1 } E := (hI.touch G.root false).inv
  have hfr : (mtouch P G.m G.root false).2.2.2.2 = 0 → 0 ≤ (mtouch P G.m G.root false).2.2.1 ∧ (mtouch P G.m G.root false).2.2.1.toNat < (mtouch P G.m G.root false).1.n := fun h => by
    obtain ⟨k, hk, a, b, _⟩ := gtouch_frame (P := P) (G := G) (n := G.root) (wr := false) h
    have := used_cast.1 (hI1.m.used hk a)
    rw [show (mtouch P G.m G.root false).2.2.1 = _ from b]
    exact ⟨this.1, this.2.1⟩
  generalize mtouch P G.m G.root false = T at htouch hS hI1 hfr
  obtain ⟨P1, M1, f, mv, er⟩ := T
  dsimp only at htouch hS hI1 hfr
  have hneg : G.root ≠ -1 := by omega
  have hrb : (G.root == -1) = false := by simpa using hneg
  have c65 := t.c65
  have c66 := t.c66
  have lg := t.lt
  go_enter Tryz.func77, Tryz.ntmps77
  go_wp2_with fail
  go_quiet ((go_at_call 80; exact quiet_same (hfind.out _ (t.drewN _))))
  go_upto_region 9 with fail
  have tx := (t.drewN nq).alloc (.cells #[.int .i64 0, .int .i64 0, .int .i64 0, .bool false, .bool false, .bool false, .int .i64 0] 144)
  have bx := Row.new (W.drewN nq) 144 #[.int .i64 0, .int .i64 0, .int .i64 0, .bool false, .bool false, .bool false, .int .i64 0]
  have hB : W.heap.size ≤ W.heap.size := Nat.le_refl _
  have lw := t.up.size
  have hvB : ∀ g, (Value.slice A G.c.length cap).ownBlock = some g → g < W.heap.size := fun g hg => t.ev.lt hg
  clear c65 c66 lg t hfind
  change Row _ W.heap.size _ 7 _ at bx
  generalize hBe : W.heap.size = B at bx lw hvB ⊢
  generalize (W.drewN nq).alloc (.cells #[.int .i64 0, .int .i64 0, .int .i64 0, .bool false, .bool false, .bool false, .int .i64 0] 144) = wx at tx bx ⊢
  clear hB hBe
  have c66 := tx.c66
  have lg := tx.lt
  have nb := tx.box bx
  go_wp2_with fail
  go_region_with (go_at_call 109; refine (htouch.out _ (by repeat (first | assumption | apply RG.alloc | apply RG.drew | apply RG.drewN))).mono ?_; rintro e w2 ⟨rfl, t2, u2⟩; have r2 := Row.upd_ (w := _) (by repeat (first | assumption | apply Row.alloc | apply Row.drew | apply Row.drewN)) u2 nb)
  clear tx bx c66 lg htouch hc hneg hrb
  by_cases he : er = 0
  · subst he
    obtain ⟨hf0, hf1⟩ := hfr rfl
    rw [if_neg (by simp)] at hS
    have hn64 := t2.rp.n64
    have c0 := t2.c0
    have c67 := t2.c67
    have f67 := t2.fr 67
    have lg := t2.lt
    have lm := t2.rp.lt
    have p0 : 0 ≤ addr / 16 := by omega
    have p1 : addr / 16 < 16 := by omega
    have cb := t2.rp.byte hf1 (j := (addr / 16).toNat) (by omega)
    have hb : gbyte P1 f (addr / 16) = P1.b f.toNat (addr / 16).toNat := rfl
    rw [← hb] at cb
    generalize gbyte P1 f (addr / 16) = b at cb hS
    have hf2 : f < 64 := by omega
    go_upto_region 16 with fail
    have hb8 := b.toNat_lt
    rw [show wrap64 (b.toNat : Int) = b.toNat from IntWalk.wrap64_in _ ⟨by omega, by omega⟩]
    clear cb
    generalize b.toNat = k at hS hb8 ⊢
    have t3 := t2.setWalks (wrap64 (G.walks + 1))
    obtain ⟨_, hr3, _⟩ := t2.mr.row
    have r3 := r2.far (p := ⟨r, 67, none⟩) (r2.ne_ hr3 (by decide)) (.int .i64 (wrap64 (G.walks + 1)))
    clear t2 r2 u2 c0 c67 f67 lg lm hr3
    generalize w2.setCell ⟨r, 67, none⟩ (.int .i64 (wrap64 (G.walks + 1))) = w3 at t3 r3 ⊢
    by_cases hk : k < 128
    · rw [if_pos hk] at hS
      rw [hS, if_pos (by simp)] at hF
      have hk2 : (k : Int) < 128 := by omega
      go_wp2_with fail
      go_ret2
      exact ⟨by rw [hF.out]; rfl, _, by rw [hF.out]; exact t3⟩
    · rw [if_neg hk] at hS
      rw [hS, if_neg (by simp)] at hF
      have hk2 : (128 : Int) ≤ k := by omega
      have hk3 : (k : Int) < 256 := by omega
      have c66 := t3.c66
      have lg := t3.lt
      have b0 := r3.cell (i := 0) (by omega)
      have b1 := r3.cell (i := 1) (by omega)
      have b2 := r3.cell (i := 2) (by omega)
      have b3 := r3.cell (i := 3) (by omega)
      have b4 := r3.cell (i := 4) (by omega)
      have b5 := r3.cell (i := 5) (by omega)
      have b6 := r3.cell (i := 6) (by omega)
      have f0 := r3.frozen 0
      have f1 := r3.frozen 1
      have f2 := r3.frozen 2
      have f3 := r3.frozen 3
      have f4 := r3.frozen 4
      have f5 := r3.frozen 5
      have f6 := r3.frozen 6
      go_upto_region 19 with fail
      have ed : ((k % 16 : Nat) : Int) = (k : Int) % 16 := by omega
      have em : (k / 64 % 2 == 1) = ((k : Int) / 64 % 2 == 1) := by rw [Bool.eq_iff_iff]; simp; omega
      have d0 : 0 ≤ (k : Int) % 16 := by omega
      have d1 : (k : Int) % 16 < 16 := by omega
      dsimp only at hF
      rw [ed, em] at hF
      generalize (k : Int) % 16 = dest at hF d0 d1 ⊢
      generalize ((k : Int) / 64 % 2 == 1) = may at hF ⊢
      have t7 := t3.far r3 hvB lw (Upd.set7 (S := at1 B) (Upd.refl _ w3) at1_self (.int .i64 G.root) (.int .i64 (addr / 16)) (.int .i64 dest) (.bool may) (.bool false) (.bool false) (.int .i64 0))
      have r7 : EBox _ B ⟨G.root, addr / 16, dest, may, ⟨false, false, 0⟩⟩ := (r3.box7 (.int .i64 G.root) (.int .i64 (addr / 16)) (.int .i64 dest) (.bool may) (.bool false) (.bool false) (.int .i64 0)).congr fun i hi => rfl
      clear b0 b1 b2 b3 b4 b5 b6 f0 f1 f2 f3 f4 f5 f6 c66 lg t3 r3 ed em hk hk2 hk3 hS hb8
      generalize (((((((w3.setCell ⟨B, 0, none⟩ (.int .i64 G.root)).setCell ⟨B, 1, none⟩ (.int .i64 (addr / 16))).setCell ⟨B, 2, none⟩ (.int .i64 dest)).setCell ⟨B, 3, none⟩ (.bool may)).setCell ⟨B, 4, none⟩ (.bool false)).setCell ⟨B, 5, none⟩ (.bool false)).setCell ⟨B, 6, none⟩ (.int .i64 0)) = w7 at t7 r7 ⊢
      have d2 := r7.cell (i := 2) (by omega)
      have d3 := r7.cell (i := 3) (by omega)
      simp only [EntryM.cells, List.getD_cons_succ, List.getD_cons_zero] at d2 d3
      have lB := r7.lt
      have htouch : Hid (∀ W', RG w W' m r v0 (.slice A G.c.length cap) P1 M1 G.c G.root (wrap64 (G.walks + 1)) → Calls Tryz.prog 109 #[.pointer (some ⟨r, 0, none⟩), .int .i64 dest, .bool wr] W' fun e w' =>
          e = .returned (.tuple #[.int .i64 (mtouch P1 M1 dest wr).2.2.1, .bool (mtouch P1 M1 dest wr).2.2.2.1, .int .i64 (mtouch P1 M1 dest wr).2.2.2.2]) ∧ RG w w' m r v0 (.slice A G.c.length cap) (mtouch P1 M1 dest wr).1 (mtouch P1 M1 dest wr).2.1 G.c G.root (wrap64 (G.walks + 1)) ∧ Upd (ownR m r) W' w') :=
        fun W' t' => rgtouch2_any (G := { G with m := M1, walks := wrap64 (G.walks + 1) }) t' (E := E) ⟨hI1.m, hI1.c, hI1.r0, hI1.r1⟩ dest wr
      have her : Hid ((mtouch P1 M1 dest wr).2.2.2.2 ≠ 0 → (mtouch P1 M1 dest wr).2.2.1 = 0) := fun h => mtouch_err h
      have hput : Hid (rput ⟨G.root, addr / 16, dest, may, ⟨false, false, 0⟩⟩ G.c = cput (EntryM.of G.root (addr / 16) dest may) G.c) := rput_eq hI.c.keys _
      unfold gmiss at hF
      dsimp only at hF
      generalize mtouch P1 M1 dest wr = T3 at hF htouch her
      obtain ⟨P3, M3, f3, mv3, er3⟩ := T3
      dsimp only at hF htouch her
      rcases fault_ways wr may with ⟨rfl, rfl⟩ | hw
      · go_wp2_with fail
        go_ret2
        exact ⟨by rw [hF.out]; rfl, _, by rw [hF.out]; exact t7⟩
      · have hw' : (wr && !may) = false := by rcases hw with rfl | ⟨rfl, rfl⟩ <;> simp
        rw [hw', if_neg (by simp)] at hF
        clear hw'
        have nb7 := t7.box r7
        by_cases he : er3 = 0
        · subst he
          rw [if_neg (by simp)] at hF
          rcases hw with rfl | ⟨rfl, rfl⟩
          all_goals go_wp2_with fail
          all_goals go_region_with (go_at_call 109; refine (htouch.out _ (by repeat (first | assumption | apply RG.alloc | apply RG.drew | apply RG.drewN))).mono ?_; rintro e w8 ⟨rfl, t8, u8⟩; have r8 := Row.upd_ (w := _) (c := fun i => (EntryM.cells ⟨G.root, addr / 16, dest, _, ⟨false, false, 0⟩⟩).getD i undef) (by first | exact r7 | exact r7.drew) u8 nb7)
          all_goals (
            have lB8 := r8.lt
            have c65 := t8.c65
            have f65 := t8.fr 65
            have lg8 := t8.lt
            have b0 := r8.cell (i := 0) (by omega)
            have b1 := r8.cell (i := 1) (by omega)
            have b2 := r8.cell (i := 2) (by omega)
            have b3 := r8.cell (i := 3) (by omega)
            have b4 := r8.cell (i := 4) (by omega)
            have b5 := r8.cell (i := 5) (by omega)
            have b6 := r8.cell (i := 6) (by omega)
            simp only [EntryM.cells, List.getD_cons_succ, List.getD_cons_zero] at b0 b1 b2 b3 b4 b5 b6
            clear d2 d3 lB t7 r7 u8 htouch r8)
          all_goals go_upto_region 25 with fail
          all_goals go_region_with (go_at_call 110; refine (rput_any _ _ G.c (RG.ev (w := w) (m := m) (r := r) (v0 := v0) (P := P3) (M := M3) (root := G.root) (walks := wrap64 (G.walks + 1)) (by repeat (first | assumption | apply RG.alloc | apply RG.drew | apply RG.drewN))) (by omega) ⟨G.root, addr / 16, dest, _, ⟨false, false, 0⟩⟩).mono ?_; rw [hput.out]; rintro y w9 ⟨v9, rfl, e9, k9, u9⟩; have t9 : RG w w9 m r v0 (.slice A G.c.length cap) P3 M3 G.c G.root (wrap64 (G.walks + 1)) := RG.non (by repeat (first | assumption | apply RG.alloc | apply RG.drew | apply RG.drewN)) u9; have lg9 := t9.lt; have g65 := t9.fr 65; have h65 := t9.c65; obtain ⟨A9, cap9, rfl⟩ := e9.form)
          all_goals go_wp2_with fail
          all_goals go_ret2
          all_goals exact ⟨by rw [hF.out]; rfl, _, by rw [hF.out]; exact t9.setC e9 (fun g hg => Nat.le_trans t8.up.size (k9 g hg))⟩
        · obtain rfl := her.out he
          rw [if_pos he] at hF
          have hp : (0 : Int) < er3 := by omega
          clear he
          rcases hw with rfl | ⟨rfl, rfl⟩
          all_goals go_wp2_with fail
          all_goals go_region_with (go_at_call 109; refine (htouch.out _ (by repeat (first | assumption | apply RG.alloc | apply RG.drew | apply RG.drewN))).mono ?_; rintro e w3 ⟨rfl, t8, u8⟩)
          all_goals go_wp2_with fail
          all_goals go_ret2
          all_goals exact ⟨by rw [hF.out]; rfl, _, by rw [hF.out]; exact (by repeat (first | assumption | apply RG.alloc | apply RG.drew | apply RG.drewN))⟩
  · rw [if_pos he] at hS
    rw [hS, if_pos he] at hF
    have hp : (0 : Int) < er := by omega
    clear he
    go_wp2_with fail
    go_ret2
    exact ⟨by rw [hF.out]; rfl, _, by rw [hF.out]; exact (by repeat (first | assumption | apply RG.alloc | apply RG.drew | apply RG.drewN))⟩
end
/-- The frame of an address, by the reference. -/
theorem rframe_any {w W : World} {m r : Nat} {v0 v : Value} {P : PoolM} {E : Nat → Nat} {G : GuestM} (t : RG w W m r v0 v P G.m G.c G.root G.walks) (hI : GInv P G E) (addr : Int) (wr : Bool) :
    Calls Tryz.prog 77 #[.pointer (some ⟨r, 0, none⟩), .int .i64 addr, .bool wr] W (RFramePost w m r v0 (gframe P G addr wr)) := by
  by_cases ha : addr < 0 ∨ 255 < addr
  · exact rframe_off t addr wr ha
  · by_cases hr : G.root < 0
    · exact rframe_plain t hI addr wr (by omega) (by omega) hr
    · cases hc : cacheAt G.c G.root (addr / 16) with
      | some i => exact rframe_hit t hI addr wr (by omega) (by omega) (by omega) hc
      | none => exact rframe_miss t hI addr wr (by omega) (by omega) (by omega) hc

end U
end Go.Proofs.YtnhplapcdgnaaaaGreatDoor
