import Derived.Test.YtnhplapcdgnaaaaGreatDoorGuestF
set_option linter.unusedVariables false
set_option linter.unusedSimpArgs false
namespace Go.Proofs.YtnhplapcdgnaaaaGreatDoor
open Go.RowKit
namespace U

/-! The program's guest: the frame of an address, by its table: what is not remembered. -/
section
variable {w W : World} {L : PoolAt} {K : GAt} {v : Value} {P : PoolM} {M : MapM} {C : List EntryM} {root walks : Int} {E : Nat → Nat} {G : GuestM}

/-- What is done when the walk is done. -/
def gmiss (P : PoolM) (G : GuestM) (page : Int) (dest : Int) (may wr : Bool) : PoolM × GuestM × Int × Nat :=
  if wr && !may then (P, G, 0, 5) else
  if (mtouch P G.m dest wr).2.2.2.2 ≠ 0 then ((mtouch P G.m dest wr).1, { G with m := (mtouch P G.m dest wr).2.1 }, 0, (mtouch P G.m dest wr).2.2.2.2)
  else ((mtouch P G.m dest wr).1, { G with m := (mtouch P G.m dest wr).2.1, c := cput (EntryM.of G.root page dest may) G.c }, (mtouch P G.m dest wr).2.2.1, 0)
theorem gframe_miss_eq {addr : Int} {wr : Bool} (h0 : 0 ≤ addr) (h1 : addr ≤ 255) (hr : 0 ≤ G.root) (hc : cacheAt G.c G.root (addr / 16) = none) :
    gframe P G addr wr = if (gwalk P G (addr / 16)).2.2.2.2 ≠ 0 then ((gwalk P G (addr / 16)).1, (gwalk P G (addr / 16)).2.1, 0, (gwalk P G (addr / 16)).2.2.2.2)
      else gmiss (gwalk P G (addr / 16)).1 (gwalk P G (addr / 16)).2.1 (addr / 16) (gwalk P G (addr / 16)).2.2.1 (gwalk P G (addr / 16)).2.2.2.1 wr := by
  obtain ⟨e1, e2⟩ := gwalk_same P G (addr / 16)
  unfold gframe
  rw [if_neg (by omega), if_neg (by omega), hc]
  simp only []
  split
  · rfl
  · unfold gmiss gtouch
    simp only [e1, e2]
    split
    · rfl
    · split
      · rename_i h
        rw [mtouch_err h]
      · rfl

theorem leaf_load (w : World) (l : LeafM) :
    (Instr.loadAt 88 (.pointer (some ⟨w.heap.size, 0, none⟩))).run Tryz.prog (w.alloc (.cells #[.bool l.there, .bool l.write, .int .i64 l.frame] 88)).drew = .ok l.val (w.alloc (.cells #[.bool l.there, .bool l.write, .int .i64 l.frame] 88)).drew :=
  load_row (P := Tryz.prog) (Row.new w 88 #[.bool l.there, .bool l.write, .int .i64 l.frame]).drew 88 0 3 _ (by simp) Tryz.underlying88 rfl (by kernel_rfl)

set_option maxRecDepth 100000 in
set_option maxHeartbeats 2000000 in
theorem gframe_miss (t : PG w W L K v P G.m (withLeaf G.m G.c) G.root G.walks) (hI : GInv P G E) (addr : Int) (wr : Bool) (h0 : 0 ≤ addr) (h1 : addr ≤ 255) (hr : 0 ≤ G.root) (hc : cacheAt G.c G.root (addr / 16) = none) :
    Calls Tryz.prog 124 #[.pointer (some ⟨K.g, 0, none⟩), .int .i64 addr, .bool wr] W (FramePost w L K (gframe P G addr wr)) := by
  have c2 := t.c2
  have c3 := t.c3
  have lg := t.glt
  have hn : ¬ G.root < 0 := by omega
  have hC : ∀ M, (withLeaf M G.c).length ≤ 4 := fun M => by rw [withLeaf_length]; exact hI.c.len
  have hC0 : (withLeaf G.m G.c).length ≤ 100 := by have := hC G.m; omega
  have hf : Hid (cfind (withLeaf G.m G.c) G.root (addr / 16) = (⟨0, 0, 0, false, ⟨false, false, 0⟩⟩, false)) := find_miss hc
  have hF := Lib.hid (gframe_miss_eq (P := P) (wr := wr) h0 h1 hr hc)
  have hwalk : Hid (∀ W', PG w W' L K v P G.m (withLeaf G.m G.c) G.root G.walks → Calls Tryz.prog 151 #[.pointer (some ⟨K.g, 0, none⟩), .int .i64 (addr / 16)] W' (WalkPost w L K v G.c G.root (gwalk P G (addr / 16)))) := fun W' t' => gwalk_any t' hI (addr / 16) (by omega) (by omega)
  obtain ⟨hk, hd0, hd1⟩ := hI.walk (addr / 16)
  have hk := Lib.hid hk.inv
  obtain ⟨e1, e2⟩ := gwalk_same P G (addr / 16)
  generalize gwalk P G (addr / 16) = S at hF hwalk hk hd0 hd1 e1 e2
  obtain ⟨P2, G2, dest, may, er2⟩ := S
  simp only [] at hF hwalk hk hd0 hd1 e1 e2
  have htouch : Hid (∀ W', PG w W' L K v P2 G2.m (withLeaf G2.m G2.c) G2.root G2.walks → Calls Tryz.prog 149 #[.pointer (some ⟨K.g, 0, none⟩), .int .i64 dest, .bool wr] W' fun e w' =>
      e = .returned (.tuple #[.int .i64 (mtouch P2 G2.m dest wr).2.2.1, errv (mtouch P2 G2.m dest wr).2.2.2.2]) ∧ PG w w' L K v (mtouch P2 G2.m dest wr).1 (mtouch P2 G2.m dest wr).2.1 (withLeaf (mtouch P2 G2.m dest wr).2.1 G2.c) G2.root G2.walks) := fun W' t' => gtouch_any t' hk.out dest wr
  have hM : Hid (gmiss P2 G2 (addr / 16) dest may wr = if (wr && !may) = true then (P2, G2, 0, 5) else if (mtouch P2 G2.m dest wr).2.2.2.2 ≠ 0 then ((mtouch P2 G2.m dest wr).1, { G2 with m := (mtouch P2 G2.m dest wr).2.1 }, 0, (mtouch P2 G2.m dest wr).2.2.2.2)
      else ((mtouch P2 G2.m dest wr).1, { G2 with m := (mtouch P2 G2.m dest wr).2.1, c := cput (EntryM.of G2.root (addr / 16) dest may) G2.c }, (mtouch P2 G2.m dest wr).2.2.1, 0)) := rfl
  generalize mtouch P2 G2.m dest wr = T at htouch hM
  obtain ⟨P3, M3, f, mv, er3⟩ := T
  simp only [] at htouch hM
  have hdo : onB dest = true := onB_iff.2 ⟨hd0, hd1⟩
  have hleaf : Hid (mleaf M3 dest = (M3.leaf dest.toNat, 0)) := by show _ = _; unfold mleaf; rw [if_pos hdo]
  have hput : Hid (cput ⟨G2.root, addr / 16, dest, may, M3.leaf dest.toNat⟩ (withLeaf M3 G2.c) = withLeaf M3 (cput (EntryM.of G2.root (addr / 16) dest may) G2.c)) := withLeaf_put M3 G2.c (EntryM.of G2.root (addr / 16) dest may)
  generalize hl : M3.leaf dest.toNat = l at hleaf hput
  obtain ⟨there, write, fr⟩ := l
  rw [← e1] at hC
  have hwalk2 : Hid (∀ W', PG w W' L K v P G.m (withLeaf G.m G.c) G.root G.walks → Calls Tryz.prog 151 #[.pointer (some ⟨K.g, 0, none⟩), .int .i64 (addr / 16)] W' fun e w' =>
      e = .returned (.tuple #[.int .i64 dest, .bool may, errv er2]) ∧ PG w w' L K v P2 G2.m (withLeaf G2.m G2.c) G2.root G2.walks) := fun W' t' => by
    have := hwalk.out W' t'
    unfold WalkPost at this
    dsimp only at this
    rw [← e1, ← e2] at this
    exact this
  clear hwalk e1 e2
  clear hc hI hk hl hdo hd0 hd1
  go_enter Tryz.func124, Tryz.ntmps124
  go_upto_region 6 with fail
  go_cut [9, 10] from 38 to 50 (fun b i wc => ∃ B, b = .pointer (some ⟨B, 0, none⟩) ∧ i = .bool false ∧ Hid (PG w wc L K v P G.m (withLeaf G.m G.c) G.root G.walks ∧ EBox wc B ⟨0, 0, 0, false, ⟨false, false, 0⟩⟩))
  case first =>
    go_region_with (go_at_call 150; refine (cFind_any _ K.cb v _ (PG.cr (by repeat (first | assumption | apply PG.alloc | apply PG.drew | apply PG.drewN))) (PG.ev (by repeat (first | assumption | apply PG.alloc | apply PG.drew | apply PG.drewN))) hC0 G.root (addr / 16)).mono ?_; rw [hf.out]; rintro e w2 ⟨rfl, u2⟩; unfold EntryM.val EntryM.cells; have t2 : PG w _ L K v P G.m (withLeaf G.m G.c) G.root G.walks := PG.non (by repeat (first | assumption | apply PG.alloc | apply PG.drew | apply PG.drewN)) u2; obtain ⟨hcc, hff⟩ := u2.cells; have hz := u2.size; simp at hz)
    all_goals go_wp2_with fail
    all_goals go_meet
    all_goals refine ⟨_, rfl, rfl, ?_⟩
    all_goals with_reducible first
      | exact box_a t2
      | exact box_b t u2 rfl
      | exact box_b t ((Upd.refl Non _).drew.trans u2) rfl
      | exact box_b t ((Upd.refl Non _).drew.drew.trans u2) rfl
  case rest =>
    obtain ⟨B, rfl, rfl, hH⟩ := hcut
    have tc := hH.out.1
    have b2 := hH.out.2.cell (i := 2) (by omega)
    have b3 := hH.out.2.cell (i := 3) (by omega)
    have b4 := hH.out.2.cell (i := 4) (by omega)
    simp only [EntryM.cells, List.getD_cons_succ, List.getD_cons_zero] at b2 b3 b4
    clear c2 c3 lg t hH
    go_wp2_with fail
    go_quiet (fail)
    by_cases he2 : er2 = 0
    · subst he2
      rw [if_neg (by simp)] at hF
      rw [hM.out] at hF
      clear hM
      by_cases hw : wr = true ∧ may = false
      · obtain ⟨rfl, rfl⟩ := hw
        go_wp2_with (first | (go_at_call 151; refine (hwalk2.out _ (tc.drewN _)).mono ?_; rintro e w2 ⟨rfl, t2⟩; unfold errv) | fail)
        go_ret2
        exact ⟨by rw [hF.out]; rfl, v, by rw [hF.out]; exact t2⟩
      · have hw' : (wr && !may) = false := by cases wr <;> cases may <;> simp_all
        rw [hw', if_neg (by simp)] at hF
        have hw2 : wr = false ∨ (wr = true ∧ may = true) := by cases wr <;> cases may <;> simp_all
        clear hw hw'
        by_cases he3 : er3 = 0
        · subst he3
          rw [if_neg (by simp)] at hF
          rcases hw2 with rfl | ⟨rfl, rfl⟩
          all_goals go_wp2_with (first
            | (go_at_call 151; refine (hwalk2.out _ (tc.drewN _)).mono ?_; rintro e w2 ⟨rfl, t2⟩; unfold errv)
            | (go_at_call 149; refine (htouch.out _ t2).mono ?_; rintro e w3 ⟨rfl, t3⟩; unfold errv; have d1 := t3.c1; have lg3 := t3.glt)
            | (go_at_call 129; refine (mleaf_any _ K.mb 65 L.p M3 t3.m dest).mono ?_; rw [hleaf.out]; rintro e w4 ⟨rfl, u4⟩; unfold LeafM.val errv; have t4 := t3.non u4; have f2 := t4.c2; have f3 := t4.c3; have lg4 := t4.glt)
            | fail)
          all_goals (
            have ld := leaf_load w4 ⟨there, write, fr⟩
            have t4b := t4.alloc (.cells #[.bool there, .bool write, .int .i64 fr] 88)
            dsimp only [LeafM.val] at ld
            clear f2 f3 lg4 t4 u4 t3 d1 lg3 t2
            generalize w4.alloc (.cells #[.bool there, .bool write, .int .i64 fr] 88) = wx at ld t4b ⊢
            have f2 := t4b.c2
            have f3 := t4b.c3
            refine wp_region_still_tail 13 (by kernel_rfl) (by kernel_rfl) ?_
            simp only [List.take_succ_cons, List.take_zero, List.drop_succ_cons, List.drop_zero]
            repeat (first | (refine still_load rfl 88 _ rfl _ _ rfl ld ?_) | still_step)
            refine wpStill_nil ?_
            have t4d := t4b.drew
            change wpList _ _ _ _ _ wx.drew
            clear t4b ld f2 f3
            generalize wx.drew = wd at t4d ⊢)
          all_goals go_wp2_with (first
            | (go_at_call 152; refine (cPut_any _ K.cb v (withLeaf M3 G2.c) t4d.cr t4d.ev (hC M3) ⟨G2.root, addr / 16, dest, _, ⟨there, write, fr⟩⟩).mono ?_; rw [hput.out]; rintro e w5 ⟨v', rfl, r5, e5, k5, u5⟩; have t5 := t4d.cput r5 e5 k5 u5)
            | fail)
          all_goals go_ret2
          all_goals exact ⟨by rw [hF.out]; rfl, _, by rw [hF.out]; exact t5⟩
        · rw [if_pos he3] at hF
          have hz := Lib.hid (errv_ne he3)
          clear he3
          rcases hw2 with rfl | ⟨rfl, rfl⟩
          all_goals go_wp2_with (first
            | (go_at_call 151; refine (hwalk2.out _ (tc.drewN _)).mono ?_; rintro e w2 ⟨rfl, t2⟩; unfold errv)
            | (go_at_call 149; refine (htouch.out _ t2).mono ?_; rw [hz.out]; rintro e w3 ⟨rfl, t3⟩)
            | fail)
          all_goals go_ret2
          all_goals exact ⟨by rw [hF.out]; show _ = Ending.returned (.tuple #[.int .i64 0, errv er3]); rw [hz.out]; rfl, v, by rw [hF.out]; exact t3⟩
    · rw [if_pos he2] at hF
      have hz := Lib.hid (errv_ne he2)
      clear he2 hM
      go_wp2_with (first | (go_at_call 151; refine (hwalk2.out _ (tc.drewN _)).mono ?_; rw [hz.out]; rintro e w2 ⟨rfl, t2⟩) | fail)
      go_ret2
      exact ⟨by rw [hF.out]; show _ = Ending.returned (.tuple #[.int .i64 0, errv er2]); rw [hz.out]; rfl, v, by rw [hF.out]; exact t2⟩
end

/-- The frame of an address. -/
theorem gframe_any {w W : World} {L : PoolAt} {K : GAt} {v : Value} {P : PoolM} {E : Nat → Nat} {G : GuestM} (t : PG w W L K v P G.m (withLeaf G.m G.c) G.root G.walks) (hI : GInv P G E) (addr : Int) (wr : Bool) :
    Calls Tryz.prog 124 #[.pointer (some ⟨K.g, 0, none⟩), .int .i64 addr, .bool wr] W (FramePost w L K (gframe P G addr wr)) := by
  by_cases ha : addr < 0 ∨ 255 < addr
  · exact gframe_off t addr wr ha
  · by_cases hr : G.root < 0
    · exact gframe_plain t hI addr wr (by omega) (by omega) hr
    · cases hc : cacheAt G.c G.root (addr / 16) with
      | some i => exact gframe_hit t hI addr wr (by omega) (by omega) (by omega) hc
      | none => exact gframe_miss t hI addr wr (by omega) (by omega) (by omega) hc

end U
end Go.Proofs.YtnhplapcdgnaaaaGreatDoor
