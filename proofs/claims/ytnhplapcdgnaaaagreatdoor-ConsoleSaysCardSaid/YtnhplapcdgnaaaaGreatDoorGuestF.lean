import Derived.Test.YtnhplapcdgnaaaaGreatDoorGuestX
import Derived.Deep.Cut
import Derived.Deep.CutRange
set_option linter.unusedVariables false
set_option linter.unusedSimpArgs false
namespace Go.Proofs.YtnhplapcdgnaaaaGreatDoor
open Go.RowKit
namespace U

/-! The program's guest: the frame of an address, by its table: what is remembered. -/
section
variable {w W : World} {L : PoolAt} {K : GAt} {v : Value} {P : PoolM} {M : MapM} {C : List EntryM} {root walks : Int} {E : Nat → Nat} {G : GuestM}

theorem find_hit {M : MapM} {C : List EntryM} {r p : Int} {i : Nat} (h : cacheAt C r p = some i) : cfind (withLeaf M C) r p = (⟨(C[i]?.getD EntryM.zero).root, (C[i]?.getD EntryM.zero).page, (C[i]?.getD EntryM.zero).to, (C[i]?.getD EntryM.zero).may, M.leaf (C[i]?.getD EntryM.zero).to.toNat⟩, true) := by
  have hi := (cacheAt_mem h).1
  unfold cfind
  rw [withLeaf_at, h]
  simp only []
  unfold withLeaf
  rw [List.getElem?_map, List.getElem?_eq_getElem hi]
  rfl
theorem find_miss {M : MapM} {C : List EntryM} {r p : Int} (h : cacheAt C r p = none) : cfind (withLeaf M C) r p = (EntryM.zero, false) := by
  unfold cfind
  rw [withLeaf_at, h]
/-- A page that is there and may be used so is where it was. -/
theorem mtouch_stay (hI : GInv P G E) {n : Int} (h0 : 0 ≤ n) (h1 : n < 16) {wr : Bool} (ht : (G.m.leaf n.toNat).there = true) (hw : wr = true → (G.m.leaf n.toNat).write = true) :
    mtouch P G.m n wr = (P, G.m, (G.m.leaf n.toNat).frame, false, 0) := by
  have s := (hI.m.here n.toNat (by omega) ht).1
  unfold mtouch
  rw [if_pos (onB_iff.2 ⟨h0, h1⟩), if_neg (by omega), if_neg (by omega), if_pos]
  rw [ht]
  cases wr with
  | false => simp
  | true => simp [hw rfl]

theorem Row.box7 {W : World} {b T : Nat} {c : Nat → Value} (r : Row W b T 7 c) (v0 v1 v2 v3 v4 v5 v6 : Value) :
    Row (((((((W.setCell ⟨b, 0, none⟩ v0).setCell ⟨b, 1, none⟩ v1).setCell ⟨b, 2, none⟩ v2).setCell ⟨b, 3, none⟩ v3).setCell ⟨b, 4, none⟩ v4).setCell ⟨b, 5, none⟩ v5).setCell ⟨b, 6, none⟩ v6) b T 7 (fun i => [v0, v1, v2, v3, v4, v5, v6].getD i undef) :=
  (((((((r.set_ (i := 0) v0).set_ (i := 1) v1).set_ (i := 2) v2).set_ (i := 3) v3).set_ (i := 4) v4).set_ (i := 5) v5).set_ (i := 6) v6).congr fun i hi => by
    have : i = 0 ∨ i = 1 ∨ i = 2 ∨ i = 3 ∨ i = 4 ∨ i = 5 ∨ i = 6 := by omega
    rcases this with rfl | rfl | rfl | rfl | rfl | rfl | rfl <;> simp [upd]
/-- The entry that was found, in a box. -/
def EBox (w : World) (B : Nat) (e : EntryM) : Prop := Row w B 144 7 (fun i => e.cells.getD i undef)

theorem ebox_new (w : World) (e : EntryM) : EBox (w.alloc (.cells #[.int .i64 e.root, .int .i64 e.page, .int .i64 e.to, .bool e.may, .bool e.leaf.there, .bool e.leaf.write, .int .i64 e.leaf.frame] 144)) w.heap.size e :=
  (Row.new w 144 #[.int .i64 e.root, .int .i64 e.page, .int .i64 e.to, .bool e.may, .bool e.leaf.there, .bool e.leaf.write, .int .i64 e.leaf.frame]).congr fun i hi => by
    have hi : i < 7 := hi
    have : i = 0 ∨ i = 1 ∨ i = 2 ∨ i = 3 ∨ i = 4 ∨ i = 5 ∨ i = 6 := by omega
    rcases this with rfl | rfl | rfl | rfl | rfl | rfl | rfl <;> rfl
theorem ebox_old {w w2 : World} {C : Array Value} (u2 : Upd Non (w.alloc (.cells C 144)) w2) (hC : C.size = 7) (e : EntryM) :
    EBox (((((((w2.setCell ⟨w.heap.size, 0, none⟩ (.int .i64 e.root)).setCell ⟨w.heap.size, 1, none⟩ (.int .i64 e.page)).setCell ⟨w.heap.size, 2, none⟩ (.int .i64 e.to)).setCell ⟨w.heap.size, 3, none⟩ (.bool e.may)).setCell ⟨w.heap.size, 4, none⟩ (.bool e.leaf.there)).setCell ⟨w.heap.size, 5, none⟩ (.bool e.leaf.write)).setCell ⟨w.heap.size, 6, none⟩ (.int .i64 e.leaf.frame)) w.heap.size e := by
  have r := (Row.new w 144 C).upd_ u2 (fun h => h)
  rw [hC] at r
  exact (r.box7 _ _ _ _ _ _ _).congr fun i hi => rfl
theorem box_a {w2 : World} {xr xp to0 fr : Int} {may there write : Bool} (t2 : PG w w2 L K v P M C root walks) :
    Hid (PG w (w2.alloc (.cells #[.int .i64 xr, .int .i64 xp, .int .i64 to0, .bool may, .bool there, .bool write, .int .i64 fr] 144)) L K v P M C root walks ∧
      EBox (w2.alloc (.cells #[.int .i64 xr, .int .i64 xp, .int .i64 to0, .bool may, .bool there, .bool write, .int .i64 fr] 144)) w2.heap.size ⟨xr, xp, to0, may, ⟨there, write, fr⟩⟩) :=
  ⟨t2.alloc _, ebox_new w2 ⟨xr, xp, to0, may, ⟨there, write, fr⟩⟩⟩
theorem box_b {w2 : World} {xr xp to0 fr : Int} {may there write : Bool} {Cz : Array Value} (t : PG w W L K v P M C root walks) (u2 : Upd Non (W.alloc (.cells Cz 144)) w2) (hC : Cz.size = 7) :
    Hid (PG w (((((((w2.setCell ⟨W.heap.size, 0, none⟩ (.int .i64 xr)).setCell ⟨W.heap.size, 1, none⟩ (.int .i64 xp)).setCell ⟨W.heap.size, 2, none⟩ (.int .i64 to0)).setCell ⟨W.heap.size, 3, none⟩ (.bool may)).setCell ⟨W.heap.size, 4, none⟩ (.bool there)).setCell ⟨W.heap.size, 5, none⟩ (.bool write)).setCell ⟨W.heap.size, 6, none⟩ (.int .i64 fr)) L K v P M C root walks ∧
      EBox (((((((w2.setCell ⟨W.heap.size, 0, none⟩ (.int .i64 xr)).setCell ⟨W.heap.size, 1, none⟩ (.int .i64 xp)).setCell ⟨W.heap.size, 2, none⟩ (.int .i64 to0)).setCell ⟨W.heap.size, 3, none⟩ (.bool may)).setCell ⟨W.heap.size, 4, none⟩ (.bool there)).setCell ⟨W.heap.size, 5, none⟩ (.bool write)).setCell ⟨W.heap.size, 6, none⟩ (.int .i64 fr)) W.heap.size ⟨xr, xp, to0, may, ⟨there, write, fr⟩⟩) :=
  ⟨t.non (Upd.box7 (((Upd.refl _ _).alloc _).trans u2) (Nat.le_refl _) _ _ _ _ _ _ _), ebox_old u2 hC ⟨xr, xp, to0, may, ⟨there, write, fr⟩⟩⟩
theorem hit_ways (wr may there write : Bool) : ((wr = false ∧ there = true) ∨ (wr = true ∧ may = true ∧ there = true ∧ write = true)) ∨ ((wr = true ∧ may = false ∧ there = true) ∨ (wr = true ∧ may = false ∧ there = false)) ∨
    ((wr = false ∧ there = false) ∨ (wr = true ∧ may = true ∧ there = false) ∨ (wr = true ∧ may = true ∧ there = true ∧ write = false)) := by
  cases wr <;> cases may <;> cases there <;> cases write <;> simp
theorem gwalk_same (P : PoolM) (G : GuestM) (page : Int) : (gwalk P G page).2.1.c = G.c ∧ (gwalk P G page).2.1.root = G.root := by
  unfold gwalk gtouch
  simp only []
  split
  · exact ⟨rfl, rfl⟩
  · split <;> exact ⟨rfl, rfl⟩
theorem mtouch_err {P : PoolM} {M : MapM} {n : Int} {wr : Bool} (h : (mtouch P M n wr).2.2.2.2 ≠ 0) : (mtouch P M n wr).2.2.1 = 0 := by
  rcases mtouch_cases P M n wr with ⟨_, _, _, h4, _⟩ | ⟨h1, _⟩
  · exact h4
  · exact absurd h1 h

set_option maxRecDepth 100000 in
set_option maxHeartbeats 2000000 in
theorem gframe_hit (t : PG w W L K v P G.m (withLeaf G.m G.c) G.root G.walks) (hI : GInv P G E) (addr : Int) (wr : Bool) (h0 : 0 ≤ addr) (h1 : addr ≤ 255) (hr : 0 ≤ G.root) {i : Nat} (hc : cacheAt G.c G.root (addr / 16) = some i) :
    Calls Tryz.prog 124 #[.pointer (some ⟨K.g, 0, none⟩), .int .i64 addr, .bool wr] W (FramePost w L K (gframe P G addr wr)) := by
  have c2 := t.c2
  have c3 := t.c3
  have lg := t.glt
  have hn : ¬ G.root < 0 := by omega
  have hC : (withLeaf G.m G.c).length ≤ 100 := by rw [withLeaf_length]; have := hI.c.len; omega
  have hf0 := find_hit (M := G.m) hc
  have hE := hI.c.ent _ (cacheAt_mem hc).2
  obtain ⟨to0, hto0⟩ : ∃ z, (G.c[i]?.getD EntryM.zero).to = z := ⟨_, rfl⟩
  have hF : Hid (gframe P G addr wr = if (wr && !(G.c[i]?.getD EntryM.zero).may) = true then (P, G, 0, 5) else ((mtouch P G.m to0 wr).1, { G with m := (mtouch P G.m to0 wr).2.1 }, (mtouch P G.m to0 wr).2.2.1, (mtouch P G.m to0 wr).2.2.2.2)) := by
    show _ = _
    unfold gframe
    rw [if_neg (by omega), if_neg hn, hc]
    simp only []
    rw [hto0]
    rfl
  rw [hto0] at hf0 hE
  obtain ⟨may, hmay⟩ : ∃ z, (G.c[i]?.getD EntryM.zero).may = z := ⟨_, rfl⟩
  obtain ⟨xr, hxr⟩ : ∃ z, (G.c[i]?.getD EntryM.zero).root = z := ⟨_, rfl⟩
  obtain ⟨xp, hxp⟩ : ∃ z, (G.c[i]?.getD EntryM.zero).page = z := ⟨_, rfl⟩
  rw [hmay] at hF hf0
  rw [hxr, hxp] at hf0
  have hS : Hid ((G.m.leaf to0.toNat).there = true → (wr = true → (G.m.leaf to0.toNat).write = true) → mtouch P G.m to0 wr = (P, G.m, (G.m.leaf to0.toNat).frame, false, 0)) := fun a b => mtouch_stay hI hE.1 hE.2.1 a b
  have htouch : Hid (∀ W', PG w W' L K v P G.m (withLeaf G.m G.c) G.root G.walks → Calls Tryz.prog 149 #[.pointer (some ⟨K.g, 0, none⟩), .int .i64 to0, .bool wr] W' fun e w' =>
      e = .returned (.tuple #[.int .i64 (mtouch P G.m to0 wr).2.2.1, errv (mtouch P G.m to0 wr).2.2.2.2]) ∧ PG w w' L K v (mtouch P G.m to0 wr).1 (mtouch P G.m to0 wr).2.1 (withLeaf (mtouch P G.m to0 wr).2.1 G.c) G.root G.walks) := fun W' t' => gtouch_any t' hI to0 wr
  have her : Hid ((mtouch P G.m to0 wr).2.2.2.2 ≠ 0 → (mtouch P G.m to0 wr).2.2.1 = 0) := fun h => mtouch_err h
  generalize hT : mtouch P G.m to0 wr = T at hF hS htouch her
  obtain ⟨P1, M1, f, mv, er⟩ := T
  generalize hl : G.m.leaf to0.toNat = l at hf0 hS
  obtain ⟨there, write, fr⟩ := l
  have hf : Hid (cfind (withLeaf G.m G.c) G.root (addr / 16) = (⟨xr, xp, to0, may, ⟨there, write, fr⟩⟩, true)) := hf0
  clear hf0 hT hl hmay hxr hxp hto0 hE hc hI
  go_enter Tryz.func124, Tryz.ntmps124
  go_upto_region 6 with fail
  go_cut [9, 10] from 38 to 50 (fun b i wc => ∃ B, b = .pointer (some ⟨B, 0, none⟩) ∧ i = .bool true ∧ Hid (PG w wc L K v P G.m (withLeaf G.m G.c) G.root G.walks ∧ EBox wc B ⟨xr, xp, to0, may, ⟨there, write, fr⟩⟩))
  case first =>
    go_region_with (go_at_call 150; refine (cFind_any _ K.cb v _ (PG.cr (by repeat (first | assumption | apply PG.alloc | apply PG.drew | apply PG.drewN))) (PG.ev (by repeat (first | assumption | apply PG.alloc | apply PG.drew | apply PG.drewN))) hC G.root (addr / 16)).mono ?_; rw [hf.out]; rintro e w2 ⟨rfl, u2⟩; unfold EntryM.val EntryM.cells; have t2 : PG w _ L K v P G.m (withLeaf G.m G.c) G.root G.walks := PG.non (by repeat (first | assumption | apply PG.alloc | apply PG.drew | apply PG.drewN)) u2; obtain ⟨hcc, hff⟩ := u2.cells; have hz := u2.size; simp at hz)
    all_goals go_wp2_with fail
    all_goals go_meet
    all_goals refine ⟨_, rfl, rfl, ?_⟩
    all_goals with_reducible first
      | exact box_a t2
      | exact box_b t u2 rfl
      | exact box_b t ((Upd.refl Non _).drew.trans u2) rfl
      | exact box_b t ((Upd.refl Non _).drew.drew.trans u2) rfl
  case rest =>
    obtain ⟨B, rfl, rfl, hH⟩ := hcut
    have tc := hH.out.1
    have b2 := hH.out.2.cell (i := 2) (by omega)
    have b3 := hH.out.2.cell (i := 3) (by omega)
    have b4 := hH.out.2.cell (i := 4) (by omega)
    have b5 := hH.out.2.cell (i := 5) (by omega)
    have b6 := hH.out.2.cell (i := 6) (by omega)
    simp only [EntryM.cells, List.getD_cons_succ, List.getD_cons_zero] at b2 b3 b4 b5 b6
    clear c2 c3 lg t hH
    rcases hit_ways wr may there write with (⟨rfl, rfl⟩ | ⟨rfl, rfl, rfl, rfl⟩) | (⟨rfl, rfl, rfl⟩ | ⟨rfl, rfl, rfl⟩) | (⟨rfl, rfl⟩ | ⟨rfl, rfl, rfl⟩ | ⟨rfl, rfl, rfl, rfl⟩)
    · have hS2 := hS.out rfl (fun h => by cases h)
      obtain ⟨rfl, rfl, rfl, rfl, rfl⟩ : P1 = P ∧ M1 = G.m ∧ f = fr ∧ mv = false ∧ er = 0 := by simpa using hS2
      clear hS2 hS
      go_wp2_with fail
      all_goals go_ret2
      all_goals exact ⟨by rw [hF.out]; rfl, v, by rw [hF.out]; exact tc⟩
    · have hS2 := hS.out rfl (fun h => rfl)
      obtain ⟨rfl, rfl, rfl, rfl, rfl⟩ : P1 = P ∧ M1 = G.m ∧ f = fr ∧ mv = false ∧ er = 0 := by simpa using hS2
      clear hS2 hS
      go_wp2_with fail
      all_goals go_ret2
      all_goals exact ⟨by rw [hF.out]; rfl, v, by rw [hF.out]; exact tc⟩
    · clear hS
      go_wp2_with fail
      go_quiet (fail)
      go_wp2_with fail
      go_ret2
      exact ⟨by rw [hF.out]; rfl, v, by rw [hF.out]; exact tc.drewN _⟩
    · clear hS
      go_wp2_with fail
      go_quiet (fail)
      go_wp2_with fail
      go_ret2
      exact ⟨by rw [hF.out]; rfl, v, by rw [hF.out]; exact tc.drewN _⟩
    all_goals clear hS
    all_goals by_cases he : er = 0
    all_goals first
      | (subst he
         go_wp2_with fail
         go_quiet (fail)
         go_wp2_with (first | (go_at_call 149; refine (htouch.out _ (tc.drewN _)).mono ?_; rintro e w2 ⟨rfl, t2⟩; unfold errv) | fail)
         go_ret2
         exact ⟨by rw [hF.out]; rfl, v, by rw [hF.out]; exact t2⟩)
      | (obtain rfl := her.out he
         have hz := Lib.hid (errv_ne he)
         clear he
         go_wp2_with fail
         go_quiet (fail)
         go_wp2_with (first | (go_at_call 149; refine (htouch.out _ (tc.drewN _)).mono ?_; rw [hz.out]; rintro e w2 ⟨rfl, t2⟩) | fail)
         go_ret2
         exact ⟨by rw [hF.out]; show _ = Ending.returned (.tuple #[.int .i64 0, errv er]); rw [hz.out]; rfl, v, by rw [hF.out]; exact t2⟩)
end

end U
end Go.Proofs.YtnhplapcdgnaaaaGreatDoor
