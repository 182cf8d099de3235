import Derived.Test.YtnhplapcdgnaaaaFlatB
import Derived.BigQuiet
set_option linter.unusedVariables false
set_option linter.unusedSimpArgs false
namespace Go.Proofs.Ytnhplapcdgnaaaa
open Go.RowKit
namespace U

/-! The reference's flat memory of a guest: where an address lies. -/
def FatPost (w : World) (f : Nat) (v0 : Value) (x : ViewM × Int × Nat) (e : Ending) (w' : World) : Prop :=
  e = .returned (.tuple #[.int .i64 x.2.1, .int .i64 x.2.2]) ∧ ∃ v', FM w w' f v0 v' x.1
section
variable {w w' W W' : World} {f B : Nat} {v v' v0 v2 : Value} {V V' : ViewM} {S : Nat → Prop} {c : Nat → Value} {C2 : List EntryM}
theorem FM.drew (t : FM w W f v0 v V) : FM w W.drew f v0 v V := t.non (Upd.refl _ _).drew
theorem FM.drewN (t : FM w W f v0 v V) (n : Nat) : FM w (W.drewN n) f v0 v V := t.non ((Upd.refl _ _).drewN n)
theorem FM.alloc (t : FM w W f v0 v V) (b : Obj) : FM w (W.alloc b) f v0 v V := t.non ((Upd.refl _ _).alloc b)
theorem FM.far (t : FM w W f v0 v V) (b : Row W B 35 7 c) (hv : ∀ g, v.ownBlock = some g → g < B) (hw : w.heap.size ≤ B) (u : Upd (at1 B) W W') : FM w W' f v0 v V :=
  ⟨t.r.upd_ u (by
    rintro k (rfl | h) e
    · exact b.ne_ t.r.row (by decide) (by have e : k = B := e; exact e.symm)
    · have := hv k h; have e : k = B := e; omega), t.fv, t.up.over' u (fun k e => by have e : k = B := e; right; omega)⟩
theorem FM.trans (t : FM w W f v0 v V) (s : FM W W' f v v2 V') : FM w W' f v0 v2 V' :=
  ⟨s.r, by
    rcases s.fv with e | e
    · rw [e]; exact t.fv
    · exact .inr fun k hk => Nat.le_trans t.up.size (e k hk), t.up.over' s.up t.own⟩
theorem fset_c (row : Row w f 122 274 (fcells V v)) (h : ERow w v2 C2) : FRep (w.setCell ⟨f, 273, none⟩ v2) f v2 { V with c := C2 } :=
  ⟨(row.set_ _).congr fun i hi => by
    unfold upd fcells
    by_cases e : i = 273
    · subst e; simp
    · rw [if_neg e]
      by_cases h1 : i < 16
      · rw [if_pos h1, if_pos h1]
      · rw [if_neg h1, if_neg h1]
        by_cases h2 : i < 272
        · rw [if_pos h2, if_pos h2]
        · rw [if_neg h2, if_neg h2, if_pos (by omega), if_pos (by omega)], eset row h (by decide) _ _⟩
theorem FM.app (t : FM w W f v0 v V) (h : ERow W' v2 C2) (u : Upd (fun k => v.ownBlock = some k) W W') (hb : v2.ownBlock = v.ownBlock ∨ v2.ownBlock = some W.heap.size) : FM w (W'.setCell ⟨f, 273, none⟩ v2) f v0 v2 { V with c := C2 } :=
  ⟨fset_c (t.r.row.upd_ u (fun e => t.r.e.ne_row t.r.row (by decide) e)) h, by
    rcases hb with hb | hb
    · rw [hb]; exact t.fv
    · right; intro k hk; rw [hb] at hk; have := t.up.size; have : W.heap.size = k := by simpa using hk
      omega, (t.up.over' u (fun k hk => t.own k (.inr hk))).setCell (p := ⟨f, 273, none⟩) (fun _ => .inl rfl) _⟩

set_option maxRecDepth 100000 in
theorem fat_off (t : FM w W f v0 v V) (addr : Int) (wr : Bool) (h : addr < 0 ∨ 255 < addr) :
    Calls Try.prog 129 #[.pointer (some ⟨f, 0, none⟩), .int .i64 addr, .bool wr] W (FatPost w f v0 (vat V addr wr)) := by
  have hF : Hid (vat V addr wr = (V, 0, 1)) := by show _ = _; unfold vat; rw [if_pos h]
  go_enter Try.func129, Try.ntmps129
  go_wp2_with fail
  all_goals first | (exfalso; simp_all; done) | go_ret2
  all_goals exact ⟨by rw [hF.out]; rfl, v, by rw [hF.out]; exact t⟩
set_option maxRecDepth 100000 in
theorem fat_plain (t : FM w W f v0 v V) (hV : VInv V) (addr : Int) (wr : Bool) (h0 : 0 ≤ addr) (h1 : addr ≤ 255) (hr : V.root < 0) :
    Calls Try.prog 129 #[.pointer (some ⟨f, 0, none⟩), .int .i64 addr, .bool wr] W (FatPost w f v0 (vat V addr wr)) := by
  have hF : Hid (vat V addr wr = (V, addr / 16, vpage V.state (addr / 16))) := by show _ = _; unfold vat; rw [if_neg (by omega), if_pos hr]
  have c2 := t.r.rt
  have lg := t.r.lt
  have hroot : V.root = -1 := by have := hV.r0; omega
  rw [hroot] at c2
  have hp := Lib.hid (fpage_any t.r (n := addr / 16) (by omega) (by omega))
  clear hroot hr
  go_enter Try.func129, Try.ntmps129
  go_wp2_with (first
    | (go_at_call 142; refine hp.out.mono ?_; rintro e w2 ⟨rfl, rfl⟩)
    | fail)
  go_ret2
  exact ⟨by rw [hF.out]; rfl, v, by rw [hF.out]; exact t⟩

set_option maxRecDepth 100000 in
set_option maxHeartbeats 4000000 in
theorem fat_root (t : FM w W f v0 v V) (hV : VInv V) (addr : Int) (wb : Bool) (h0 : 0 ≤ addr) (h1 : addr ≤ 255) (hr : 0 ≤ V.root) :
    Calls Try.prog 129 #[.pointer (some ⟨f, 0, none⟩), .int .i64 addr,   .bool wb] W (FatPost w f v0 (vat V addr wb)) := by
  obtain ⟨L, hL⟩ : ∃ L, V.c = L := ⟨_, rfl⟩
  have hE0 : ERow W v L := hL ▸ t.r.e
  obtain ⟨A, cap, rfl⟩ := hE0.form
  clear hE0
  obtain ⟨R, hR⟩ : ∃ R, V.root = R := ⟨_, rfl⟩
  obtain ⟨pg, hpg⟩ : ∃ pg, addr / 16 = pg := ⟨_, rfl⟩
  have hF0 : vat V addr wb = match cacheAt L R pg with
      | some i => if wb && !(L[i]?.getD EntryM.zero).may then (V, 0, 5) else if vpage V.state (L[i]?.getD EntryM.zero).to ≠ 0 then (V, 0, vpage V.state (L[i]?.getD EntryM.zero).to) else (V, (L[i]?.getD EntryM.zero).to, 0)
      | none =>
        if vpage V.state R ≠ 0 then (V, 0, vpage V.state R) else
        if (V.b R.toNat pg.toNat).toNat < 128 then (V, 0, 5) else
        if wb && !((V.b R.toNat pg.toNat).toNat / 64 % 2 == 1) then (V, 0, 5) else
        if vpage V.state (((V.b R.toNat pg.toNat).toNat % 16 : Nat) : Int) ≠ 0 then (V, 0, vpage V.state (((V.b R.toNat pg.toNat).toNat % 16 : Nat) : Int)) else
        ({ V with c := cput (EntryM.of R pg (((V.b R.toNat pg.toNat).toNat % 16 : Nat) : Int) ((V.b R.toNat pg.toNat).toNat / 64 % 2 == 1)) L }, (((V.b R.toNat pg.toNat).toNat % 16 : Nat) : Int), 0) := by
    unfold vat; rw [if_neg (by omega), if_neg (by omega), hL, hR, hpg]; rfl
  have hK : Keys L := hL ▸ hV.c.keys
  have hlen : L.length ≤ 4 := hL ▸ hV.c.len
  have hent : Hid (∀ e ∈ L, 0 ≤ e.to ∧ e.to < 16 ∧ e.leaf = LeafM.none) := hL ▸ hV.c.ent
  have hr15 : R < 16 := by have := hV.r1; omega
  have hp0 : 0 ≤ pg := by omega
  have hp16 : pg < 16 := by omega
  rw [hR] at hr
  have hneg : R ≠ -1 := by omega
  have hrb : (R == -1) = false := by simpa using hneg
  have c272 := t.r.rt
  have lf := t.r.lt
  rw [hR] at c272
  have HR := Lib.hid hR
  have HL := Lib.hid hL
  have HP := Lib.hid hpg
  obtain ⟨o, ho⟩ : ∃ o, cacheAt L R pg = o := ⟨_, rfl⟩
  have HO := Lib.hid ho
  rw [ho] at hF0
  have HF0 := Lib.hid hF0
  clear hF0 ho hneg hR hV
  go_enter Try.func129, Try.ntmps129
  go_upto_region 7 with fail
  rw [HP.out]
  have tx := t.alloc (.cells #[.int .i64 0, .int .i64 0, .int .i64 (-1), .bool false, .bool false, .bool false, .int .i64 0] 35)
  have bx : EBox (W.alloc (.cells #[.int .i64 0, .int .i64 0, .int .i64 (-1), .bool false, .bool false, .bool false, .int .i64 0] 35)) W.heap.size fbox0 := ebox_new W fbox0
  have lw := t.up.size
  have hvB : Hid (∀ g, (Value.slice A L.length cap).ownBlock = some g → g < W.heap.size) := fun g hg => t.r.e.lt hg
  clear hpg hL h0 h1 c272 lf t
  generalize W.alloc (.cells #[.int .i64 0, .int .i64 0, .int .i64 (-1), .bool false, .bool false, .bool false, .int .i64 0] 35) = wx at tx bx ⊢
  generalize W.heap.size = B at bx lw hvB ⊢
  have T0 := Lib.hid (And.intro tx bx)
  clear tx bx
  go_wp2_with fail
  go_loopw [10] (fun i wi => ∃ k : Nat, k ≤ L.length ∧ i = .int .i64 k ∧ Hid (FM w wi f v0 (.slice A L.length cap) V ∧ EBox wi B (fbox L o k))) (fun i _ => L.length - (intOf i).toNat)
  case atStart => exact ⟨0, Nat.zero_le _, rfl, T0.out.1, by rw [fbox_zero]; exact T0.out.2⟩
  case round =>
    clear T0
    obtain ⟨k, hk, rfl, hI⟩ := hrel
    have tk := hI.out.1
    have rj := tk.r
    have cc := rj.cc
    have lj := rj.lt
    have c272 := rj.rt
    rw [HR.out] at c272
    by_cases hlt : k < L.length
    · obtain ⟨g, oo, cap', hv, hg, hE⟩ := (HL.out ▸ rj.e : ERow _ (.slice A L.length cap) L).at_ hlt
      obtain ⟨rfl, rfl⟩ : A = some ⟨g, oo, none⟩ ∧ cap = cap' := by simpa using hv
      have hiff := cacheAt_iff hK (r := R) (p := pg) hlt
      rw [HO.out] at hiff
      have hhit := Lib.hid (fun h : o = some k => fbox_hit (L := L) h hlt)
      have hmiss := Lib.hid (fun h : o ≠ some k => fbox_miss (L := L) h)
      obtain ⟨x, hx⟩ : ∃ x, L[k] = x := ⟨_, rfl⟩
      rw [hx] at hE hiff hhit
      clear hx hv
      obtain ⟨xr, xp, xt, xm, ⟨x5, x6, x7⟩⟩ := x
      obtain ⟨e0, e1, e2, e3, e4, e5, e6⟩ := hE
      dsimp only at e0 e1 e2 e3 e4 e5 e6 hiff
      have bk := hI.out.2
      by_cases q0 : xr = R
      · have q0' : (xr == R) = true := by simpa using q0
        by_cases q1 : xp = pg
        · have q1' : (xp == pg) = true := by simpa using q1
          have ho := hiff.1 (by rw [q0', q1']; rfl)
          have hb := Lib.hid (hhit.out ho)
          clear hiff hhit hmiss q0 q1
          have b0 := bk.cell (i := 0) (by omega)
          have b1 := bk.cell (i := 1) (by omega)
          have b2 := bk.cell (i := 2) (by omega)
          have b3 := bk.cell (i := 3) (by omega)
          have b4 := bk.cell (i := 4) (by omega)
          have b5 := bk.cell (i := 5) (by omega)
          have b6 := bk.cell (i := 6) (by omega)
          have f0 := bk.frozen 0
          have f1 := bk.frozen 1
          have f2 := bk.frozen 2
          have f3 := bk.frozen 3
          have f4 := bk.frozen 4
          have f5 := bk.frozen 5
          have f6 := bk.frozen 6
          go_wp2_with fail
          go_quiet (fail)
          go_wp2_with fail
          go_roundw
          case rel => exact ⟨k + 1, by omega, by go_num, (tk.drewN _).far (bk.drewN _) hvB.out lw (Upd.cells7 (S := at1 B) (Upd.refl _ _) at1_self _ _ _ _ _ _ _), by
            rw [hb.out]; exact ((bk.drewN _).box7 (.int .i64 xr) (.int .i64 xp) (.int .i64 xt) (.bool xm) (.bool x5) (.bool x6) (.int .i64 x7)).congr fun i hi => rfl⟩
          case measure => simp [intOf]; omega
        · have q1' : (xp == pg) = false := by simpa using q1
          have hb := Lib.hid (hmiss.out (fun h => by have := hiff.2 h; rw [q1'] at this; simp at this))
          clear hiff hhit hmiss q0 q1
          go_wp2_with fail
          go_quiet (fail)
          go_wp2_with fail
          go_roundw
          case rel => exact ⟨k + 1, by omega, by go_num, tk.drewN _, by rw [hb.out]; exact bk.drewN _⟩
          case measure => simp [intOf]; omega
      · have q0' : (xr == R) = false := by simpa using q0
        have hb := Lib.hid (hmiss.out (fun h => by have := hiff.2 h; rw [q0'] at this; simp at this))
        clear hiff hhit hmiss q0
        go_wp2_with fail
        go_quiet (fail)
        go_wp2_with fail
        go_roundw
        case rel => exact ⟨k + 1, by omega, by go_num, tk.drewN _, by rw [hb.out]; exact bk.drewN _⟩
        case measure => simp [intOf]; omega
    · obtain rfl : k = L.length := by omega
      have bk := hI.out.2
      clear hI
      cases o with
      | some i =>
        have hi := (cacheAt_mem HO.out).1
        have hE := hent.out _ (cacheAt_mem HO.out).2
        have hbx : fbox L (some i) L.length = L[i]?.getD EntryM.zero := by unfold fbox; dsimp only; rw [if_pos hi]
        rw [hbx] at bk
        have hF1 := HF0.out
        dsimp only at hF1
        clear HF0 hbx HO
        generalize L[i]?.getD EntryM.zero = e at bk hF1 hE
        obtain ⟨xr, xp, xt, xm, ⟨x5, x6, x7⟩⟩ := e
        obtain ⟨d0, d1, _⟩ := hE
        dsimp only at hF1 d0 d1
        have b2 := bk.cell (i := 2) (by omega)
        have b3 := bk.cell (i := 3) (by omega)
        simp only [EntryM.cells, List.getD_cons_succ, List.getD_cons_zero] at b2 b3
        have lB := bk.lt
        have hp := Lib.hid (fpage_any rj (n := xt) d0 d1)
        rcases flat_ways wb xm with ⟨rfl, rfl⟩ | hw
        · have hF := Lib.hid hF1
          clear hF1
          go_wp2_with fail
          go_ret2
          exact ⟨by rw [hF.out]; rfl, _, by rw [hF.out]; exact tk⟩
        · have hw' : (wb && !xm) = false := by rcases hw with rfl | ⟨rfl, rfl⟩ <;> simp
          rw [hw', if_neg (by simp)] at hF1
          clear hw'
          generalize vpage V.state xt = er at hF1 hp
          by_cases he : er = 0
          · subst he
            rw [if_neg (by simp)] at hF1
            have hF := Lib.hid hF1
            clear hF1
            rcases hw with rfl | ⟨rfl, rfl⟩
            all_goals go_wp2_with (first | (go_at_call 142; refine hp.out.mono ?_; rintro e w2 ⟨rfl, rfl⟩) | fail)
            all_goals go_ret2
            all_goals exact ⟨by rw [hF.out]; rfl, _, by rw [hF.out]; exact tk⟩
          · rw [if_pos he] at hF1
            have hF := Lib.hid hF1
            have hpos : (0 : Int) < er := by omega
            clear hF1 he
            rcases hw with rfl | ⟨rfl, rfl⟩
            all_goals go_wp2_with (first | (go_at_call 142; refine hp.out.mono ?_; rintro e w2 ⟨rfl, rfl⟩) | fail)
            all_goals go_ret2
            all_goals exact ⟨by rw [hF.out]; rfl, _, by rw [hF.out]; exact tk⟩
      | none =>
        have bk : EBox wr B fbox0 := bk
        have hF1 := HF0.out
        dsimp only at hF1
        have b2 := bk.cell (i := 2) (by omega)
        simp only [EntryM.cells, fbox0, List.getD_cons_succ, List.getD_cons_zero] at b2
        have lB := bk.lt
        have hp := Lib.hid (fpage_any rj (n := R) hr hr15)
        have cb := rj.bt.cellA (i := R.toNat) (j := pg.toNat) (a := 16 + R.toNat * 16 + pg.toNat) (by omega) (by omega) (by omega)
        have hkeep := Lib.hid (keep2_none HO.out)
        clear HF0 HO
        generalize vpage V.state R = er at hF1 hp
        by_cases he : er = 0
        · subst he
          rw [if_neg (by simp)] at hF1
          generalize V.b R.toNat pg.toNat = b at cb hF1
          have hb8 := b.toNat_lt
          go_wp2_with (first | (go_at_call 142; refine hp.out.mono ?_; rintro e w2 ⟨rfl, rfl⟩) | fail)
          go_quiet (fail)
          have t2 := tk.drewN nq
          have r2 := bk.drewN nq
          clear tk bk hp cb b2 lB cc lj c272 rj
          generalize b.toNat = k at hF1 hb8 ⊢
          have lw2 : w.heap.size ≤ B := lw
          by_cases hk1 : k < 128
          · rw [if_pos hk1] at hF1
            have hF := Lib.hid hF1
            have hk2 : (k : Int) < 128 := by omega
            clear hF1
            go_wp2_with fail
            go_ret2
            exact ⟨by rw [hF.out]; rfl, _, by rw [hF.out]; exact t2⟩
          · rw [if_neg hk1] at hF1
            have hk2 : (128 : Int) ≤ k := by omega
            have hk3 : (k : Int) < 256 := by omega
            have c272 := t2.r.rt
            rw [HR.out] at c272
            have lg := t2.r.lt
            have b0 := r2.cell (i := 0) (by omega)
            have b1 := r2.cell (i := 1) (by omega)
            have b2 := r2.cell (i := 2) (by omega)
            have b3 := r2.cell (i := 3) (by omega)
            have b4 := r2.cell (i := 4) (by omega)
            have b5 := r2.cell (i := 5) (by omega)
            have b6 := r2.cell (i := 6) (by omega)
            have f0 := r2.frozen 0
            have f1 := r2.frozen 1
            have f2 := r2.frozen 2
            have f3 := r2.frozen 3
            have f4 := r2.frozen 4
            have f5 := r2.frozen 5
            have f6 := r2.frozen 6
            go_upto_region 21 with fail
            have ed : ((k % 16 : Nat) : Int) = (k : Int) % 16 := by omega
            have em : (k / 64 % 2 == 1) = ((k : Int) / 64 % 2 == 1) := by rw [Bool.eq_iff_iff]; simp; omega
            have d0 : 0 ≤ (k : Int) % 16 := by omega
            have d1 : (k : Int) % 16 < 16 := by omega
            rw [ed, em] at hF1
            generalize (k : Int) % 16 = dest at hF1 d0 d1 ⊢
            generalize ((k : Int) / 64 % 2 == 1) = may at hF1 ⊢
            have t7 := t2.far r2 hvB.out lw2 (Upd.cells7 (S := at1 B) (Upd.refl _ _) at1_self (.int .i64 R) (.int .i64 pg) (.int .i64 dest) (.bool may) (.bool false) (.bool false) (.int .i64 0))
            have r7 : EBox _ B ⟨R, pg, dest, may, ⟨false, false, 0⟩⟩ := (r2.box7 (.int .i64 R) (.int .i64 pg) (.int .i64 dest) (.bool may) (.bool false) (.bool false) (.int .i64 0)).congr fun i hi => rfl
            clear b0 b1 b2 b3 b4 b5 b6 f0 f1 f2 f3 f4 f5 f6 c272 lg t2 r2 ed em hk1 hk2 hk3 hb8
            generalize ((((((((wr.drewN nq).setCell ⟨B, 0, none⟩ (.int .i64 R)).setCell ⟨B, 1, none⟩ (.int .i64 pg)).setCell ⟨B, 2, none⟩ (.int .i64 dest)).setCell ⟨B, 3, none⟩ (.bool may)).setCell ⟨B, 4, none⟩ (.bool false)).setCell ⟨B, 5, none⟩ (.bool false)).setCell ⟨B, 6, none⟩ (.int .i64 0)) = w7 at t7 r7 ⊢
            have b0 := r7.cell (i := 0) (by omega)
            have b1 := r7.cell (i := 1) (by omega)
            have b2 := r7.cell (i := 2) (by omega)
            have b3 := r7.cell (i := 3) (by omega)
            have b4 := r7.cell (i := 4) (by omega)
            have b5 := r7.cell (i := 5) (by omega)
            have b6 := r7.cell (i := 6) (by omega)
            simp only [EntryM.cells, List.getD_cons_succ, List.getD_cons_zero] at b0 b1 b2 b3 b4 b5 b6
            have lB := r7.lt
            have hp := Lib.hid (fpage_any t7.r (n := dest) d0 d1)
            rcases flat_ways wb may with ⟨rfl, rfl⟩ | hw
            · have hF := Lib.hid hF1
              clear hF1
              go_wp2_with fail
              go_ret2
              exact ⟨by rw [hF.out]; rfl, _, by rw [hF.out]; exact t7⟩
            · have hw' : (wb && !may) = false := by rcases hw with rfl | ⟨rfl, rfl⟩ <;> simp
              rw [hw', if_neg (by simp)] at hF1
              clear hw'
              generalize vpage V.state dest = er at hF1 hp
              by_cases he : er = 0
              · subst he
                rw [if_neg (by simp)] at hF1
                have hF := Lib.hid hF1
                clear hF1
                have hER : ERow w7 (.slice A L.length cap) L := HL.out ▸ t7.r.e
                have c273 := t7.r.cc
                have f273 := t7.r.fr 273
                have lg := t7.r.lt
                have hrow := t7.r.row
                by_cases h5 : L.length < 4
                · have h6 : ¬ (4 : Int) < ((L.length + 1 : Nat) : Int) := by omega
                  have hput : Hid (∀ m : Bool, cput (EntryM.of R pg dest m) L = L ++ [(⟨R, pg, dest, m, ⟨false, false, 0⟩⟩ : EntryM)]) := fun m => by
                    have Hm : (L ++ [(⟨R, pg, dest, m, ⟨false, false, 0⟩⟩ : EntryM)]).length = L.length + 1 := by simp
                    unfold cput EntryM.of LeafM.none
                    dsimp only
                    rw [hkeep.out, if_neg (by omega)]
                  have r7' : Row w7 B 35 7 (fun i => (EntryM.cells (⟨R, pg, dest, may, ⟨false, false, 0⟩⟩ : EntryM)).getD i undef) := r7
                  have heb : ∀ (m : Bool) (W : World), EAt (W.alloc (.cells #[.int .i64 R, .int .i64 pg, .int .i64 dest, .bool m, .bool false, .bool false, .int .i64 0] 35)) W.heap.size 0 ⟨R, pg, dest, m, ⟨false, false, 0⟩⟩ := fun m W => ebox W ⟨R, pg, dest, m, ⟨false, false, 0⟩⟩
                  have H := Lib.hid (fun m : Bool => show (L ++ [(⟨R, pg, dest, m, ⟨false, false, 0⟩⟩ : EntryM)]).length = L.length + 1 by simp)
                  rcases hw with rfl | ⟨rfl, rfl⟩
                  · go_wp2_with (first | (go_at_call 142; refine hp.out.mono ?_; rintro e w2 ⟨rfl, rfl⟩) | fail)
                    go_region_law (first | (refine step_append_e rfl _ _ rfl _ _ rfl rfl L (⟨R, pg, dest, may, ⟨false, false, 0⟩⟩ : EntryM) (by repeat (first | assumption | apply ERow.alloc | apply ERow.drew | apply ERow.drewN)) (by omega) (by repeat (first | exact heb _ _ | apply EAt.drew | apply EAt.drewN)) ?_; intro v2 w3 hv2 u3 hb2; obtain ⟨A3, cap3, rfl⟩ := hv2.form; rw [H.out] at hv2 hb2; have t8 := FM.app (w := w) (f := f) (v0 := v0) (v := .slice A L.length cap) (V := V) (by repeat (first | assumption | apply FM.alloc | apply FM.drew | apply FM.drewN)) hv2 u3 hb2; have r8 := Row.upd_ (g := B) (N := 7) (t := 35) (c := fun i => (EntryM.cells (⟨R, pg, dest, may, ⟨false, false, 0⟩⟩ : EntryM)).getD i undef) (by repeat (first | assumption | apply Row.alloc | apply Row.drew | apply Row.drewN)) u3 (fun h => by have := hvB.out B h; omega); have g2 := r8.cell (i := 2) (by omega); simp only [EntryM.cells, List.getD_cons_succ, List.getD_cons_zero] at g2; have hr3 := Row.upd_ (g := f) (N := 274) (t := 122) (by repeat (first | assumption | apply Row.alloc | apply Row.drew | apply Row.drewN)) u3 (ERow.ne_row hER hrow (by decide)); have z3 := hr3.lt; have z4 := r8.lt; have hr3f := hr3.frozen 273; have hr3c := hr3.cell (i := 273) (by omega)))
                    all_goals go_wp2_with fail
                    all_goals go_ret2
                    all_goals exact ⟨by rw [hF.out]; rfl, _, by rw [hF.out, hput.out]; exact (by repeat (first | assumption | apply FM.alloc | apply FM.drew | apply FM.drewN))⟩
                  · go_wp2_with (first | (go_at_call 142; refine hp.out.mono ?_; rintro e w2 ⟨rfl, rfl⟩) | fail)
                    go_region_law (first | (refine step_append_e rfl _ _ rfl _ _ rfl rfl L (⟨R, pg, dest, true, ⟨false, false, 0⟩⟩ : EntryM) (by repeat (first | assumption | apply ERow.alloc | apply ERow.drew | apply ERow.drewN)) (by omega) (by repeat (first | exact heb _ _ | apply EAt.drew | apply EAt.drewN)) ?_; intro v2 w3 hv2 u3 hb2; obtain ⟨A3, cap3, rfl⟩ := hv2.form; rw [H.out] at hv2 hb2; have t8 := FM.app (w := w) (f := f) (v0 := v0) (v := .slice A L.length cap) (V := V) (by repeat (first | assumption | apply FM.alloc | apply FM.drew | apply FM.drewN)) hv2 u3 hb2; have r8 := Row.upd_ (g := B) (N := 7) (t := 35) (c := fun i => (EntryM.cells (⟨R, pg, dest, true, ⟨false, false, 0⟩⟩ : EntryM)).getD i undef) (by repeat (first | assumption | apply Row.alloc | apply Row.drew | apply Row.drewN)) u3 (fun h => by have := hvB.out B h; omega); have g2 := r8.cell (i := 2) (by omega); simp only [EntryM.cells, List.getD_cons_succ, List.getD_cons_zero] at g2; have hr3 := Row.upd_ (g := f) (N := 274) (t := 122) (by repeat (first | assumption | apply Row.alloc | apply Row.drew | apply Row.drewN)) u3 (ERow.ne_row hER hrow (by decide)); have z3 := hr3.lt; have z4 := r8.lt; have hr3f := hr3.frozen 273; have hr3c := hr3.cell (i := 273) (by omega)))
                    all_goals go_wp2_with fail
                    all_goals go_ret2
                    all_goals exact ⟨by rw [hF.out]; rfl, _, by rw [hF.out, hput.out]; exact (by repeat (first | assumption | apply FM.alloc | apply FM.drew | apply FM.drewN))⟩
                · have h6 : (4 : Int) < ((L.length + 1 : Nat) : Int) := by omega
                  have hput : Hid (∀ m : Bool, cput (EntryM.of R pg dest m) L = (L ++ [(⟨R, pg, dest, m, ⟨false, false, 0⟩⟩ : EntryM)]).drop 1) := fun m => by
                    have Hm : (L ++ [(⟨R, pg, dest, m, ⟨false, false, 0⟩⟩ : EntryM)]).length = L.length + 1 := by simp
                    unfold cput EntryM.of LeafM.none
                    dsimp only
                    rw [hkeep.out, if_pos (by omega)]
                  have r7' : Row w7 B 35 7 (fun i => (EntryM.cells (⟨R, pg, dest, may, ⟨false, false, 0⟩⟩ : EntryM)).getD i undef) := r7
                  have heb : ∀ (m : Bool) (W : World), EAt (W.alloc (.cells #[.int .i64 R, .int .i64 pg, .int .i64 dest, .bool m, .bool false, .bool false, .int .i64 0] 35)) W.heap.size 0 ⟨R, pg, dest, m, ⟨false, false, 0⟩⟩ := fun m W => ebox W ⟨R, pg, dest, m, ⟨false, false, 0⟩⟩
                  have H := Lib.hid (fun m : Bool => show (L ++ [(⟨R, pg, dest, m, ⟨false, false, 0⟩⟩ : EntryM)]).length = L.length + 1 by simp)
                  rcases hw with rfl | ⟨rfl, rfl⟩
                  · go_wp2_with (first | (go_at_call 142; refine hp.out.mono ?_; rintro e w2 ⟨rfl, rfl⟩) | fail)
                    go_region_law (first | (refine step_append_e rfl _ _ rfl _ _ rfl rfl L (⟨R, pg, dest, may, ⟨false, false, 0⟩⟩ : EntryM) (by repeat (first | assumption | apply ERow.alloc | apply ERow.drew | apply ERow.drewN)) (by omega) (by repeat (first | exact heb _ _ | apply EAt.drew | apply EAt.drewN)) ?_; intro v2 w3 hv2 u3 hb2; obtain ⟨A3, cap3, rfl⟩ := hv2.form; rw [H.out] at hv2 hb2; have t8 := FM.app (w := w) (f := f) (v0 := v0) (v := .slice A L.length cap) (V := V) (by repeat (first | assumption | apply FM.alloc | apply FM.drew | apply FM.drewN)) hv2 u3 hb2; have r8 := Row.upd_ (g := B) (N := 7) (t := 35) (c := fun i => (EntryM.cells (⟨R, pg, dest, may, ⟨false, false, 0⟩⟩ : EntryM)).getD i undef) (by repeat (first | assumption | apply Row.alloc | apply Row.drew | apply Row.drewN)) u3 (fun h => by have := hvB.out B h; omega); have g2 := r8.cell (i := 2) (by omega); simp only [EntryM.cells, List.getD_cons_succ, List.getD_cons_zero] at g2; have hr3 := Row.upd_ (g := f) (N := 274) (t := 122) (by repeat (first | assumption | apply Row.alloc | apply Row.drew | apply Row.drewN)) u3 (ERow.ne_row hER hrow (by decide)); have z3 := hr3.lt; have z4 := r8.lt; have hr3f := hr3.frozen 273; have hr3c := hr3.cell (i := 273) (by omega); have hcap := hv2.cap_ge.1; obtain ⟨g3, o3, rfl, hn3, hcap3, htail⟩ := hv2.tail (by rw [H.out]; omega) (by omega); clear hn3; have t9 := t8.setC (eset hr3 htail (by decide) 273 _) t8.fv))
                    all_goals go_wp2_with fail
                    all_goals go_ret2
                    all_goals exact ⟨by rw [hF.out]; rfl, _, by rw [hF.out, hput.out]; exact (by repeat (first | exact t9 | apply FM.drew | apply FM.drewN))⟩
                  · go_wp2_with (first | (go_at_call 142; refine hp.out.mono ?_; rintro e w2 ⟨rfl, rfl⟩) | fail)
                    go_region_law (first | (refine step_append_e rfl _ _ rfl _ _ rfl rfl L (⟨R, pg, dest, true, ⟨false, false, 0⟩⟩ : EntryM) (by repeat (first | assumption | apply ERow.alloc | apply ERow.drew | apply ERow.drewN)) (by omega) (by repeat (first | exact heb _ _ | apply EAt.drew | apply EAt.drewN)) ?_; intro v2 w3 hv2 u3 hb2; obtain ⟨A3, cap3, rfl⟩ := hv2.form; rw [H.out] at hv2 hb2; have t8 := FM.app (w := w) (f := f) (v0 := v0) (v := .slice A L.length cap) (V := V) (by repeat (first | assumption | apply FM.alloc | apply FM.drew | apply FM.drewN)) hv2 u3 hb2; have r8 := Row.upd_ (g := B) (N := 7) (t := 35) (c := fun i => (EntryM.cells (⟨R, pg, dest, true, ⟨false, false, 0⟩⟩ : EntryM)).getD i undef) (by repeat (first | assumption | apply Row.alloc | apply Row.drew | apply Row.drewN)) u3 (fun h => by have := hvB.out B h; omega); have g2 := r8.cell (i := 2) (by omega); simp only [EntryM.cells, List.getD_cons_succ, List.getD_cons_zero] at g2; have hr3 := Row.upd_ (g := f) (N := 274) (t := 122) (by repeat (first | assumption | apply Row.alloc | apply Row.drew | apply Row.drewN)) u3 (ERow.ne_row hER hrow (by decide)); have z3 := hr3.lt; have z4 := r8.lt; have hr3f := hr3.frozen 273; have hr3c := hr3.cell (i := 273) (by omega); have hcap := hv2.cap_ge.1; obtain ⟨g3, o3, rfl, hn3, hcap3, htail⟩ := hv2.tail (by rw [H.out]; omega) (by omega); clear hn3; have t9 := t8.setC (eset hr3 htail (by decide) 273 _) t8.fv))
                    all_goals go_wp2_with fail
                    all_goals go_ret2
                    all_goals exact ⟨by rw [hF.out]; rfl, _, by rw [hF.out, hput.out]; exact (by repeat (first | exact t9 | apply FM.drew | apply FM.drewN))⟩
              · rw [if_pos he] at hF1
                have hF := Lib.hid hF1
                have hpos : (0 : Int) < er := by omega
                clear hF1 he
                rcases hw with rfl | ⟨rfl, rfl⟩
                all_goals go_wp2_with (first | (go_at_call 142; refine hp.out.mono ?_; rintro e w2 ⟨rfl, rfl⟩) | fail)
                all_goals go_ret2
                all_goals exact ⟨by rw [hF.out]; rfl, _, by rw [hF.out]; exact t7⟩
        · rw [if_pos he] at hF1
          have hF := Lib.hid hF1
          have hpos : (0 : Int) < er := by omega
          clear hF1 he
          go_wp2_with (first | (go_at_call 142; refine hp.out.mono ?_; rintro e w2 ⟨rfl, rfl⟩) | fail)
          go_ret2
          exact ⟨by rw [hF.out]; rfl, _, by rw [hF.out]; exact tk⟩
theorem fat_any (t : FM w W f v0 v V) (hV : VInv V) (addr : Int) (wr : Bool) :
    Calls Try.prog 129 #[.pointer (some ⟨f, 0, none⟩), .int .i64 addr, .bool wr] W (FatPost w f v0 (vat V addr wr)) := by
  by_cases ha : addr < 0 ∨ 255 < addr
  · exact fat_off t addr wr ha
  · by_cases hr : V.root < 0
    · exact fat_plain t hV addr wr (by omega) (by omega) hr
    · exact fat_root t hV addr wr (by omega) (by omega) (by omega)
end

end U
end Go.Proofs.Ytnhplapcdgnaaaa
