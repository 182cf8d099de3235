import Derived.Test.YtnhplapcdgnaaaaRCacheB
import Derived.Test.YtnhplapcdgnaaaaCacheR
import Derived.Test.YtnhplapcdgnaaaaLawB
import Derived.Deep.RegionHeld3
set_option linter.unusedVariables false
set_option linter.unusedSimpArgs false
namespace Go.Proofs.Ytnhplapcdgnaaaa
open Go.RowKit Go.Shelf
namespace U

set_option maxRecDepth 100000 in
set_option maxHeartbeats 400000 in
theorem keeps_law (w : World) : Calls Try.prog 12 #[] w fun e w' => e = .returned (.bool true) ∧ Upd Non w w' := by
  have e1 := Lib.hid (show cput ⟨1, 2, 3, false, LeafM.none⟩ [] = [⟨1, 2, 3, false, LeafM.none⟩] from rfl)
  have e2 := Lib.hid (show cfind [⟨1, 2, 3, false, LeafM.none⟩] 1 2 = (⟨1, 2, 3, false, LeafM.none⟩, true) from rfl)
  go_enter Try.func12, Try.ntmps12
  go_wp2_with (first
    | (go_at_call 14; refine (cPut_any _ w.heap.size (.slice none 0 0) [] (row_one w 28 (.slice none 0 0)) ERow.nil (by simp) ⟨1, 2, 3, false, LeafM.none⟩).mono ?_; rw [e1.out]; rintro x w2 ⟨v', rfl, h1, h2, h3, h4⟩)
    | (go_at_call 16; refine (cFind_any _ w.heap.size _ _ h1 h2 (by simp) 1 2).mono ?_; rw [e2.out]; rintro x w3 ⟨rfl, u3⟩; unfold EntryM.val EntryM.cells))
  go_ret
  exact ⟨rfl, (((Upd.refl _ w).alloc _).over' h4 (fun i hi => .inr (by unfold at1 at hi; omega)) |>.trans u3).alloc _⟩

/-- An act's cells. -/
def ActM.vals (x : ActM) : List Value := [.string x.kind, .int .i64 x.n, .int .i64 x.a, .int .i64 x.b, .int .u8 x.v.toNat, .bool x.on]
/-- The program's cache and its model, beside what was there at first. -/
structure CI (w wr : World) (c bm br : Nat) (v vm : Value) (L M : List EntryM) (Ds : List Nat) : Prop where
  rc : Row wr c 28 1 (fun _ => v)
  ev : ERow wr v L
  rm : Row wr bm 29 1 (fun _ => vm)
  em : ERow wr vm M
  rr : ∃ b, Row wr br 4 1 (fun _ => .bool b)
  up : Upd Non w wr
  cb : w.heap.size ≤ c
  mb : w.heap.size ≤ bm
  rb : w.heap.size ≤ br
  vb : Fresh w v
  vmb : Fresh w vm
  sep : ∀ g, v.ownBlock = some g → ¬ vm.ownBlock = some g
  mks : MarksAt wr Ds
  mkb : ∀ D ∈ Ds, w.heap.size ≤ D
/-- .. and a box with an act. -/
structure CX (w wr : World) (c bm br : Nat) (v vm : Value) (L M : List EntryM) (Ds : List Nat) (B : Nat) (x : ActM) : Prop extends CI w wr c bm br v vm L M Ds where
  ax : Row wr B 31 6 (fun i => x.vals.getD i undef)
theorem ERow.no_mark {w : World} {v : Value} {L : List EntryM} {Ds : List Nat} (h : ERow w v L) (m : MarksAt w Ds) {D : Nat} (hD : D ∈ Ds) : ¬ v.ownBlock = some D := by
  rcases h with ⟨rfl, _⟩ | ⟨g, o, cap, C, rfl, h1, h2, h3, h4, h5⟩
  · intro e; cases e
  · intro e
    have e2 : g = D := by simpa [Value.ownBlock] using e
    rw [e2, m.held D hD] at h3
    cases h3
section
variable {w wr w' : World} {c bm br B : Nat} {v vm v' vm' : Value} {L M L' M' : List EntryM} {Ds : List Nat} {x : ActM}
theorem CI.non (t : CI w wr c bm br v vm L M Ds) (u : Upd Non wr w') : CI w w' c bm br v vm L M Ds :=
  ⟨t.rc.upd_ u (fun h => h), t.ev.upd_ u (fun _ _ => (fun h => h)), t.rm.upd_ u (fun h => h), t.em.upd_ u (fun _ _ => (fun h => h)), t.rr.imp fun _ h => h.upd_ u (fun h => h), t.up.trans u, t.cb, t.mb, t.rb, t.vb, t.vmb, t.sep, t.mks.upd_ u (fun _ _ => (fun h => h)), t.mkb⟩
theorem CI.stepC (t : CI w wr c bm br v vm L M Ds) (r : Row w' c 28 1 (fun _ => v')) (e : ERow w' v' L') (f : Fresh wr v') (u : Upd (at1 c) wr w') : CI w w' c bm br v' vm L' M Ds := by
  refine ⟨r, e, t.rm.upd_ u (fun h => t.rm.ne_ t.rc (by decide) h), t.em.upd_ u (fun g hg h => t.em.ne_row t.rc (by decide) (by rw [hg]; unfold at1 at h; rw [h])), ?_, t.up.over u ?_, t.cb, t.mb, t.rb, f.up t.up, t.vmb, ?_, t.mks.upd_ u ?_, t.mkb⟩
  · obtain ⟨b, h⟩ := t.rr
    exact ⟨b, h.upd_ u (fun k => h.ne_ t.rc (by decide) k)⟩
  · rintro i rfl; exact t.cb
  · intro g hg hm
    have h1 := f g hg
    have h2 := t.em.lt hm
    omega
  · rintro D hD rfl
    exact t.mks.ne t.rc hD
theorem CI.stepP (t : CI w wr c bm br v vm L M Ds) (r : Row w' c 28 1 (fun _ => v)) (e : ERow w' v L') (u : Upd (fun k => v.ownBlock = some k) wr w') : CI w w' c bm br v vm L' M Ds := by
  refine ⟨r, e, t.rm.upd_ u (t.ev.ne_row t.rm (by decide)), t.em.upd_ u (fun g hg h => t.sep g h hg), ?_, t.up.over u t.vb, t.cb, t.mb, t.rb, t.vb, t.vmb, t.sep, t.mks.upd_ u (fun D hD => t.ev.no_mark t.mks hD), t.mkb⟩
  obtain ⟨b, h⟩ := t.rr
  exact ⟨b, h.upd_ u (t.ev.ne_row h (by decide))⟩
theorem CI.setM (t : CI w wr c bm br v vm L M Ds) (e : ERow wr vm' M') (f : Fresh w vm') (s : ∀ g, v.ownBlock = some g → ¬ vm'.ownBlock = some g) : CI w (wr.setCell ⟨bm, 0, none⟩ vm') c bm br v vm' L M' Ds := by
  have u : Upd (at1 bm) wr (wr.setCell ⟨bm, 0, none⟩ vm') := (Upd.refl _ _).setCell (p := ⟨bm, 0, none⟩) (fun _ => at1_self) _
  refine ⟨t.rc.upd_ u (fun h => t.rc.ne_ t.rm (by decide) h), t.ev.farRow t.rm (by decide) _, (t.rm.set_ _).congr (fun i hi => by unfold upd; rw [if_pos (by omega)]), e.farRow t.rm (by decide) _, ?_, t.up.over u ?_, t.cb, t.mb, t.rb, t.vb, f, s, t.mks.upd_ u ?_, t.mkb⟩
  · obtain ⟨b, h⟩ := t.rr
    exact ⟨b, h.upd_ u (fun k => h.ne_ t.rm (by decide) k)⟩
  · rintro i rfl; exact t.mb
  · rintro D hD rfl
    exact t.mks.ne t.rm hD
theorem CI.setB (t : CI w wr c bm br v vm L M Ds) (b : Bool) : CI w (wr.setCell ⟨br, 0, none⟩ (.bool b)) c bm br v vm L M Ds := by
  have u : Upd (at1 br) wr (wr.setCell ⟨br, 0, none⟩ (.bool b)) := (Upd.refl _ _).setCell (p := ⟨br, 0, none⟩) (fun _ => at1_self) _
  obtain ⟨b0, hb⟩ := t.rr
  refine ⟨t.rc.upd_ u (fun h => t.rc.ne_ hb (by decide) h), t.ev.farRow hb (by decide) _, t.rm.upd_ u (fun h => t.rm.ne_ hb (by decide) h), t.em.farRow hb (by decide) _, ⟨b, (hb.set_ _).congr (fun i hi => by unfold upd; rw [if_pos (by omega)])⟩, t.up.over u ?_, t.cb, t.mb, t.rb, t.vb, t.vmb, t.sep, t.mks.upd_ u ?_, t.mkb⟩
  · rintro i rfl; exact t.rb
  · rintro D hD rfl
    exact t.mks.ne hb hD
theorem CI.swap (t : CI w wr c bm br v vm L M Ds) {c' : Nat} (r : Row wr c' 28 1 (fun _ => v')) (e : ERow wr v' L') (h1 : w.heap.size ≤ c') (f : Fresh w v') (s : ∀ g, v'.ownBlock = some g → ¬ vm.ownBlock = some g) : CI w wr c' bm br v' vm L' M Ds :=
  ⟨r, e, t.rm, t.em, t.rr, t.up, h1, t.mb, t.rb, f, t.vmb, s, t.mks, t.mkb⟩
theorem CI.mark (t : CI w wr c bm br v vm L M Ds) {D : Nat} (h : wr.heap[D]? = some (.deferred (some []))) (h1 : w.heap.size ≤ D) (h2 : D ∉ Ds) : CI w wr c bm br v vm L M (D :: Ds) :=
  ⟨t.rc, t.ev, t.rm, t.em, t.rr, t.up, t.cb, t.mb, t.rb, t.vb, t.vmb, t.sep, t.mks.cons h h2, fun X hX => by rcases List.mem_cons.1 hX with rfl | hX; exact h1; exact t.mkb X hX⟩
theorem CI.sepF (t : CI w wr c bm br v vm L M Ds) (f : Fresh wr vm') : ∀ g, v.ownBlock = some g → ¬ vm'.ownBlock = some g := fun g hg hm => by
  have h1 := f g hm
  have h2 := t.ev.lt hg
  omega
theorem CX.non (t : CX w wr c bm br v vm L M Ds B x) (u : Upd Non wr w') : CX w w' c bm br v vm L M Ds B x := ⟨t.toCI.non u, t.ax.upd_ u (fun h => h)⟩
theorem CX.alloc (t : CX w wr c bm br v vm L M Ds B x) (o : Obj) : CX w (wr.alloc o) c bm br v vm L M Ds B x := t.non ((Upd.refl _ _).alloc o)
theorem CX.drewN (t : CX w wr c bm br v vm L M Ds B x) (n : Nat) : CX w (wr.drewN n) c bm br v vm L M Ds B x := t.non ((Upd.refl _ _).drewN n)
theorem CX.drew (t : CX w wr c bm br v vm L M Ds B x) : CX w wr.drew c bm br v vm L M Ds B x := t.non (Upd.refl _ _).drew
theorem CX.stepC (t : CX w wr c bm br v vm L M Ds B x) (r : Row w' c 28 1 (fun _ => v')) (e : ERow w' v' L') (f : Fresh wr v') (u : Upd (at1 c) wr w') : CX w w' c bm br v' vm L' M Ds B x :=
  ⟨t.toCI.stepC r e f u, t.ax.upd_ u (fun h => t.ax.ne_ t.rc (by decide) h)⟩
theorem CX.stepP (t : CX w wr c bm br v vm L M Ds B x) (r : Row w' c 28 1 (fun _ => v)) (e : ERow w' v L') (u : Upd (fun k => v.ownBlock = some k) wr w') : CX w w' c bm br v vm L' M Ds B x :=
  ⟨t.toCI.stepP r e u, t.ax.upd_ u (t.ev.ne_row t.ax (by decide))⟩
theorem CX.setM (t : CX w wr c bm br v vm L M Ds B x) (e : ERow wr vm' M') (f : Fresh w vm') (s : ∀ g, v.ownBlock = some g → ¬ vm'.ownBlock = some g) : CX w (wr.setCell ⟨bm, 0, none⟩ vm') c bm br v vm' L M' Ds B x :=
  ⟨t.toCI.setM e f s, t.ax.far (p := ⟨bm, 0, none⟩) (t.ax.ne_ t.rm (by decide)) _⟩
theorem CX.a1 (t : CX w wr c bm br v vm L M Ds B x) : wr.cell? ⟨B, 1, none⟩ = some (.int .i64 x.n) := t.ax.cell (i := 1) (by omega)
theorem CX.a2 (t : CX w wr c bm br v vm L M Ds B x) : wr.cell? ⟨B, 2, none⟩ = some (.int .i64 x.a) := t.ax.cell (i := 2) (by omega)
theorem CX.a3 (t : CX w wr c bm br v vm L M Ds B x) : wr.cell? ⟨B, 3, none⟩ = some (.int .i64 x.b) := t.ax.cell (i := 3) (by omega)
theorem CX.a4 (t : CX w wr c bm br v vm L M Ds B x) : wr.cell? ⟨B, 4, none⟩ = some (.int .u8 x.v.toNat) := t.ax.cell (i := 4) (by omega)
theorem CX.a5 (t : CX w wr c bm br v vm L M Ds B x) : wr.cell? ⟨B, 5, none⟩ = some (.bool x.on) := t.ax.cell (i := 5) (by omega)
theorem CI.m0 (t : CI w wr c bm br v vm L M Ds) : wr.cell? ⟨bm, 0, none⟩ = some vm := t.rm.cell (i := 0) (by omega)
theorem CI.mf (t : CI w wr c bm br v vm L M Ds) : wr.frozen? ⟨bm, 0, none⟩ = false := t.rm.frozen 0
theorem CX.new (t : CI w wr c bm br v vm L M Ds) (x : ActM) : CX w (wr.alloc (.cells #[.string x.kind, .int .i64 x.n, .int .i64 x.a, .int .i64 x.b, .int .u8 x.v.toNat, .bool x.on] 31)) c bm br v vm L M Ds wr.heap.size x :=
  ⟨t.non ((Upd.refl _ _).alloc _), ⟨_, heap_alloc_new wr _, rfl, fun i hi => by
    have : i = 0 ∨ i = 1 ∨ i = 2 ∨ i = 3 ∨ i = 4 ∨ i = 5 := by omega
    rcases this with rfl | rfl | rfl | rfl | rfl | rfl <;> rfl⟩⟩
/-- A step in a box of an int's. -/
theorem CI.far (t : CI w wr c bm br v vm L M Ds) {k : Nat} {f : Nat → Value} (r : Row wr k 3 1 f) (hk : w.heap.size ≤ k) (u : Upd (at1 k) wr w') : CI w w' c bm br v vm L M Ds := by
  refine ⟨t.rc.upd_ u (fun h => t.rc.ne_ r (by decide) h), t.ev.upd_ u (fun g hg h => t.ev.ne_row r (by decide) (by unfold at1 at h; rw [hg, h])), t.rm.upd_ u (fun h => t.rm.ne_ r (by decide) h), t.em.upd_ u (fun g hg h => t.em.ne_row r (by decide) (by unfold at1 at h; rw [hg, h])), ?_, t.up.over u ?_, t.cb, t.mb, t.rb, t.vb, t.vmb, t.sep, t.mks.upd_ u ?_, t.mkb⟩
  · obtain ⟨b, h⟩ := t.rr
    exact ⟨b, h.upd_ u (fun h' => h.ne_ r (by decide) h')⟩
  · rintro i rfl; exact hk
  · rintro D hD rfl
    exact t.mks.ne r hD
theorem CX.far (t : CX w wr c bm br v vm L M Ds B x) {k : Nat} {f : Nat → Value} (r : Row wr k 3 1 f) (hk : w.heap.size ≤ k) (u : Upd (at1 k) wr w') : CX w w' c bm br v vm L M Ds B x :=
  ⟨t.toCI.far r hk u, t.ax.upd_ u (fun h => t.ax.ne_ r (by decide) h)⟩
/-- A new mark, which lies where no old one does. -/
theorem CI.new_mark (t : CI w wr c bm br v vm L M Ds) (t' : CI w w' c bm br v vm L M Ds) {D : Nat} (hD : w'.heap[D]? = some (.deferred (some []))) (h1 : wr.heap.size ≤ D) : CI w w' c bm br v vm L M (D :: Ds) :=
  t'.mark hD (Nat.le_trans t.up.size h1) fun h => by have := heap_lt (t.mks.held D h); omega
end

end U
end Go.Proofs.Ytnhplapcdgnaaaa
