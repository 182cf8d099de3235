import Derived.Test.YtnhplapcdgnaaabGuestJ
import Derived.Deep.RegionHeld3
set_option linter.unusedVariables false
set_option linter.unusedSimpArgs false
namespace Go.Proofs.Ytnhplapcdgnaaab
open Go.RowKit
namespace U

/-! The program's guest: New, Copy. -/
section
variable {w W : World} {L : PoolAt} {K : GAt} {v : Value} {P : PoolM} {M : MapM} {C : List EntryM} {root walks : Int}

set_option maxRecDepth 100000 in
theorem gnew_nil (w : World) : Calls Try.prog 35 #[.pointer none] w fun e w' => e = .returned (.tuple #[.pointer none, errv 2]) ∧ w = w' := by
  have hz : Hid (errv 2 = .iface 61 (.int .i64 2)) := rfl
  rw [hz.out]
  go_enter Try.func35, Try.ntmps35
  go_wp2_with (go_at_call 55; refine (mapNew_nil _).mono ?_; rw [hz.out]; rintro e w2 ⟨rfl, rfl⟩)
  go_ret2
  exact ⟨rfl, rfl⟩

theorem gcells_row (w : World) (p : Nat) (K : GAt) (root walks : Int) (h : w.heap.size = K.g) :
    Row (w.alloc (.cells #[.pointer (some ⟨p, 0, none⟩), .pointer (some ⟨K.mb, 0, none⟩), .pointer (some ⟨K.cb, 0, none⟩), .int .i64 root, .int .i64 walks] 91)) K.g 91 5 (gcells p K root walks) := by
  rw [← h]
  refine (Row.new w 91 #[.pointer (some ⟨p, 0, none⟩), .pointer (some ⟨K.mb, 0, none⟩), .pointer (some ⟨K.cb, 0, none⟩), .int .i64 root, .int .i64 walks]).congr fun i hi => ?_
  have hi : i < 5 := hi
  have : i = 0 ∨ i = 1 ∨ i = 2 ∨ i = 3 ∨ i = 4 := by omega
  rcases this with rfl | rfl | rfl | rfl | rfl <;> rfl

set_option maxRecDepth 100000 in
theorem gnew_any (w : World) (p : Nat) : Calls Try.prog 35 #[.pointer (some ⟨p, 0, none⟩)] w fun e w' =>
    ∃ K : GAt, e = .returned (.tuple #[.pointer (some ⟨K.g, 0, none⟩), .nilIface]) ∧ GRep w' p K GuestM.fresh ∧ (∀ k, K.own k → w.heap.size ≤ k) ∧ Upd Non w w' := by
  go_enter Try.func35, Try.ntmps35
  go_wp2_with (go_at_call 55; refine (mapNew_any _ p).mono ?_; rintro e w2 ⟨g, rfl, q2, l4, u2⟩)
  go_ret2
  have hz := u2.size
  refine ⟨⟨w2.heap.size + 1, g, w2.heap.size, .slice none 0 0⟩, rfl, ⟨gcells_row (w2.alloc _) p ⟨w2.heap.size + 1, g, w2.heap.size, .slice none 0 0⟩ (-1) 0 (by simp), (q2.alloc _).alloc _, (row_one w2 99 (.slice none 0 0)).alloc _, ERow.nil⟩, ?_, (u2.alloc _).alloc _⟩
  rintro k ((rfl | rfl) | (rfl | h))
  · show w.heap.size ≤ w2.heap.size + 1; omega
  · exact l4
  · exact hz
  · cases h

set_option maxRecDepth 100000 in
set_option maxHeartbeats 2000000 in
theorem gcopy_any (t : PG w W L K v P M C root walks) (hC : C.length ≤ 100) (q : Nat) :
    Calls Try.prog 51 #[.pointer (some ⟨K.g, 0, none⟩), .pointer (some ⟨q, 0, none⟩)] W fun e w' =>
      ∃ K' : GAt, e = .returned (.pointer (some ⟨K'.g, 0, none⟩)) ∧ GRw w' q K' M C root walks ∧ (∀ k, K'.own k → W.heap.size ≤ k) ∧ Upd Non W w' := by
  have c0 := t.c0
  have c1 := t.c1
  have c2 := t.c2
  have c3 := t.c3
  have c4 := t.c4
  have lg := t.glt
  go_enter Try.func51, Try.ntmps51
  go_wp2_with fail
  have tb := t.alloc (.cells #[.pointer (some ⟨L.p, 0, none⟩), .pointer (some ⟨K.mb, 0, none⟩), .pointer (some ⟨K.cb, 0, none⟩), .int .i64 root, .int .i64 walks] 91)
  have rb := gcells_row W L.p ⟨W.heap.size, K.mb, K.cb, v⟩ root walks rfl
  clear c0 c1 c2 c3 c4
  have hz0 : W.heap.size < (W.alloc (.cells #[.pointer (some ⟨L.p, 0, none⟩), .pointer (some ⟨K.mb, 0, none⟩), .pointer (some ⟨K.cb, 0, none⟩), .int .i64 root, .int .i64 walks] 91)).heap.size := by simp
  have ub : Upd Non W (W.alloc (.cells #[.pointer (some ⟨L.p, 0, none⟩), .pointer (some ⟨K.mb, 0, none⟩), .pointer (some ⟨K.cb, 0, none⟩), .int .i64 root, .int .i64 walks] 91)) := (Upd.refl _ _).alloc _
  generalize W.alloc (.cells #[.pointer (some ⟨L.p, 0, none⟩), .pointer (some ⟨K.mb, 0, none⟩), .pointer (some ⟨K.cb, 0, none⟩), .int .i64 root, .int .i64 walks] 91) = wb at tb rb hz0 ub ⊢
  have c1 := tb.c1
  have c2 := tb.c2
  have hgb : K.g ≠ W.heap.size := by omega
  have hgb' : W.heap.size ≠ K.g := by omega
  dsimp only at rb
  have b0 := rb.cell (i := 0) (by omega)
  have b1 := rb.cell (i := 1) (by omega)
  have b2 := rb.cell (i := 2) (by omega)
  have f0 := rb.frozen 0
  have f1 := rb.frozen 1
  have f2 := rb.frozen 2
  clear lg t
  go_region_held3 (fun w' => w'.cell? ⟨K.g, 1, none⟩ = some (.pointer (some ⟨K.mb, 0, none⟩)) ∧ w'.cell? ⟨K.g, 2, none⟩ = some (.pointer (some ⟨K.cb, 0, none⟩))) (go_keep) (first
    | (go_at_call 71; refine (mapCopy_any _ K.mb L.p q M (PG.m (w := w) (L := L) (K := K) (v := v) (P := P) (M := M) (C := C) (root := root) (walks := walks) (by repeat (first | assumption | apply PG.alloc | apply PG.drew | apply PG.drewN)))).mono ?_; rintro e wA ⟨mb', rfl, qm, lm, um⟩; have tA : PG w wA L K v P M C root walks := PG.non (by repeat (first | assumption | apply PG.alloc | apply PG.drew | apply PG.drewN)) um; have za1 := tA.c1; have za2 := tA.c2; have ra : Row wA W.heap.size 91 5 (gcells L.p ⟨W.heap.size, K.mb, K.cb, v⟩ root walks) := Row.upd_ (by repeat (first | assumption | apply Row.alloc | apply Row.drew | apply Row.drewN)) um (fun h => h); have xa0 := ra.cell (i := 0) (by omega); have xa1 := ra.cell (i := 1) (by omega); have xa2 := ra.cell (i := 2) (by omega); have ya0 := ra.frozen 0; have ya1 := ra.frozen 1; have ya2 := ra.frozen 2)
    | (go_at_call 72; refine (cCopy_any _ K.cb v C (PG.cr (w := w) (L := L) (K := K) (v := v) (P := P) (M := M) (C := C) (root := root) (walks := walks) (by repeat (first | assumption | apply PG.alloc | apply PG.drew | apply PG.drewN))) (PG.ev (w := w) (L := L) (K := K) (v := v) (P := P) (M := M) (C := C) (root := root) (walks := walks) (by repeat (first | assumption | apply PG.alloc | apply PG.drew | apply PG.drewN))) hC).mono ?_; rintro e wB ⟨cb', v', rfl, rc, ec, fv, lc, uc⟩; have tB : PG w wB L K v P M C root walks := PG.non (by repeat (first | assumption | apply PG.alloc | apply PG.drew | apply PG.drewN)) uc; have zb1 := tB.c1; have zb2 := tB.c2; have rb : Row wB W.heap.size 91 5 (gcells L.p ⟨W.heap.size, K.mb, K.cb, v⟩ root walks) := Row.upd_ (by repeat (first | assumption | apply Row.alloc | apply Row.drew | apply Row.drewN)) uc (fun h => h); have xb0 := rb.cell (i := 0) (by omega); have xb1 := rb.cell (i := 1) (by omega); have xb2 := rb.cell (i := 2) (by omega); have yb0 := rb.frozen 0; have yb1 := rb.frozen 1; have yb2 := rb.frozen 2))
  all_goals go_wp2_with fail
  all_goals go_ret
  all_goals (
    have hsz := ub.size
    have q2 := qm.upd_ uc (fun h => h)
    have lA := um.size
    have lA : wb.heap.size ≤ wA.heap.size := lA
    have lc2 : wA.heap.size ≤ cb' := lc
    have lm2 : wb.heap.size ≤ mb' := lm
    have uS := Upd.sc3 (S := at1 W.heap.size) (Upd.refl _ wB) at1_self 0 1 2 (.pointer (some ⟨q, 0, none⟩)) (.pointer (some ⟨mb', 0, none⟩)) (.pointer (some ⟨cb', 0, none⟩))
    refine ⟨⟨W.heap.size, mb', cb', v'⟩, rfl, ⟨?_, q2.upd_ uS (by intro h; unfold at1 at h; omega), rc.upd_ uS (by intro h; unfold at1 at h; omega), ec.upd_ uS (fun g hg h => by have := fv g hg; unfold at1 at h; have : wA.heap.size ≤ g := this; omega)⟩, ?_, ((ub.drew.trans um).trans uc).over uS (by rintro i rfl; exact Nat.le_refl _)⟩
    · refine (((rb.set_ (i := 0) _).set_ (i := 1) _).set_ (i := 2) _).congr fun i hi => ?_
      have : i = 0 ∨ i = 1 ∨ i = 2 ∨ i = 3 ∨ i = 4 := by omega
      rcases this with rfl | rfl | rfl | rfl | rfl <;> rfl
    · rintro k ((h | h) | (h | h))
      · have h : k = W.heap.size := h
        omega
      · have h : k = mb' := h
        omega
      · have h : k = cb' := h
        omega
      · have : wA.heap.size ≤ k := fv k h
        omega)
end

end U
end Go.Proofs.Ytnhplapcdgnaaab
