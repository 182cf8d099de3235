import Derived.Test.YtnhplapcdgnaaaaGreatDoorGuestHX
import Derived.Test.YtnhplapcdgnaaaaGreatDoorRangeX
import Derived.Shelf.RegionOpen
import Derived.Outline
import Derived.Deep.RegionHeld3
set_option linter.unusedVariables false
set_option linter.unusedSimpArgs false
namespace Go.Proofs.YtnhplapcdgnaaaaGreatDoor
open Go.RowKit Go.Shelf
namespace U
attribute [local go_sem] Oper.semAt_some

/-- What was collected so far: in a box ob. -/
structure Col (w2 : World) (ob : Nat) (pre : List EntryM) (W : World) : Prop where
  ex : ∃ vo, Row W ob 92 1 (fun _ => vo) ∧ ERow W vo pre ∧ (∀ g, vo.ownBlock = some g → w2.heap.size ≤ g) ∧ Upd (at1 ob) w2 W
theorem Col.start {w2 : World} {ob : Nat} (h : Row w2 ob 92 1 (fun _ => .slice none 0 0)) : Col w2 ob [] w2 := ⟨_, h, ERow.nil, (fun g hg => by cases hg), Upd.refl _ _⟩
theorem Col.size {w2 W : World} {ob : Nat} {pre : List EntryM} (h : Col w2 ob pre W) : w2.heap.size ≤ W.heap.size := by obtain ⟨vo, _, _, _, u⟩ := h.ex; exact u.size
theorem Col.off {w2 W W' : World} {ob : Nat} {pre : List EntryM} (h : Col w2 ob pre W) (u : Upd (OffCells w2.heap.size W) W W') : Col w2 ob pre W' := by
  obtain ⟨vo, h1, h2, h3, h4⟩ := h.ex
  exact ⟨vo, h1.upd_ u h1.on_cells, h2.upd_ u (fun g hg => h2.on_cells hg), h3, h4.over' u (fun i hi => .inr hi.1)⟩
theorem Col.step {w2 W w3 : World} {ob : Nat} {vo v3 : Value} {pre : List EntryM} {e : EntryM} {o : Obj} (h1 : Row W ob 92 1 (fun _ => vo)) (h2 : ERow W vo pre) (h3 : ∀ g, vo.ownBlock = some g → w2.heap.size ≤ g) (h4 : Upd (at1 ob) w2 W)
    (hv : ERow w3 v3 (pre ++ [e])) (u : Upd (fun k => vo.ownBlock = some k) (W.alloc o) w3) (hb : v3.ownBlock = vo.ownBlock ∨ v3.ownBlock = some (W.alloc o).heap.size) :
    Col w2 ob (pre ++ [e]) (w3.setCell ⟨ob, 0, none⟩ v3) ∧ Upd (fun k => vo.ownBlock = some k ∨ k = ob) W (w3.setCell ⟨ob, 0, none⟩ v3) := by
  have r := (h1.alloc o).upd_ u (h2.ne_row h1 (by decide))
  have ua : Upd (fun k => vo.ownBlock = some k) W w3 := ((Upd.refl _ W).alloc o).trans u
  have uw : Upd (fun k => vo.ownBlock = some k ∨ k = ob) W (w3.setCell ⟨ob, 0, none⟩ v3) := (ua.mono fun k _ h => .inl h).setCell (p := ⟨ob, 0, none⟩) (fun _ => .inr rfl) _
  refine ⟨⟨v3, (r.set_ _).congr (fun i hi => by unfold upd; rw [if_pos (by omega)]), hv.farRow r (by decide) _, fun g hg => ?_, ?_⟩, uw⟩
  · rcases hb with hb | hb
    · exact h3 g (by rw [← hb]; exact hg)
    · rw [hb] at hg
      have := h4.size
      simp at hg
      omega
  · exact h4.over' uw fun i hi => by
      rcases hi with hi | rfl
      · exact .inr (h3 i hi)
      · exact .inl at1_self
theorem erow_no_mark {w : World} {v : Value} {L : List EntryM} {Ds : List Nat} (h : ERow w v L) (m : MarksAt w Ds) {D : Nat} (hD : D ∈ Ds) : ¬ v.ownBlock = some D := by
  rcases h with ⟨rfl, _⟩ | ⟨g, o, cap, C, rfl, h1, h2, h3, h4, h5⟩
  · intro e; cases e
  · intro e
    have e2 : g = D := by simpa [Value.ownBlock] using e
    rw [e2, m.held D hD] at h3
    cases h3

end U
end Go.Proofs.YtnhplapcdgnaaaaGreatDoor

set_option linter.unusedVariables false
set_option linter.unusedSimpArgs false
namespace Go.Proofs.YtnhplapcdgnaaaaGreatDoor
open Go.RowKit
namespace U

/-! The program's guest: New, Copy. -/
section
variable {w W : World} {L : PoolAt} {K : GAt} {v : Value} {P : PoolM} {M : MapM} {C : List EntryM} {root walks : Int}

set_option maxRecDepth 100000 in
theorem gnew_nil (w : World) : Calls Tryz.prog 86 #[.pointer none] w fun e w' => e = .returned (.tuple #[.pointer none, errv 2]) ∧ w = w' := by
  have hz : Hid (errv 2 = .iface 37 (.int .i64 2)) := rfl
  rw [hz.out]
  go_enter Tryz.func86, Tryz.ntmps86
  go_wp2_with (go_at_call 117; refine (mapNew_nil _).mono ?_; rw [hz.out]; rintro e w2 ⟨rfl, rfl⟩)
  go_ret2
  exact ⟨rfl, rfl⟩

theorem gcells_row (w : World) (p : Nat) (K : GAt) (root walks : Int) (h : w.heap.size = K.g) :
    Row (w.alloc (.cells #[.pointer (some ⟨p, 0, none⟩), .pointer (some ⟨K.mb, 0, none⟩), .pointer (some ⟨K.cb, 0, none⟩), .int .i64 root, .int .i64 walks] 158)) K.g 158 5 (gcells p K root walks) := by
  rw [← h]
  refine (Row.new w 158 #[.pointer (some ⟨p, 0, none⟩), .pointer (some ⟨K.mb, 0, none⟩), .pointer (some ⟨K.cb, 0, none⟩), .int .i64 root, .int .i64 walks]).congr fun i hi => ?_
  have hi : i < 5 := hi
  have : i = 0 ∨ i = 1 ∨ i = 2 ∨ i = 3 ∨ i = 4 := by omega
  rcases this with rfl | rfl | rfl | rfl | rfl <;> rfl

set_option maxRecDepth 100000 in
theorem gnew_any (w : World) (p : Nat) : Calls Tryz.prog 86 #[.pointer (some ⟨p, 0, none⟩)] w fun e w' =>
    ∃ K : GAt, e = .returned (.tuple #[.pointer (some ⟨K.g, 0, none⟩), .nilIface]) ∧ GRep w' p K GuestM.fresh ∧ (∀ k, K.own k → w.heap.size ≤ k) ∧ Upd Non w w' := by
  go_enter Tryz.func86, Tryz.ntmps86
  go_wp2_with (go_at_call 117; refine (mapNew_any _ p).mono ?_; rintro e w2 ⟨g, rfl, q2, l4, u2⟩)
  go_ret2
  have hz := u2.size
  refine ⟨⟨w2.heap.size + 1, g, w2.heap.size, .slice none 0 0⟩, rfl, ⟨gcells_row (w2.alloc _) p ⟨w2.heap.size + 1, g, w2.heap.size, .slice none 0 0⟩ (-1) 0 (by simp), (q2.alloc _).alloc _, (row_one w2 156 (.slice none 0 0)).alloc _, ERow.nil⟩, ?_, (u2.alloc _).alloc _⟩
  rintro k ((rfl | rfl) | (rfl | h))
  · show w.heap.size ≤ w2.heap.size + 1; omega
  · exact l4
  · exact hz
  · cases h

end

end U
end Go.Proofs.YtnhplapcdgnaaaaGreatDoor
