import Derived.Test.YtnhplapcdgnaaaaRGuestE
import Derived.Deep.RegionWith
set_option linter.unusedVariables false
set_option linter.unusedSimpArgs false
namespace Go.Proofs.Ytnhplapcdgnaaaa
open Go.RowKit
namespace U

/-! The reference's guest: Cached. -/
section
variable {w W : World} {m r : Nat} {v0 v : Value} {P : PoolM} {M : MapM} {C : List EntryM} {root walks : Int}

theorem box_get {X : World} {B : Nat} {v0 v1 v2 v3 v4 v5 v6 : Value} {c : Nat → Value} (r : Row X B 35 7 c) (h : ∀ i, i < 7 → c i = [v0, v1, v2, v3, v4, v5, v6].getD i undef) :
    Row X B 35 7 (fun i => [v0, v1, v2, v3, v4, v5, v6].getD i undef) := r.congr h

set_option maxRecDepth 100000 in
set_option maxHeartbeats 2000000 in
theorem rgcached_any (t : RG w W m r v0 v P M C root walks) (hl : C.length ≤ 100) (hto : ∀ e ∈ C, 0 ≤ e.to ∧ e.to < 16) :
    Calls Try.prog 113 #[.pointer (some ⟨r, 0, none⟩)] W fun e w' => ∃ v', e = .returned v' ∧ ERow w' v' (withLeaf M C) ∧ Fresh W v' ∧ Upd Non W w' := by
  obtain ⟨A, cap, rfl⟩ := t.ev.form
  go_enter Try.func113, Try.ntmps113
  go_wp2
  go_loopw [3, 4] (fun s i wr => ∃ (k : Nat) (v' : Value), k ≤ C.length ∧ i = .int .i64 k ∧ s = v' ∧ Hid (ERow wr v' (withLeaf M (C.take k)) ∧ Fresh W v' ∧ Upd Non W wr)) (fun _ i _ => C.length - (intOf i).toNat)
  case atStart => exact ⟨0, _, Nat.zero_le _, rfl, rfl, ERow.nil, (fun g hg => by cases hg), Upd.refl _ _⟩
  case round =>
    obtain ⟨k, v', hk, rfl, rfl, hI⟩ := hrel
    have tr := t.non hI.out.2.2
    have c65 := tr.c65
    have lg := tr.lt
    by_cases hlt : k < C.length
    · obtain ⟨g, o, cap', hv, hg, hE⟩ := tr.ev.at_ hlt
      obtain ⟨rfl, rfl⟩ : A = some ⟨g, o, none⟩ ∧ cap = cap' := by simpa using hv
      clear hv
      have htk := hto C[k] (List.getElem_mem hlt)
      have hs : Hid (withLeaf M (C.take (k + 1)) = withLeaf M (C.take k) ++ [{ C[k] with leaf := M.leaf C[k].to.toNat }]) := by
        show _ = _
        unfold withLeaf
        rw [List.take_succ_eq_append_getElem hlt, List.map_append]; rfl
      have hlen : Hid ((withLeaf M (C.take k)).length ≤ 100000) := by
        show _ ≤ _
        rw [withLeaf_length]
        have := List.length_take_le k C
        omega
      have l0 := tr.mr.l0 (i := C[k].to.toNat) (by omega)
      have l1 := tr.mr.l1 (i := C[k].to.toNat) (by omega)
      have l2 := tr.mr.l2 (i := C[k].to.toNat) (by omega)
      generalize C[k] = x at hE htk hs l0 l1 l2
      obtain ⟨xr, xp, to0, may, ⟨there0, write0, fr0⟩⟩ := x
      dsimp only at htk hs l0 l1 l2
      obtain ⟨e0, e1, e2, e3, e4, e5, e6⟩ := hE
      dsimp only at e0 e1 e2 e3 e4 e5 e6
      generalize M.leaf to0.toNat = l at hs l0 l1 l2
      obtain ⟨there, write, fr⟩ := l
      dsimp only at l0 l1 l2
      obtain ⟨h0, h1⟩ := htk
      have k1 : (k : Int) < C.length := by omega
      have k0 : (0 : Int) ≤ k := by omega
      go_upto_region 6 with fail
      go_region_with (fail)
      have hbox : EAt (((wr.alloc (.cells #[.int .i64 xr, .int .i64 xp, .int .i64 to0, .bool may, .bool there, .bool write, .int .i64 fr] 35)).drew).alloc (.cells #[.int .i64 xr, .int .i64 xp, .int .i64 to0, .bool may, .bool there, .bool write, .int .i64 fr] 35)) (wr.heap.size + 1) 0 ⟨xr, xp, to0, may, ⟨there, write, fr⟩⟩ := by
        have := ebox ((wr.alloc (.cells #[.int .i64 xr, .int .i64 xp, .int .i64 to0, .bool may, .bool there, .bool write, .int .i64 fr] 35)).drew) ⟨xr, xp, to0, may, ⟨there, write, fr⟩⟩
        rw [show ((wr.alloc (.cells #[.int .i64 xr, .int .i64 xp, .int .i64 to0, .bool may, .bool there, .bool write, .int .i64 fr] 35)).drew).heap.size = wr.heap.size + 1 from World.size_alloc _ _] at this
        exact this
      have HB := Lib.hid hbox
      clear hbox e0 e1 e2 e3 e4 e5 e6 l0 l1 l2
      all_goals go_wp2_with (at_builtin; refine wpl_append_eT Try.underlying26 rfl _ _ rfl _ _ rfl rfl _ ⟨xr, xp, to0, may, ⟨there, write, fr⟩⟩ ((ERow.drew (hI.out.1.alloc _)).alloc _) hlen.out HB.out ?_; intro v2 w3 hv2 u3 hb2)
      all_goals go_roundw
      case rel => exact ⟨k + 1, _, by omega, by go_num, rfl, by rw [hs.out]; exact hv2, fresh_of (((hI.out.2.2.alloc _).drew).alloc _) hI.out.2.1 hb2, (((hI.out.2.2.alloc _).drew).alloc _).over u3 hI.out.2.1⟩
      case measure => simp [intOf]; omega
    · obtain rfl : k = C.length := by omega
      have hI' := hI.out
      rw [List.take_length] at hI'
      have V := Lib.hid hI'
      clear hI' hI
      go_wp2
      go_ret
      exact ⟨_, rfl, V.out.1, V.out.2.1, V.out.2.2⟩
end

end U
end Go.Proofs.Ytnhplapcdgnaaaa
