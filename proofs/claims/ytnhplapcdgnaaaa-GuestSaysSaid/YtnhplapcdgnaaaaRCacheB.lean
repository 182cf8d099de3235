import Derived.Test.YtnhplapcdgnaaaaRCache
set_option linter.unusedVariables false
set_option linter.unusedSimpArgs false
namespace Go.Proofs.Ytnhplapcdgnaaaa
open Go.RowKit
namespace U

set_option maxRecDepth 100000 in
set_option maxHeartbeats 2000000 in
theorem rpoint_any (w : World) (v : Value) (L : List EntryM) (h : ERow w v L) (hl : L.length ≤ 100) (to : Int) (l : LeafM) :
    Calls Try.prog 22 #[v, .int .i64 to, .agg #[.bool l.there, .bool l.write, .int .i64 l.frame]] w
      fun e w' => ∃ v', e = .returned (.tuple #[v', .int .i64 (ptN to L)]) ∧ ERow w' v' (L.map (ptE to l)) ∧ Fresh w v' ∧ Upd Non w w' := by
  have h0 := h.alloc (.cells #[.bool l.there, .bool l.write, .int .i64 l.frame] 33)
  obtain ⟨A, cap, rfl⟩ := h.form
  go_enter Try.func22, Try.ntmps22
  go_wp2
  go_loopw [8, 9, 10] (fun s n i wr => ∃ (k : Nat) (v' : Value), k ≤ L.length ∧ i = .int .i64 k ∧ s = v' ∧ n = .int .i64 (ptN to (L.take k)) ∧
    Hid (ERow wr v' ((L.take k).map (ptE to l)) ∧ Fresh (w.alloc (.cells #[.bool l.there, .bool l.write, .int .i64 l.frame] 33)) v' ∧ Upd Non (w.alloc (.cells #[.bool l.there, .bool l.write, .int .i64 l.frame] 33)) wr)) (fun _ _ i _ => L.length - (intOf i).toNat)
  case atStart => exact ⟨0, _, Nat.zero_le _, rfl, rfl, rfl, ERow.nil, (fun g hg => by cases hg), Upd.refl _ _⟩
  case round =>
    obtain ⟨k, v', hk, rfl, rfl, rfl, hI⟩ := hrel
    by_cases hlt : k < L.length
    · obtain ⟨g, o, cap', hv, hg, hE⟩ := (h0.upd_ hI.out.2.2 (fun _ _ => (fun h => h))).at_ hlt
      obtain ⟨rfl, rfl⟩ : A = some ⟨g, o, none⟩ ∧ cap = cap' := by simpa using hv
      have hb2 := (hI.out.2.2.block w.heap.size (by simp) (fun h => h)).trans (heap_alloc_new w (.cells #[.bool l.there, .bool l.write, .int .i64 l.frame] 33))
      have b0 := cell_of_row wr w.heap.size 0 _ _ _ hb2
      have b1 := cell_of_row wr w.heap.size 1 _ _ _ hb2
      have b2 := cell_of_row wr w.heap.size 2 _ _ _ hb2
      simp at b0 b1 b2
      have hz : w.heap.size < wr.heap.size := heap_lt hb2
      have hcl : (ptN to (L.take k)) ≤ k := by
        have h1 := List.countP_le_length (p := fun e : EntryM => e.to == to) (l := L.take k)
        have h2 := List.length_take_le k L
        unfold ptN; omega
      have hlen : Hid (((L.take k).map (ptE to l)).length ≤ 100000) := by
        show _ ≤ _
        rw [List.length_map]
        have := List.length_take_le k L
        omega
      obtain ⟨x, hx⟩ : ∃ x, L[k] = x := ⟨_, rfl⟩
      have X := Lib.hid hx
      rw [hx] at hE
      clear hx hv hb2
      obtain ⟨e0, e1, e2, e3, e4, e5, e6⟩ := hE
      by_cases ht : x.to = to
      · have ht' : (x.to == to) = true := by simpa using ht
        have hn : Hid (ptN to (L.take (k + 1)) = ptN to (L.take k) + 1) := by
          show _ = _
          unfold ptN
          rw [List.take_succ_eq_append_getElem hlt, List.countP_append, X.out]; simp [ht]
        have hs : Hid ((L.take (k + 1)).map (ptE to l) = (L.take k).map (ptE to l) ++ [{ x with leaf := l }]) := by
          show _ = _
          rw [List.take_succ_eq_append_getElem hlt, List.map_append, X.out]; simp [ptE, ht]
        clear ht
        have hbox : EAt ((wr.alloc (.cells #[.int .i64 x.root, .int .i64 x.page, .int .i64 x.to, .bool x.may, .bool l.there, .bool l.write, .int .i64 l.frame] 35)).alloc (.cells #[.int .i64 x.root, .int .i64 x.page, .int .i64 x.to, .bool x.may, .bool l.there, .bool l.write, .int .i64 l.frame] 35)) (wr.heap.size + 1) 0 { x with leaf := l } := by
          have := ebox (wr.alloc (.cells #[.int .i64 x.root, .int .i64 x.page, .int .i64 x.to, .bool x.may, .bool l.there, .bool l.write, .int .i64 l.frame] 35)) { x with leaf := l }
          rw [World.size_alloc] at this
          exact this
        have HB := Lib.hid hbox
        clear hbox
        go_wp2_with (at_builtin; refine wpl_append_eT Try.underlying29 rfl _ _ rfl _ _ rfl rfl _ { x with leaf := l } ((hI.out.1.alloc _).alloc _) hlen.out HB.out ?_; intro v2 w3 hv2 u3 hb2)
        go_roundw
        case rel => exact ⟨k + 1, _, by omega, by go_num, rfl, by rw [hn.out]; go_num, by rw [hs.out]; exact hv2, fresh_of ((hI.out.2.2.alloc _).alloc _) hI.out.2.1 hb2, ((hI.out.2.2.alloc _).alloc _).over u3 hI.out.2.1⟩
        case measure => simp [intOf]; omega
      · have ht' : (x.to == to) = false := by simpa using ht
        have hn : Hid (ptN to (L.take (k + 1)) = ptN to (L.take k)) := by
          show _ = _
          unfold ptN
          rw [List.take_succ_eq_append_getElem hlt, List.countP_append, X.out]; simp [ht]
        have hs : Hid ((L.take (k + 1)).map (ptE to l) = (L.take k).map (ptE to l) ++ [x]) := by
          show _ = _
          rw [List.take_succ_eq_append_getElem hlt, List.map_append, X.out]; simp [ptE, ht]
        clear ht
        have hbox : EAt ((wr.alloc (.cells x.cells.toArray 35)).alloc (.cells x.cells.toArray 35)) (wr.heap.size + 1) 0 x := by
          have := ebox (wr.alloc (.cells x.cells.toArray 35)) x
          rw [World.size_alloc] at this
          exact this
        have HB := Lib.hid hbox
        clear hbox
        go_wp2_with (at_builtin; refine wpl_append_eT Try.underlying29 rfl _ _ rfl _ _ rfl rfl _ x ((hI.out.1.alloc _).alloc _) hlen.out HB.out ?_; intro v2 w3 hv2 u3 hb2)
        go_roundw
        case rel => exact ⟨k + 1, _, by omega, by go_num, rfl, by rw [hn.out], by rw [hs.out]; exact hv2, fresh_of ((hI.out.2.2.alloc _).alloc _) hI.out.2.1 hb2, ((hI.out.2.2.alloc _).alloc _).over u3 hI.out.2.1⟩
        case measure => simp [intOf]; omega
    · obtain rfl : k = L.length := by omega
      have hI' := hI.out
      rw [List.take_length] at hI'
      have V := Lib.hid hI'
      have T := Lib.hid (show L.take L.length = L from List.take_length)
      clear hI' hI
      go_wp2
      go_ret2
      exact ⟨_, by rw [T.out]; rfl, V.out.1, V.out.2.1.up ((Upd.refl Non w).alloc _), (Upd.alloc (Upd.refl _ _) _).trans V.out.2.2⟩

set_option maxRecDepth 100000 in
set_option maxHeartbeats 2000000 in
theorem sameEntries_law (w : World) (v1 v2 : Value) (L : List EntryM) (h1 : ERow w v1 L) (h2 : ERow w v2 L) (hl : L.length ≤ 100) :
    Calls Try.prog 26 #[v1, v2] w fun e w' => e = .returned (.bool true) ∧ Upd Non w w' := by
  obtain ⟨A1, cap1, rfl⟩ := h1.form
  obtain ⟨A2, cap2, rfl⟩ := h2.form
  go_enter Try.func26, Try.ntmps26
  go_wp2
  go_loopw [5] (fun i wr => ∃ k : Nat, k ≤ L.length ∧ i = .int .i64 k ∧ Hid (Upd Non w wr)) (fun i _ => L.length - (intOf i).toNat)
  case atStart => exact ⟨0, Nat.zero_le _, rfl, Upd.refl _ _⟩
  case round =>
    obtain ⟨k, hk, rfl, hU⟩ := hrel
    by_cases hlt : k < L.length
    · obtain ⟨g, o, cap', hv, hg, hE⟩ := (h1.upd_ hU.out (fun _ _ => (fun h => h))).at_ hlt
      obtain ⟨rfl, rfl⟩ : A1 = some ⟨g, o, none⟩ ∧ cap1 = cap' := by simpa using hv
      obtain ⟨g2, o2, cap2', hv2, hg2, hE2⟩ := (h2.upd_ hU.out (fun _ _ => (fun h => h))).at_ hlt
      obtain ⟨rfl, rfl⟩ : A2 = some ⟨g2, o2, none⟩ ∧ cap2 = cap2' := by simpa using hv2
      obtain ⟨x, hx⟩ : ∃ x, L[k] = x := ⟨_, rfl⟩
      rw [hx] at hE hE2
      clear hx hv hv2
      obtain ⟨e0, e1, e2, e3, e4, e5, e6⟩ := hE
      obtain ⟨f0, f1, f2, f3, f4, f5, f6⟩ := hE2
      have k0 : (0 : Int) ≤ k := by omega
      have k1 : (k : Int) < L.length := by omega
      go_wp2
      go_quiet (fail)
      go_wp2
      go_roundw
      case rel => exact ⟨k + 1, by omega, by go_num, hU.out.drewN _⟩
      case measure => simp [intOf]; omega
    · go_wp2
      go_ret
      exact ⟨rfl, hU.out⟩

end U
end Go.Proofs.Ytnhplapcdgnaaaa
