import Derived.Test.YtnhplapcdgnaaaaMapB
set_option linter.unusedVariables false
set_option linter.unusedSimpArgs false
namespace Go.Proofs.Ytnhplapcdgnaaaa
open Go.RowKit
namespace U

set_option maxRecDepth 100000 in
set_option maxHeartbeats 400000 in
theorem unplug_any (w : World) (L : PoolAt) (P : PoolM) (g N : Nat) (M : MapM) (rp : PoolRep w L P) (r : MRep w g 146 N L.p M) (n : Int) :
    Calls Try.prog 50 #[.pointer (some ⟨g, 0, none⟩), .int .i64 n] w fun e w' => e = .returned (errv (munplug P M n).2.2) ∧ PoolRep w' L (munplug P M n).1 ∧ MRep w' g 146 N L.p (munplug P M n).2.1 ∧ Upd (ownM L g) w w' := by
  have hne := map_ne rp r (by decide) (by decide) (by decide)
  by_cases ho : onB n = true
  · have hn := onB_iff.1 ho
    obtain ⟨k, rfl⟩ := Int.eq_ofNat_of_zero_le hn.1
    have hk : k < 16 := by omega
    have c1 := r.st hk
    by_cases h0 : M.state k = 0
    · have h0' : (M.state k == 0) = true := by simpa using h0
      have F := Lib.hid (show munplug P M k = (P, M, 2) by unfold munplug; rw [if_pos ho]; simp [h0])
      clear h0 hn
      go_enter Try.func50, Try.ntmps50
      go_wp2_with (go_at_call 85; refine (on_any _ _).mono ?_; rintro e w' ⟨rfl, rfl⟩)
      go_ret
      exact ⟨by rw [F.out]; rfl, by rw [F.out]; exact rp, by rw [F.out]; exact r, Upd.refl _ _⟩
    · have h0' : (M.state k == 0) = false := by simpa using h0
      have F := Lib.hid (show munplug P M k = (letP P M k, (M.setLeaf k LeafM.none).setState k 0, 0) by unfold munplug; rw [if_pos ho]; simp [h0])
      clear h0 hn
      go_enter Try.func50, Try.ntmps50
      go_wp2_with (first | (go_at_call 85; refine (on_any _ _).mono ?_; rintro e w' ⟨rfl, rfl⟩) | (go_at_call 86; refine (let_any _ L P g N M rp r k hk).mono ?_; rintro e w2 ⟨rfl, p2, m2, u2⟩; have d1 := m2.st hk; have g1 := m2.fr (1 + k)))
      go_ret
      exact ⟨by rw [F.out]; rfl, by rw [F.out]; exact p2.keep1 hne _ _, by rw [F.out]; exact m2.setState hk, u2.setCell (p := ⟨g, 1 + k, none⟩) (S := ownM L g) (fun _ => .inr rfl) _⟩
  · have ho' : onB n = false := by simpa using ho
    have F := Lib.hid (show munplug P M n = (P, M, 1) by unfold munplug; rw [if_neg ho])
    go_enter Try.func50, Try.ntmps50
    go_wp2_with (go_at_call 85; refine (on_any _ _).mono ?_; rintro e w' ⟨rfl, rfl⟩)
    go_ret
    exact ⟨by rw [F.out]; rfl, by rw [F.out]; exact rp, by rw [F.out]; exact r, Upd.refl _ _⟩

set_option maxRecDepth 100000 in
set_option maxHeartbeats 400000 in
theorem give_any (w : World) (L : PoolAt) (P : PoolM) (g N : Nat) (M : MapM) (rp : PoolRep w L P) (r : MRep w g 146 N L.p M) (n : Int) :
    Calls Try.prog 89 #[.pointer (some ⟨g, 0, none⟩), .int .i64 n] w fun e w' => e = .returned (errv (mgive P M n).2.2) ∧ PoolRep w' L (mgive P M n).1 ∧ MRep w' g 146 N L.p (mgive P M n).2.1 ∧ Upd (ownM L g) w w' := by
  have hne := map_ne rp r (by decide) (by decide) (by decide)
  by_cases ho : onB n = true
  · have hn := onB_iff.1 ho
    obtain ⟨k, rfl⟩ := Int.eq_ofNat_of_zero_le hn.1
    have hk : k < 16 := by omega
    have c1 := r.st hk
    by_cases h0 : M.state k = 1
    · have h0' : (M.state k != 1) = false := by simpa using h0
      have F := Lib.hid (show mgive P M k = (letP P M k, (M.setLeaf k LeafM.none).setState k 2, 0) by unfold mgive; rw [if_pos ho]; simp [h0])
      clear h0 hn
      go_enter Try.func89, Try.ntmps89
      go_wp2_with (first | (go_at_call 85; refine (on_any _ _).mono ?_; rintro e w' ⟨rfl, rfl⟩) | (go_at_call 86; refine (let_any _ L P g N M rp r k hk).mono ?_; rintro e w2 ⟨rfl, p2, m2, u2⟩; have d1 := m2.st hk; have g1 := m2.fr (1 + k)))
      go_ret
      exact ⟨by rw [F.out]; rfl, by rw [F.out]; exact p2.keep1 hne _ _, by rw [F.out]; exact m2.setState hk, u2.setCell (p := ⟨g, 1 + k, none⟩) (S := ownM L g) (fun _ => .inr rfl) _⟩
    · have h0' : (M.state k != 1) = true := by simpa using h0
      have F := Lib.hid (show mgive P M k = (P, M, 8) by unfold mgive; rw [if_pos ho]; simp [h0])
      clear h0 hn
      go_enter Try.func89, Try.ntmps89
      go_wp2_with (go_at_call 85; refine (on_any _ _).mono ?_; rintro e w' ⟨rfl, rfl⟩)
      go_ret
      exact ⟨by rw [F.out]; rfl, by rw [F.out]; exact rp, by rw [F.out]; exact r, Upd.refl _ _⟩
  · have ho' : onB n = false := by simpa using ho
    have F := Lib.hid (show mgive P M n = (P, M, 1) by unfold mgive; rw [if_neg ho])
    go_enter Try.func89, Try.ntmps89
    go_wp2_with (go_at_call 85; refine (on_any _ _).mono ?_; rintro e w' ⟨rfl, rfl⟩)
    go_ret
    exact ⟨by rw [F.out]; rfl, by rw [F.out]; exact rp, by rw [F.out]; exact r, Upd.refl _ _⟩

theorem zeroMap : Try.zeroCells146 = (Value.pointer none :: (List.replicate 16 (Value.int .i64 0) ++ (List.replicate 16 [Value.bool false, Value.bool false, Value.int .i64 0]).flatten)).toArray := by kernel_rfl
theorem zeroMap_s : Try.zeroCells146.size = 65 := by rw [zeroMap]; rfl
theorem zeroMap_get (i : Nat) (hi : i < 16) : Try.zeroCells146[1 + i]? = some (.int .i64 0) ∧ Try.zeroCells146[17 + i * 3]? = some (.bool false) ∧ Try.zeroCells146[17 + i * 3 + 1]? = some (.bool false) ∧
    Try.zeroCells146[17 + i * 3 + 2]? = some (.int .i64 0) := by
  rw [zeroMap]
  have : i = 0 ∨ i = 1 ∨ i = 2 ∨ i = 3 ∨ i = 4 ∨ i = 5 ∨ i = 6 ∨ i = 7 ∨ i = 8 ∨ i = 9 ∨ i = 10 ∨ i = 11 ∨ i = 12 ∨ i = 13 ∨ i = 14 ∨ i = 15 := by omega
  rcases this with rfl | rfl | rfl | rfl | rfl | rfl | rfl | rfl | rfl | rfl | rfl | rfl | rfl | rfl | rfl | rfl <;> exact ⟨rfl, rfl, rfl, rfl⟩
def MapM.fresh : MapM := ⟨fun _ => 0, fun _ => LeafM.none⟩

set_option maxRecDepth 100000 in
set_option maxHeartbeats 400000 in
theorem mapNew_nil (w : World) : Calls Try.prog 48 #[.pointer none] w fun e w' => e = .returned (.tuple #[.pointer none, errv 2]) ∧ w = w' := by
  go_enter Try.func48, Try.ntmps48
  go_wp2
  go_ret2
  exact ⟨rfl, rfl⟩

set_option maxRecDepth 100000 in
set_option maxHeartbeats 400000 in
theorem mapNew_any (w : World) (p : Nat) : Calls Try.prog 48 #[.pointer (some ⟨p, 0, none⟩)] w fun e w' => ∃ g, e = .returned (.tuple #[.pointer (some ⟨g, 0, none⟩), .nilIface]) ∧ MRep w' g 146 65 p MapM.fresh ∧ w.heap.size ≤ g ∧ Upd Non w w' := by
  go_enter Try.func48, Try.ntmps48
  go_wp2
  go_ret2
  refine ⟨w.heap.size, rfl, ⟨⟨fun i => (Try.zeroCells146.setIfInBounds 0 (.pointer (some ⟨p, 0, none⟩))).getD i undef, ⟨_, heap_alloc_new w _, by rw [Array.size_setIfInBounds]; exact zeroMap_s, fun i hi => ?_⟩, ?_, fun i hi => ?_⟩, by omega⟩, Nat.le_refl _, (Upd.refl _ _).alloc _⟩
  · show _ = some ((Array.setIfInBounds _ _ _).getD i undef)
    rw [Array.getD_eq_getD_getElem?, Array.getElem?_eq_getElem (by rw [Array.size_setIfInBounds, zeroMap_s]; exact hi)]; rfl
  · show (Array.setIfInBounds _ _ _).getD 0 undef = _
    rw [Array.getD_eq_getD_getElem?, Array.getElem?_setIfInBounds_self_of_lt (by rw [zeroMap_s]; omega)]; rfl
  · obtain ⟨z1, z2, z3, z4⟩ := zeroMap_get i hi
    refine ⟨?_, ?_, ?_, ?_⟩ <;> (show (Array.setIfInBounds _ _ _).getD _ undef = _; rw [Array.getD_eq_getD_getElem?, Array.getElem?_setIfInBounds_ne (by omega)])
    · rw [z1]; rfl
    · rw [z2]; rfl
    · rw [z3]; rfl
    · rw [z4]; rfl

theorem mapCopy_load {w : World} {g p : Nat} {M : MapM} (r : MRep w g 146 65 p M) : ∃ c : Nat → Value, (Instr.loadAt 146 (.pointer (some ⟨g, 0, none⟩))).run Try.prog w = .ok (.agg (seg c 0 65).toArray) w ∧
    (∀ v ∈ seg c 0 65, v.oneCell' = true) ∧
    ∀ i, i < 16 → c (1 + i) = .int .i64 (M.state i) ∧ c (17 + i * 3) = .bool (M.leaf i).there ∧ c (17 + i * 3 + 1) = .bool (M.leaf i).write ∧ c (17 + i * 3 + 2) = .int .i64 (M.leaf i).frame := by
  obtain ⟨c, hR, h0, h⟩ := r.row
  refine ⟨c, load_row (P := Try.prog) hR 146 0 65 _ (by omega) Try.underlying146 rfl (by kernel_rfl), fun v hv => ?_, h⟩
  simp only [seg, List.mem_map, List.mem_range] at hv
  obtain ⟨k, hk, rfl⟩ := hv
  rw [Nat.zero_add]
  by_cases k0 : k = 0
  · subst k0; rw [h0]; rfl
  · by_cases k1 : k < 17
    · have := (h (k - 1) (by omega)).1
      rw [show 1 + (k - 1) = k by omega] at this
      rw [this]; rfl
    · obtain ⟨_, h2, h3, h4⟩ := h ((k - 17) / 3) (by omega)
      have hm : (k - 17) % 3 = 0 ∨ (k - 17) % 3 = 1 ∨ (k - 17) % 3 = 2 := by omega
      rcases hm with hm | hm | hm
      · rw [show 17 + (k - 17) / 3 * 3 = k by omega] at h2; rw [h2]; rfl
      · rw [show 17 + (k - 17) / 3 * 3 + 1 = k by omega] at h3; rw [h3]; rfl
      · rw [show 17 + (k - 17) / 3 * 3 + 2 = k by omega] at h4; rw [h4]; rfl

set_option maxRecDepth 100000 in
set_option maxHeartbeats 400000 in
theorem mapCopy_any (w : World) (g p q : Nat) (M : MapM) (r : MRep w g 146 65 p M) : Calls Try.prog 49 #[.pointer (some ⟨g, 0, none⟩), .pointer (some ⟨q, 0, none⟩)] w
    fun e w' => ∃ g', e = .returned (.pointer (some ⟨g', 0, none⟩)) ∧ MRep w' g' 146 65 q M ∧ w.heap.size ≤ g' ∧ Upd Non w w' := by
  obtain ⟨c, ld, h1, hc⟩ := mapCopy_load r
  have hn := Row.new w 146 Try.zeroCells146
  rw [zeroMap_s] at hn
  have ld' : (Instr.loadAt 146 (.pointer (some ⟨g, 0, none⟩))).run Try.prog w = .ok (.agg (seg c 0 65).toArray) w := ld
  have st := store_row (P := Try.prog) hn 146 0 (seg c 0 65) (by rw [seg_length]; omega) (by rw [seg_length]; kernel_rfl) h1
  have hn2 := Row.setCells (seg c 0 65) 0 _ _ hn
  have k0 := hn2.cell (i := 0) (by omega)
  have k1 := hn2.frozen 0
  have K := Lib.hid hn2
  have C := Lib.hid hc
  clear hn hn2 hc h1 ld'
  go_enter Try.func49, Try.ntmps49
  go_wp2_with (first | (refine wpl_load rfl 146 _ rfl _ _ rfl ld ?_) | (refine wpl_store rfl 146 _ _ rfl _ _ rfl rfl st ?_))
  go_ret
  refine ⟨w.heap.size, rfl, ⟨⟨_, K.out.set_ (i := 0) _, ?_, fun i hi => ?_⟩, by omega⟩, Nat.le_refl _, ?_⟩
  · unfold upd; rw [if_pos rfl]
  · obtain ⟨c1, c2, c3, c4⟩ := C.out i hi
    have get : ∀ j, j ≠ 0 → j < 65 → upd (updL (fun i => Try.zeroCells146.getD i undef) 0 (seg c 0 65)) 0 (.pointer (some ⟨q, 0, none⟩)) j = c j := fun j hj hl => by
      unfold upd updL
      rw [if_neg hj, if_pos (by rw [seg_length]; omega), List.getD_eq_getElem?_getD, Nat.sub_zero, seg_get hl, Nat.zero_add]; rfl
    exact ⟨(get _ (by omega) (by omega)).trans c1, (get _ (by omega) (by omega)).trans c2, (get _ (by omega) (by omega)).trans c3, (get _ (by omega) (by omega)).trans c4⟩
  · exact (Upd.setCells (S := Non) (g := w.heap.size) (fun h => absurd h (Nat.lt_irrefl _)) _ _ _ ((Upd.refl _ _).alloc _)).setCell (p := ⟨w.heap.size, 0, none⟩) (fun h => absurd h (Nat.lt_irrefl _)) _

end U
end Go.Proofs.Ytnhplapcdgnaaaa
