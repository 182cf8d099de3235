import Derived.Test.YtnhplapcdgnaaaaPool
set_option linter.unusedVariables false
set_option linter.unusedSimpArgs false
namespace Go.Proofs.Ytnhplapcdgnaaaa
open Go.RowKit
namespace U

theorem infoArr : (Try.prog.info? 59).map (fun i => (i.zero, i.size, i.bytes)) = some (some (.agg (Array.replicate 16 (.int .u8 0))), 16, 16) := by kernel_rfl
theorem infoInt : (Try.prog.info? 3).map (fun i => (i.zero, i.size, i.bytes)) = some (some (.int .i64 0), 1, 8) := by kernel_rfl

theorem PoolRep.copyB {w : World} {h : PoolAt} {P : PoolM} (r : PoolRep w h P) : ∃ (C : Nat) (arr : Array Value),
    (Builtin.append_ #[131, 131] 131 #[.slice none 0 0, .slice (some ⟨h.bb, 0, none⟩) P.n h.cb]).run Try.prog w =
      .ok (.slice (some ⟨w.heap.size, 0, none⟩) P.n C) (w.drew.alloc (.cells arr 59)) ∧ 16 * P.n ≤ arr.size ∧
    ∀ i j, i < P.n → j < 16 → arr[i * 16 + j]? = some (.int .u8 (P.b i j).toNat) := by
  obtain ⟨N, c, hB, hN, hc⟩ := r.bytes
  obtain ⟨i0, hi, hz0, hz1, hz2⟩ := info_parts infoArr
  have n1 := r.n1
  have n64 := r.n64
  have hrun := run_append_nil (P := Try.prog) w 131 131 59 i0 _ Try.underlying131 hi hz0 ⟨h.bb, 0, none⟩ P.n h.cb (seg c 0 (16 * P.n)) (by rw [seg_length, hz1, Nat.mul_comm])
    (fun j u hu => by
      have hj : j < 16 * P.n := by have := (List.getElem?_eq_some_iff.1 hu).1; simpa using this
      rw [seg_get hj] at hu
      rw [Addr.add_mid, ← hu]
      exact hB.cell (by omega)) (by omega) (by omega) (by rw [hz2]; omega)
  refine ⟨_, _, hrun, by simp, fun i j hi hj => ?_⟩
  have hl : i * 16 + j < 16 * P.n := by omega
  rw [Array.getElem?_append_left (by simpa using hl)]
  simp only [List.getElem?_toArray]
  rw [seg_get hl, Nat.zero_add, hc i j hi hj]

theorem PoolRep.copyR {w : World} {h : PoolAt} {P : PoolM} (r : PoolRep w h P) : ∃ (C : Nat) (arr : Array Value),
    (Builtin.append_ #[132, 132] 132 #[.slice none 0 0, .slice (some ⟨h.rb, 0, none⟩) P.n h.cr]).run Try.prog w =
      .ok (.slice (some ⟨w.heap.size, 0, none⟩) P.n C) (w.drew.alloc (.cells arr 3)) ∧ P.n ≤ arr.size ∧
    ∀ i, i < P.n → arr[i]? = some (.int .i64 (P.refs i)) := by
  obtain ⟨N, c, hB, hN, hc⟩ := r.counts
  obtain ⟨i0, hi, hz0, hz1, hz2⟩ := info_parts infoInt
  have n1 := r.n1
  have n64 := r.n64
  have hrun := run_append_nil (P := Try.prog) w 132 132 3 i0 _ Try.underlying132 hi hz0 ⟨h.rb, 0, none⟩ P.n h.cr (seg c 0 P.n) (by rw [seg_length, hz1, Nat.mul_one])
    (fun j u hu => by
      have hj : j < P.n := by have := (List.getElem?_eq_some_iff.1 hu).1; simpa using this
      rw [seg_get hj] at hu
      rw [Addr.add_mid, ← hu]
      exact hB.cell (by omega)) (by omega) (by omega) (by rw [hz2]; omega)
  refine ⟨_, _, hrun, by simp, fun i hi => ?_⟩
  rw [Array.getElem?_append_left (by simpa using hi)]
  simp only [List.getElem?_toArray]
  rw [seg_get hi, Nat.zero_add, hc i hi]

theorem PoolRep.alloc {w : World} {h : PoolAt} {P : PoolM} (r : PoolRep w h P) (o : Obj) : PoolRep (w.alloc o) h P := by
  obtain ⟨N, c, hB, hN, hc⟩ := r.bytes
  obtain ⟨M, d, hR, hM, hd⟩ := r.counts
  exact ⟨r.st.alloc o, ⟨N, c, hB.alloc o, hN, hc⟩, ⟨M, d, hR.alloc o, hM, hd⟩, r.n1, r.n64⟩

theorem poolRep_mk {W : World} {P : PoolM} (p bb rb C D : Nat) (X Y : Array Value) (hX : W.heap[bb]? = some (.cells X 59 (0, 0))) (hY : W.heap[rb]? = some (.cells Y 3 (0, 0)))
    (hp : W.heap[p]? = some (.cells #[.slice (some ⟨bb, 0, none⟩) P.n C, .slice (some ⟨rb, 0, none⟩) P.n D] 134 (0, 0)))
    (sX : 16 * P.n ≤ X.size) (gX : ∀ i j, i < P.n → j < 16 → X[i * 16 + j]? = some (.int .u8 (P.b i j).toNat)) (sY : P.n ≤ Y.size) (gY : ∀ i, i < P.n → Y[i]? = some (.int .i64 (P.refs i)))
    (n1 : 1 ≤ P.n) (n64 : P.n ≤ 64) : PoolRep W ⟨p, bb, rb, C, D⟩ P := by
  refine ⟨⟨_, hp, rfl, fun i hi => ?_⟩, ⟨X.size, fun i => X.getD i undef, ⟨X, hX, rfl, fun i hi => by simp [hi]⟩, sX, fun i j hi hj => ?_⟩, ⟨Y.size, fun i => Y.getD i undef, ⟨Y, hY, rfl, fun i hi => by simp [hi]⟩, sY, fun i hi => ?_⟩, n1, n64⟩
  · match i, hi with
    | 0, _ => rfl
    | 1, _ => rfl
  · have := gX i j hi hj; simp [Array.getD_eq_getD_getElem?, this]
  · have := gY i hi; simp [Array.getD_eq_getD_getElem?, this]

theorem upd_allocs3 {S : Nat → Prop} {w W : World} {A B C : Obj} (h1 : W.heap = ((w.heap.push A).push B).push C) (h2 : W.os = w.os) (h3 : W.tape = w.tape) (h4 : W.output = w.output) : Upd S w W :=
  ⟨h2, h3, h4, by rw [h1]; simp; omega, fun k hk _ => by rw [h1, Array.getElem?_push, if_neg (by simp; omega), Array.getElem?_push, if_neg (by simp; omega), Array.getElem?_push, if_neg (by omega)]⟩
theorem heap3_0 {w W : World} {A B C : Obj} (h1 : W.heap = ((w.heap.push A).push B).push C) : W.heap[w.heap.size]? = some A := by
  rw [h1, Array.getElem?_push, if_neg (by simp; omega), Array.getElem?_push, if_neg (by simp), Array.getElem?_push, if_pos rfl]
theorem heap3_1 {w W : World} {A B C : Obj} (h1 : W.heap = ((w.heap.push A).push B).push C) : W.heap[w.heap.size + 1]? = some B := by
  rw [h1, Array.getElem?_push, if_neg (by simp), Array.getElem?_push, if_pos (by simp)]
theorem heap3_2 {w W : World} {A B C : Obj} (h1 : W.heap = ((w.heap.push A).push B).push C) : W.heap[w.heap.size + 2]? = some C := by
  rw [h1, Array.getElem?_push, if_pos (by simp)]

set_option maxRecDepth 100000 in
set_option maxHeartbeats 400000 in
theorem copy_any (w : World) (h : PoolAt) (P : PoolM) (r : PoolRep w h P) :
    Calls Try.prog 43 #[.pointer (some ⟨h.p, 0, none⟩)] w fun e w' => ∃ h' : PoolAt,
      e = .returned (.pointer (some ⟨h'.p, 0, none⟩)) ∧ PoolRep w' h' P ∧ Upd Non w w' ∧ w.heap.size ≤ h'.p ∧ w.heap.size ≤ h'.bb ∧ w.heap.size ≤ h'.rb := by
  have c0 := r.c0
  have c1 := r.c1
  obtain ⟨C1, X1, a1, s1, g1⟩ := r.drew.copyB
  obtain ⟨D1, Y1, b1, s2, g2⟩ := r.drew.copyR
  obtain ⟨C2, X2, a2, s3, g3⟩ := (r.drew.drew.alloc (.cells Y1 3)).copyB
  obtain ⟨D2, Y2, b2, s4, g4⟩ := (r.drew.drew.alloc (.cells X1 59)).copyR
  have c0' := (r.alloc (.cells Y1 3)).c0
  have c1' := (r.alloc (.cells X1 59)).c1
  go_enter Try.func43, Try.ntmps43
  go_wp2
  go_region_law (first | (refine step_append_eq rfl _ _ _ rfl _ _ _ rfl rfl a1 ?_) | (refine step_append_eq rfl _ _ _ rfl _ _ _ rfl rfl b1 ?_) | (refine step_append_eq rfl _ _ _ rfl _ _ _ rfl rfl a2 ?_) | (refine step_append_eq rfl _ _ _ rfl _ _ _ rfl rfl b2 ?_))
  all_goals go_wp2
  all_goals go_ret
  all_goals first
    | exact ⟨⟨w.heap.size + 2, w.heap.size, w.heap.size + 1, C1, D2⟩, rfl, poolRep_mk _ _ _ _ _ X1 Y2 (heap3_0 (w := w) rfl) (heap3_1 (w := w) rfl) (heap3_2 (w := w) rfl) s1 g1 s4 g4 r.n1 r.n64, upd_allocs3 rfl rfl rfl rfl, Nat.le_add_right _ _, Nat.le_refl _, Nat.le_add_right _ _⟩
    | exact ⟨⟨w.heap.size + 2, w.heap.size + 1, w.heap.size, C2, D1⟩, rfl, poolRep_mk _ _ _ _ _ X2 Y1 (heap3_1 (w := w) rfl) (heap3_0 (w := w) rfl) (heap3_2 (w := w) rfl) s3 g3 s2 g2 r.n1 r.n64, upd_allocs3 rfl rfl rfl rfl, Nat.le_add_right _ _, Nat.le_add_right _ _, Nat.le_refl _⟩

def PoolM.fresh (n : Nat) : PoolM := ⟨n, fun _ _ => 0, fun _ => 0⟩

theorem mkArr (k : Nat) (hk : k ≤ 64) (w : World) : (Instr.makeSlice 131 (.int .i64 k) (.int .i64 k)).run Try.prog w =
    .ok (.slice (some ⟨w.heap.size, 0, none⟩) k k) (w.alloc (.cells (madeCells (Array.replicate 16 (.int .u8 0)) (k * 16)) 59)) := by
  obtain ⟨i0, hi, hz0, hz1, hz2⟩ := info_parts infoArr
  have := run_make (P := Try.prog) w 131 59 i0 _ Try.underlying131 hi hz0 .i64 .i64 (k : Int) (k : Int) (by omega) (by omega) (by rw [hz2]; omega) (by omega)
  rw [this, hz1]; rfl
theorem mkInt (k : Nat) (hk : k ≤ 64) (w : World) : (Instr.makeSlice 132 (.int .i64 k) (.int .i64 k)).run Try.prog w =
    .ok (.slice (some ⟨w.heap.size, 0, none⟩) k k) (w.alloc (.cells (madeCells #[.int .i64 0] k) 3)) := by
  obtain ⟨i0, hi, hz0, hz1, hz2⟩ := info_parts infoInt
  have := run_make (P := Try.prog) w 132 3 i0 _ Try.underlying132 hi hz0 .i64 .i64 (k : Int) (k : Int) (by omega) (by omega) (by rw [hz2]; omega) (by omega)
  rw [this, hz1, Int.toNat_natCast, Nat.mul_one]; rfl
theorem madeInt_get (k i : Nat) (h : i < k) : (madeCells #[.int .i64 0] k)[i]? = some (.int .i64 0) := by
  simp [madeCells, h, Nat.mod_one]
theorem madeArr_get (k i j : Nat) (h : i < k) (hj : j < 16) : (madeCells (Array.replicate 16 (.int .u8 0)) (k * 16))[i * 16 + j]? = some (.int .u8 0) := by
  have h1 : i * 16 + j < k * 16 := by omega
  have h2 : (i * 16 + j) % 16 < 16 := Nat.mod_lt _ (by omega)
  simp only [madeCells]
  rw [Array.getElem?_map, Array.getElem?_eq_getElem (by simpa using h1)]
  simp only [Array.getElem_range, Option.map_some, Array.size_replicate]
  rw [getElem!_pos _ _ (by simpa using h2)]
  simp

theorem fresh_rep {W : World} {w : World} (k : Nat) (h1 : 1 ≤ k) (h64 : k ≤ 64) (bb rb p : Nat) (hX : W.heap[bb]? = some (.cells (madeCells (Array.replicate 16 (.int .u8 0)) (k * 16)) 59 (0, 0)))
    (hY : W.heap[rb]? = some (.cells (madeCells #[.int .i64 0] k) 3 (0, 0)))
    (hp : W.heap[p]? = some (.cells #[.slice (some ⟨bb, 0, none⟩) k k, .slice (some ⟨rb, 0, none⟩) k k] 134 (0, 0))) : PoolRep W ⟨p, bb, rb, k, k⟩ (PoolM.fresh k) :=
  poolRep_mk (P := PoolM.fresh k) p bb rb k k _ _ hX hY hp (by rw [size_madeCells]; simp [PoolM.fresh]; omega) (fun i j hi hj => madeArr_get k i j hi hj) (by rw [size_madeCells]; exact Nat.le_refl _) (fun i hi => madeInt_get k i hi) h1 h64

set_option maxRecDepth 100000 in
set_option maxHeartbeats 400000 in
theorem new_ok (w : World) (k : Nat) (h1 : 1 ≤ k) (h2 : k ≤ 64) :
    Calls Try.prog 28 #[.int .i64 k] w fun e w' => ∃ h' : PoolAt, e = .returned (.tuple #[.pointer (some ⟨h'.p, 0, none⟩), .nilIface]) ∧
      PoolRep w' h' (PoolM.fresh k) ∧ Upd Non w w' ∧ w.heap.size ≤ h'.p ∧ w.heap.size ≤ h'.bb ∧ w.heap.size ≤ h'.rb := by
  have m1 := mkArr k h2
  have m2 := mkInt k h2
  have g1 : ¬ (k : Int) < 1 := by omega
  have g2 : ¬ 64 < (k : Int) := by omega
  go_enter Try.func28, Try.ntmps28
  go_wp2
  go_region
  all_goals go_wp2
  all_goals go_ret2
  all_goals first
    | exact ⟨⟨w.heap.size + 2, w.heap.size, w.heap.size + 1, k, k⟩, rfl, fresh_rep (w := w) k h1 h2 _ _ _ (heap3_0 (w := w) rfl) (heap3_1 (w := w) rfl) (heap3_2 (w := w) rfl), upd_allocs3 rfl rfl rfl rfl, Nat.le_add_right _ _, Nat.le_refl _, Nat.le_add_right _ _⟩
    | exact ⟨⟨w.heap.size + 2, w.heap.size + 1, w.heap.size, k, k⟩, rfl, fresh_rep (w := w) k h1 h2 _ _ _ (heap3_1 (w := w) rfl) (heap3_0 (w := w) rfl) (heap3_2 (w := w) rfl), upd_allocs3 rfl rfl rfl rfl, Nat.le_add_right _ _, Nat.le_add_right _ _, Nat.le_refl _⟩

set_option maxHeartbeats 400000 in
theorem new_bad (w : World) (n : Int) (h : n < 1 ∨ 64 < n) :
    Calls Try.prog 28 #[.int .i64 n] w fun e w' => e = .returned (.tuple #[.pointer none, errv 1]) ∧ w = w' := by
  rcases h with h | h
  · go_enter Try.func28, Try.ntmps28
    go_wp2
    go_ret2
    exact ⟨by simp [errv], rfl⟩
  · have g1 : ¬ n < 1 := by omega
    go_enter Try.func28, Try.ntmps28
    go_wp2
    go_ret2
    exact ⟨by simp [errv], rfl⟩

theorem size_any (w : World) (h : PoolAt) (P : PoolM) (r : PoolRep w h P) :
    Calls Try.prog 78 #[.pointer (some ⟨h.p, 0, none⟩)] w fun e w' => e = .returned (.int .i64 P.n) ∧ w = w' := by
  have c0 := r.c0
  go_enter Try.func78, Try.ntmps78
  go_wp2
  go_ret
  exact ⟨rfl, rfl⟩

/-- How many of the first k are free; the lowest free one. -/
def PoolM.leftTo (P : PoolM) (k : Nat) : Nat := (List.range k).countP fun i => P.refs i == 0
def PoolM.left (P : PoolM) : Nat := P.leftTo P.n
theorem PoolM.leftTo_succ (P : PoolM) (k : Nat) : P.leftTo (k + 1) = P.leftTo k + if P.refs k == 0 then 1 else 0 := by
  unfold PoolM.leftTo
  rw [List.range_succ, List.countP_append]
  simp
theorem PoolM.leftTo_le (P : PoolM) (k : Nat) : P.leftTo k ≤ k := by
  unfold PoolM.leftTo
  have := List.countP_le_length (p := fun i => P.refs i == 0) (l := List.range k)
  simpa using this

set_option maxHeartbeats 400000 in
theorem left_any (w : World) (h : PoolAt) (P : PoolM) (r : PoolRep w h P) :
    Calls Try.prog 45 #[.pointer (some ⟨h.p, 0, none⟩)] w fun e w' => e = .returned (.int .i64 P.left) ∧ w = w' := by
  have c1 := r.c1
  have n64 := r.n64
  go_enter Try.func45, Try.ntmps45
  go_wp2
  go_loop [3, 11] (fun t i => ∃ k : Nat, k ≤ P.n ∧ i = .int .i64 k ∧ t = .int .i64 (P.leftTo k)) (fun _ i => P.n - (intOf i).toNat)
  case atStart => exact ⟨0, Nat.zero_le _, rfl, rfl⟩
  case round =>
    obtain ⟨k, hk, rfl, rfl⟩ := hrel
    have hl := P.leftTo_le k
    by_cases hlt : k < P.n
    · have c2 := r.ref hlt
      by_cases hz : P.refs k = 0
      · have hs : Hid (P.leftTo (k + 1) = P.leftTo k + 1) := by have := P.leftTo_succ k; rw [hz] at this; exact this
        have hz' : (P.refs k == 0) = true := by simpa using hz
        clear hz
        go_wp2
        go_round
        case rel => exact ⟨k + 1, by omega, by go_num, by rw [hs.out]; go_num⟩
        case measure => simp [intOf]; omega
      · have hz' : (P.refs k == 0) = false := by simpa using hz
        have hs : Hid (P.leftTo (k + 1) = P.leftTo k) := by have := P.leftTo_succ k; rw [hz'] at this; exact this
        clear hz
        go_wp2
        go_round
        case rel => exact ⟨k + 1, by omega, by go_num, by rw [hs.out]⟩
        case measure => simp [intOf]; omega
    · go_wp2
      go_ret
      obtain rfl : k = P.n := by omega
      exact ⟨rfl, rfl⟩

end U
end Go.Proofs.Ytnhplapcdgnaaaa
