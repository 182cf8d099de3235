import Derived.Test.YtnhplapcdgnaaaaRPoolB
set_option linter.unusedVariables false
set_option linter.unusedSimpArgs false
namespace Go.Proofs.Ytnhplapcdgnaaaa
open Go.RowKit
namespace U

theorem zero63 : Try.zeroCells63 = (Value.int .i64 0 :: (List.replicate 1024 (Value.int .u8 0) ++ List.replicate 64 (Value.int .i64 0))).toArray := by kernel_rfl
theorem crr_1 (z a b : Value) (n m i : Nat) (h : i < n) : (z :: (List.replicate n a ++ List.replicate m b)).toArray[1 + i]? = some a := by
  rw [List.getElem?_toArray, Nat.add_comm, List.getElem?_cons_succ, List.getElem?_append_left (by simpa using h)]
  simp [h]
theorem crr_2 (z a b : Value) (n m i : Nat) (h : i < m) : (z :: (List.replicate n a ++ List.replicate m b)).toArray[n + 1 + i]? = some b := by
  rw [List.getElem?_toArray, show n + 1 + i = (n + i) + 1 by omega, List.getElem?_cons_succ, List.getElem?_append_right (by simp)]
  simp [h]
theorem crr_s (z a b : Value) (n m : Nat) : (z :: (List.replicate n a ++ List.replicate m b)).toArray.size = n + m + 1 := by simp
theorem zero63_b (i : Nat) (h : i < 1024) : Try.zeroCells63[1 + i]? = some (.int .u8 0) := by
  rw [zero63]; exact crr_1 _ _ _ 1024 64 i h
theorem zero63_r (i : Nat) (h : i < 64) : Try.zeroCells63[1025 + i]? = some (.int .i64 0) := by
  rw [zero63]; exact crr_2 _ _ _ 1024 64 i h
theorem zero63_s : Try.zeroCells63.size = 1089 := by rw [zero63]; exact crr_s _ _ _ 1024 64

theorem rpool_new (w : World) (k : Nat) (h1 : 1 ≤ k) (h2 : k ≤ 64) : RPoolRep (w.alloc (.cells (Try.zeroCells63.setIfInBounds 0 (.int .i64 k)) 63)) w.heap.size (PoolM.fresh k) := by
  refine ⟨⟨fun i => (Try.zeroCells63.setIfInBounds 0 (.int .i64 k)).getD i undef, ⟨_, heap_alloc_new w _, by rw [Array.size_setIfInBounds]; exact zero63_s, fun i hi => ?_⟩, ?_, fun i j hi hj => ?_, fun i hi => ?_⟩, h1, h2⟩
  · show _ = some ((Array.setIfInBounds _ _ _).getD i undef)
    rw [Array.getD_eq_getD_getElem?, Array.getElem?_eq_getElem (by rw [Array.size_setIfInBounds, zero63_s]; exact hi)]; rfl
  · show (Array.setIfInBounds _ _ _).getD 0 undef = _
    rw [Array.getD_eq_getD_getElem?, Array.getElem?_setIfInBounds_self_of_lt (by rw [zero63_s]; omega)]; rfl
  · have hi' : i < k := hi
    show (Array.setIfInBounds _ _ _).getD (1 + i * 16 + j) undef = _
    rw [Array.getD_eq_getD_getElem?, Array.getElem?_setIfInBounds_ne (by omega), show 1 + i * 16 + j = 1 + (i * 16 + j) from by omega, zero63_b _ (by omega)]
    rfl
  · have hi' : i < k := hi
    show (Array.setIfInBounds _ _ _).getD (1025 + i) undef = _
    rw [Array.getD_eq_getD_getElem?, Array.getElem?_setIfInBounds_ne (by omega), zero63_r _ (by omega)]
    rfl

end U
end Go.Proofs.Ytnhplapcdgnaaaa
