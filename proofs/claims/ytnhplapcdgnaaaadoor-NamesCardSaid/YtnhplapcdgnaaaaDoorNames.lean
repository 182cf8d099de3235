import Derived.Test.YtnhplapcdgnaaaaDoorNums
import Derived.LaidEql
set_option linter.unusedVariables false
set_option linter.unusedSimpArgs false
namespace Go.Proofs.YtnhplapcdgnaaaaDoor
open Go.RowKit
namespace U

set_option maxRecDepth 100000 in
set_option maxHeartbeats 400000 in
theorem same_one (w : World) (a : Nat) (ha : 1 ≤ a) :
    Calls Tryd.prog 4 #[.iface 23 (.int .i64 a), .int .i64 a] w fun e w' => e = .returned (.bool true) ∧ w = w' := by
  have ta : ∀ w, (Instr.typeAssert (.iface 23 (.int .i64 a)) 27 23 true).run Tryd.prog w = .ok (.tuple #[.int .i64 a, .bool true]) w := fun w => by kernel_rfl
  go_enter Tryd.func4, Tryd.ntmps4
  go_wp2
  all_goals go_ret
  all_goals exact ⟨rfl, rfl⟩

def nine : ByteArray := { data := #[57] }
def told : ByteArray := { data := #[117, 110, 100, 101, 114, 99, 114, 111, 102, 116, 58, 32, 101, 114, 114, 111, 114, 32, 57] }
set_option maxRecDepth 100000 in
theorem small_nine (w : World) : Calls Tryd.prog 10 #[.int .i64 9] w fun e w' => e = .returned (.string nine) ∧ w = w' := by
  go_enter Tryd.func10, Tryd.ntmps10
  go_wp2
  go_ret
  exact ⟨rfl, rfl⟩
set_option maxRecDepth 100000 in
theorem format_nine (w : World) : Calls Tryd.prog 9 #[.int .i64 9, .int .i64 10] w fun e w' => e = .returned (.string nine) ∧ w = w' := by
  go_enter Tryd.func9, Tryd.ntmps9
  go_wp2_with (go_at_call 10; refine (small_nine _).mono ?_; rintro e w2 ⟨rfl, rfl⟩)
  go_ret
  exact ⟨rfl, rfl⟩
theorem itoaI_nine (w : World) : Calls Tryd.prog 8 #[.int .i64 9] w fun e w' => e = .returned (.string nine) ∧ w = w' := by
  go_enter Tryd.func8, Tryd.ntmps8
  go_wp2_with (go_at_call 9; refine (format_nine _).mono ?_; rintro e w2 ⟨rfl, rfl⟩)
  go_ret
  exact ⟨rfl, rfl⟩
theorem itoa_nine (w : World) : Calls Tryd.prog 7 #[.int .i64 9] w fun e w' => e = .returned (.string nine) ∧ w = w' := by
  go_enter Tryd.func7, Tryd.ntmps7
  go_wp2_with (go_at_call 8; refine (itoaI_nine _).mono ?_; rintro e w2 ⟨rfl, rfl⟩)
  go_ret
  exact ⟨rfl, rfl⟩
set_option maxRecDepth 100000 in
theorem error_nine (w : World) : Calls Tryd.prog 6 #[.int .i64 9] w fun e w' => e = .returned (.string told) ∧ w = w' := by
  go_enter Tryd.func6, Tryd.ntmps6
  go_wp2_with (go_at_call 7; refine (itoa_nine _).mono ?_; rintro e w2 ⟨rfl, rfl⟩)
  go_ret
  exact ⟨rfl, rfl⟩
def nums : List Int := [16, 16, 4, 64, 4, 4, 255, 120, 200, 128, 64, 15, 0, 1, 2, 0, 1, 2]

def numA : Array Value := #[.int .i64 16, .int .i64 16, .int .i64 4, .int .i64 64, .int .i64 4, .int .i64 4, .int .i64 255, .int .i64 120, .int .i64 200, .int .i64 128, .int .i64 64, .int .i64 15, .int .i64 0, .int .i64 1, .int .i64 2, .int .i64 0, .int .i64 1, .int .i64 2]
def errA : Array Value := #[.iface 23 (.int .i64 1), .iface 23 (.int .i64 2), .iface 23 (.int .i64 3), .iface 23 (.int .i64 4), .iface 23 (.int .i64 5), .iface 23 (.int .i64 6), .iface 23 (.int .i64 7), .iface 23 (.int .i64 8), .iface 23 (.int .i64 9)]
def nW (w : World) : World := ((w.alloc (.cells numA 3)).alloc (.cells numA 3)).alloc (.cells errA 27)
theorem nums_cells : ∀ i x, nums[i]? = some x → numA.getD i undef = .int .i64 x := by
  intro i x h
  have hi : i < 18 := by have := (List.getElem?_eq_some_iff.1 h).1; simpa [nums] using this
  have : i = 0 ∨ i = 1 ∨ i = 2 ∨ i = 3 ∨ i = 4 ∨ i = 5 ∨ i = 6 ∨ i = 7 ∨ i = 8 ∨ i = 9 ∨ i = 10 ∨ i = 11 ∨ i = 12 ∨ i = 13 ∨ i = 14 ∨ i = 15 ∨ i = 16 ∨ i = 17 := by omega
  rcases this with rfl | rfl | rfl | rfl | rfl | rfl | rfl | rfl | rfl | rfl | rfl | rfl | rfl | rfl | rfl | rfl | rfl | rfl <;> (simp [nums] at h; subst h; rfl)
theorem IAt.of_row {W : World} {g : Nat} {t : TypeId} (r : Row W g t 18 (fun i => numA.getD i undef)) : IAt W (.slice (some ⟨g, 0, none⟩) 18 18) nums :=
  .inr ⟨g, 0, 18, rfl, r.lt, fun i x h => by
    have hi : i < 18 := by have := (List.getElem?_eq_some_iff.1 h).1; simpa [nums] using this
    rw [Nat.zero_add, r.cell hi, nums_cells i x h]⟩
theorem names_world (w : World) : IAt (nW w) (.slice (some ⟨w.heap.size, 0, none⟩) 18 18) nums ∧ IAt (nW w) (.slice (some ⟨w.heap.size + 1, 0, none⟩) 18 18) nums ∧
    Row (nW w) (w.heap.size + 1 + 1) 27 9 (fun i => .iface 23 (.int .i64 ((i + 1 : Nat) : Int))) ∧ Upd Non w (nW w) := by
  have r1 := ((Row.new w 3 numA).alloc (.cells numA 3)).alloc (.cells errA 27)
  have r2 := (Row.new (w.alloc (.cells numA 3)) 3 numA).alloc (.cells errA 27)
  have r3 := Row.new ((w.alloc (.cells numA 3)).alloc (.cells numA 3)) 27 errA
  rw [World.size_alloc] at r2
  rw [World.size_alloc, World.size_alloc] at r3
  refine ⟨IAt.of_row r1, IAt.of_row r2, r3.congr fun i hi => ?_, (((Upd.refl _ _).alloc _).alloc _).alloc _⟩
  have hi : i < 9 := hi
  have : i = 0 ∨ i = 1 ∨ i = 2 ∨ i = 3 ∨ i = 4 ∨ i = 5 ∨ i = 6 ∨ i = 7 ∨ i = 8 := by omega
  rcases this with rfl | rfl | rfl | rfl | rfl | rfl | rfl | rfl | rfl <;> rfl

set_option maxRecDepth 100000 in
set_option maxHeartbeats 2000000 in
theorem names_law (w : World) : Calls Tryd.prog 3 #[] w fun e w' => e = .returned (.bool true) ∧ Upd Non w w' := by
  have hW := Lib.hid (names_world w)
  go_enter Tryd.func3, Tryd.ntmps3
  go_wp2
  go_loopw [4] (fun i wr => ∃ k : Nat, k ≤ 9 ∧ i = .int .i64 k ∧ Hid (Upd Non (nW w) wr)) (fun i _ => 9 - (intOf i).toNat)
  case atStart => exact ⟨0, Nat.zero_le _, rfl, Upd.refl _ _⟩
  case round =>
    obtain ⟨k, hk, rfl, hU⟩ := hrel
    obtain ⟨i1, i2, r3, u0⟩ := hW.out
    by_cases hlt : k < 9
    · have c3 := (r3.upd_ hU.out (fun h => h)).cell (i := k) hlt
      have l3 := (r3.upd_ hU.out (fun h => h)).lt
      go_wp2_with (go_at_call 4; refine (same_one _ (k + 1) (by omega)).mono ?_; rintro e w2 ⟨rfl, rfl⟩)
      go_roundw
      case rel => exact ⟨k + 1, by omega, by go_num, hU.out⟩
      case measure => simp [intOf]; omega
    · go_wp2_with (first
        | (go_at_call 5; refine (sameNumbers_law _ _ _ nums (i1.upd_ hU.out (fun _ _ => (fun h => h))) (i2.upd_ hU.out (fun _ _ => (fun h => h))) (by decide)).mono ?_; rintro e w2 ⟨rfl, u2⟩)
        | (go_at_call 6; refine (error_nine _).mono ?_; unfold told; rintro e w3 ⟨rfl, rfl⟩)
        | fail)
      go_ret
      exact ⟨rfl, (u0.trans hU.out).trans u2⟩

end U
end Go.Proofs.YtnhplapcdgnaaaaDoor
