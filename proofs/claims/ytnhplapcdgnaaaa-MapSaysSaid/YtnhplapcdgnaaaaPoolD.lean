import Derived.Test.YtnhplapcdgnaaaaPoolC
set_option linter.unusedVariables false
set_option linter.unusedSimpArgs false
namespace Go.Proofs.Ytnhplapcdgnaaaa
open Go.RowKit
namespace U

theorem part8 (R : Nat → UInt8) {k : Nat} (hk : k < 16) (w : World) : (Instr.index 59 (.agg (rowL R).toArray) (.int .i64 k)).run Try.prog w = .ok (.int .u8 (R k).toNat) w := by
  have hg : (rowL R)[k]? = some (.int .u8 (R k).toNat) := rowL_get R hk
  have hp : (part 5 (rowL R).toArray (k * 1)).run Try.prog w = .ok (.int .u8 (R k).toNat) w := by
    simp [part, isAgg, run_underlying Try.underlying5, hg]
  have hs : (sizeOf 5).run Try.prog w = .ok 1 w := by kernel_rfl
  rw [Nat.mul_one] at hp
  simp [Instr.index, run_underlying Try.underlying59, asIntOf, hs, hp, hk]

def sumTo (R : Nat → UInt8) : Nat → Int
  | 0 => 2166136261
  | k + 1 => bits BinOp.xor IntKind.u32 (sumTo R k) (((R k).toNat : Int) % 4294967296) * 16777619 % 4294967296
def PoolM.sum (P : PoolM) (f : Int) : Int × Nat := if P.used f then (sumTo (P.b f.toNat) 16, 0) else (0, 2)

set_option maxRecDepth 100000 in
set_option maxHeartbeats 400000 in
theorem sum_any (w : World) (L : PoolAt) (P : PoolM) (r : PoolRep w L P) (f : Int) :
    Calls Try.prog 83 #[.pointer (some ⟨L.p, 0, none⟩), .int .i64 f] w fun e w' => e = .returned (.tuple #[.int .u32 (P.sum f).1, errv (P.sum f).2]) ∧ w = w' := by
  have c0 := r.c0
  have c1 := r.c1
  have n64 := r.n64
  by_cases hu : P.used f = true
  · obtain ⟨k, rfl⟩ := Int.eq_ofNat_of_zero_le (by simp [PoolM.used] at hu; omega : 0 ≤ f)
    have hk : k < P.n := by simp [PoolM.used] at hu; omega
    have ld := r.load16 hk
    have F := Lib.hid (show P.sum k = (sumTo (P.b k) 16, 0) by simp [PoolM.sum, hu])
    go_enter Try.func83, Try.ntmps83
    go_wp2_with (first | (go_at_call 79; refine (used_any _ _ _ r _).mono ?_; rintro e w' ⟨rfl, rfl⟩) | (refine wpl_load rfl 59 _ rfl _ _ rfl ld ?_))
    go_loop [6, 21] (fun t i => ∃ (k' : Nat), k' ≤ 16 ∧ i = .int .i64 k' ∧ t = .int .u32 (sumTo (P.b k) k')) (fun _ i => 16 - (intOf i).toNat)
    case atStart => exact ⟨0, Nat.zero_le _, rfl, rfl⟩
    case round =>
      obtain ⟨j, hj, rfl, rfl⟩ := hrel
      by_cases hlt : j < 16
      · have ix := part8 (P.b k) hlt
        go_wp2
        go_round
        case rel => exact ⟨j + 1, by omega, by go_num, rfl⟩
        case measure => simp [intOf]; omega
      · go_wp2
        go_ret2
        obtain rfl : j = 16 := by omega
        exact ⟨by rw [F.out]; rfl, rfl⟩
  · have hu' : P.used f = false := by simpa using hu
    go_enter Try.func83, Try.ntmps83
    go_wp2_with (go_at_call 79; refine (used_any _ _ _ r _).mono ?_; rintro e w' ⟨rfl, rfl⟩)
    go_ret2
    exact ⟨by simp [PoolM.sum, hu', errv], rfl⟩

end U
end Go.Proofs.Ytnhplapcdgnaaaa
