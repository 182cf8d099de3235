import Derived.Test.YtnhplapcdgnaaaaPoolB
import Derived.Lib.Hide
set_option linter.unusedVariables false
set_option linter.unusedSimpArgs false
namespace Go.Proofs.Ytnhplapcdgnaaaa
open Go.RowKit
namespace U

def PoolM.of (P : PoolM) (f : Int) : Int × Int × Nat := if f < 0 ∨ (P.n : Int) ≤ f then (0, 0, 1) else (min (P.refs f.toNat) 2, P.refs f.toNat, 0)
def frameV (x : Int × Int × Nat) : Value := .agg #[.int .i64 x.1, .int .i64 x.2.1]

set_option maxHeartbeats 400000 in
theorem of_any (w : World) (L : PoolAt) (P : PoolM) (r : PoolRep w L P) (f : Int) :
    Calls Try.prog 46 #[.pointer (some ⟨L.p, 0, none⟩), .int .i64 f] w fun e w' => e = .returned (.tuple #[frameV (P.of f), errv (P.of f).2.2]) ∧ Upd Non w w' := by
  have c0 := (r.alloc (.cells #[.int .i64 0, .int .i64 0] 81)).c0
  have c1 := (r.alloc (.cells #[.int .i64 0, .int .i64 0] 81)).c1
  have n64 := r.n64
  by_cases h0 : f < 0
  · have fin : P.of f = (0, 0, 1) := by simp [PoolM.of, h0]
    have F := Lib.hid fin
    clear fin
    go_enter Try.func46, Try.ntmps46
    go_wp2
    exact bodyPost_ret (v := .tuple #[.agg #[.int .i64 0, .int .i64 0], .iface 130 (.int .i64 1)]) (by simp [results, Try.results46, go_sem]) rfl ⟨by rw [F.out]; rfl, (Upd.refl _ _).alloc _⟩
  · obtain ⟨k, rfl⟩ := Int.eq_ofNat_of_zero_le (by omega : 0 ≤ f)
    by_cases h1 : k < P.n
    · have c2 := (r.alloc (.cells #[.int .i64 0, .int .i64 0] 81)).ref h1
      have fin : P.of k = (min (P.refs k) 2, P.refs k, 0) := by unfold PoolM.of; rw [if_neg (by omega)]; simp
      have F := Lib.hid fin
      clear fin
      by_cases hm : P.refs k ≤ 2
      · have M := Lib.hid (show min (P.refs k) 2 = P.refs k by omega)
        go_enter Try.func46, Try.ntmps46
        go_wp2
        go_region
        all_goals go_wp2
        all_goals exact bodyPost_ret (v := .tuple #[.agg #[.int .i64 (P.refs k), .int .i64 (P.refs k)], .nilIface]) (by simp [results, Try.results46, go_sem]) rfl ⟨by rw [F.out, M.out]; rfl, ((Upd.refl _ _).alloc _).drew⟩
      · have M := Lib.hid (show min (P.refs k) 2 = 2 by omega)
        go_enter Try.func46, Try.ntmps46
        go_wp2
        go_region
        all_goals go_wp2
        all_goals exact bodyPost_ret (v := .tuple #[.agg #[.int .i64 2, .int .i64 (P.refs k)], .nilIface]) (by simp [results, Try.results46, go_sem]) rfl ⟨by rw [F.out, M.out]; rfl, ((Upd.refl _ _).alloc _).drew⟩
    · have fin : P.of k = (0, 0, 1) := by unfold PoolM.of; rw [if_pos (by omega)]
      have F := Lib.hid fin
      clear fin
      go_enter Try.func46, Try.ntmps46
      go_wp2
      exact bodyPost_ret (v := .tuple #[.agg #[.int .i64 0, .int .i64 0], .iface 130 (.int .i64 1)]) (by simp [results, Try.results46, go_sem]) rfl ⟨by rw [F.out]; rfl, (Upd.refl _ _).alloc _⟩

/-- The lowest free frame. -/
def PoolM.free (P : PoolM) : Option Nat := (List.range P.n).find? fun i => P.refs i == 0
def PoolM.take (P : PoolM) : PoolM × Nat × Nat :=
  match P.free with
  | some f => ((P.setRef f 1).setRow f fun _ => 0, f, 0)
  | none => (P, 0, 3)
theorem PoolM.free_some {P : PoolM} {k : Nat} (hk : k < P.n) (hz : P.refs k = 0) (hb : ∀ j, j < k → P.refs j ≠ 0) : P.free = some k := by
  unfold PoolM.free
  rw [List.find?_range_eq_some]
  exact ⟨by simpa using hz, by simpa using hk, fun j hj => by simpa using hb j hj⟩
theorem PoolM.free_none {P : PoolM} (hb : ∀ j, j < P.n → P.refs j ≠ 0) : P.free = none := by
  unfold PoolM.free
  simp only [List.find?_eq_none, List.mem_range]
  intro j hj
  simpa using hb j hj

theorem info8 : (Try.prog.info? 5).map (fun i => (i.zero, i.size, i.bytes)) = some (some (.int .u8 0), 1, 1) := by kernel_rfl
theorem zero8 (w : World) : (zeroValue 5).run Try.prog w = .ok (.int .u8 0) w := by kernel_rfl
theorem rowL_zero : List.replicate 16 (Value.int .u8 0) = rowL fun _ => 0 := rfl
theorem PoolRep.clear16 {w : World} {L : PoolAt} {P : PoolM} (r : PoolRep w L P) {i : Nat} (hi : i < P.n) (ty : TypeId) (c : Nat) :
    (Builtin.clear_ #[136] ty #[.slice (some ⟨L.bb, i * 16, none⟩) 16 c]).run Try.prog w = .ok (.tuple #[]) (w.setCells L.bb (i * 16) (rowL fun _ => 0)) := by
  obtain ⟨N, cc, hB, hN, hc⟩ := r.bytes
  rw [Lib.run_clear_slice w 136 5 ty (.int .u8 0) Try.underlying136 zero8 rfl rfl L.bb (i * 16) 16 c (by omega)
    (fun j hj => by rw [hB.cell (by omega)]; rfl) (fun j hj => hB.frozen _), rowL_zero]
theorem wpl_clear {P : Program} {ops : Array Oper} {rest : List Oper} {o : Oper} {a : Act} {w w' : World} {Q : Exit → Act → World → Prop} (hg : o.guard = none) (t : TypeId) (x : Operand)
    (ho : o.op = .call { callee := .builtin .clear, args := #[x], argTypes := #[t] }) (v r : Value) (hx : a.eval x = v) (hl : (Builtin.clear_ #[t] o.type #[v]).run P w = .ok r w')
    (h : wpList P ops Q rest (a.put o.dst r) w') : wpList P ops Q (o :: rest) a w := by
  refine wpList_plain hg fun K hK => ?_
  unfold Oper.wp
  simp [execOp, ho, resolve, invoke, builtin, hx, hl, Result.andThen]
  exact hK _ _ h

set_option maxRecDepth 100000 in
set_option maxHeartbeats 400000 in
theorem take_any (w : World) (L : PoolAt) (P : PoolM) (r : PoolRep w L P) :
    Calls Try.prog 30 #[.pointer (some ⟨L.p, 0, none⟩)] w fun e w' => e = .returned (.tuple #[.int .i64 P.take.2.1, errv P.take.2.2]) ∧ PoolRep w' L P.take.1 ∧ Upd L.own w w' := by
  have c0 := r.c0
  have c1 := r.c1
  have n64 := r.n64
  go_enter Try.func30, Try.ntmps30
  go_wp2
  go_loop [11] (fun i => ∃ k : Nat, k ≤ P.n ∧ i = .int .i64 k ∧ Hid (∀ j, j < k → P.refs j ≠ 0)) (fun i => P.n - (intOf i).toNat)
  case atStart => exact ⟨0, Nat.zero_le _, rfl, fun j hj => by omega⟩
  case round =>
    obtain ⟨k, hk, rfl, hb⟩ := hrel
    by_cases hlt : k < P.n
    · have c2 := r.ref hlt
      have f2 := r.frb k
      by_cases hz : P.refs k = 0
      · have fin : P.take = ((P.setRef k 1).setRow k fun _ => 0, k, 0) := by unfold PoolM.take; rw [PoolM.free_some hlt hz hb.out]
        have F := Lib.hid fin
        clear fin
        have hz' : (P.refs k == 0) = true := by simpa using hz
        have r1 := r.setRef (v := 1) hlt
        have c0' : (w.setCell ⟨L.rb, k, none⟩ (.int .i64 1)).cell? ⟨L.p, 0, none⟩ = some (.slice (some ⟨L.bb, 0, none⟩) P.n L.cb) := r1.c0
        have cl := r1.clear16 hlt
        clear hz
        go_wp2_with (refine wpl_clear rfl _ _ rfl _ _ rfl (cl _ _) ?_)
        go_ret2
        rw [F.out]
        exact ⟨rfl, r1.setRow hlt (rowL_length _) (fun j hj => rowL_get _ hj), ((Upd.refl _ _).setCell (p := ⟨L.rb, k, none⟩) (fun _ => .inr rfl) _).setCells (fun _ => .inl rfl) _ _ _⟩
      · have hz' : (P.refs k == 0) = false := by simpa using hz
        have hb' : Hid (∀ j, j < k + 1 → P.refs j ≠ 0) := fun j hj => by
          rcases Nat.lt_succ_iff_lt_or_eq.1 hj with h | rfl
          · exact hb.out j h
          · exact hz
        clear hz
        go_wp2
        go_round
        case rel => exact ⟨k + 1, by omega, by go_num, hb'⟩
        case measure => simp [intOf]; omega
    · go_wp2
      go_ret2
      obtain rfl : k = P.n := by omega
      have fin : P.take = (P, 0, 3) := by unfold PoolM.take; rw [PoolM.free_none hb.out]
      rw [fin]
      exact ⟨rfl, r, Upd.refl _ _⟩

end U
end Go.Proofs.Ytnhplapcdgnaaaa
