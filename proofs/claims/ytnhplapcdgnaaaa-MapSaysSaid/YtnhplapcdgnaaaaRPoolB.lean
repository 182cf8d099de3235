import Derived.Test.YtnhplapcdgnaaaaRPool
set_option linter.unusedVariables false
set_option linter.unusedSimpArgs false
namespace Go.Proofs.Ytnhplapcdgnaaaa
open Go.RowKit
namespace U

set_option maxHeartbeats 400000 in
theorem rof_any (w : World) (m : Nat) (P : PoolM) (r : RPoolRep w m P) (f : Int) (hpos : 0 ≤ P.refs f.toNat) :
    Calls Try.prog 82 #[.pointer (some ⟨m, 0, none⟩), .int .i64 f] w fun e w' => e = .returned (.tuple #[frameV (P.of f), .int .i64 (P.of f).2.2]) ∧ Upd Non w w' := by
  have c0 := (r.alloc (.cells #[.int .i64 0, .int .i64 0] 81)).c0
  have n64 := r.n64
  by_cases h0 : f < 0
  · have F := Lib.hid (show P.of f = (0, 0, 1) by simp [PoolM.of, h0])
    go_enter Try.func82, Try.ntmps82
    go_wp2
    exact bodyPost_ret (v := .tuple #[.agg #[.int .i64 0, .int .i64 0], .int .i64 1]) (by simp [results, Try.results82, go_sem]) rfl ⟨by rw [F.out]; rfl, (Upd.refl _ _).alloc _⟩
  · obtain ⟨k, rfl⟩ := Int.eq_ofNat_of_zero_le (by omega : 0 ≤ f)
    simp only [Int.ofNat_eq_natCast, Int.toNat_natCast] at hpos
    by_cases h1 : k < P.n
    · have c2 := (r.alloc (.cells #[.int .i64 0, .int .i64 0] 81)).ref h1
      have F := Lib.hid (show P.of k = (min (P.refs k) 2, P.refs k, 0) by unfold PoolM.of; rw [if_neg (by omega)]; simp)
      by_cases hm : P.refs k ≤ 1
      · by_cases hz : P.refs k = 1
        · have hz' : (P.refs k == 1) = true := by simpa using hz
          have M := Lib.hid (show min (P.refs k) 2 = 1 by omega)
          clear hz
          go_enter Try.func82, Try.ntmps82
          go_wp2
          all_goals exact bodyPost_ret (v := .tuple #[.agg #[.int .i64 1, .int .i64 (P.refs k)], .int .i64 0]) (by simp [results, Try.results82, go_sem]) rfl ⟨by rw [F.out, M.out]; rfl, ((Upd.refl _ _).alloc _)⟩
        · have hz' : (P.refs k == 1) = false := by simpa using hz
          have M := Lib.hid (show min (P.refs k) 2 = 0 by omega)
          clear hz
          go_enter Try.func82, Try.ntmps82
          go_wp2
          all_goals exact bodyPost_ret (v := .tuple #[.agg #[.int .i64 0, .int .i64 (P.refs k)], .int .i64 0]) (by simp [results, Try.results82, go_sem]) rfl ⟨by rw [F.out, M.out]; rfl, ((Upd.refl _ _).alloc _)⟩
      · have M := Lib.hid (show min (P.refs k) 2 = 2 by omega)
        have hz' : (P.refs k == 1) = false := by rw [beq_eq_false_iff_ne]; omega
        go_enter Try.func82, Try.ntmps82
        go_wp2
        all_goals exact bodyPost_ret (v := .tuple #[.agg #[.int .i64 2, .int .i64 (P.refs k)], .int .i64 0]) (by simp [results, Try.results82, go_sem]) rfl ⟨by rw [F.out, M.out]; rfl, ((Upd.refl _ _).alloc _)⟩
    · have F := Lib.hid (show P.of k = (0, 0, 1) by unfold PoolM.of; rw [if_pos (by omega)])
      go_enter Try.func82, Try.ntmps82
      go_wp2
      exact bodyPost_ret (v := .tuple #[.agg #[.int .i64 0, .int .i64 0], .int .i64 1]) (by simp [results, Try.results82, go_sem]) rfl ⟨by rw [F.out]; rfl, (Upd.refl _ _).alloc _⟩

set_option maxHeartbeats 400000 in
theorem rleft_any (w : World) (m : Nat) (P : PoolM) (r : RPoolRep w m P) :
    Calls Try.prog 81 #[.pointer (some ⟨m, 0, none⟩)] w fun e w' => e = .returned (.int .i64 P.left) ∧ w = w' := by
  have c0 := r.c0
  have n64 := r.n64
  go_enter Try.func81, Try.ntmps81
  go_wp2
  go_loop [3, 4] (fun t i => ∃ k : Nat, k ≤ P.n ∧ i = .int .i64 k ∧ t = .int .i64 (P.leftTo k)) (fun _ i => P.n - (intOf i).toNat)
  case atStart => exact ⟨0, Nat.zero_le _, rfl, rfl⟩
  case round =>
    obtain ⟨k, hk, rfl, rfl⟩ := hrel
    have hl := P.leftTo_le k
    by_cases hlt : k < P.n
    · have c2 := r.ref hlt
      by_cases hz : P.refs k = 0
      · have hs : Hid (P.leftTo (k + 1) = P.leftTo k + 1) := by have := P.leftTo_succ k; rw [hz] at this; exact this
        have hz' : (P.refs k == 0) = true := by simpa using hz
        clear hz
        go_wp2
        go_round
        case rel => exact ⟨k + 1, by omega, by go_num, by rw [hs.out]; go_num⟩
        case measure => simp [intOf]; omega
      · have hz' : (P.refs k == 0) = false := by simpa using hz
        have hs : Hid (P.leftTo (k + 1) = P.leftTo k) := by have := P.leftTo_succ k; rw [hz'] at this; exact this
        clear hz
        go_wp2
        go_round
        case rel => exact ⟨k + 1, by omega, by go_num, by rw [hs.out]⟩
        case measure => simp [intOf]; omega
    · go_wp2
      go_ret
      obtain rfl : k = P.n := by omega
      exact ⟨rfl, rfl⟩

theorem buildArr (w : World) : (Instr.build 59 #[]).run Try.prog w = .ok (.agg (rowL fun _ => 0).toArray) w := by kernel_rfl

theorem wpl_build {P : Program} {ops : Array Oper} {rest : List Oper} {o : Oper} {a : Act} {w : World} {Q : Exit → Act → World → Prop} (hg : o.guard = none) (ty : TypeId)
    (ho : o.op = .build ty #[]) (v : Value) (hl : (Instr.build ty #[]).run P w = .ok v w) (h : wpList P ops Q rest (a.put o.dst v) w) : wpList P ops Q (o :: rest) a w := by
  refine wpList_plain hg fun K hK => ?_
  unfold Oper.wp execOp
  simp only [ho, List.map_toArray, List.map_nil, Array.map_empty, Sem.run_bind, hl, Result.andThen_ok, Sem.run_pure, Oper.upon_value]
  exact hK _ _ h

set_option maxRecDepth 100000 in
set_option maxHeartbeats 400000 in
theorem rtake_any (w : World) (m : Nat) (P : PoolM) (r : RPoolRep w m P) :
    Calls Try.prog 31 #[.pointer (some ⟨m, 0, none⟩)] w fun e w' => e = .returned (.tuple #[.int .i64 P.take.2.1, .int .i64 P.take.2.2]) ∧ RPoolRep w' m P.take.1 ∧ Upd (at1 m) w w' := by
  have c0 := r.c0
  have n64 := r.n64
  go_enter Try.func31, Try.ntmps31
  go_wp2
  go_loop [4] (fun i => ∃ k : Nat, k ≤ P.n ∧ i = .int .i64 k ∧ Hid (∀ j, j < k → P.refs j ≠ 0)) (fun i => P.n - (intOf i).toNat)
  case atStart => exact ⟨0, Nat.zero_le _, rfl, fun j hj => by omega⟩
  case round =>
    obtain ⟨k, hk, rfl, hb⟩ := hrel
    by_cases hlt : k < P.n
    · have c2 := r.ref hlt
      have f2 := r.fr (1025 + k)
      by_cases hz : P.refs k = 0
      · have F := Lib.hid (show P.take = ((P.setRef k 1).setRow k fun _ => 0, k, 0) by unfold PoolM.take; rw [PoolM.free_some hlt hz hb.out])
        have hz' : (P.refs k == 0) = true := by simpa using hz
        have r1 := r.setRef (v := 1) hlt
        have st := r1.store16 hlt fun _ => 0
        clear hz
        go_wp2_with (first | (refine wpl_build rfl 59 rfl _ (buildArr _) ?_) | (refine wpl_store rfl 59 _ _ rfl _ _ rfl rfl st ?_))
        go_ret2
        rw [F.out]
        exact ⟨rfl, r1.setRow hlt (rowL_length _) (fun j hj => rowL_get _ hj), ((Upd.refl _ _).setCell (p := ⟨m, 1025 + k, none⟩) (S := at1 m) (fun _ => at1_self) _).setCells (S := at1 m) (fun _ => at1_self) _ _ _⟩
      · have hz' : (P.refs k == 0) = false := by simpa using hz
        have hb' : Hid (∀ j, j < k + 1 → P.refs j ≠ 0) := fun j hj => by
          rcases Nat.lt_succ_iff_lt_or_eq.1 hj with h | rfl
          · exact hb.out j h
          · exact hz
        clear hz
        go_wp2
        go_round
        case rel => exact ⟨k + 1, by omega, by go_num, hb'⟩
        case measure => simp [intOf]; omega
    · go_wp2
      go_ret2
      obtain rfl : k = P.n := by omega
      have fin : P.take = (P, 0, 3) := by unfold PoolM.take; rw [PoolM.free_none hb.out]
      rw [fin]
      exact ⟨rfl, r, Upd.refl _ _⟩

theorem rowB_ne {R S : Nat → UInt8} {j : Nat} (hj : j < 16) (h : R j ≠ S j) : (rowB R == rowB S) = false := by
  rw [beq_eq_false_iff_ne]
  intro e
  have h1 : (rowB R)[j]? = (rowB S)[j]? := by rw [e]
  simp [rowB, hj] at h1
  exact h h1
theorem rowB_eq {R S : Nat → UInt8} (h : ∀ j, j < 16 → R j = S j) : (rowB R == rowB S) = true := by
  rw [beq_iff_eq]
  exact List.map_congr_left fun j hj => h j (by simpa using hj)

set_option maxRecDepth 100000 in
set_option maxHeartbeats 400000 in
theorem rsame_any (w : World) (m : Nat) (P : PoolM) (r : RPoolRep w m P) (f g : Int) :
    Calls Try.prog 42 #[.pointer (some ⟨m, 0, none⟩), .int .i64 f, .int .i64 g] w fun e w' =>
      e = .returned (.bool (P.same f g)) ∧ ∃ n, w' = w.drewN n := by
  have n64 := r.n64
  by_cases hu : P.used f = true
  · by_cases hv : P.used g = true
    · obtain ⟨k, rfl⟩ := Int.eq_ofNat_of_zero_le (by simp [PoolM.used] at hu; omega : 0 ≤ f)
      obtain ⟨j, rfl⟩ := Int.eq_ofNat_of_zero_le (by simp [PoolM.used] at hv; omega : 0 ≤ g)
      have hk : k < P.n := by simp [PoolM.used] at hu; omega
      have hj : j < P.n := by simp [PoolM.used] at hv; omega
      have bj : (j : Int) < 64 := by omega
      have bk : (k : Int) < 64 := by omega
      have F := Lib.hid (show P.same k j = (rowB (P.b k) == rowB (P.b j)) by simp [PoolM.same, hu, hv])
      go_enter Try.func42, Try.ntmps42
      go_wp2_with (go_at_call 80; refine (rused_any _ _ _ r _).mono ?_; rintro e w' ⟨rfl, rfl⟩)
      go_loopw [9] (fun i wr => ∃ q : Nat, q ≤ 16 ∧ i = .int .i64 q ∧ Hid (∀ x, x < q → P.b k x = P.b j x) ∧ Hid (∃ n, wr = w.drewN n)) (fun i _ => 16 - (intOf i).toNat)
      case atStart => exact ⟨0, Nat.zero_le _, rfl, fun x hx => by omega, 0, rfl⟩
      case round =>
        obtain ⟨q, hq, rfl, hb, n, rfl⟩ := hrel
        by_cases hlt : q < 16
        · have c1 := r.byte hk hlt
          have c2 := r.byte hj hlt
          have bq : (q : Int) < 16 := by omega
          by_cases he : P.b k q = P.b j q
          · have he' : (((P.b k q).toNat : Int) != ((P.b j q).toNat : Int)) = false := by rw [he]; simp
            have he2 : (((P.b k q).toNat : Int) == ((P.b j q).toNat : Int)) = true := by rw [he]; simp
            have hb' : Hid (∀ x, x < q + 1 → P.b k x = P.b j x) := fun x hx => by
              rcases Nat.lt_succ_iff_lt_or_eq.1 hx with h | rfl
              · exact hb.out x h
              · exact he
            clear he
            go_wp2
            go_quiet (fail)
            go_wp2
            go_roundw
            case rel => exact ⟨q + 1, by omega, by go_num, hb', n + nq, rfl⟩
            case measure => simp [intOf]; omega
          · have hne : ¬ ((P.b k q).toNat : Int) = ((P.b j q).toNat : Int) := fun e => he (UInt8.toNat_inj.1 (by omega))
            have he' : (((P.b k q).toNat : Int) != ((P.b j q).toNat : Int)) = true := by rw [bne_iff_ne]; exact hne
            have he2 : (((P.b k q).toNat : Int) == ((P.b j q).toNat : Int)) = false := by rw [beq_eq_false_iff_ne]; exact hne
            clear hne
            have G := Lib.hid (rowB_ne hlt he)
            clear he
            go_wp2
            go_quiet (fail)
            go_wp2
            go_ret
            exact ⟨by rw [F.out, G.out]; rfl, n + nq, by simp [World.drewN_drewN]⟩
        · go_wp2
          go_ret
          obtain rfl : q = 16 := by omega
          exact ⟨by rw [F.out, rowB_eq hb.out]; rfl, n, rfl⟩
    · have hv' : P.used g = false := by simpa using hv
      have F := Lib.hid (show P.same f g = false by simp [PoolM.same, hv'])
      go_enter Try.func42, Try.ntmps42
      go_wp2_with (go_at_call 80; refine (rused_any _ _ _ r _).mono ?_; rintro e w' ⟨rfl, rfl⟩)
      go_ret
      exact ⟨by rw [F.out]; rfl, 0, rfl⟩
  · have hu' : P.used f = false := by simpa using hu
    have F := Lib.hid (show P.same f g = false by simp [PoolM.same, hu'])
    go_enter Try.func42, Try.ntmps42
    go_wp2_with (go_at_call 80; refine (rused_any _ _ _ r _).mono ?_; rintro e w' ⟨rfl, rfl⟩)
    go_ret
    exact ⟨by rw [F.out]; rfl, 0, rfl⟩

set_option maxRecDepth 100000 in
set_option maxHeartbeats 400000 in
theorem rsum_any (w : World) (m : Nat) (P : PoolM) (r : RPoolRep w m P) (f : Int) :
    Calls Try.prog 84 #[.pointer (some ⟨m, 0, none⟩), .int .i64 f] w fun e w' => e = .returned (.tuple #[.int .u32 (P.sum f).1, .int .i64 (P.sum f).2]) ∧ ∃ n, w' = w.drewN n := by
  have n64 := r.n64
  by_cases hu : P.used f = true
  · obtain ⟨k, rfl⟩ := Int.eq_ofNat_of_zero_le (by simp [PoolM.used] at hu; omega : 0 ≤ f)
    have hk : k < P.n := by simp [PoolM.used] at hu; omega
    have bk : (k : Int) < 64 := by omega
    have F := Lib.hid (show P.sum k = (sumTo (P.b k) 16, 0) by simp [PoolM.sum, hu])
    go_enter Try.func84, Try.ntmps84
    go_wp2_with (go_at_call 80; refine (rused_any _ _ _ r _).mono ?_; rintro e w' ⟨rfl, rfl⟩)
    go_loopw [7, 8] (fun t i wr => ∃ (k' : Nat), k' ≤ 16 ∧ i = .int .i64 k' ∧ t = .int .u32 (sumTo (P.b k) k') ∧ Hid (∃ n, wr = w.drewN n)) (fun _ i _ => 16 - (intOf i).toNat)
    case atStart => exact ⟨0, Nat.zero_le _, rfl, rfl, 0, rfl⟩
    case round =>
      obtain ⟨j, hj, rfl, rfl, n, rfl⟩ := hrel
      by_cases hlt : j < 16
      · have c1 := r.byte hk hlt
        have bj : (j : Int) < 16 := by omega
        go_wp2
        go_roundw
        case rel => exact ⟨j + 1, by omega, by go_num, rfl, n, rfl⟩
        case measure => simp [intOf]; omega
      · go_wp2
        go_ret2
        obtain rfl : j = 16 := by omega
        exact ⟨by rw [F.out]; rfl, n, rfl⟩
  · have hu' : P.used f = false := by simpa using hu
    have F := Lib.hid (show P.sum f = (0, 2) by simp [PoolM.sum, hu'])
    go_enter Try.func84, Try.ntmps84
    go_wp2_with (go_at_call 80; refine (rused_any _ _ _ r _).mono ?_; rintro e w' ⟨rfl, rfl⟩)
    go_ret2
    exact ⟨by rw [F.out]; rfl, 0, rfl⟩

end U
end Go.Proofs.Ytnhplapcdgnaaaa
