import Derived.Test.YtnhplapcdgnaaaaGreatDoorPoolX
set_option linter.unusedVariables false
set_option linter.unusedSimpArgs false
namespace Go.Proofs.YtnhplapcdgnaaaaGreatDoor
open Go.RowKit
namespace U

/-! The reference's pool: one block. -/
structure RPoolRep (w : World) (m : Nat) (P : PoolM) : Prop where
  row : ∃ c : Nat → Value, Row w m 45 1089 c ∧ c 0 = .int .i64 P.n ∧ (∀ i j, i < P.n → j < 16 → c (1 + i * 16 + j) = .int .u8 (P.b i j).toNat) ∧ ∀ i, i < P.n → c (1025 + i) = .int .i64 (P.refs i)
  n1 : 1 ≤ P.n
  n64 : P.n ≤ 64

section
variable {w w' : World} {m : Nat} {P : PoolM}
theorem RPoolRep.c0 (r : RPoolRep w m P) : w.cell? ⟨m, 0, none⟩ = some (.int .i64 P.n) := by
  obtain ⟨c, hR, h0, _, _⟩ := r.row
  rw [hR.cell (by omega), h0]
theorem RPoolRep.ref (r : RPoolRep w m P) {i : Nat} (hi : i < P.n) : w.cell? ⟨m, 1025 + i, none⟩ = some (.int .i64 (P.refs i)) := by
  obtain ⟨c, hR, _, _, h2⟩ := r.row
  have := r.n64
  rw [hR.cell (by omega), h2 i hi]
theorem RPoolRep.byte (r : RPoolRep w m P) {i j : Nat} (hi : i < P.n) (hj : j < 16) : w.cell? ⟨m, 1 + i * 16 + j, none⟩ = some (.int .u8 (P.b i j).toNat) := by
  obtain ⟨c, hR, _, h1, _⟩ := r.row
  have := r.n64
  rw [hR.cell (by omega), h1 i j hi hj]
theorem RPoolRep.fr (r : RPoolRep w m P) (i : Nat) : w.frozen? ⟨m, i, none⟩ = false := by
  obtain ⟨c, hR, _⟩ := r.row
  exact hR.frozen i
theorem RPoolRep.lt (r : RPoolRep w m P) : m < w.heap.size := by
  obtain ⟨c, hR, _⟩ := r.row
  exact hR.lt
theorem RPoolRep.drewN (r : RPoolRep w m P) (n : Nat) : RPoolRep (w.drewN n) m P := ⟨r.row, r.n1, r.n64⟩
theorem RPoolRep.drew (r : RPoolRep w m P) : RPoolRep w.drew m P := ⟨r.row, r.n1, r.n64⟩
theorem RPoolRep.alloc (r : RPoolRep w m P) (o : Obj) : RPoolRep (w.alloc o) m P := by
  obtain ⟨c, hR, h⟩ := r.row
  exact ⟨⟨c, hR.alloc o, h⟩, r.n1, r.n64⟩
theorem RPoolRep.upd_ {S : Nat → Prop} (r : RPoolRep w m P) (hu : Upd S w w') (h1 : ¬ S m) : RPoolRep w' m P := by
  obtain ⟨c, hR, h⟩ := r.row
  exact ⟨⟨c, hR.upd_ hu h1, h⟩, r.n1, r.n64⟩
theorem RPoolRep.setRef (r : RPoolRep w m P) {i : Nat} {v : Int} (hi : i < P.n) : RPoolRep (w.setCell ⟨m, 1025 + i, none⟩ (.int .i64 v)) m (P.setRef i v) := by
  obtain ⟨c, hR, h0, h1, h2⟩ := r.row
  have := r.n64
  refine ⟨⟨_, hR.set_ _, ?_, fun a j ha hj => ?_, fun j hj => ?_⟩, r.n1, r.n64⟩
  · unfold upd; rw [if_neg (by omega)]; exact h0
  · have ha' : a < P.n := ha
    unfold upd; rw [if_neg (by omega)]; exact h1 a j ha hj
  · unfold upd PoolM.setRef
    by_cases h : j = i
    · subst h; simp
    · rw [if_neg (by omega)]; simp [h, h2 j hj]
theorem RPoolRep.setByte (r : RPoolRep w m P) {i k : Nat} {v : UInt8} (hi : i < P.n) (hk : k < 16) : RPoolRep (w.setCell ⟨m, 1 + i * 16 + k, none⟩ (.int .u8 v.toNat)) m (P.setByte i k v) := by
  obtain ⟨c, hR, h0, h1, h2⟩ := r.row
  have := r.n64
  refine ⟨⟨_, hR.set_ _, ?_, fun a j ha hj => ?_, fun j hj => ?_⟩, r.n1, r.n64⟩
  · unfold upd; rw [if_neg (by omega)]; exact h0
  · unfold upd PoolM.setByte PoolM.setRow
    by_cases e : a = i
    · subst e
      by_cases e2 : j = k
      · subst e2; simp
      · rw [if_neg (by omega)]; simp [e2, h1 a j ha hj]
    · rw [if_neg (by omega)]; simp [e, h1 a j ha hj]
  · have hj' : j < P.n := hj
    unfold upd; rw [if_neg (by omega)]; exact h2 j hj
theorem RPoolRep.setRow (r : RPoolRep w m P) {i : Nat} {R : Nat → UInt8} {vs : List Value} (hi : i < P.n) (hl : vs.length = 16) (hv : ∀ j, j < 16 → vs[j]? = some (.int .u8 (R j).toNat)) :
    RPoolRep (w.setCells m (1 + i * 16) vs) m (P.setRow i R) := by
  obtain ⟨c, hR, h0, h1, h2⟩ := r.row
  have := r.n64
  refine ⟨⟨_, Row.setCells vs (1 + i * 16) _ _ hR, ?_, fun a j ha hj => ?_, fun j hj => ?_⟩, r.n1, r.n64⟩
  · unfold updL; rw [if_neg (by omega)]; exact h0
  · unfold updL PoolM.setRow
    by_cases e : a = i
    · subst e
      rw [if_pos (by omega), show 1 + a * 16 + j - (1 + a * 16) = j from by omega]
      simp [hv j hj]
    · rw [if_neg (by omega)]; simp [e, h1 a j ha hj]
  · have hj' : j < P.n := hj
    unfold updL; rw [if_neg (by omega)]; exact h2 j hj
theorem RPoolRep.load16 (r : RPoolRep w m P) {i : Nat} (hi : i < P.n) :
    (Instr.loadAt 41 (.pointer (some ⟨m, 1 + i * 16, none⟩))).run Tryz.prog w = .ok (.agg (rowL (P.b i)).toArray) w := by
  obtain ⟨c, hR, h0, h1, h2⟩ := r.row
  have := r.n64
  rw [load_row (P := Tryz.prog) hR 41 (1 + i * 16) 16 (.array 16 5) (by omega) Tryz.underlying41 rfl (by kernel_rfl)]
  have e : seg c (1 + i * 16) 16 = rowL (P.b i) := by
    unfold seg rowL rowB
    rw [List.map_map]
    exact List.map_congr_left fun j hj => h1 i j hi (by simpa using hj)
  rw [e]
theorem RPoolRep.store16 (r : RPoolRep w m P) {i : Nat} (hi : i < P.n) (R : Nat → UInt8) :
    (Instr.storeAt 41 (.pointer (some ⟨m, 1 + i * 16, none⟩)) (.agg (rowL R).toArray)).run Tryz.prog w = .ok () (w.setCells m (1 + i * 16) (rowL R)) := by
  obtain ⟨c, hR, h0, h1, h2⟩ := r.row
  have := r.n64
  refine store_row (P := Tryz.prog) hR 41 (1 + i * 16) (rowL R) (by rw [rowL_length]; omega) (by rw [rowL_length]; kernel_rfl) ?_
  intro v hv
  simp only [rowL, rowB, List.map_map, List.mem_map] at hv
  obtain ⟨_, _, rfl⟩ := hv
  rfl
end


set_option maxHeartbeats 400000 in
theorem rused_any (w : World) (m : Nat) (P : PoolM) (r : RPoolRep w m P) (f : Int) :
    Calls Tryz.prog 75 #[.pointer (some ⟨m, 0, none⟩), .int .i64 f] w fun e w' => e = .returned (.bool (P.used f)) ∧ w = w' := by
  have c0 := r.c0
  have n64 := r.n64
  by_cases h0 : 0 ≤ f
  · obtain ⟨k, rfl⟩ := Int.eq_ofNat_of_zero_le h0
    by_cases h1 : k < P.n
    · have c2 := r.ref h1
      go_enter Tryz.func75, Tryz.ntmps75
      go_wp2
      go_ret
      exact ⟨by simp [PoolM.used, h1], rfl⟩
    · go_enter Tryz.func75, Tryz.ntmps75
      go_wp2
      go_ret
      exact ⟨by simp [PoolM.used]; omega, rfl⟩
  · go_enter Tryz.func75, Tryz.ntmps75
    go_wp2
    go_ret
    exact ⟨by simp [PoolM.used]; omega, rfl⟩

set_option maxHeartbeats 400000 in
theorem rget_any (w : World) (m : Nat) (P : PoolM) (r : RPoolRep w m P) (f at_ : Int) :
    Calls Tryz.prog 111 #[.pointer (some ⟨m, 0, none⟩), .int .i64 f, .int .i64 at_] w fun e w' =>
      e = .returned (.tuple #[.int .u8 (P.get f at_).1.toNat, .int .i64 (P.get f at_).2]) ∧ w = w' := by
  have c0 := r.c0
  have n64 := r.n64
  by_cases h0 : at_ < 0 
  · go_enter Tryz.func111, Tryz.ntmps111
    go_wp2
    go_ret2
    exact ⟨by simp [PoolM.get, h0], rfl⟩
  · by_cases h1 : 15 < at_
    · have h1' : 16 ≤ at_ := by omega
      go_enter Tryz.func111, Tryz.ntmps111
      go_wp2
      go_ret2
      exact ⟨by simp [PoolM.get, h1'], rfl⟩
    · have hg : ¬ (at_ < 0 ∨ 16 ≤ at_) := by omega
      by_cases hu : P.used f = true
      · obtain ⟨k, rfl⟩ := Int.eq_ofNat_of_zero_le (by simp [PoolM.used] at hu; omega : 0 ≤ f)
        obtain ⟨j, rfl⟩ := Int.eq_ofNat_of_zero_le (by omega : 0 ≤ at_)
        have hk : k < P.n := by simp [PoolM.used] at hu; omega
        have hj : j < 16 := by omega
        have c2 := r.byte hk hj
        have fin : P.get k j = (P.b k j, 0) := by simp only [PoolM.get, if_neg hg, hu, if_true]; simp
        clear hg
        go_enter Tryz.func111, Tryz.ntmps111
        go_wp2_with (go_at_call 75; refine (rused_any _ _ _ r _).mono ?_; rintro e w' ⟨rfl, rfl⟩)
        go_ret2
        exact ⟨by simp [fin], rfl⟩
      · have hu' : P.used f = false := by simpa using hu
        have fin : P.get f at_ = (0, 2) := by simp only [PoolM.get, if_neg hg, hu']; simp
        clear hg
        go_enter Tryz.func111, Tryz.ntmps111
        go_wp2_with (go_at_call 75; refine (rused_any _ _ _ r _).mono ?_; rintro e w' ⟨rfl, rfl⟩)
        go_ret2
        exact ⟨by simp [fin], rfl⟩

theorem PoolM.get_err (P : PoolM) (f at_ : Int) : (P.get f at_).2 = if at_ < 0 ∨ 16 ≤ at_ then 1 else if P.used f then 0 else 2 := by
  unfold PoolM.get; split <;> (try rfl); split <;> rfl

set_option maxHeartbeats 400000 in
theorem rset_any (w : World) (m : Nat) (P : PoolM) (r : RPoolRep w m P) (f at_ : Int) (v : UInt8) :
    Calls Tryz.prog 78 #[.pointer (some ⟨m, 0, none⟩), .int .i64 f, .int .i64 at_, .int .u8 v.toNat] w fun e w' =>
      e = .returned (.int .i64 (P.set f at_ v).2) ∧ RPoolRep w' m (P.set f at_ v).1 ∧ Upd (at1 m) w w' := by
  have c0 := r.c0
  have n64 := r.n64
  have ge := P.get_err f at_
  by_cases h0 : at_ < 0 ∨ 16 ≤ at_
  · have ge' : Hid ((P.get f at_).2 = 1) := by rw [ge, if_pos h0]; rfl
    have fin : P.set f at_ v = (P, 1) := by simp [PoolM.set, h0]
    have F := Lib.hid fin
    clear fin ge h0
    go_enter Tryz.func78, Tryz.ntmps78
    go_wp2_with (go_at_call 111; refine (rget_any _ _ _ r _ _).mono ?_; rw [ge'.out]; rintro e w' ⟨rfl, rfl⟩)
    go_ret
    exact ⟨by rw [F.out]; rfl, by rw [F.out]; exact r, Upd.refl _ _⟩
  · by_cases hu : P.used f = true
    · have ge' : Hid ((P.get f at_).2 = 0) := by rw [ge, if_neg h0, if_pos hu]; rfl
      clear ge
      obtain ⟨k, rfl⟩ := Int.eq_ofNat_of_zero_le (by simp [PoolM.used] at hu; omega : 0 ≤ f)
      obtain ⟨j, rfl⟩ := Int.eq_ofNat_of_zero_le (by omega : 0 ≤ at_)
      have hk : k < P.n := by simp [PoolM.used] at hu; omega
      have hj : j < 16 := by omega
      have c2 := r.byte hk hj
      have c3 := r.ref hk
      have f2 := r.fr (1 + k * 16 + j)
      have fin0 : P.set k j v = (if 1 < P.refs k then (P, 4) else (P.setByte k j v, 0)) := by simp only [PoolM.set, if_neg h0, hu, if_true]; simp
      clear h0
      by_cases hr : 1 < P.refs k
      · have fin : P.set k j v = (P, 4) := by rw [fin0, if_pos hr]
        have F := Lib.hid fin
        clear fin0 fin
        go_enter Tryz.func78, Tryz.ntmps78
        go_wp2_with (go_at_call 111; refine (rget_any _ _ _ r _ _).mono ?_; rw [ge'.out]; rintro e w' ⟨rfl, rfl⟩)
        go_ret
        exact ⟨by rw [F.out]; rfl, by rw [F.out]; exact r, Upd.refl _ _⟩
      · have fin : P.set k j v = (P.setByte k j v, 0) := by rw [fin0, if_neg hr]
        have F := Lib.hid fin
        clear fin0 fin
        go_enter Tryz.func78, Tryz.ntmps78
        go_wp2_with (go_at_call 111; refine (rget_any _ _ _ r _ _).mono ?_; rw [ge'.out]; rintro e w' ⟨rfl, rfl⟩)
        go_ret
        exact ⟨by rw [F.out]; rfl, by rw [F.out]; exact r.setByte hk hj, (Upd.refl _ _).setCell (p := ⟨m, _, none⟩) (S := at1 m) (fun _ => at1_self) _⟩
    · have hu' : P.used f = false := by simpa using hu
      have ge' : Hid ((P.get f at_).2 = 2) := by rw [ge, if_neg h0, hu']; rfl
      have fin : P.set f at_ v = (P, 2) := by simp only [PoolM.set, if_neg h0, hu']; simp
      have F := Lib.hid fin
      clear fin ge h0
      go_enter Tryz.func78, Tryz.ntmps78
      go_wp2_with (go_at_call 111; refine (rget_any _ _ _ r _ _).mono ?_; rw [ge'.out]; rintro e w' ⟨rfl, rfl⟩)
      go_ret
      exact ⟨by rw [F.out]; rfl, by rw [F.out]; exact r, Upd.refl _ _⟩

set_option maxRecDepth 100000 in
set_option maxHeartbeats 400000 in
theorem rshare_any (w : World) (m : Nat) (P : PoolM) (r : RPoolRep w m P) (f by_ : Int) :
    Calls Tryz.prog 76 #[.pointer (some ⟨m, 0, none⟩), .int .i64 f, .int .i64 by_] w fun e w' =>
      e = .returned (.int .i64 (P.share f by_).2) ∧ RPoolRep w' m (P.share f by_).1 ∧ Upd (at1 m) w w' := by
  have n64 := r.n64
  by_cases hu : P.used f = true
  · obtain ⟨k, rfl⟩ := Int.eq_ofNat_of_zero_le (by simp [PoolM.used] at hu; omega : 0 ≤ f)
    have hk : k < P.n := by simp [PoolM.used] at hu; omega
    have c3 := r.ref hk
    have f2 := r.fr (1025 + k)
    have F := Lib.hid (show P.share k by_ = (P.setRef k (wrap64 (P.refs k + by_)), 0) by simp only [PoolM.share, hu, if_true]; simp)
    go_enter Tryz.func76, Tryz.ntmps76
    go_wp2_with (go_at_call 75; refine (rused_any _ _ _ r _).mono ?_; rintro e w' ⟨rfl, rfl⟩)
    go_region
    all_goals go_wp2
    all_goals go_ret
    all_goals exact ⟨by rw [F.out]; rfl, by rw [F.out]; exact r.drew.setRef hk, ((Upd.refl _ _).drew).setCell (p := ⟨m, _, none⟩) (S := at1 m) (fun _ => at1_self) _⟩
  · have hu' : P.used f = false := by simpa using hu
    have F := Lib.hid (show P.share f by_ = (P, 2) by simp only [PoolM.share, hu']; simp)
    go_enter Tryz.func76, Tryz.ntmps76
    go_wp2_with (go_at_call 75; refine (rused_any _ _ _ r _).mono ?_; rintro e w' ⟨rfl, rfl⟩)
    go_ret
    exact ⟨by rw [F.out]; rfl, by rw [F.out]; exact r, Upd.refl _ _⟩

end U
end Go.Proofs.YtnhplapcdgnaaaaGreatDoor

set_option linter.unusedVariables false
set_option linter.unusedSimpArgs false
namespace Go.Proofs.YtnhplapcdgnaaaaGreatDoor
open Go.RowKit
namespace U

set_option maxHeartbeats 400000 in
theorem rof_any (w : World) (m : Nat) (P : PoolM) (r : RPoolRep w m P) (f : Int) (hpos : 0 ≤ P.refs f.toNat) :
    Calls Tryz.prog 25 #[.pointer (some ⟨m, 0, none⟩), .int .i64 f] w fun e w' => e = .returned (.tuple #[frameV (P.of f), .int .i64 (P.of f).2.2]) ∧ Upd Non w w' := by
  have c0 := (r.alloc (.cells #[.int .i64 0, .int .i64 0] 64)).c0
  have n64 := r.n64
  by_cases h0 : f < 0
  · have F := Lib.hid (show P.of f = (0, 0, 1) by simp [PoolM.of, h0])
    go_enter Tryz.func25, Tryz.ntmps25
    go_wp2
    exact bodyPost_ret (v := .tuple #[.agg #[.int .i64 0, .int .i64 0], .int .i64 1]) (by simp [results, Tryz.results25, go_sem]) rfl ⟨by rw [F.out]; rfl, (Upd.refl _ _).alloc _⟩
  · obtain ⟨k, rfl⟩ := Int.eq_ofNat_of_zero_le (by omega : 0 ≤ f)
    simp only [Int.ofNat_eq_natCast, Int.toNat_natCast] at hpos
    by_cases h1 : k < P.n
    · have c2 := (r.alloc (.cells #[.int .i64 0, .int .i64 0] 64)).ref h1
      have F := Lib.hid (show P.of k = (min (P.refs k) 2, P.refs k, 0) by unfold PoolM.of; rw [if_neg (by omega)]; simp)
      by_cases hm : P.refs k ≤ 1
      · by_cases hz : P.refs k = 1
        · have hz' : (P.refs k == 1) = true := by simpa using hz
          have M := Lib.hid (show min (P.refs k) 2 = 1 by omega)
          clear hz
          go_enter Tryz.func25, Tryz.ntmps25
          go_wp2
          all_goals exact bodyPost_ret (v := .tuple #[.agg #[.int .i64 1, .int .i64 (P.refs k)], .int .i64 0]) (by simp [results, Tryz.results25, go_sem]) rfl ⟨by rw [F.out, M.out]; rfl, ((Upd.refl _ _).alloc _)⟩
        · have hz' : (P.refs k == 1) = false := by simpa using hz
          have M := Lib.hid (show min (P.refs k) 2 = 0 by omega)
          clear hz
          go_enter Tryz.func25, Tryz.ntmps25
          go_wp2
          all_goals exact bodyPost_ret (v := .tuple #[.agg #[.int .i64 0, .int .i64 (P.refs k)], .int .i64 0]) (by simp [results, Tryz.results25, go_sem]) rfl ⟨by rw [F.out, M.out]; rfl, ((Upd.refl _ _).alloc _)⟩
      · have M := Lib.hid (show min (P.refs k) 2 = 2 by omega)
        have hz' : (P.refs k == 1) = false := by rw [beq_eq_false_iff_ne]; omega
        go_enter Tryz.func25, Tryz.ntmps25
        go_wp2
        all_goals exact bodyPost_ret (v := .tuple #[.agg #[.int .i64 2, .int .i64 (P.refs k)], .int .i64 0]) (by simp [results, Tryz.results25, go_sem]) rfl ⟨by rw [F.out, M.out]; rfl, ((Upd.refl _ _).alloc _)⟩
    · have F := Lib.hid (show P.of k = (0, 0, 1) by unfold PoolM.of; rw [if_pos (by omega)])
      go_enter Tryz.func25, Tryz.ntmps25
      go_wp2
      exact bodyPost_ret (v := .tuple #[.agg #[.int .i64 0, .int .i64 0], .int .i64 1]) (by simp [results, Tryz.results25, go_sem]) rfl ⟨by rw [F.out]; rfl, (Upd.refl _ _).alloc _⟩

set_option maxHeartbeats 400000 in
theorem rleft_any (w : World) (m : Nat) (P : PoolM) (r : RPoolRep w m P) :
    Calls Tryz.prog 21 #[.pointer (some ⟨m, 0, none⟩)] w fun e w' => e = .returned (.int .i64 P.left) ∧ w = w' := by
  have c0 := r.c0
  have n64 := r.n64
  go_enter Tryz.func21, Tryz.ntmps21
  go_wp2
  go_loop [3, 4] (fun t i => ∃ k : Nat, k ≤ P.n ∧ i = .int .i64 k ∧ t = .int .i64 (P.leftTo k)) (fun _ i => P.n - (intOf i).toNat)
  case atStart => exact ⟨0, Nat.zero_le _, rfl, rfl⟩
  case round =>
    obtain ⟨k, hk, rfl, rfl⟩ := hrel
    have hl := P.leftTo_le k
    by_cases hlt : k < P.n
    · have c2 := r.ref hlt
      by_cases hz : P.refs k = 0
      · have hs : Hid (P.leftTo (k + 1) = P.leftTo k + 1) := by have := P.leftTo_succ k; rw [hz] at this; exact this
        have hz' : (P.refs k == 0) = true := by simpa using hz
        clear hz
        go_wp2
        go_round
        case rel => exact ⟨k + 1, by omega, by go_num, by rw [hs.out]; go_num⟩
        case measure => simp [intOf]; omega
      · have hz' : (P.refs k == 0) = false := by simpa using hz
        have hs : Hid (P.leftTo (k + 1) = P.leftTo k) := by have := P.leftTo_succ k; rw [hz'] at this; exact this
        clear hz
        go_wp2
        go_round
        case rel => exact ⟨k + 1, by omega, by go_num, by rw [hs.out]⟩
        case measure => simp [intOf]; omega
    · go_wp2
      go_ret
      obtain rfl : k = P.n := by omega
      exact ⟨rfl, rfl⟩

theorem buildArr (w : World) : (Instr.build 41 #[]).run Tryz.prog w = .ok (.agg (rowL fun _ => 0).toArray) w := by kernel_rfl

theorem wpl_build {P : Program} {ops : Array Oper} {rest : List Oper} {o : Oper} {a : Act} {w : World} {Q : Exit → Act → World → Prop} (hg : o.guard = none) (ty : TypeId)
    (ho : o.op = .build ty #[]) (v : Value) (hl : (Instr.build ty #[]).run P w = .ok v w) (h : wpList P ops Q rest (a.put o.dst v) w) : wpList P ops Q (o :: rest) a w := by
  refine wpList_plain hg fun K hK => ?_
  unfold Oper.wp execOp
  simp only [ho, List.map_toArray, List.map_nil, Array.map_empty, Sem.run_bind, hl, Result.andThen_ok, Sem.run_pure, Oper.upon_value]
  exact hK _ _ h

set_option maxRecDepth 100000 in
set_option maxHeartbeats 400000 in
theorem rtake_any (w : World) (m : Nat) (P : PoolM) (r : RPoolRep w m P) :
    Calls Tryz.prog 136 #[.pointer (some ⟨m, 0, none⟩)] w fun e w' => e = .returned (.tuple #[.int .i64 P.take.2.1, .int .i64 P.take.2.2]) ∧ RPoolRep w' m P.take.1 ∧ Upd (at1 m) w w' := by
  have c0 := r.c0
  have n64 := r.n64
  go_enter Tryz.func136, Tryz.ntmps136
  go_wp2
  go_loop [4] (fun i => ∃ k : Nat, k ≤ P.n ∧ i = .int .i64 k ∧ Hid (∀ j, j < k → P.refs j ≠ 0)) (fun i => P.n - (intOf i).toNat)
  case atStart => exact ⟨0, Nat.zero_le _, rfl, fun j hj => by omega⟩
  case round =>
    obtain ⟨k, hk, rfl, hb⟩ := hrel
    by_cases hlt : k < P.n
    · have c2 := r.ref hlt
      have f2 := r.fr (1025 + k)
      by_cases hz : P.refs k = 0
      · have F := Lib.hid (show P.take = ((P.setRef k 1).setRow k fun _ => 0, k, 0) by unfold PoolM.take; rw [PoolM.free_some hlt hz hb.out])
        have hz' : (P.refs k == 0) = true := by simpa using hz
        have r1 := r.setRef (v := 1) hlt
        have st := r1.store16 hlt fun _ => 0
        clear hz
        go_wp2_with (first | (refine wpl_build rfl 41 rfl _ (buildArr _) ?_) | (refine wpl_store rfl 41 _ _ rfl _ _ rfl rfl st ?_))
        go_ret2
        rw [F.out]
        exact ⟨rfl, r1.setRow hlt (rowL_length _) (fun j hj => rowL_get _ hj), ((Upd.refl _ _).setCell (p := ⟨m, 1025 + k, none⟩) (S := at1 m) (fun _ => at1_self) _).setCells (S := at1 m) (fun _ => at1_self) _ _ _⟩
      · have hz' : (P.refs k == 0) = false := by simpa using hz
        have hb' : Hid (∀ j, j < k + 1 → P.refs j ≠ 0) := fun j hj => by
          rcases Nat.lt_succ_iff_lt_or_eq.1 hj with h | rfl
          · exact hb.out j h
          · exact hz
        clear hz
        go_wp2
        go_round
        case rel => exact ⟨k + 1, by omega, by go_num, hb'⟩
        case measure => simp [intOf]; omega
    · go_wp2
      go_ret2
      obtain rfl : k = P.n := by omega
      have fin : P.take = (P, 0, 3) := by unfold PoolM.take; rw [PoolM.free_none hb.out]
      rw [fin]
      exact ⟨rfl, r, Upd.refl _ _⟩

theorem rowB_ne {R S : Nat → UInt8} {j : Nat} (hj : j < 16) (h : R j ≠ S j) : (rowB R == rowB S) = false := by
  rw [beq_eq_false_iff_ne]
  intro e
  have h1 : (rowB R)[j]? = (rowB S)[j]? := by rw [e]
  simp [rowB, hj] at h1
  exact h h1
theorem rowB_eq {R S : Nat → UInt8} (h : ∀ j, j < 16 → R j = S j) : (rowB R == rowB S) = true := by
  rw [beq_iff_eq]
  exact List.map_congr_left fun j hj => h j (by simpa using hj)

set_option maxRecDepth 100000 in
set_option maxHeartbeats 400000 in
theorem rsame_any (w : World) (m : Nat) (P : PoolM) (r : RPoolRep w m P) (f g : Int) :
    Calls Tryz.prog 42 #[.pointer (some ⟨m, 0, none⟩), .int .i64 f, .int .i64 g] w fun e w' =>
      e = .returned (.bool (P.same f g)) ∧ ∃ n, w' = w.drewN n := by
  have n64 := r.n64
  by_cases hu : P.used f = true
  · by_cases hv : P.used g = true
    · obtain ⟨k, rfl⟩ := Int.eq_ofNat_of_zero_le (by simp [PoolM.used] at hu; omega : 0 ≤ f)
      obtain ⟨j, rfl⟩ := Int.eq_ofNat_of_zero_le (by simp [PoolM.used] at hv; omega : 0 ≤ g)
      have hk : k < P.n := by simp [PoolM.used] at hu; omega
      have hj : j < P.n := by simp [PoolM.used] at hv; omega
      have bj : (j : Int) < 64 := by omega
      have bk : (k : Int) < 64 := by omega
      have F := Lib.hid (show P.same k j = (rowB (P.b k) == rowB (P.b j)) by simp [PoolM.same, hu, hv])
      go_enter Tryz.func42, Tryz.ntmps42
      go_wp2_with (go_at_call 75; refine (rused_any _ _ _ r _).mono ?_; rintro e w' ⟨rfl, rfl⟩)
      go_loopw [9] (fun i wr => ∃ q : Nat, q ≤ 16 ∧ i = .int .i64 q ∧ Hid (∀ x, x < q → P.b k x = P.b j x) ∧ Hid (∃ n, wr = w.drewN n)) (fun i _ => 16 - (intOf i).toNat)
      case atStart => exact ⟨0, Nat.zero_le _, rfl, fun x hx => by omega, 0, rfl⟩
      case round =>
        obtain ⟨q, hq, rfl, hb, n, rfl⟩ := hrel
        by_cases hlt : q < 16
        · have c1 := r.byte hk hlt
          have c2 := r.byte hj hlt
          have bq : (q : Int) < 16 := by omega
          by_cases he : P.b k q = P.b j q
          · have he' : (((P.b k q).toNat : Int) != ((P.b j q).toNat : Int)) = false := by rw [he]; simp
            have he2 : (((P.b k q).toNat : Int) == ((P.b j q).toNat : Int)) = true := by rw [he]; simp
            have hb' : Hid (∀ x, x < q + 1 → P.b k x = P.b j x) := fun x hx => by
              rcases Nat.lt_succ_iff_lt_or_eq.1 hx with h | rfl
              · exact hb.out x h
              · exact he
            clear he
            go_wp2
            go_quiet (fail)
            go_wp2
            go_roundw
            case rel => exact ⟨q + 1, by omega, by go_num, hb', n + nq, rfl⟩
            case measure => simp [intOf]; omega
          · have hne : ¬ ((P.b k q).toNat : Int) = ((P.b j q).toNat : Int) := fun e => he (UInt8.toNat_inj.1 (by omega))
            have he' : (((P.b k q).toNat : Int) != ((P.b j q).toNat : Int)) = true := by rw [bne_iff_ne]; exact hne
            have he2 : (((P.b k q).toNat : Int) == ((P.b j q).toNat : Int)) = false := by rw [beq_eq_false_iff_ne]; exact hne
            clear hne
            have G := Lib.hid (rowB_ne hlt he)
            clear he
            go_wp2
            go_quiet (fail)
            go_wp2
            go_ret
            exact ⟨by rw [F.out, G.out]; rfl, n + nq, by simp [World.drewN_drewN]⟩
        · go_wp2
          go_ret
          obtain rfl : q = 16 := by omega
          exact ⟨by rw [F.out, rowB_eq hb.out]; rfl, n, rfl⟩
    · have hv' : P.used g = false := by simpa using hv
      have F := Lib.hid (show P.same f g = false by simp [PoolM.same, hv'])
      go_enter Tryz.func42, Tryz.ntmps42
      go_wp2_with (go_at_call 75; refine (rused_any _ _ _ r _).mono ?_; rintro e w' ⟨rfl, rfl⟩)
      go_ret
      exact ⟨by rw [F.out]; rfl, 0, rfl⟩
  · have hu' : P.used f = false := by simpa using hu
    have F := Lib.hid (show P.same f g = false by simp [PoolM.same, hu'])
    go_enter Tryz.func42, Tryz.ntmps42
    go_wp2_with (go_at_call 75; refine (rused_any _ _ _ r _).mono ?_; rintro e w' ⟨rfl, rfl⟩)
    go_ret
    exact ⟨by rw [F.out]; rfl, 0, rfl⟩

end U
end Go.Proofs.YtnhplapcdgnaaaaGreatDoor

set_option linter.unusedVariables false
set_option linter.unusedSimpArgs false
namespace Go.Proofs.YtnhplapcdgnaaaaGreatDoor
open Go.RowKit
namespace U

theorem zero63 : Tryz.zeroCells45 = (Value.int .i64 0 :: (List.replicate 1024 (Value.int .u8 0) ++ List.replicate 64 (Value.int .i64 0))).toArray := by kernel_rfl
theorem crr_1 (z a b : Value) (n m i : Nat) (h : i < n) : (z :: (List.replicate n a ++ List.replicate m b)).toArray[1 + i]? = some a := by
  rw [List.getElem?_toArray, Nat.add_comm, List.getElem?_cons_succ, List.getElem?_append_left (by simpa using h)]
  simp [h]
theorem crr_2 (z a b : Value) (n m i : Nat) (h : i < m) : (z :: (List.replicate n a ++ List.replicate m b)).toArray[n + 1 + i]? = some b := by
  rw [List.getElem?_toArray, show n + 1 + i = (n + i) + 1 by omega, List.getElem?_cons_succ, List.getElem?_append_right (by simp)]
  simp [h]
theorem crr_s (z a b : Value) (n m : Nat) : (z :: (List.replicate n a ++ List.replicate m b)).toArray.size = n + m + 1 := by simp
theorem zero63_b (i : Nat) (h : i < 1024) : Tryz.zeroCells45[1 + i]? = some (.int .u8 0) := by
  rw [zero63]; exact crr_1 _ _ _ 1024 64 i h
theorem zero63_r (i : Nat) (h : i < 64) : Tryz.zeroCells45[1025 + i]? = some (.int .i64 0) := by
  rw [zero63]; exact crr_2 _ _ _ 1024 64 i h
theorem zero63_s : Tryz.zeroCells45.size = 1089 := by rw [zero63]; exact crr_s _ _ _ 1024 64

theorem rpool_new (w : World) (k : Nat) (h1 : 1 ≤ k) (h2 : k ≤ 64) : RPoolRep (w.alloc (.cells (Tryz.zeroCells45.setIfInBounds 0 (.int .i64 k)) 45)) w.heap.size (PoolM.fresh k) := by
  refine ⟨⟨fun i => (Tryz.zeroCells45.setIfInBounds 0 (.int .i64 k)).getD i undef, ⟨_, heap_alloc_new w _, by rw [Array.size_setIfInBounds]; exact zero63_s, fun i hi => ?_⟩, ?_, fun i j hi hj => ?_, fun i hi => ?_⟩, h1, h2⟩
  · show _ = some ((Array.setIfInBounds _ _ _).getD i undef)
    rw [Array.getD_eq_getD_getElem?, Array.getElem?_eq_getElem (by rw [Array.size_setIfInBounds, zero63_s]; exact hi)]; rfl
  · show (Array.setIfInBounds _ _ _).getD 0 undef = _
    rw [Array.getD_eq_getD_getElem?, Array.getElem?_setIfInBounds_self_of_lt (by rw [zero63_s]; omega)]; rfl
  · have hi' : i < k := hi
    show (Array.setIfInBounds _ _ _).getD (1 + i * 16 + j) undef = _
    rw [Array.getD_eq_getD_getElem?, Array.getElem?_setIfInBounds_ne (by omega), show 1 + i * 16 + j = 1 + (i * 16 + j) from by omega, zero63_b _ (by omega)]
    rfl
  · have hi' : i < k := hi
    show (Array.setIfInBounds _ _ _).getD (1025 + i) undef = _
    rw [Array.getD_eq_getD_getElem?, Array.getElem?_setIfInBounds_ne (by omega), zero63_r _ (by omega)]
    rfl

end U
end Go.Proofs.YtnhplapcdgnaaaaGreatDoor
