import Derived.Test.YtnhplapcdgnaaaaPoolD
set_option linter.unusedVariables false
set_option linter.unusedSimpArgs false
namespace Go.Proofs.Ytnhplapcdgnaaaa
open Go.RowKit
namespace U

/-! The reference's pool: one block. -/
structure RPoolRep (w : World) (m : Nat) (P : PoolM) : Prop where
  row : ∃ c : Nat → Value, Row w m 63 1089 c ∧ c 0 = .int .i64 P.n ∧ (∀ i j, i < P.n → j < 16 → c (1 + i * 16 + j) = .int .u8 (P.b i j).toNat) ∧ ∀ i, i < P.n → c (1025 + i) = .int .i64 (P.refs i)
  n1 : 1 ≤ P.n
  n64 : P.n ≤ 64

section
variable {w w' : World} {m : Nat} {P : PoolM}
theorem RPoolRep.c0 (r : RPoolRep w m P) : w.cell? ⟨m, 0, none⟩ = some (.int .i64 P.n) := by
  obtain ⟨c, hR, h0, _, _⟩ := r.row
  rw [hR.cell (by omega), h0]
theorem RPoolRep.ref (r : RPoolRep w m P) {i : Nat} (hi : i < P.n) : w.cell? ⟨m, 1025 + i, none⟩ = some (.int .i64 (P.refs i)) := by
  obtain ⟨c, hR, _, _, h2⟩ := r.row
  have := r.n64
  rw [hR.cell (by omega), h2 i hi]
theorem RPoolRep.byte (r : RPoolRep w m P) {i j : Nat} (hi : i < P.n) (hj : j < 16) : w.cell? ⟨m, 1 + i * 16 + j, none⟩ = some (.int .u8 (P.b i j).toNat) := by
  obtain ⟨c, hR, _, h1, _⟩ := r.row
  have := r.n64
  rw [hR.cell (by omega), h1 i j hi hj]
theorem RPoolRep.fr (r : RPoolRep w m P) (i : Nat) : w.frozen? ⟨m, i, none⟩ = false := by
  obtain ⟨c, hR, _⟩ := r.row
  exact hR.frozen i
theorem RPoolRep.lt (r : RPoolRep w m P) : m < w.heap.size := by
  obtain ⟨c, hR, _⟩ := r.row
  exact hR.lt
theorem RPoolRep.drewN (r : RPoolRep w m P) (n : Nat) : RPoolRep (w.drewN n) m P := ⟨r.row, r.n1, r.n64⟩
theorem RPoolRep.drew (r : RPoolRep w m P) : RPoolRep w.drew m P := ⟨r.row, r.n1, r.n64⟩
theorem RPoolRep.alloc (r : RPoolRep w m P) (o : Obj) : RPoolRep (w.alloc o) m P := by
  obtain ⟨c, hR, h⟩ := r.row
  exact ⟨⟨c, hR.alloc o, h⟩, r.n1, r.n64⟩
theorem RPoolRep.upd_ {S : Nat → Prop} (r : RPoolRep w m P) (hu : Upd S w w') (h1 : ¬ S m) : RPoolRep w' m P := by
  obtain ⟨c, hR, h⟩ := r.row
  exact ⟨⟨c, hR.upd_ hu h1, h⟩, r.n1, r.n64⟩
theorem RPoolRep.setRef (r : RPoolRep w m P) {i : Nat} {v : Int} (hi : i < P.n) : RPoolRep (w.setCell ⟨m, 1025 + i, none⟩ (.int .i64 v)) m (P.setRef i v) := by
  obtain ⟨c, hR, h0, h1, h2⟩ := r.row
  have := r.n64
  refine ⟨⟨_, hR.set_ _, ?_, fun a j ha hj => ?_, fun j hj => ?_⟩, r.n1, r.n64⟩
  · unfold upd; rw [if_neg (by omega)]; exact h0
  · have ha' : a < P.n := ha
    unfold upd; rw [if_neg (by omega)]; exact h1 a j ha hj
  · unfold upd PoolM.setRef
    by_cases h : j = i
    · subst h; simp
    · rw [if_neg (by omega)]; simp [h, h2 j hj]
theorem RPoolRep.setByte (r : RPoolRep w m P) {i k : Nat} {v : UInt8} (hi : i < P.n) (hk : k < 16) : RPoolRep (w.setCell ⟨m, 1 + i * 16 + k, none⟩ (.int .u8 v.toNat)) m (P.setByte i k v) := by
  obtain ⟨c, hR, h0, h1, h2⟩ := r.row
  have := r.n64
  refine ⟨⟨_, hR.set_ _, ?_, fun a j ha hj => ?_, fun j hj => ?_⟩, r.n1, r.n64⟩
  · unfold upd; rw [if_neg (by omega)]; exact h0
  · unfold upd PoolM.setByte PoolM.setRow
    by_cases e : a = i
    · subst e
      by_cases e2 : j = k
      · subst e2; simp
      · rw [if_neg (by omega)]; simp [e2, h1 a j ha hj]
    · rw [if_neg (by omega)]; simp [e, h1 a j ha hj]
  · have hj' : j < P.n := hj
    unfold upd; rw [if_neg (by omega)]; exact h2 j hj
theorem RPoolRep.setRow (r : RPoolRep w m P) {i : Nat} {R : Nat → UInt8} {vs : List Value} (hi : i < P.n) (hl : vs.length = 16) (hv : ∀ j, j < 16 → vs[j]? = some (.int .u8 (R j).toNat)) :
    RPoolRep (w.setCells m (1 + i * 16) vs) m (P.setRow i R) := by
  obtain ⟨c, hR, h0, h1, h2⟩ := r.row
  have := r.n64
  refine ⟨⟨_, Row.setCells vs (1 + i * 16) _ _ hR, ?_, fun a j ha hj => ?_, fun j hj => ?_⟩, r.n1, r.n64⟩
  · unfold updL; rw [if_neg (by omega)]; exact h0
  · unfold updL PoolM.setRow
    by_cases e : a = i
    · subst e
      rw [if_pos (by omega), show 1 + a * 16 + j - (1 + a * 16) = j from by omega]
      simp [hv j hj]
    · rw [if_neg (by omega)]; simp [e, h1 a j ha hj]
  · have hj' : j < P.n := hj
    unfold updL; rw [if_neg (by omega)]; exact h2 j hj
theorem RPoolRep.load16 (r : RPoolRep w m P) {i : Nat} (hi : i < P.n) :
    (Instr.loadAt 59 (.pointer (some ⟨m, 1 + i * 16, none⟩))).run Try.prog w = .ok (.agg (rowL (P.b i)).toArray) w := by
  obtain ⟨c, hR, h0, h1, h2⟩ := r.row
  have := r.n64
  rw [load_row (P := Try.prog) hR 59 (1 + i * 16) 16 (.array 16 5) (by omega) Try.underlying59 rfl (by kernel_rfl)]
  have e : seg c (1 + i * 16) 16 = rowL (P.b i) := by
    unfold seg rowL rowB
    rw [List.map_map]
    exact List.map_congr_left fun j hj => h1 i j hi (by simpa using hj)
  rw [e]
theorem RPoolRep.store16 (r : RPoolRep w m P) {i : Nat} (hi : i < P.n) (R : Nat → UInt8) :
    (Instr.storeAt 59 (.pointer (some ⟨m, 1 + i * 16, none⟩)) (.agg (rowL R).toArray)).run Try.prog w = .ok () (w.setCells m (1 + i * 16) (rowL R)) := by
  obtain ⟨c, hR, h0, h1, h2⟩ := r.row
  have := r.n64
  refine store_row (P := Try.prog) hR 59 (1 + i * 16) (rowL R) (by rw [rowL_length]; omega) (by rw [rowL_length]; kernel_rfl) ?_
  intro v hv
  simp only [rowL, rowB, List.map_map, List.mem_map] at hv
  obtain ⟨_, _, rfl⟩ := hv
  rfl
end


set_option maxHeartbeats 400000 in
theorem rused_any (w : World) (m : Nat) (P : PoolM) (r : RPoolRep w m P) (f : Int) :
    Calls Try.prog 80 #[.pointer (some ⟨m, 0, none⟩), .int .i64 f] w fun e w' => e = .returned (.bool (P.used f)) ∧ w = w' := by
  have c0 := r.c0
  have n64 := r.n64
  by_cases h0 : 0 ≤ f
  · obtain ⟨k, rfl⟩ := Int.eq_ofNat_of_zero_le h0
    by_cases h1 : k < P.n
    · have c2 := r.ref h1
      go_enter Try.func80, Try.ntmps80
      go_wp2
      go_ret
      exact ⟨by simp [PoolM.used, h1], rfl⟩
    · go_enter Try.func80, Try.ntmps80
      go_wp2
      go_ret
      exact ⟨by simp [PoolM.used]; omega, rfl⟩
  · go_enter Try.func80, Try.ntmps80
    go_wp2
    go_ret
    exact ⟨by simp [PoolM.used]; omega, rfl⟩

set_option maxHeartbeats 400000 in
theorem rget_any (w : World) (m : Nat) (P : PoolM) (r : RPoolRep w m P) (f at_ : Int) :
    Calls Try.prog 36 #[.pointer (some ⟨m, 0, none⟩), .int .i64 f, .int .i64 at_] w fun e w' =>
      e = .returned (.tuple #[.int .u8 (P.get f at_).1.toNat, .int .i64 (P.get f at_).2]) ∧ w = w' := by
  have c0 := r.c0
  have n64 := r.n64
  by_cases h0 : at_ < 0 
  · go_enter Try.func36, Try.ntmps36
    go_wp2
    go_ret2
    exact ⟨by simp [PoolM.get, h0], rfl⟩
  · by_cases h1 : 15 < at_
    · have h1' : 16 ≤ at_ := by omega
      go_enter Try.func36, Try.ntmps36
      go_wp2
      go_ret2
      exact ⟨by simp [PoolM.get, h1'], rfl⟩
    · have hg : ¬ (at_ < 0 ∨ 16 ≤ at_) := by omega
      by_cases hu : P.used f = true
      · obtain ⟨k, rfl⟩ := Int.eq_ofNat_of_zero_le (by simp [PoolM.used] at hu; omega : 0 ≤ f)
        obtain ⟨j, rfl⟩ := Int.eq_ofNat_of_zero_le (by omega : 0 ≤ at_)
        have hk : k < P.n := by simp [PoolM.used] at hu; omega
        have hj : j < 16 := by omega
        have c2 := r.byte hk hj
        have fin : P.get k j = (P.b k j, 0) := by simp only [PoolM.get, if_neg hg, hu, if_true]; simp
        clear hg
        go_enter Try.func36, Try.ntmps36
        go_wp2_with (go_at_call 80; refine (rused_any _ _ _ r _).mono ?_; rintro e w' ⟨rfl, rfl⟩)
        go_ret2
        exact ⟨by simp [fin], rfl⟩
      · have hu' : P.used f = false := by simpa using hu
        have fin : P.get f at_ = (0, 2) := by simp only [PoolM.get, if_neg hg, hu']; simp
        clear hg
        go_enter Try.func36, Try.ntmps36
        go_wp2_with (go_at_call 80; refine (rused_any _ _ _ r _).mono ?_; rintro e w' ⟨rfl, rfl⟩)
        go_ret2
        exact ⟨by simp [fin], rfl⟩

theorem PoolM.get_err (P : PoolM) (f at_ : Int) : (P.get f at_).2 = if at_ < 0 ∨ 16 ≤ at_ then 1 else if P.used f then 0 else 2 := by
  unfold PoolM.get; split <;> (try rfl); split <;> rfl

set_option maxHeartbeats 400000 in
theorem rset_any (w : World) (m : Nat) (P : PoolM) (r : RPoolRep w m P) (f at_ : Int) (v : UInt8) :
    Calls Try.prog 38 #[.pointer (some ⟨m, 0, none⟩), .int .i64 f, .int .i64 at_, .int .u8 v.toNat] w fun e w' =>
      e = .returned (.int .i64 (P.set f at_ v).2) ∧ RPoolRep w' m (P.set f at_ v).1 ∧ Upd (at1 m) w w' := by
  have c0 := r.c0
  have n64 := r.n64
  have ge := P.get_err f at_
  by_cases h0 : at_ < 0 ∨ 16 ≤ at_
  · have ge' : Hid ((P.get f at_).2 = 1) := by rw [ge, if_pos h0]; rfl
    have fin : P.set f at_ v = (P, 1) := by simp [PoolM.set, h0]
    have F := Lib.hid fin
    clear fin ge h0
    go_enter Try.func38, Try.ntmps38
    go_wp2_with (go_at_call 36; refine (rget_any _ _ _ r _ _).mono ?_; rw [ge'.out]; rintro e w' ⟨rfl, rfl⟩)
    go_ret
    exact ⟨by rw [F.out]; rfl, by rw [F.out]; exact r, Upd.refl _ _⟩
  · by_cases hu : P.used f = true
    · have ge' : Hid ((P.get f at_).2 = 0) := by rw [ge, if_neg h0, if_pos hu]; rfl
      clear ge
      obtain ⟨k, rfl⟩ := Int.eq_ofNat_of_zero_le (by simp [PoolM.used] at hu; omega : 0 ≤ f)
      obtain ⟨j, rfl⟩ := Int.eq_ofNat_of_zero_le (by omega : 0 ≤ at_)
      have hk : k < P.n := by simp [PoolM.used] at hu; omega
      have hj : j < 16 := by omega
      have c2 := r.byte hk hj
      have c3 := r.ref hk
      have f2 := r.fr (1 + k * 16 + j)
      have fin0 : P.set k j v = (if 1 < P.refs k then (P, 4) else (P.setByte k j v, 0)) := by simp only [PoolM.set, if_neg h0, hu, if_true]; simp
      clear h0
      by_cases hr : 1 < P.refs k
      · have fin : P.set k j v = (P, 4) := by rw [fin0, if_pos hr]
        have F := Lib.hid fin
        clear fin0 fin
        go_enter Try.func38, Try.ntmps38
        go_wp2_with (go_at_call 36; refine (rget_any _ _ _ r _ _).mono ?_; rw [ge'.out]; rintro e w' ⟨rfl, rfl⟩)
        go_ret
        exact ⟨by rw [F.out]; rfl, by rw [F.out]; exact r, Upd.refl _ _⟩
      · have fin : P.set k j v = (P.setByte k j v, 0) := by rw [fin0, if_neg hr]
        have F := Lib.hid fin
        clear fin0 fin
        go_enter Try.func38, Try.ntmps38
        go_wp2_with (go_at_call 36; refine (rget_any _ _ _ r _ _).mono ?_; rw [ge'.out]; rintro e w' ⟨rfl, rfl⟩)
        go_ret
        exact ⟨by rw [F.out]; rfl, by rw [F.out]; exact r.setByte hk hj, (Upd.refl _ _).setCell (p := ⟨m, _, none⟩) (S := at1 m) (fun _ => at1_self) _⟩
    · have hu' : P.used f = false := by simpa using hu
      have ge' : Hid ((P.get f at_).2 = 2) := by rw [ge, if_neg h0, hu']; rfl
      have fin : P.set f at_ v = (P, 2) := by simp only [PoolM.set, if_neg h0, hu']; simp
      have F := Lib.hid fin
      clear fin ge h0
      go_enter Try.func38, Try.ntmps38
      go_wp2_with (go_at_call 36; refine (rget_any _ _ _ r _ _).mono ?_; rw [ge'.out]; rintro e w' ⟨rfl, rfl⟩)
      go_ret
      exact ⟨by rw [F.out]; rfl, by rw [F.out]; exact r, Upd.refl _ _⟩

set_option maxRecDepth 100000 in
set_option maxHeartbeats 400000 in
theorem rshare_any (w : World) (m : Nat) (P : PoolM) (r : RPoolRep w m P) (f by_ : Int) :
    Calls Try.prog 33 #[.pointer (some ⟨m, 0, none⟩), .int .i64 f, .int .i64 by_] w fun e w' =>
      e = .returned (.int .i64 (P.share f by_).2) ∧ RPoolRep w' m (P.share f by_).1 ∧ Upd (at1 m) w w' := by
  have n64 := r.n64
  by_cases hu : P.used f = true
  · obtain ⟨k, rfl⟩ := Int.eq_ofNat_of_zero_le (by simp [PoolM.used] at hu; omega : 0 ≤ f)
    have hk : k < P.n := by simp [PoolM.used] at hu; omega
    have c3 := r.ref hk
    have f2 := r.fr (1025 + k)
    have F := Lib.hid (show P.share k by_ = (P.setRef k (wrap64 (P.refs k + by_)), 0) by simp only [PoolM.share, hu, if_true]; simp)
    go_enter Try.func33, Try.ntmps33
    go_wp2_with (go_at_call 80; refine (rused_any _ _ _ r _).mono ?_; rintro e w' ⟨rfl, rfl⟩)
    go_region
    all_goals go_wp2
    all_goals go_ret
    all_goals exact ⟨by rw [F.out]; rfl, by rw [F.out]; exact r.drew.setRef hk, ((Upd.refl _ _).drew).setCell (p := ⟨m, _, none⟩) (S := at1 m) (fun _ => at1_self) _⟩
  · have hu' : P.used f = false := by simpa using hu
    have F := Lib.hid (show P.share f by_ = (P, 2) by simp only [PoolM.share, hu']; simp)
    go_enter Try.func33, Try.ntmps33
    go_wp2_with (go_at_call 80; refine (rused_any _ _ _ r _).mono ?_; rintro e w' ⟨rfl, rfl⟩)
    go_ret
    exact ⟨by rw [F.out]; rfl, by rw [F.out]; exact r, Upd.refl _ _⟩

set_option maxRecDepth 100000 in
set_option maxHeartbeats 400000 in
theorem rfill_any (w : World) (m : Nat) (P : PoolM) (r : RPoolRep w m P) (f g : Int) :
    Calls Try.prog 40 #[.pointer (some ⟨m, 0, none⟩), .int .i64 f, .int .i64 g] w fun e w' =>
      e = .returned (.int .i64 (P.fill f g).2) ∧ RPoolRep w' m (P.fill f g).1 ∧ Upd (at1 m) w w' := by
  have n64 := r.n64
  by_cases hu : P.used f = true
  · by_cases hv : P.used g = true
    · obtain ⟨k, rfl⟩ := Int.eq_ofNat_of_zero_le (by simp [PoolM.used] at hu; omega : 0 ≤ f)
      obtain ⟨j, rfl⟩ := Int.eq_ofNat_of_zero_le (by simp [PoolM.used] at hv; omega : 0 ≤ g)
      have hk : k < P.n := by simp [PoolM.used] at hu; omega
      have hj : j < P.n := by simp [PoolM.used] at hv; omega
      have c3 := r.ref hk
      have fin0 : P.fill k j = (if 1 < P.refs k then (P, 4) else (P.setRow k (P.b j), 0)) := by simp only [PoolM.fill, hu, hv, Bool.and_self, if_true]; simp
      by_cases hr : 1 < P.refs k
      · have fin : P.fill k j = (P, 4) := by rw [fin0, if_pos hr]
        have F := Lib.hid fin
        clear fin0 fin
        go_enter Try.func40, Try.ntmps40
        go_wp2_with (go_at_call 80; refine (rused_any _ _ _ r _).mono ?_; rintro e w' ⟨rfl, rfl⟩)
        go_ret
        exact ⟨by rw [F.out]; rfl, by rw [F.out]; exact r, Upd.refl _ _⟩
      · have fin : P.fill k j = (P.setRow k (P.b j), 0) := by rw [fin0, if_neg hr]
        have F := Lib.hid fin
        clear fin0 fin
        have bj : (j : Int) < 64 := by omega
        have bk : (k : Int) < 64 := by omega
        have bj' : j < 64 := by omega
        have bk' : k < 64 := by omega
        have ld := r.drew.load16 hj
        have st := r.drew.store16 hk (P.b j)
        go_enter Try.func40, Try.ntmps40
        go_wp2_with (go_at_call 80; refine (rused_any _ _ _ r _).mono ?_; rintro e w' ⟨rfl, rfl⟩)
        refine wp_region_still_tail 11 (by kernel_rfl) (by kernel_rfl) ?_
        simp only [List.take_succ_cons, List.take_zero, List.drop_succ_cons, List.drop_zero]
        repeat (first | (refine still_load rfl 59 _ rfl _ _ rfl ld ?_) | still_step)
        refine wpStill_nil ?_
        go_wp2_with (refine wpl_store rfl 59 _ _ rfl _ _ rfl rfl st ?_)
        go_ret
        exact ⟨by rw [F.out]; rfl, by rw [F.out]; exact r.drew.setRow hk (rowL_length _) (fun j hj => rowL_get _ hj), ((Upd.refl _ _).drew).setCells (S := at1 m) (fun _ => at1_self) _ _ _⟩
    · have hv' : P.used g = false := by simpa using hv
      have F := Lib.hid (show P.fill f g = (P, 2) by simp only [PoolM.fill, hv']; simp)
      go_enter Try.func40, Try.ntmps40
      go_wp2_with (go_at_call 80; refine (rused_any _ _ _ r _).mono ?_; rintro e w' ⟨rfl, rfl⟩)
      go_ret
      exact ⟨by rw [F.out]; rfl, by rw [F.out]; exact r, Upd.refl _ _⟩
  · have hu' : P.used f = false := by simpa using hu
    have F := Lib.hid (show P.fill f g = (P, 2) by simp only [PoolM.fill, hu']; simp)
    go_enter Try.func40, Try.ntmps40
    go_wp2_with (go_at_call 80; refine (rused_any _ _ _ r _).mono ?_; rintro e w' ⟨rfl, rfl⟩)
    go_ret
    exact ⟨by rw [F.out]; rfl, by rw [F.out]; exact r, Upd.refl _ _⟩

end U
end Go.Proofs.Ytnhplapcdgnaaaa
