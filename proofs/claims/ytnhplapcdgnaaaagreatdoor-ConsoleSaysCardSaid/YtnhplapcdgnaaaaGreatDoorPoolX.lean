import Derived.Test.YtnhplapcdgnaaaaGreatDoorProg
import Derived.Test.YtnhplapcdgnaaaaGreatDoorMem
import Derived.WalkKit
import Derived.WalkSpells
import Derived.WalkLawsBesides
import Derived.Deep.QuietTactic
import Derived.BigQuiet
import Derived.RegionTactic
import Derived.BigRegion
import Derived.StillTailTactics
import Derived.Lib.SliceRun
import Derived.Laws.MakeOwn
import Derived.Stop.BytesEq
import Derived.Lib.Hide
set_option linter.unusedVariables false
set_option linter.unusedSimpArgs false
namespace Go.Proofs.YtnhplapcdgnaaaaGreatDoor
open Go.RowKit
namespace U

/-- An error's number as the value of Go's error (0: none). -/
def errv (k : Nat) : Value := if k = 0 then .nilIface else .iface 37 (.int .i64 k)

structure PoolM where
  n : Nat
  b : Nat → Nat → UInt8
  refs : Nat → Int

namespace PoolM
def used (P : PoolM) (f : Int) : Bool := decide (0 ≤ f) && (decide (f < P.n) && decide (0 < P.refs f.toNat))
def setRef (P : PoolM) (i : Nat) (v : Int) : PoolM := { P with refs := fun j => if j = i then v else P.refs j }
def setRow (P : PoolM) (i : Nat) (r : Nat → UInt8) : PoolM := { P with b := fun k j => if k = i then r j else P.b k j }
def setByte (P : PoolM) (i k : Nat) (v : UInt8) : PoolM := P.setRow i fun j => if j = k then v else P.b i j
def get (P : PoolM) (f at_ : Int) : UInt8 × Nat := if at_ < 0 ∨ 16 ≤ at_ then (0, 1) else if P.used f then (P.b f.toNat at_.toNat, 0) else (0, 2)
def set (P : PoolM) (f at_ : Int) (v : UInt8) : PoolM × Nat :=
  if at_ < 0 ∨ 16 ≤ at_ then (P, 1) else if P.used f then (if 1 < P.refs f.toNat then (P, 4) else (P.setByte f.toNat at_.toNat v, 0)) else (P, 2)
def share (P : PoolM) (f : Int) (by_ : Int) : PoolM × Nat := if P.used f then (P.setRef f.toNat (wrap64 (P.refs f.toNat + by_)), 0) else (P, 2)
def fill (P : PoolM) (f g : Int) : PoolM × Nat :=
  if P.used f && P.used g then (if 1 < P.refs f.toNat then (P, 4) else (P.setRow f.toNat (P.b g.toNat), 0)) else (P, 2)
end PoolM

/-- Where a pool lies: its struct's block; the blocks of its bytes and of its counts, and their capacities. -/
structure PoolAt where
  p : Nat
  bb : Nat
  rb : Nat
  cb : Nat
  cr : Nat

structure PoolRep (w : World) (h : PoolAt) (P : PoolM) : Prop where
  st : Row w h.p 105 2 (fun i => if i = 0 then .slice (some ⟨h.bb, 0, none⟩) P.n h.cb else .slice (some ⟨h.rb, 0, none⟩) P.n h.cr)
  bytes : ∃ (N : Nat) (c : Nat → Value), Row w h.bb 41 N c ∧ 16 * P.n ≤ N ∧ ∀ i j, i < P.n → j < 16 → c (i * 16 + j) = .int .u8 (P.b i j).toNat
  counts : ∃ (N : Nat) (c : Nat → Value), Row w h.rb 3 N c ∧ P.n ≤ N ∧ ∀ i, i < P.n → c i = .int .i64 (P.refs i)
  n1 : 1 ≤ P.n
  n64 : P.n ≤ 64

section
variable {w : World} {h : PoolAt} {P : PoolM}
theorem PoolRep.c0 (r : PoolRep w h P) : w.cell? ⟨h.p, 0, none⟩ = some (.slice (some ⟨h.bb, 0, none⟩) P.n h.cb) := r.st.cell (i := 0) (by omega)
theorem PoolRep.c1 (r : PoolRep w h P) : w.cell? ⟨h.p, 1, none⟩ = some (.slice (some ⟨h.rb, 0, none⟩) P.n h.cr) := r.st.cell (i := 1) (by omega)
theorem PoolRep.ref (r : PoolRep w h P) {i : Nat} (hi : i < P.n) : w.cell? ⟨h.rb, i, none⟩ = some (.int .i64 (P.refs i)) := by
  obtain ⟨N, c, hR, hN, hc⟩ := r.counts
  rw [hR.cell (by omega), hc i hi]
theorem PoolRep.byte (r : PoolRep w h P) {i j : Nat} (hi : i < P.n) (hj : j < 16) : w.cell? ⟨h.bb, i * 16 + j, none⟩ = some (.int .u8 (P.b i j).toNat) := by
  obtain ⟨N, c, hR, hN, hc⟩ := r.bytes
  rw [hR.cell (by omega), hc i j hi hj]
theorem PoolRep.frb (r : PoolRep w h P) (i : Nat) : w.frozen? ⟨h.rb, i, none⟩ = false := by
  obtain ⟨N, c, hR, hN, hc⟩ := r.counts
  exact hR.frozen i
theorem PoolRep.fbb (r : PoolRep w h P) (i : Nat) : w.frozen? ⟨h.bb, i, none⟩ = false := by
  obtain ⟨N, c, hR, hN, hc⟩ := r.bytes
  exact hR.frozen i
theorem PoolRep.drewN (r : PoolRep w h P) (n : Nat) : PoolRep (w.drewN n) h P := ⟨r.st, r.bytes, r.counts, r.n1, r.n64⟩
theorem PoolRep.drew (r : PoolRep w h P) : PoolRep w.drew h P := ⟨r.st, r.bytes, r.counts, r.n1, r.n64⟩
end

/-! ### what a store does to a pool -/
def PoolAt.own (h : PoolAt) : Nat → Prop := fun k => k = h.bb ∨ k = h.rb
/-- Sixteen bytes, and as values. -/
def rowB (R : Nat → UInt8) : List UInt8 := (List.range 16).map R
def rowL (R : Nat → UInt8) : List Value := (rowB R).map Extern.Stop.cell
theorem rowB_length (R : Nat → UInt8) : (rowB R).length = 16 := by simp [rowB]
theorem eql16 (R S : Nat → UInt8) (w : World) : (binOp .eql 41 (.agg (rowL R).toArray) (.agg (rowL S).toArray)).run Tryz.prog w = .ok (.bool (rowB R == rowB S)) w :=
  run_eql_bytes w 41 5 16 Tryz.underlying41 Tryz.underlying5 (fun _ => by kernel_rfl) _ _ (rowB_length R) (rowB_length S)
def PoolM.same (P : PoolM) (f g : Int) : Bool := P.used f && (P.used g && rowB (P.b f.toNat) == rowB (P.b g.toNat))
section
variable {w w' : World} {h : PoolAt} {P : PoolM}
theorem PoolRep.bb_rb (r : PoolRep w h P) : h.bb ≠ h.rb := by
  obtain ⟨_, _, hB, _⟩ := r.bytes
  obtain ⟨_, _, hR, _⟩ := r.counts
  exact hB.ne_ hR (by decide)
theorem PoolRep.p_bb (r : PoolRep w h P) : h.p ≠ h.bb := by
  obtain ⟨_, _, hB, _⟩ := r.bytes
  exact r.st.ne_ hB (by decide)
theorem PoolRep.p_rb (r : PoolRep w h P) : h.p ≠ h.rb := by
  obtain ⟨_, _, hB, _⟩ := r.counts
  exact r.st.ne_ hB (by decide)
theorem PoolRep.setRef (r : PoolRep w h P) {i : Nat} {v : Int} (hi : i < P.n) : PoolRep (w.setCell ⟨h.rb, i, none⟩ (.int .i64 v)) h (P.setRef i v) := by
  obtain ⟨N, c, hB, hN, hc⟩ := r.bytes
  obtain ⟨M, d, hR, hM, hd⟩ := r.counts
  refine ⟨r.st.far (p := ⟨h.rb, i, none⟩) r.p_rb _, ⟨N, c, hB.far (p := ⟨h.rb, i, none⟩) r.bb_rb _, hN, hc⟩, ⟨M, _, hR.set_ _, hM, fun j hj => ?_⟩, r.n1, r.n64⟩
  unfold upd PoolM.setRef
  by_cases h : j = i <;> simp [h, hd j hj]
theorem PoolRep.setByte (r : PoolRep w h P) {i k : Nat} {v : UInt8} (hi : i < P.n) (hk : k < 16) : PoolRep (w.setCell ⟨h.bb, i * 16 + k, none⟩ (.int .u8 v.toNat)) h (P.setByte i k v) := by
  obtain ⟨N, c, hB, hN, hc⟩ := r.bytes
  obtain ⟨M, d, hR, hM, hd⟩ := r.counts
  refine ⟨r.st.far (p := ⟨h.bb, _, none⟩) r.p_bb _, ⟨N, _, hB.set_ _, hN, fun a j ha hj => ?_⟩, ⟨M, d, hR.far (p := ⟨h.bb, _, none⟩) r.bb_rb.symm _, hM, hd⟩, r.n1, r.n64⟩
  unfold upd PoolM.setByte PoolM.setRow
  by_cases e : a = i
  · subst e
    by_cases e2 : j = k
    · subst e2; simp
    · rw [if_neg (by omega)]; simp [e2, hc a j ha hj]
  · rw [if_neg (by omega)]; simp [e, hc a j ha hj]
theorem PoolRep.setRow (r : PoolRep w h P) {i : Nat} {R : Nat → UInt8} {vs : List Value} (hi : i < P.n) (hl : vs.length = 16) (hv : ∀ j, j < 16 → vs[j]? = some (.int .u8 (R j).toNat)) :
    PoolRep (w.setCells h.bb (i * 16) vs) h (P.setRow i R) := by
  obtain ⟨N, c, hB, hN, hc⟩ := r.bytes
  obtain ⟨M, d, hR, hM, hd⟩ := r.counts
  refine ⟨r.st.farCells r.p_bb _ _, ⟨N, _, Row.setCells vs (i * 16) _ _ hB, hN, fun a j ha hj => ?_⟩, ⟨M, d, hR.farCells r.bb_rb.symm _ _, hM, hd⟩, r.n1, r.n64⟩
  unfold updL PoolM.setRow
  by_cases e : a = i
  · subst e
    rw [if_pos (by omega), show a * 16 + j - a * 16 = j from by omega]
    simp [hv j hj]
  · rw [if_neg (by omega)]; simp [e, hc a j ha hj]
theorem PoolRep.upd_ {S : Nat → Prop} (r : PoolRep w h P) (hu : Upd S w w') (h1 : ¬ S h.p) (h2 : ¬ S h.bb) (h3 : ¬ S h.rb) : PoolRep w' h P := by
  obtain ⟨N, c, hB, hN, hc⟩ := r.bytes
  obtain ⟨M, d, hR, hM, hd⟩ := r.counts
  exact ⟨r.st.upd_ hu h1, ⟨N, c, hB.upd_ hu h2, hN, hc⟩, ⟨M, d, hR.upd_ hu h3, hM, hd⟩, r.n1, r.n64⟩
theorem rowL_length (R : Nat → UInt8) : (rowL R).length = 16 := by simp [rowL, rowB]
theorem rowL_get (R : Nat → UInt8) {j : Nat} (hj : j < 16) : (rowL R)[j]? = some (.int .u8 (R j).toNat) := by simp [rowL, rowB, hj, Extern.Stop.cell]
theorem PoolRep.load16 (r : PoolRep w h P) {i : Nat} (hi : i < P.n) :
    (Instr.loadAt 41 (.pointer (some ⟨h.bb, i * 16, none⟩))).run Tryz.prog w = .ok (.agg (rowL (P.b i)).toArray) w := by
  obtain ⟨N, c, hB, hN, hc⟩ := r.bytes
  rw [load_row (P := Tryz.prog) hB 41 (i * 16) 16 (.array 16 5) (by omega) Tryz.underlying41 rfl (by kernel_rfl)]
  have e : seg c (i * 16) 16 = rowL (P.b i) := by
    unfold seg rowL rowB
    rw [List.map_map]
    exact List.map_congr_left fun j hj => hc i j hi (by simpa using hj)
  rw [e]
theorem PoolRep.store16 (r : PoolRep w h P) {i : Nat} (hi : i < P.n) (R : Nat → UInt8) :
    (Instr.storeAt 41 (.pointer (some ⟨h.bb, i * 16, none⟩)) (.agg (rowL R).toArray)).run Tryz.prog w = .ok () (w.setCells h.bb (i * 16) (rowL R)) := by
  obtain ⟨N, c, hB, hN, hc⟩ := r.bytes
  refine store_row (P := Tryz.prog) hB 41 (i * 16) (rowL R) (by rw [rowL_length]; omega) (by rw [rowL_length]; kernel_rfl) ?_
  intro v hv
  simp only [rowL, rowB, List.map_map, List.mem_map] at hv
  obtain ⟨_, _, rfl⟩ := hv
  rfl
end

set_option maxHeartbeats 400000 in
theorem used_any (w : World) (h : PoolAt) (P : PoolM) (r : PoolRep w h P) (f : Int) :
    Calls Tryz.prog 130 #[.pointer (some ⟨h.p, 0, none⟩), .int .i64 f] w fun e w' => e = .returned (.bool (P.used f)) ∧ w = w' := by
  have c0 := r.c0
  have c1 := r.c1
  have n64 := r.n64
  by_cases h0 : 0 ≤ f
  · obtain ⟨k, rfl⟩ := Int.eq_ofNat_of_zero_le h0
    by_cases h1 : k < P.n
    · have c2 := r.ref h1
      go_enter Tryz.func130, Tryz.ntmps130
      go_wp2
      go_ret
      exact ⟨by simp [PoolM.used, h1], rfl⟩
    · go_enter Tryz.func130, Tryz.ntmps130
      go_wp2
      go_ret
      exact ⟨by simp [PoolM.used]; omega, rfl⟩
  · go_enter Tryz.func130, Tryz.ntmps130
    go_wp2
    go_ret
    exact ⟨by simp [PoolM.used]; omega, rfl⟩

theorem used_is (w : World) (h : PoolAt) (P : PoolM) (r : PoolRep w h P) (f : Int) {b : Bool} (hb : P.used f = b) :
    Calls Tryz.prog 130 #[.pointer (some ⟨h.p, 0, none⟩), .int .i64 f] w fun e w' => e = .returned (.bool b) ∧ w = w' := hb ▸ used_any w h P r f

set_option maxHeartbeats 400000 in
theorem get_any (w : World) (h : PoolAt) (P : PoolM) (r : PoolRep w h P) (f at_ : Int) :
    Calls Tryz.prog 125 #[.pointer (some ⟨h.p, 0, none⟩), .int .i64 f, .int .i64 at_] w fun e w' =>
      e = .returned (.tuple #[.int .u8 (P.get f at_).1.toNat, errv (P.get f at_).2]) ∧ w = w' := by
  have c0 := r.c0
  have c1 := r.c1
  have n64 := r.n64
  by_cases h0 : at_ < 0 
  · go_enter Tryz.func125, Tryz.ntmps125
    go_wp2
    go_ret2
    exact ⟨by simp [PoolM.get, errv, h0], rfl⟩
  · by_cases h1 : 16 ≤ at_
    · go_enter Tryz.func125, Tryz.ntmps125
      go_wp2
      go_ret2
      exact ⟨by simp [PoolM.get, errv, h1], rfl⟩
    · have hg : ¬ (at_ < 0 ∨ 16 ≤ at_) := by omega
      by_cases hu : P.used f = true
      · obtain ⟨k, rfl⟩ := Int.eq_ofNat_of_zero_le (by simp [PoolM.used] at hu; omega : 0 ≤ f)
        obtain ⟨j, rfl⟩ := Int.eq_ofNat_of_zero_le (by omega : 0 ≤ at_)
        have hk : k < P.n := by simp [PoolM.used] at hu; omega
        have hj : j < 16 := by omega
        have c2 := r.byte hk hj
        have fin : P.get k j = (P.b k j, 0) := by simp only [PoolM.get, if_neg hg, hu, if_true]; simp
        clear hg
        go_enter Tryz.func125, Tryz.ntmps125
        go_wp2_with (go_at_call 130; refine (used_any _ _ _ r _).mono ?_; rintro e w' ⟨rfl, rfl⟩)
        go_ret2
        exact ⟨by simp [fin, errv], rfl⟩
      · have hu' : P.used f = false := by simpa using hu
        have fin : P.get f at_ = (0, 2) := by simp only [PoolM.get, if_neg hg, hu']; simp
        clear hg
        go_enter Tryz.func125, Tryz.ntmps125
        go_wp2_with (go_at_call 130; refine (used_any _ _ _ r _).mono ?_; rintro e w' ⟨rfl, rfl⟩)
        go_ret2
        exact ⟨by simp [fin, errv], rfl⟩

set_option maxHeartbeats 400000 in
theorem set_any (w : World) (h : PoolAt) (P : PoolM) (r : PoolRep w h P) (f at_ : Int) (v : UInt8) :
    Calls Tryz.prog 126 #[.pointer (some ⟨h.p, 0, none⟩), .int .i64 f, .int .i64 at_, .int .u8 v.toNat] w fun e w' =>
      e = .returned (errv (P.set f at_ v).2) ∧ PoolRep w' h (P.set f at_ v).1 ∧ Upd h.own w w' := by
  have c0 := r.c0
  have c1 := r.c1
  have n64 := r.n64
  by_cases h0 : at_ < 0 
  · go_enter Tryz.func126, Tryz.ntmps126
    go_wp2
    go_ret
    have fin : P.set f at_ v = (P, 1) := by simp [PoolM.set, h0]
    exact ⟨by simp [fin, errv], by rw [fin]; exact r, Upd.refl _ _⟩
  · by_cases h1 : 16 ≤ at_
    · go_enter Tryz.func126, Tryz.ntmps126
      go_wp2
      go_ret
      have fin : P.set f at_ v = (P, 1) := by simp [PoolM.set, h1]
      exact ⟨by simp [fin, errv], by rw [fin]; exact r, Upd.refl _ _⟩
    · have hg : ¬ (at_ < 0 ∨ 16 ≤ at_) := by omega
      by_cases hu : P.used f = true
      · obtain ⟨k, rfl⟩ := Int.eq_ofNat_of_zero_le (by simp [PoolM.used] at hu; omega : 0 ≤ f)
        obtain ⟨j, rfl⟩ := Int.eq_ofNat_of_zero_le (by omega : 0 ≤ at_)
        have hk : k < P.n := by simp [PoolM.used] at hu; omega
        have hj : j < 16 := by omega
        have c2 := r.byte hk hj
        have c3 := r.ref hk
        have f2 := r.fbb (k * 16 + j)
        have fin0 : P.set k j v = (if 1 < P.refs k then (P, 4) else (P.setByte k j v, 0)) := by simp only [PoolM.set, if_neg hg, hu, if_true]; simp
        clear hg
        by_cases hr : 1 < P.refs k
        · have fin : P.set k j v = (P, 4) := by rw [fin0, if_pos hr]
          clear fin0
          go_enter Tryz.func126, Tryz.ntmps126
          go_wp2_with (go_at_call 130; refine (used_any _ _ _ r _).mono ?_; rintro e w' ⟨rfl, rfl⟩)
          go_ret
          exact ⟨by simp [fin, errv], by rw [fin]; exact r, Upd.refl _ _⟩
        · have fin : P.set k j v = (P.setByte k j v, 0) := by rw [fin0, if_neg hr]
          clear fin0
          go_enter Tryz.func126, Tryz.ntmps126
          go_wp2_with (go_at_call 130; refine (used_any _ _ _ r _).mono ?_; rintro e w' ⟨rfl, rfl⟩)
          go_ret
          exact ⟨by simp [fin, errv], by rw [fin]; exact r.setByte hk hj, (Upd.refl _ _).setCell (p := ⟨h.bb, _, none⟩) (fun _ => .inl rfl) _⟩
      · have hu' : P.used f = false := by simpa using hu
        have fin : P.set f at_ v = (P, 2) := by simp only [PoolM.set, if_neg hg, hu']; simp
        clear hg
        go_enter Tryz.func126, Tryz.ntmps126
        go_wp2_with (go_at_call 130; refine (used_any _ _ _ r _).mono ?_; rintro e w' ⟨rfl, rfl⟩)
        go_ret
        exact ⟨by simp [fin, errv], by rw [fin]; exact r, Upd.refl _ _⟩

set_option maxHeartbeats 400000 in
theorem share_any (w : World) (h : PoolAt) (P : PoolM) (r : PoolRep w h P) (f : Int) :
    Calls Tryz.prog 172 #[.pointer (some ⟨h.p, 0, none⟩), .int .i64 f] w fun e w' =>
      e = .returned (errv (P.share f 1).2) ∧ PoolRep w' h (P.share f 1).1 ∧ Upd h.own w w' := by
  have c0 := r.c0
  have c1 := r.c1
  have n64 := r.n64
  by_cases hu : P.used f = true
  · obtain ⟨k, rfl⟩ := Int.eq_ofNat_of_zero_le (by simp [PoolM.used] at hu; omega : 0 ≤ f)
    have hk : k < P.n := by simp [PoolM.used] at hu; omega
    have c3 := r.ref hk
    have f2 := r.frb k
    have fin : P.share k 1 = (P.setRef k (wrap64 (P.refs k + 1)), 0) := by simp only [PoolM.share, hu, if_true]; simp
    go_enter Tryz.func172, Tryz.ntmps172
    go_wp2_with (go_at_call 130; refine (used_any _ _ _ r _).mono ?_; rintro e w' ⟨rfl, rfl⟩)
    go_ret
    exact ⟨by simp [fin, errv], by rw [fin]; exact r.setRef hk, (Upd.refl _ _).setCell (p := ⟨h.rb, _, none⟩) (fun _ => .inr rfl) _⟩
  · have hu' : P.used f = false := by simpa using hu
    have fin : P.share f 1 = (P, 2) := by simp only [PoolM.share, hu']; simp
    go_enter Tryz.func172, Tryz.ntmps172
    go_wp2_with (go_at_call 130; refine (used_any _ _ _ r _).mono ?_; rintro e w' ⟨rfl, rfl⟩)
    go_ret
    exact ⟨by simp [fin, errv], by rw [fin]; exact r, Upd.refl _ _⟩

set_option maxHeartbeats 400000 in
theorem drop_any (w : World) (h : PoolAt) (P : PoolM) (r : PoolRep w h P) (f : Int) :
    Calls Tryz.prog 169 #[.pointer (some ⟨h.p, 0, none⟩), .int .i64 f] w fun e w' =>
      e = .returned (errv (P.share f (-1)).2) ∧ PoolRep w' h (P.share f (-1)).1 ∧ Upd h.own w w' := by
  have c0 := r.c0
  have c1 := r.c1
  have n64 := r.n64
  by_cases hu : P.used f = true
  · obtain ⟨k, rfl⟩ := Int.eq_ofNat_of_zero_le (by simp [PoolM.used] at hu; omega : 0 ≤ f)
    have hk : k < P.n := by simp [PoolM.used] at hu; omega
    have c3 := r.ref hk
    have f2 := r.frb k
    have fin : P.share k (-1) = (P.setRef k (wrap64 (P.refs k - 1)), 0) := by simp only [PoolM.share, hu, if_true]; simp [Int.sub_eq_add_neg]
    go_enter Tryz.func169, Tryz.ntmps169
    go_wp2_with (go_at_call 130; refine (used_any _ _ _ r _).mono ?_; rintro e w' ⟨rfl, rfl⟩)
    go_ret
    exact ⟨by simp [fin, errv], by rw [fin]; exact r.setRef hk, (Upd.refl _ _).setCell (p := ⟨h.rb, _, none⟩) (fun _ => .inr rfl) _⟩
  · have hu' : P.used f = false := by simpa using hu
    have fin : P.share f (-1) = (P, 2) := by simp only [PoolM.share, hu']; simp
    go_enter Tryz.func169, Tryz.ntmps169
    go_wp2_with (go_at_call 130; refine (used_any _ _ _ r _).mono ?_; rintro e w' ⟨rfl, rfl⟩)
    go_ret
    exact ⟨by simp [fin, errv], by rw [fin]; exact r, Upd.refl _ _⟩

set_option maxRecDepth 100000 in
set_option maxHeartbeats 400000 in
theorem fill_any (w : World) (h : PoolAt) (P : PoolM) (r : PoolRep w h P) (f g : Int) :
    Calls Tryz.prog 178 #[.pointer (some ⟨h.p, 0, none⟩), .int .i64 f, .int .i64 g] w fun e w' =>
      e = .returned (errv (P.fill f g).2) ∧ PoolRep w' h (P.fill f g).1 ∧ Upd h.own w w' := by
  have c0 := r.c0
  have c1 := r.c1
  have n64 := r.n64
  by_cases hu : P.used f = true
  · by_cases hv : P.used g = true
    · obtain ⟨k, rfl⟩ := Int.eq_ofNat_of_zero_le (by simp [PoolM.used] at hu; omega : 0 ≤ f)
      obtain ⟨j, rfl⟩ := Int.eq_ofNat_of_zero_le (by simp [PoolM.used] at hv; omega : 0 ≤ g)
      have hk : k < P.n := by simp [PoolM.used] at hu; omega
      have hj : j < P.n := by simp [PoolM.used] at hv; omega
      have c3 := r.ref hk
      have fin0 : P.fill k j = (if 1 < P.refs k then (P, 4) else (P.setRow k (P.b j), 0)) := by simp only [PoolM.fill, hu, hv, Bool.and_self, if_true]; simp
      by_cases hr : 1 < P.refs k
      · have fin : P.fill k j = (P, 4) := by rw [fin0, if_pos hr]
        clear fin0
        go_enter Tryz.func178, Tryz.ntmps178
        go_wp2_with (go_at_call 130; refine (used_any _ _ _ r _).mono ?_; rintro e w' ⟨rfl, rfl⟩)
        go_ret
        exact ⟨by simp [fin, errv], by rw [fin]; exact r, Upd.refl _ _⟩
      · have fin : P.fill k j = (P.setRow k (P.b j), 0) := by rw [fin0, if_neg hr]
        clear fin0
        have ld := r.drew.load16 hj
        have st := r.drew.store16 hk (P.b j)
        go_enter Tryz.func178, Tryz.ntmps178
        go_wp2_with (go_at_call 130; refine (used_any _ _ _ r _).mono ?_; rintro e w' ⟨rfl, rfl⟩)
        refine wp_region_still_tail 13 (by kernel_rfl) (by kernel_rfl) ?_
        simp only [List.take_succ_cons, List.take_zero, List.drop_succ_cons, List.drop_zero]
        repeat (first | (refine still_load rfl 41 _ rfl _ _ rfl ld ?_) | still_step)
        refine wpStill_nil ?_
        go_wp2_with (refine wpl_store rfl 41 _ _ rfl _ _ rfl rfl st ?_)
        go_ret
        exact ⟨by simp [fin, errv], by rw [fin]; exact r.drew.setRow hk (rowL_length _) (fun j hj => rowL_get _ hj), ((Upd.refl _ _).drew).setCells (fun _ => .inl rfl) _ _ _⟩
    · have hv' : P.used g = false := by simpa using hv
      have fin : P.fill f g = (P, 2) := by simp only [PoolM.fill, hv']; simp
      go_enter Tryz.func178, Tryz.ntmps178
      go_wp2_with (go_at_call 130; refine (used_any _ _ _ r _).mono ?_; rintro e w' ⟨rfl, rfl⟩)
      go_ret
      exact ⟨by simp [fin, errv], by rw [fin]; exact r, Upd.refl _ _⟩
  · have hu' : P.used f = false := by simpa using hu
    have fin : P.fill f g = (P, 2) := by simp only [PoolM.fill, hu']; simp
    go_enter Tryz.func178, Tryz.ntmps178
    go_wp2_with (go_at_call 130; refine (used_any _ _ _ r _).mono ?_; rintro e w' ⟨rfl, rfl⟩)
    go_ret
    exact ⟨by simp [fin, errv], by rw [fin]; exact r, Upd.refl _ _⟩

set_option maxRecDepth 100000 in
set_option maxHeartbeats 400000 in
theorem same_any (w : World) (h : PoolAt) (P : PoolM) (r : PoolRep w h P) (f g : Int) :
    Calls Tryz.prog 100 #[.pointer (some ⟨h.p, 0, none⟩), .int .i64 f, .int .i64 g] w fun e w' =>
      e = .returned (.bool (P.same f g)) ∧ ∃ n, w' = w.drewN n := by
  have c0 := r.c0
  have c1 := r.c1
  have n64 := r.n64
  by_cases hu : P.used f = true
  · by_cases hv : P.used g = true
    · obtain ⟨k, rfl⟩ := Int.eq_ofNat_of_zero_le (by simp [PoolM.used] at hu; omega : 0 ≤ f)
      obtain ⟨j, rfl⟩ := Int.eq_ofNat_of_zero_le (by simp [PoolM.used] at hv; omega : 0 ≤ g)
      have hk : k < P.n := by simp [PoolM.used] at hu; omega
      have hj : j < P.n := by simp [PoolM.used] at hv; omega
      have ld1 : ∀ w', (∃ n, w' = w.drewN n) → _ := fun w' ⟨n, e⟩ => e ▸ (r.drewN n).load16 hk
      have ld2 : ∀ w', (∃ n, w' = w.drewN n) → _ := fun w' ⟨n, e⟩ => e ▸ (r.drewN n).load16 hj
      have heq := eql16 (P.b k) (P.b j)
      go_enter Tryz.func100, Tryz.ntmps100
      go_wp2_with fail
      refine wp_region_quiet_lit (by kernel_rfl) (by kernel_rfl) ?_
      repeat (first | go_big_quiet_skip | (go_big_quiet_want; first | (refine quiet_load 41 _ rfl _ _ rfl ld1 ?_; simp only [Act.put, List.setIfInBounds_toArray, List.set_cons_succ, List.set_cons_zero]; go_big_quiet_on) | (refine quiet_load 41 _ rfl _ _ rfl ld2 ?_; simp only [Act.put, List.setIfInBounds_toArray, List.set_cons_succ, List.set_cons_zero]; go_big_quiet_on) | (go_big_quiet_op; first | go_big_quiet_on | go_big_quiet_call (first | exact quiet_same (used_is _ _ _ (r.drewN _) _ hu) | exact quiet_same (used_is _ _ _ (r.drewN _) _ hv)))))
      refine wpQuiet_nil ?_
      intro _ hw'
      obtain ⟨nq, hw''⟩ := hw'
      subst hw''
      go_wp2
      go_ret
      exact ⟨by simp [PoolM.same, hu, hv], _, rfl⟩
    · have hv' : P.used g = false := by simpa using hv
      go_enter Tryz.func100, Tryz.ntmps100
      go_wp2_with fail
      go_quiet (first | exact quiet_same (used_is _ _ _ (r.drewN _) _ hu) | exact quiet_same (used_is _ _ _ (r.drewN _) _ hv'))
      go_wp2
      go_ret
      exact ⟨by simp [PoolM.same, hv'], _, rfl⟩
  · have hu' : P.used f = false := by simpa using hu
    go_enter Tryz.func100, Tryz.ntmps100
    go_wp2_with fail
    go_quiet (exact quiet_same (used_is _ _ _ (r.drewN _) _ hu'))
    go_wp2
    go_ret
    exact ⟨by simp [PoolM.same, hu'], _, rfl⟩

end U
end Go.Proofs.YtnhplapcdgnaaaaGreatDoor

set_option linter.unusedVariables false
set_option linter.unusedSimpArgs false
namespace Go.Proofs.YtnhplapcdgnaaaaGreatDoor
open Go.RowKit
namespace U

theorem infoArr : (Tryz.prog.info? 41).map (fun i => (i.zero, i.size, i.bytes)) = some (some (.agg (Array.replicate 16 (.int .u8 0))), 16, 16) := by kernel_rfl
theorem infoInt : (Tryz.prog.info? 3).map (fun i => (i.zero, i.size, i.bytes)) = some (some (.int .i64 0), 1, 8) := by kernel_rfl

theorem PoolRep.copyB {w : World} {h : PoolAt} {P : PoolM} (r : PoolRep w h P) : ∃ (C : Nat) (arr : Array Value),
    (Builtin.append_ #[103, 103] 103 #[.slice none 0 0, .slice (some ⟨h.bb, 0, none⟩) P.n h.cb]).run Tryz.prog w =
      .ok (.slice (some ⟨w.heap.size, 0, none⟩) P.n C) (w.drew.alloc (.cells arr 41)) ∧ 16 * P.n ≤ arr.size ∧
    ∀ i j, i < P.n → j < 16 → arr[i * 16 + j]? = some (.int .u8 (P.b i j).toNat) := by
  obtain ⟨N, c, hB, hN, hc⟩ := r.bytes
  obtain ⟨i0, hi, hz0, hz1, hz2⟩ := info_parts infoArr
  have n1 := r.n1
  have n64 := r.n64
  have hrun := run_append_nil (P := Tryz.prog) w 103 103 41 i0 _ Tryz.underlying103 hi hz0 ⟨h.bb, 0, none⟩ P.n h.cb (seg c 0 (16 * P.n)) (by rw [seg_length, hz1, Nat.mul_comm])
    (fun j u hu => by
      have hj : j < 16 * P.n := by have := (List.getElem?_eq_some_iff.1 hu).1; simpa using this
      rw [seg_get hj] at hu
      rw [Addr.add_mid, ← hu]
      exact hB.cell (by omega)) (by omega) (by omega) (by rw [hz2]; omega)
  refine ⟨_, _, hrun, by simp, fun i j hi hj => ?_⟩
  have hl : i * 16 + j < 16 * P.n := by omega
  rw [Array.getElem?_append_left (by simpa using hl)]
  simp only [List.getElem?_toArray]
  rw [seg_get hl, Nat.zero_add, hc i j hi hj]

theorem PoolRep.copyR {w : World} {h : PoolAt} {P : PoolM} (r : PoolRep w h P) : ∃ (C : Nat) (arr : Array Value),
    (Builtin.append_ #[60, 60] 60 #[.slice none 0 0, .slice (some ⟨h.rb, 0, none⟩) P.n h.cr]).run Tryz.prog w =
      .ok (.slice (some ⟨w.heap.size, 0, none⟩) P.n C) (w.drew.alloc (.cells arr 3)) ∧ P.n ≤ arr.size ∧
    ∀ i, i < P.n → arr[i]? = some (.int .i64 (P.refs i)) := by
  obtain ⟨N, c, hB, hN, hc⟩ := r.counts
  obtain ⟨i0, hi, hz0, hz1, hz2⟩ := info_parts infoInt
  have n1 := r.n1
  have n64 := r.n64
  have hrun := run_append_nil (P := Tryz.prog) w 60 60 3 i0 _ Tryz.underlying60 hi hz0 ⟨h.rb, 0, none⟩ P.n h.cr (seg c 0 P.n) (by rw [seg_length, hz1, Nat.mul_one])
    (fun j u hu => by
      have hj : j < P.n := by have := (List.getElem?_eq_some_iff.1 hu).1; simpa using this
      rw [seg_get hj] at hu
      rw [Addr.add_mid, ← hu]
      exact hB.cell (by omega)) (by omega) (by omega) (by rw [hz2]; omega)
  refine ⟨_, _, hrun, by simp, fun i hi => ?_⟩
  rw [Array.getElem?_append_left (by simpa using hi)]
  simp only [List.getElem?_toArray]
  rw [seg_get hi, Nat.zero_add, hc i hi]

theorem PoolRep.alloc {w : World} {h : PoolAt} {P : PoolM} (r : PoolRep w h P) (o : Obj) : PoolRep (w.alloc o) h P := by
  obtain ⟨N, c, hB, hN, hc⟩ := r.bytes
  obtain ⟨M, d, hR, hM, hd⟩ := r.counts
  exact ⟨r.st.alloc o, ⟨N, c, hB.alloc o, hN, hc⟩, ⟨M, d, hR.alloc o, hM, hd⟩, r.n1, r.n64⟩

theorem poolRep_mk {W : World} {P : PoolM} (p bb rb C D : Nat) (X Y : Array Value) (hX : W.heap[bb]? = some (.cells X 41 (0, 0))) (hY : W.heap[rb]? = some (.cells Y 3 (0, 0)))
    (hp : W.heap[p]? = some (.cells #[.slice (some ⟨bb, 0, none⟩) P.n C, .slice (some ⟨rb, 0, none⟩) P.n D] 105 (0, 0)))
    (sX : 16 * P.n ≤ X.size) (gX : ∀ i j, i < P.n → j < 16 → X[i * 16 + j]? = some (.int .u8 (P.b i j).toNat)) (sY : P.n ≤ Y.size) (gY : ∀ i, i < P.n → Y[i]? = some (.int .i64 (P.refs i)))
    (n1 : 1 ≤ P.n) (n64 : P.n ≤ 64) : PoolRep W ⟨p, bb, rb, C, D⟩ P := by
  refine ⟨⟨_, hp, rfl, fun i hi => ?_⟩, ⟨X.size, fun i => X.getD i undef, ⟨X, hX, rfl, fun i hi => by simp [hi]⟩, sX, fun i j hi hj => ?_⟩, ⟨Y.size, fun i => Y.getD i undef, ⟨Y, hY, rfl, fun i hi => by simp [hi]⟩, sY, fun i hi => ?_⟩, n1, n64⟩
  · match i, hi with
    | 0, _ => rfl
    | 1, _ => rfl
  · have := gX i j hi hj; simp [Array.getD_eq_getD_getElem?, this]
  · have := gY i hi; simp [Array.getD_eq_getD_getElem?, this]

theorem upd_allocs3 {S : Nat → Prop} {w W : World} {A B C : Obj} (h1 : W.heap = ((w.heap.push A).push B).push C) (h2 : W.os = w.os) (h3 : W.tape = w.tape) (h4 : W.output = w.output) : Upd S w W :=
  ⟨h2, h3, h4, by rw [h1]; simp; omega, fun k hk _ => by rw [h1, Array.getElem?_push, if_neg (by simp; omega), Array.getElem?_push, if_neg (by simp; omega), Array.getElem?_push, if_neg (by omega)]⟩
theorem heap3_0 {w W : World} {A B C : Obj} (h1 : W.heap = ((w.heap.push A).push B).push C) : W.heap[w.heap.size]? = some A := by
  rw [h1, Array.getElem?_push, if_neg (by simp; omega), Array.getElem?_push, if_neg (by simp), Array.getElem?_push, if_pos rfl]
theorem heap3_1 {w W : World} {A B C : Obj} (h1 : W.heap = ((w.heap.push A).push B).push C) : W.heap[w.heap.size + 1]? = some B := by
  rw [h1, Array.getElem?_push, if_neg (by simp), Array.getElem?_push, if_pos (by simp)]
theorem heap3_2 {w W : World} {A B C : Obj} (h1 : W.heap = ((w.heap.push A).push B).push C) : W.heap[w.heap.size + 2]? = some C := by
  rw [h1, Array.getElem?_push, if_pos (by simp)]

def PoolM.fresh (n : Nat) : PoolM := ⟨n, fun _ _ => 0, fun _ => 0⟩

theorem mkArr (k : Nat) (hk : k ≤ 64) (w : World) : (Instr.makeSlice 103 (.int .i64 k) (.int .i64 k)).run Tryz.prog w =
    .ok (.slice (some ⟨w.heap.size, 0, none⟩) k k) (w.alloc (.cells (madeCells (Array.replicate 16 (.int .u8 0)) (k * 16)) 41)) := by
  obtain ⟨i0, hi, hz0, hz1, hz2⟩ := info_parts infoArr
  have := run_make (P := Tryz.prog) w 103 41 i0 _ Tryz.underlying103 hi hz0 .i64 .i64 (k : Int) (k : Int) (by omega) (by omega) (by rw [hz2]; omega) (by omega)
  rw [this, hz1]; rfl
theorem mkInt (k : Nat) (hk : k ≤ 64) (w : World) : (Instr.makeSlice 60 (.int .i64 k) (.int .i64 k)).run Tryz.prog w =
    .ok (.slice (some ⟨w.heap.size, 0, none⟩) k k) (w.alloc (.cells (madeCells #[.int .i64 0] k) 3)) := by
  obtain ⟨i0, hi, hz0, hz1, hz2⟩ := info_parts infoInt
  have := run_make (P := Tryz.prog) w 60 3 i0 _ Tryz.underlying60 hi hz0 .i64 .i64 (k : Int) (k : Int) (by omega) (by omega) (by rw [hz2]; omega) (by omega)
  rw [this, hz1, Int.toNat_natCast, Nat.mul_one]; rfl
theorem madeInt_get (k i : Nat) (h : i < k) : (madeCells #[.int .i64 0] k)[i]? = some (.int .i64 0) := by
  simp [madeCells, h, Nat.mod_one]
theorem madeArr_get (k i j : Nat) (h : i < k) (hj : j < 16) : (madeCells (Array.replicate 16 (.int .u8 0)) (k * 16))[i * 16 + j]? = some (.int .u8 0) := by
  have h1 : i * 16 + j < k * 16 := by omega
  have h2 : (i * 16 + j) % 16 < 16 := Nat.mod_lt _ (by omega)
  simp only [madeCells]
  rw [Array.getElem?_map, Array.getElem?_eq_getElem (by simpa using h1)]
  simp only [Array.getElem_range, Option.map_some, Array.size_replicate]
  rw [getElem!_pos _ _ (by simpa using h2)]
  simp

theorem fresh_rep {W : World} {w : World} (k : Nat) (h1 : 1 ≤ k) (h64 : k ≤ 64) (bb rb p : Nat) (hX : W.heap[bb]? = some (.cells (madeCells (Array.replicate 16 (.int .u8 0)) (k * 16)) 41 (0, 0)))
    (hY : W.heap[rb]? = some (.cells (madeCells #[.int .i64 0] k) 3 (0, 0)))
    (hp : W.heap[p]? = some (.cells #[.slice (some ⟨bb, 0, none⟩) k k, .slice (some ⟨rb, 0, none⟩) k k] 105 (0, 0))) : PoolRep W ⟨p, bb, rb, k, k⟩ (PoolM.fresh k) :=
  poolRep_mk (P := PoolM.fresh k) p bb rb k k _ _ hX hY hp (by rw [size_madeCells]; simp [PoolM.fresh]; omega) (fun i j hi hj => madeArr_get k i j hi hj) (by rw [size_madeCells]; exact Nat.le_refl _) (fun i hi => madeInt_get k i hi) h1 h64

set_option maxRecDepth 100000 in
set_option maxHeartbeats 400000 in
theorem new_ok (w : World) (k : Nat) (h1 : 1 ≤ k) (h2 : k ≤ 64) :
    Calls Tryz.prog 32 #[.int .i64 k] w fun e w' => ∃ h' : PoolAt, e = .returned (.tuple #[.pointer (some ⟨h'.p, 0, none⟩), .nilIface]) ∧
      PoolRep w' h' (PoolM.fresh k) ∧ Upd Non w w' ∧ w.heap.size ≤ h'.p ∧ w.heap.size ≤ h'.bb ∧ w.heap.size ≤ h'.rb := by
  have m1 := mkArr k h2
  have m2 := mkInt k h2
  have g1 : ¬ (k : Int) < 1 := by omega
  have g2 : ¬ 64 < (k : Int) := by omega
  go_enter Tryz.func32, Tryz.ntmps32
  go_wp2
  go_region
  all_goals go_wp2
  all_goals go_ret2
  all_goals first
    | exact ⟨⟨w.heap.size + 2, w.heap.size, w.heap.size + 1, k, k⟩, rfl, fresh_rep (w := w) k h1 h2 _ _ _ (heap3_0 (w := w) rfl) (heap3_1 (w := w) rfl) (heap3_2 (w := w) rfl), upd_allocs3 rfl rfl rfl rfl, Nat.le_add_right _ _, Nat.le_refl _, Nat.le_add_right _ _⟩
    | exact ⟨⟨w.heap.size + 2, w.heap.size + 1, w.heap.size, k, k⟩, rfl, fresh_rep (w := w) k h1 h2 _ _ _ (heap3_1 (w := w) rfl) (heap3_0 (w := w) rfl) (heap3_2 (w := w) rfl), upd_allocs3 rfl rfl rfl rfl, Nat.le_add_right _ _, Nat.le_add_right _ _, Nat.le_refl _⟩

set_option maxHeartbeats 400000 in
theorem new_bad (w : World) (n : Int) (h : n < 1 ∨ 64 < n) :
    Calls Tryz.prog 32 #[.int .i64 n] w fun e w' => e = .returned (.tuple #[.pointer none, errv 1]) ∧ w = w' := by
  rcases h with h | h
  · go_enter Tryz.func32, Tryz.ntmps32
    go_wp2
    go_ret2
    exact ⟨by simp [errv], rfl⟩
  · have g1 : ¬ n < 1 := by omega
    go_enter Tryz.func32, Tryz.ntmps32
    go_wp2
    go_ret2
    exact ⟨by simp [errv], rfl⟩

theorem size_any (w : World) (h : PoolAt) (P : PoolM) (r : PoolRep w h P) :
    Calls Tryz.prog 90 #[.pointer (some ⟨h.p, 0, none⟩)] w fun e w' => e = .returned (.int .i64 P.n) ∧ w = w' := by
  have c0 := r.c0
  go_enter Tryz.func90, Tryz.ntmps90
  go_wp2
  go_ret
  exact ⟨rfl, rfl⟩

/-- How many of the first k are free; the lowest free one. -/
def PoolM.leftTo (P : PoolM) (k : Nat) : Nat := (List.range k).countP fun i => P.refs i == 0
def PoolM.left (P : PoolM) : Nat := P.leftTo P.n
theorem PoolM.leftTo_succ (P : PoolM) (k : Nat) : P.leftTo (k + 1) = P.leftTo k + if P.refs k == 0 then 1 else 0 := by
  unfold PoolM.leftTo
  rw [List.range_succ, List.countP_append]
  simp
theorem PoolM.leftTo_le (P : PoolM) (k : Nat) : P.leftTo k ≤ k := by
  unfold PoolM.leftTo
  have := List.countP_le_length (p := fun i => P.refs i == 0) (l := List.range k)
  simpa using this

set_option maxHeartbeats 400000 in
theorem left_any (w : World) (h : PoolAt) (P : PoolM) (r : PoolRep w h P) :
    Calls Tryz.prog 104 #[.pointer (some ⟨h.p, 0, none⟩)] w fun e w' => e = .returned (.int .i64 P.left) ∧ w = w' := by
  have c1 := r.c1
  have n64 := r.n64
  go_enter Tryz.func104, Tryz.ntmps104
  go_wp2
  go_loop [3, 11] (fun t i => ∃ k : Nat, k ≤ P.n ∧ i = .int .i64 k ∧ t = .int .i64 (P.leftTo k)) (fun _ i => P.n - (intOf i).toNat)
  case atStart => exact ⟨0, Nat.zero_le _, rfl, rfl⟩
  case round =>
    obtain ⟨k, hk, rfl, rfl⟩ := hrel
    have hl := P.leftTo_le k
    by_cases hlt : k < P.n
    · have c2 := r.ref hlt
      by_cases hz : P.refs k = 0
      · have hs : Hid (P.leftTo (k + 1) = P.leftTo k + 1) := by have := P.leftTo_succ k; rw [hz] at this; exact this
        have hz' : (P.refs k == 0) = true := by simpa using hz
        clear hz
        go_wp2
        go_round
        case rel => exact ⟨k + 1, by omega, by go_num, by rw [hs.out]; go_num⟩
        case measure => simp [intOf]; omega
      · have hz' : (P.refs k == 0) = false := by simpa using hz
        have hs : Hid (P.leftTo (k + 1) = P.leftTo k) := by have := P.leftTo_succ k; rw [hz'] at this; exact this
        clear hz
        go_wp2
        go_round
        case rel => exact ⟨k + 1, by omega, by go_num, by rw [hs.out]⟩
        case measure => simp [intOf]; omega
    · go_wp2
      go_ret
      obtain rfl : k = P.n := by omega
      exact ⟨rfl, rfl⟩

end U
end Go.Proofs.YtnhplapcdgnaaaaGreatDoor

set_option linter.unusedVariables false
set_option linter.unusedSimpArgs false
namespace Go.Proofs.YtnhplapcdgnaaaaGreatDoor
open Go.RowKit
namespace U

def PoolM.of (P : PoolM) (f : Int) : Int × Int × Nat := if f < 0 ∨ (P.n : Int) ≤ f then (0, 0, 1) else (min (P.refs f.toNat) 2, P.refs f.toNat, 0)
def frameV (x : Int × Int × Nat) : Value := .agg #[.int .i64 x.1, .int .i64 x.2.1]

set_option maxHeartbeats 400000 in
theorem of_any (w : World) (L : PoolAt) (P : PoolM) (r : PoolRep w L P) (f : Int) :
    Calls Tryz.prog 106 #[.pointer (some ⟨L.p, 0, none⟩), .int .i64 f] w fun e w' => e = .returned (.tuple #[frameV (P.of f), errv (P.of f).2.2]) ∧ Upd Non w w' := by
  have c0 := (r.alloc (.cells #[.int .i64 0, .int .i64 0] 64)).c0
  have c1 := (r.alloc (.cells #[.int .i64 0, .int .i64 0] 64)).c1
  have n64 := r.n64
  by_cases h0 : f < 0
  · have fin : P.of f = (0, 0, 1) := by simp [PoolM.of, h0]
    have F := Lib.hid fin
    clear fin
    go_enter Tryz.func106, Tryz.ntmps106
    go_wp2
    exact bodyPost_ret (v := .tuple #[.agg #[.int .i64 0, .int .i64 0], .iface 37 (.int .i64 1)]) (by simp [results, Tryz.results106, go_sem]) rfl ⟨by rw [F.out]; rfl, (Upd.refl _ _).alloc _⟩
  · obtain ⟨k, rfl⟩ := Int.eq_ofNat_of_zero_le (by omega : 0 ≤ f)
    by_cases h1 : k < P.n
    · have c2 := (r.alloc (.cells #[.int .i64 0, .int .i64 0] 64)).ref h1
      have fin : P.of k = (min (P.refs k) 2, P.refs k, 0) := by unfold PoolM.of; rw [if_neg (by omega)]; simp
      have F := Lib.hid fin
      clear fin
      by_cases hm : P.refs k ≤ 2
      · have M := Lib.hid (show min (P.refs k) 2 = P.refs k by omega)
        go_enter Tryz.func106, Tryz.ntmps106
        go_wp2
        go_region
        all_goals go_wp2
        all_goals exact bodyPost_ret (v := .tuple #[.agg #[.int .i64 (P.refs k), .int .i64 (P.refs k)], .nilIface]) (by simp [results, Tryz.results106, go_sem]) rfl ⟨by rw [F.out, M.out]; rfl, ((Upd.refl _ _).alloc _).drew⟩
      · have M := Lib.hid (show min (P.refs k) 2 = 2 by omega)
        go_enter Tryz.func106, Tryz.ntmps106
        go_wp2
        go_region
        all_goals go_wp2
        all_goals exact bodyPost_ret (v := .tuple #[.agg #[.int .i64 2, .int .i64 (P.refs k)], .nilIface]) (by simp [results, Tryz.results106, go_sem]) rfl ⟨by rw [F.out, M.out]; rfl, ((Upd.refl _ _).alloc _).drew⟩
    · have fin : P.of k = (0, 0, 1) := by unfold PoolM.of; rw [if_pos (by omega)]
      have F := Lib.hid fin
      clear fin
      go_enter Tryz.func106, Tryz.ntmps106
      go_wp2
      exact bodyPost_ret (v := .tuple #[.agg #[.int .i64 0, .int .i64 0], .iface 37 (.int .i64 1)]) (by simp [results, Tryz.results106, go_sem]) rfl ⟨by rw [F.out]; rfl, (Upd.refl _ _).alloc _⟩

/-- The lowest free frame. -/
def PoolM.free (P : PoolM) : Option Nat := (List.range P.n).find? fun i => P.refs i == 0
def PoolM.take (P : PoolM) : PoolM × Nat × Nat :=
  match P.free with
  | some f => ((P.setRef f 1).setRow f fun _ => 0, f, 0)
  | none => (P, 0, 3)
theorem PoolM.free_some {P : PoolM} {k : Nat} (hk : k < P.n) (hz : P.refs k = 0) (hb : ∀ j, j < k → P.refs j ≠ 0) : P.free = some k := by
  unfold PoolM.free
  rw [List.find?_range_eq_some]
  exact ⟨by simpa using hz, by simpa using hk, fun j hj => by simpa using hb j hj⟩
theorem PoolM.free_none {P : PoolM} (hb : ∀ j, j < P.n → P.refs j ≠ 0) : P.free = none := by
  unfold PoolM.free
  simp only [List.find?_eq_none, List.mem_range]
  intro j hj
  simpa using hb j hj

theorem info8 : (Tryz.prog.info? 5).map (fun i => (i.zero, i.size, i.bytes)) = some (some (.int .u8 0), 1, 1) := by kernel_rfl
theorem zero8 (w : World) : (zeroValue 5).run Tryz.prog w = .ok (.int .u8 0) w := by kernel_rfl
theorem rowL_zero : List.replicate 16 (Value.int .u8 0) = rowL fun _ => 0 := rfl
theorem PoolRep.clear16 {w : World} {L : PoolAt} {P : PoolM} (r : PoolRep w L P) {i : Nat} (hi : i < P.n) (ty : TypeId) (c : Nat) :
    (Builtin.clear_ #[96] ty #[.slice (some ⟨L.bb, i * 16, none⟩) 16 c]).run Tryz.prog w = .ok (.tuple #[]) (w.setCells L.bb (i * 16) (rowL fun _ => 0)) := by
  obtain ⟨N, cc, hB, hN, hc⟩ := r.bytes
  rw [Lib.run_clear_slice w 96 5 ty (.int .u8 0) Tryz.underlying96 zero8 rfl rfl L.bb (i * 16) 16 c (by omega)
    (fun j hj => by rw [hB.cell (by omega)]; rfl) (fun j hj => hB.frozen _), rowL_zero]
theorem wpl_clear {P : Program} {ops : Array Oper} {rest : List Oper} {o : Oper} {a : Act} {w w' : World} {Q : Exit → Act → World → Prop} (hg : o.guard = none) (t : TypeId) (x : Operand)
    (ho : o.op = .call { callee := .builtin .clear, args := #[x], argTypes := #[t] }) (v r : Value) (hx : a.eval x = v) (hl : (Builtin.clear_ #[t] o.type #[v]).run P w = .ok r w')
    (h : wpList P ops Q rest (a.put o.dst r) w') : wpList P ops Q (o :: rest) a w := by
  refine wpList_plain hg fun K hK => ?_
  unfold Oper.wp
  simp [execOp, ho, resolve, invoke, builtin, hx, hl, Result.andThen]
  exact hK _ _ h

set_option maxRecDepth 100000 in
set_option maxHeartbeats 400000 in
theorem take_any (w : World) (L : PoolAt) (P : PoolM) (r : PoolRep w L P) :
    Calls Tryz.prog 177 #[.pointer (some ⟨L.p, 0, none⟩)] w fun e w' => e = .returned (.tuple #[.int .i64 P.take.2.1, errv P.take.2.2]) ∧ PoolRep w' L P.take.1 ∧ Upd L.own w w' := by
  have c0 := r.c0
  have c1 := r.c1
  have n64 := r.n64
  go_enter Tryz.func177, Tryz.ntmps177
  go_wp2
  go_loop [11] (fun i => ∃ k : Nat, k ≤ P.n ∧ i = .int .i64 k ∧ Hid (∀ j, j < k → P.refs j ≠ 0)) (fun i => P.n - (intOf i).toNat)
  case atStart => exact ⟨0, Nat.zero_le _, rfl, fun j hj => by omega⟩
  case round =>
    obtain ⟨k, hk, rfl, hb⟩ := hrel
    by_cases hlt : k < P.n
    · have c2 := r.ref hlt
      have f2 := r.frb k
      by_cases hz : P.refs k = 0
      · have fin : P.take = ((P.setRef k 1).setRow k fun _ => 0, k, 0) := by unfold PoolM.take; rw [PoolM.free_some hlt hz hb.out]
        have F := Lib.hid fin
        clear fin
        have hz' : (P.refs k == 0) = true := by simpa using hz
        have r1 := r.setRef (v := 1) hlt
        have c0' : (w.setCell ⟨L.rb, k, none⟩ (.int .i64 1)).cell? ⟨L.p, 0, none⟩ = some (.slice (some ⟨L.bb, 0, none⟩) P.n L.cb) := r1.c0
        have cl := r1.clear16 hlt
        clear hz
        go_wp2_with (refine wpl_clear rfl _ _ rfl _ _ rfl (cl _ _) ?_)
        go_ret2
        rw [F.out]
        exact ⟨rfl, r1.setRow hlt (rowL_length _) (fun j hj => rowL_get _ hj), ((Upd.refl _ _).setCell (p := ⟨L.rb, k, none⟩) (fun _ => .inr rfl) _).setCells (fun _ => .inl rfl) _ _ _⟩
      · have hz' : (P.refs k == 0) = false := by simpa using hz
        have hb' : Hid (∀ j, j < k + 1 → P.refs j ≠ 0) := fun j hj => by
          rcases Nat.lt_succ_iff_lt_or_eq.1 hj with h | rfl
          · exact hb.out j h
          · exact hz
        clear hz
        go_wp2
        go_round
        case rel => exact ⟨k + 1, by omega, by go_num, hb'⟩
        case measure => simp [intOf]; omega
    · go_wp2
      go_ret2
      obtain rfl : k = P.n := by omega
      have fin : P.take = (P, 0, 3) := by unfold PoolM.take; rw [PoolM.free_none hb.out]
      rw [fin]
      exact ⟨rfl, r, Upd.refl _ _⟩

end U
end Go.Proofs.YtnhplapcdgnaaaaGreatDoor

set_option linter.unusedVariables false
set_option linter.unusedSimpArgs false
namespace Go.Proofs.YtnhplapcdgnaaaaGreatDoor
open Go.RowKit
namespace U

theorem part8 (R : Nat → UInt8) {k : Nat} (hk : k < 16) (w : World) : (Instr.index 41 (.agg (rowL R).toArray) (.int .i64 k)).run Tryz.prog w = .ok (.int .u8 (R k).toNat) w := by
  have hg : (rowL R)[k]? = some (.int .u8 (R k).toNat) := rowL_get R hk
  have hp : (part 5 (rowL R).toArray (k * 1)).run Tryz.prog w = .ok (.int .u8 (R k).toNat) w := by
    simp [part, isAgg, run_underlying Tryz.underlying5, hg]
  have hs : (sizeOf 5).run Tryz.prog w = .ok 1 w := by kernel_rfl
  rw [Nat.mul_one] at hp
  simp [Instr.index, run_underlying Tryz.underlying41, asIntOf, hs, hp, hk]

def sumTo (R : Nat → UInt8) : Nat → Int
  | 0 => 2166136261
  | k + 1 => bits BinOp.xor IntKind.u32 (sumTo R k) (((R k).toNat : Int) % 4294967296) * 16777619 % 4294967296
def PoolM.sum (P : PoolM) (f : Int) : Int × Nat := if P.used f then (sumTo (P.b f.toNat) 16, 0) else (0, 2)

end U
end Go.Proofs.YtnhplapcdgnaaaaGreatDoor
