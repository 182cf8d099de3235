import Derived.Test.YtnhplapcdgnaaaaProg
import Derived.Test.YtnhplapcdgnaaaaMem
import Derived.WalkKit
import Derived.WalkSpells
import Derived.WalkLawsBesides
import Derived.Deep.QuietTactic
import Derived.BigQuiet
import Derived.RegionTactic
import Derived.BigRegion
import Derived.StillTailTactics
import Derived.Lib.SliceRun
import Derived.Laws.MakeOwn
import Derived.Stop.BytesEq
set_option linter.unusedVariables false
set_option linter.unusedSimpArgs false
namespace Go.Proofs.Ytnhplapcdgnaaaa
open Go.RowKit
namespace U

/-- An error's number as the value of Go's error (0: none). -/
def errv (k : Nat) : Value := if k = 0 then .nilIface else .iface 130 (.int .i64 k)

structure PoolM where
  n : Nat
  b : Nat → Nat → UInt8
  refs : Nat → Int

namespace PoolM
def used (P : PoolM) (f : Int) : Bool := decide (0 ≤ f) && (decide (f < P.n) && decide (0 < P.refs f.toNat))
def setRef (P : PoolM) (i : Nat) (v : Int) : PoolM := { P with refs := fun j => if j = i then v else P.refs j }
def setRow (P : PoolM) (i : Nat) (r : Nat → UInt8) : PoolM := { P with b := fun k j => if k = i then r j else P.b k j }
def setByte (P : PoolM) (i k : Nat) (v : UInt8) : PoolM := P.setRow i fun j => if j = k then v else P.b i j
def get (P : PoolM) (f at_ : Int) : UInt8 × Nat := if at_ < 0 ∨ 16 ≤ at_ then (0, 1) else if P.used f then (P.b f.toNat at_.toNat, 0) else (0, 2)
def set (P : PoolM) (f at_ : Int) (v : UInt8) : PoolM × Nat :=
  if at_ < 0 ∨ 16 ≤ at_ then (P, 1) else if P.used f then (if 1 < P.refs f.toNat then (P, 4) else (P.setByte f.toNat at_.toNat v, 0)) else (P, 2)
def share (P : PoolM) (f : Int) (by_ : Int) : PoolM × Nat := if P.used f then (P.setRef f.toNat (wrap64 (P.refs f.toNat + by_)), 0) else (P, 2)
def fill (P : PoolM) (f g : Int) : PoolM × Nat :=
  if P.used f && P.used g then (if 1 < P.refs f.toNat then (P, 4) else (P.setRow f.toNat (P.b g.toNat), 0)) else (P, 2)
end PoolM

/-- Where a pool lies: its struct's block; the blocks of its bytes and of its counts, and their capacities. -/
structure PoolAt where
  p : Nat
  bb : Nat
  rb : Nat
  cb : Nat
  cr : Nat

structure PoolRep (w : World) (h : PoolAt) (P : PoolM) : Prop where
  st : Row w h.p 134 2 (fun i => if i = 0 then .slice (some ⟨h.bb, 0, none⟩) P.n h.cb else .slice (some ⟨h.rb, 0, none⟩) P.n h.cr)
  bytes : ∃ (N : Nat) (c : Nat → Value), Row w h.bb 59 N c ∧ 16 * P.n ≤ N ∧ ∀ i j, i < P.n → j < 16 → c (i * 16 + j) = .int .u8 (P.b i j).toNat
  counts : ∃ (N : Nat) (c : Nat → Value), Row w h.rb 3 N c ∧ P.n ≤ N ∧ ∀ i, i < P.n → c i = .int .i64 (P.refs i)
  n1 : 1 ≤ P.n
  n64 : P.n ≤ 64

section
variable {w : World} {h : PoolAt} {P : PoolM}
theorem PoolRep.c0 (r : PoolRep w h P) : w.cell? ⟨h.p, 0, none⟩ = some (.slice (some ⟨h.bb, 0, none⟩) P.n h.cb) := r.st.cell (i := 0) (by omega)
theorem PoolRep.c1 (r : PoolRep w h P) : w.cell? ⟨h.p, 1, none⟩ = some (.slice (some ⟨h.rb, 0, none⟩) P.n h.cr) := r.st.cell (i := 1) (by omega)
theorem PoolRep.ref (r : PoolRep w h P) {i : Nat} (hi : i < P.n) : w.cell? ⟨h.rb, i, none⟩ = some (.int .i64 (P.refs i)) := by
  obtain ⟨N, c, hR, hN, hc⟩ := r.counts
  rw [hR.cell (by omega), hc i hi]
theorem PoolRep.byte (r : PoolRep w h P) {i j : Nat} (hi : i < P.n) (hj : j < 16) : w.cell? ⟨h.bb, i * 16 + j, none⟩ = some (.int .u8 (P.b i j).toNat) := by
  obtain ⟨N, c, hR, hN, hc⟩ := r.bytes
  rw [hR.cell (by omega), hc i j hi hj]
theorem PoolRep.frb (r : PoolRep w h P) (i : Nat) : w.frozen? ⟨h.rb, i, none⟩ = false := by
  obtain ⟨N, c, hR, hN, hc⟩ := r.counts
  exact hR.frozen i
theorem PoolRep.fbb (r : PoolRep w h P) (i : Nat) : w.frozen? ⟨h.bb, i, none⟩ = false := by
  obtain ⟨N, c, hR, hN, hc⟩ := r.bytes
  exact hR.frozen i
theorem PoolRep.drewN (r : PoolRep w h P) (n : Nat) : PoolRep (w.drewN n) h P := ⟨r.st, r.bytes, r.counts, r.n1, r.n64⟩
theorem PoolRep.drew (r : PoolRep w h P) : PoolRep w.drew h P := ⟨r.st, r.bytes, r.counts, r.n1, r.n64⟩
end

/-! ### what a store does to a pool -/
def PoolAt.own (h : PoolAt) : Nat → Prop := fun k => k = h.bb ∨ k = h.rb
/-- Sixteen bytes, and as values. -/
def rowB (R : Nat → UInt8) : List UInt8 := (List.range 16).map R
def rowL (R : Nat → UInt8) : List Value := (rowB R).map Extern.Stop.cell
theorem rowB_length (R : Nat → UInt8) : (rowB R).length = 16 := by simp [rowB]
theorem eql16 (R S : Nat → UInt8) (w : World) : (binOp .eql 59 (.agg (rowL R).toArray) (.agg (rowL S).toArray)).run Try.prog w = .ok (.bool (rowB R == rowB S)) w :=
  run_eql_bytes w 59 5 16 Try.underlying59 Try.underlying5 (fun _ => by kernel_rfl) _ _ (rowB_length R) (rowB_length S)
def PoolM.same (P : PoolM) (f g : Int) : Bool := P.used f && (P.used g && rowB (P.b f.toNat) == rowB (P.b g.toNat))
section
variable {w w' : World} {h : PoolAt} {P : PoolM}
theorem PoolRep.bb_rb (r : PoolRep w h P) : h.bb ≠ h.rb := by
  obtain ⟨_, _, hB, _⟩ := r.bytes
  obtain ⟨_, _, hR, _⟩ := r.counts
  exact hB.ne_ hR (by decide)
theorem PoolRep.p_bb (r : PoolRep w h P) : h.p ≠ h.bb := by
  obtain ⟨_, _, hB, _⟩ := r.bytes
  exact r.st.ne_ hB (by decide)
theorem PoolRep.p_rb (r : PoolRep w h P) : h.p ≠ h.rb := by
  obtain ⟨_, _, hB, _⟩ := r.counts
  exact r.st.ne_ hB (by decide)
theorem PoolRep.setRef (r : PoolRep w h P) {i : Nat} {v : Int} (hi : i < P.n) : PoolRep (w.setCell ⟨h.rb, i, none⟩ (.int .i64 v)) h (P.setRef i v) := by
  obtain ⟨N, c, hB, hN, hc⟩ := r.bytes
  obtain ⟨M, d, hR, hM, hd⟩ := r.counts
  refine ⟨r.st.far (p := ⟨h.rb, i, none⟩) r.p_rb _, ⟨N, c, hB.far (p := ⟨h.rb, i, none⟩) r.bb_rb _, hN, hc⟩, ⟨M, _, hR.set_ _, hM, fun j hj => ?_⟩, r.n1, r.n64⟩
  unfold upd PoolM.setRef
  by_cases h : j = i <;> simp [h, hd j hj]
theorem PoolRep.setByte (r : PoolRep w h P) {i k : Nat} {v : UInt8} (hi : i < P.n) (hk : k < 16) : PoolRep (w.setCell ⟨h.bb, i * 16 + k, none⟩ (.int .u8 v.toNat)) h (P.setByte i k v) := by
  obtain ⟨N, c, hB, hN, hc⟩ := r.bytes
  obtain ⟨M, d, hR, hM, hd⟩ := r.counts
  refine ⟨r.st.far (p := ⟨h.bb, _, none⟩) r.p_bb _, ⟨N, _, hB.set_ _, hN, fun a j ha hj => ?_⟩, ⟨M, d, hR.far (p := ⟨h.bb, _, none⟩) r.bb_rb.symm _, hM, hd⟩, r.n1, r.n64⟩
  unfold upd PoolM.setByte PoolM.setRow
  by_cases e : a = i
  · subst e
    by_cases e2 : j = k
    · subst e2; simp
    · rw [if_neg (by omega)]; simp [e2, hc a j ha hj]
  · rw [if_neg (by omega)]; simp [e, hc a j ha hj]
theorem PoolRep.setRow (r : PoolRep w h P) {i : Nat} {R : Nat → UInt8} {vs : List Value} (hi : i < P.n) (hl : vs.length = 16) (hv : ∀ j, j < 16 → vs[j]? = some (.int .u8 (R j).toNat)) :
    PoolRep (w.setCells h.bb (i * 16) vs) h (P.setRow i R) := by
  obtain ⟨N, c, hB, hN, hc⟩ := r.bytes
  obtain ⟨M, d, hR, hM, hd⟩ := r.counts
  refine ⟨r.st.farCells r.p_bb _ _, ⟨N, _, Row.setCells vs (i * 16) _ _ hB, hN, fun a j ha hj => ?_⟩, ⟨M, d, hR.farCells r.bb_rb.symm _ _, hM, hd⟩, r.n1, r.n64⟩
  unfold updL PoolM.setRow
  by_cases e : a = i
  · subst e
    rw [if_pos (by omega), show a * 16 + j - a * 16 = j from by omega]
    simp [hv j hj]
  · rw [if_neg (by omega)]; simp [e, hc a j ha hj]
theorem PoolRep.upd_ {S : Nat → Prop} (r : PoolRep w h P) (hu : Upd S w w') (h1 : ¬ S h.p) (h2 : ¬ S h.bb) (h3 : ¬ S h.rb) : PoolRep w' h P := by
  obtain ⟨N, c, hB, hN, hc⟩ := r.bytes
  obtain ⟨M, d, hR, hM, hd⟩ := r.counts
  exact ⟨r.st.upd_ hu h1, ⟨N, c, hB.upd_ hu h2, hN, hc⟩, ⟨M, d, hR.upd_ hu h3, hM, hd⟩, r.n1, r.n64⟩
theorem rowL_length (R : Nat → UInt8) : (rowL R).length = 16 := by simp [rowL, rowB]
theorem rowL_get (R : Nat → UInt8) {j : Nat} (hj : j < 16) : (rowL R)[j]? = some (.int .u8 (R j).toNat) := by simp [rowL, rowB, hj, Extern.Stop.cell]
theorem PoolRep.load16 (r : PoolRep w h P) {i : Nat} (hi : i < P.n) :
    (Instr.loadAt 59 (.pointer (some ⟨h.bb, i * 16, none⟩))).run Try.prog w = .ok (.agg (rowL (P.b i)).toArray) w := by
  obtain ⟨N, c, hB, hN, hc⟩ := r.bytes
  rw [load_row (P := Try.prog) hB 59 (i * 16) 16 (.array 16 5) (by omega) Try.underlying59 rfl (by kernel_rfl)]
  have e : seg c (i * 16) 16 = rowL (P.b i) := by
    unfold seg rowL rowB
    rw [List.map_map]
    exact List.map_congr_left fun j hj => hc i j hi (by simpa using hj)
  rw [e]
theorem PoolRep.store16 (r : PoolRep w h P) {i : Nat} (hi : i < P.n) (R : Nat → UInt8) :
    (Instr.storeAt 59 (.pointer (some ⟨h.bb, i * 16, none⟩)) (.agg (rowL R).toArray)).run Try.prog w = .ok () (w.setCells h.bb (i * 16) (rowL R)) := by
  obtain ⟨N, c, hB, hN, hc⟩ := r.bytes
  refine store_row (P := Try.prog) hB 59 (i * 16) (rowL R) (by rw [rowL_length]; omega) (by rw [rowL_length]; kernel_rfl) ?_
  intro v hv
  simp only [rowL, rowB, List.map_map, List.mem_map] at hv
  obtain ⟨_, _, rfl⟩ := hv
  rfl
end

set_option maxHeartbeats 400000 in
theorem used_any (w : World) (h : PoolAt) (P : PoolM) (r : PoolRep w h P) (f : Int) :
    Calls Try.prog 79 #[.pointer (some ⟨h.p, 0, none⟩), .int .i64 f] w fun e w' => e = .returned (.bool (P.used f)) ∧ w = w' := by
  have c0 := r.c0
  have c1 := r.c1
  have n64 := r.n64
  by_cases h0 : 0 ≤ f
  · obtain ⟨k, rfl⟩ := Int.eq_ofNat_of_zero_le h0
    by_cases h1 : k < P.n
    · have c2 := r.ref h1
      go_enter Try.func79, Try.ntmps79
      go_wp2
      go_ret
      exact ⟨by simp [PoolM.used, h1], rfl⟩
    · go_enter Try.func79, Try.ntmps79
      go_wp2
      go_ret
      exact ⟨by simp [PoolM.used]; omega, rfl⟩
  · go_enter Try.func79, Try.ntmps79
    go_wp2
    go_ret
    exact ⟨by simp [PoolM.used]; omega, rfl⟩

theorem used_is (w : World) (h : PoolAt) (P : PoolM) (r : PoolRep w h P) (f : Int) {b : Bool} (hb : P.used f = b) :
    Calls Try.prog 79 #[.pointer (some ⟨h.p, 0, none⟩), .int .i64 f] w fun e w' => e = .returned (.bool b) ∧ w = w' := hb ▸ used_any w h P r f

set_option maxHeartbeats 400000 in
theorem get_any (w : World) (h : PoolAt) (P : PoolM) (r : PoolRep w h P) (f at_ : Int) :
    Calls Try.prog 35 #[.pointer (some ⟨h.p, 0, none⟩), .int .i64 f, .int .i64 at_] w fun e w' =>
      e = .returned (.tuple #[.int .u8 (P.get f at_).1.toNat, errv (P.get f at_).2]) ∧ w = w' := by
  have c0 := r.c0
  have c1 := r.c1
  have n64 := r.n64
  by_cases h0 : at_ < 0 
  · go_enter Try.func35, Try.ntmps35
    go_wp2
    go_ret2
    exact ⟨by simp [PoolM.get, errv, h0], rfl⟩
  · by_cases h1 : 16 ≤ at_
    · go_enter Try.func35, Try.ntmps35
      go_wp2
      go_ret2
      exact ⟨by simp [PoolM.get, errv, h1], rfl⟩
    · have hg : ¬ (at_ < 0 ∨ 16 ≤ at_) := by omega
      by_cases hu : P.used f = true
      · obtain ⟨k, rfl⟩ := Int.eq_ofNat_of_zero_le (by simp [PoolM.used] at hu; omega : 0 ≤ f)
        obtain ⟨j, rfl⟩ := Int.eq_ofNat_of_zero_le (by omega : 0 ≤ at_)
        have hk : k < P.n := by simp [PoolM.used] at hu; omega
        have hj : j < 16 := by omega
        have c2 := r.byte hk hj
        have fin : P.get k j = (P.b k j, 0) := by simp only [PoolM.get, if_neg hg, hu, if_true]; simp
        clear hg
        go_enter Try.func35, Try.ntmps35
        go_wp2_with (go_at_call 79; refine (used_any _ _ _ r _).mono ?_; rintro e w' ⟨rfl, rfl⟩)
        go_ret2
        exact ⟨by simp [fin, errv], rfl⟩
      · have hu' : P.used f = false := by simpa using hu
        have fin : P.get f at_ = (0, 2) := by simp only [PoolM.get, if_neg hg, hu']; simp
        clear hg
        go_enter Try.func35, Try.ntmps35
        go_wp2_with (go_at_call 79; refine (used_any _ _ _ r _).mono ?_; rintro e w' ⟨rfl, rfl⟩)
        go_ret2
        exact ⟨by simp [fin, errv], rfl⟩

set_option maxHeartbeats 400000 in
theorem set_any (w : World) (h : PoolAt) (P : PoolM) (r : PoolRep w h P) (f at_ : Int) (v : UInt8) :
    Calls Try.prog 37 #[.pointer (some ⟨h.p, 0, none⟩), .int .i64 f, .int .i64 at_, .int .u8 v.toNat] w fun e w' =>
      e = .returned (errv (P.set f at_ v).2) ∧ PoolRep w' h (P.set f at_ v).1 ∧ Upd h.own w w' := by
  have c0 := r.c0
  have c1 := r.c1
  have n64 := r.n64
  by_cases h0 : at_ < 0 
  · go_enter Try.func37, Try.ntmps37
    go_wp2
    go_ret
    have fin : P.set f at_ v = (P, 1) := by simp [PoolM.set, h0]
    exact ⟨by simp [fin, errv], by rw [fin]; exact r, Upd.refl _ _⟩
  · by_cases h1 : 16 ≤ at_
    · go_enter Try.func37, Try.ntmps37
      go_wp2
      go_ret
      have fin : P.set f at_ v = (P, 1) := by simp [PoolM.set, h1]
      exact ⟨by simp [fin, errv], by rw [fin]; exact r, Upd.refl _ _⟩
    · have hg : ¬ (at_ < 0 ∨ 16 ≤ at_) := by omega
      by_cases hu : P.used f = true
      · obtain ⟨k, rfl⟩ := Int.eq_ofNat_of_zero_le (by simp [PoolM.used] at hu; omega : 0 ≤ f)
        obtain ⟨j, rfl⟩ := Int.eq_ofNat_of_zero_le (by omega : 0 ≤ at_)
        have hk : k < P.n := by simp [PoolM.used] at hu; omega
        have hj : j < 16 := by omega
        have c2 := r.byte hk hj
        have c3 := r.ref hk
        have f2 := r.fbb (k * 16 + j)
        have fin0 : P.set k j v = (if 1 < P.refs k then (P, 4) else (P.setByte k j v, 0)) := by simp only [PoolM.set, if_neg hg, hu, if_true]; simp
        clear hg
        by_cases hr : 1 < P.refs k
        · have fin : P.set k j v = (P, 4) := by rw [fin0, if_pos hr]
          clear fin0
          go_enter Try.func37, Try.ntmps37
          go_wp2_with (go_at_call 79; refine (used_any _ _ _ r _).mono ?_; rintro e w' ⟨rfl, rfl⟩)
          go_ret
          exact ⟨by simp [fin, errv], by rw [fin]; exact r, Upd.refl _ _⟩
        · have fin : P.set k j v = (P.setByte k j v, 0) := by rw [fin0, if_neg hr]
          clear fin0
          go_enter Try.func37, Try.ntmps37
          go_wp2_with (go_at_call 79; refine (used_any _ _ _ r _).mono ?_; rintro e w' ⟨rfl, rfl⟩)
          go_ret
          exact ⟨by simp [fin, errv], by rw [fin]; exact r.setByte hk hj, (Upd.refl _ _).setCell (p := ⟨h.bb, _, none⟩) (fun _ => .inl rfl) _⟩
      · have hu' : P.used f = false := by simpa using hu
        have fin : P.set f at_ v = (P, 2) := by simp only [PoolM.set, if_neg hg, hu']; simp
        clear hg
        go_enter Try.func37, Try.ntmps37
        go_wp2_with (go_at_call 79; refine (used_any _ _ _ r _).mono ?_; rintro e w' ⟨rfl, rfl⟩)
        go_ret
        exact ⟨by simp [fin, errv], by rw [fin]; exact r, Upd.refl _ _⟩

set_option maxHeartbeats 400000 in
theorem share_any (w : World) (h : PoolAt) (P : PoolM) (r : PoolRep w h P) (f : Int) :
    Calls Try.prog 32 #[.pointer (some ⟨h.p, 0, none⟩), .int .i64 f] w fun e w' =>
      e = .returned (errv (P.share f 1).2) ∧ PoolRep w' h (P.share f 1).1 ∧ Upd h.own w w' := by
  have c0 := r.c0
  have c1 := r.c1
  have n64 := r.n64
  by_cases hu : P.used f = true
  · obtain ⟨k, rfl⟩ := Int.eq_ofNat_of_zero_le (by simp [PoolM.used] at hu; omega : 0 ≤ f)
    have hk : k < P.n := by simp [PoolM.used] at hu; omega
    have c3 := r.ref hk
    have f2 := r.frb k
    have fin : P.share k 1 = (P.setRef k (wrap64 (P.refs k + 1)), 0) := by simp only [PoolM.share, hu, if_true]; simp
    go_enter Try.func32, Try.ntmps32
    go_wp2_with (go_at_call 79; refine (used_any _ _ _ r _).mono ?_; rintro e w' ⟨rfl, rfl⟩)
    go_ret
    exact ⟨by simp [fin, errv], by rw [fin]; exact r.setRef hk, (Upd.refl _ _).setCell (p := ⟨h.rb, _, none⟩) (fun _ => .inr rfl) _⟩
  · have hu' : P.used f = false := by simpa using hu
    have fin : P.share f 1 = (P, 2) := by simp only [PoolM.share, hu']; simp
    go_enter Try.func32, Try.ntmps32
    go_wp2_with (go_at_call 79; refine (used_any _ _ _ r _).mono ?_; rintro e w' ⟨rfl, rfl⟩)
    go_ret
    exact ⟨by simp [fin, errv], by rw [fin]; exact r, Upd.refl _ _⟩

set_option maxHeartbeats 400000 in
theorem drop_any (w : World) (h : PoolAt) (P : PoolM) (r : PoolRep w h P) (f : Int) :
    Calls Try.prog 34 #[.pointer (some ⟨h.p, 0, none⟩), .int .i64 f] w fun e w' =>
      e = .returned (errv (P.share f (-1)).2) ∧ PoolRep w' h (P.share f (-1)).1 ∧ Upd h.own w w' := by
  have c0 := r.c0
  have c1 := r.c1
  have n64 := r.n64
  by_cases hu : P.used f = true
  · obtain ⟨k, rfl⟩ := Int.eq_ofNat_of_zero_le (by simp [PoolM.used] at hu; omega : 0 ≤ f)
    have hk : k < P.n := by simp [PoolM.used] at hu; omega
    have c3 := r.ref hk
    have f2 := r.frb k
    have fin : P.share k (-1) = (P.setRef k (wrap64 (P.refs k - 1)), 0) := by simp only [PoolM.share, hu, if_true]; simp [Int.sub_eq_add_neg]
    go_enter Try.func34, Try.ntmps34
    go_wp2_with (go_at_call 79; refine (used_any _ _ _ r _).mono ?_; rintro e w' ⟨rfl, rfl⟩)
    go_ret
    exact ⟨by simp [fin, errv], by rw [fin]; exact r.setRef hk, (Upd.refl _ _).setCell (p := ⟨h.rb, _, none⟩) (fun _ => .inr rfl) _⟩
  · have hu' : P.used f = false := by simpa using hu
    have fin : P.share f (-1) = (P, 2) := by simp only [PoolM.share, hu']; simp
    go_enter Try.func34, Try.ntmps34
    go_wp2_with (go_at_call 79; refine (used_any _ _ _ r _).mono ?_; rintro e w' ⟨rfl, rfl⟩)
    go_ret
    exact ⟨by simp [fin, errv], by rw [fin]; exact r, Upd.refl _ _⟩

set_option maxRecDepth 100000 in
set_option maxHeartbeats 400000 in
theorem fill_any (w : World) (h : PoolAt) (P : PoolM) (r : PoolRep w h P) (f g : Int) :
    Calls Try.prog 39 #[.pointer (some ⟨h.p, 0, none⟩), .int .i64 f, .int .i64 g] w fun e w' =>
      e = .returned (errv (P.fill f g).2) ∧ PoolRep w' h (P.fill f g).1 ∧ Upd h.own w w' := by
  have c0 := r.c0
  have c1 := r.c1
  have n64 := r.n64
  by_cases hu : P.used f = true
  · by_cases hv : P.used g = true
    · obtain ⟨k, rfl⟩ := Int.eq_ofNat_of_zero_le (by simp [PoolM.used] at hu; omega : 0 ≤ f)
      obtain ⟨j, rfl⟩ := Int.eq_ofNat_of_zero_le (by simp [PoolM.used] at hv; omega : 0 ≤ g)
      have hk : k < P.n := by simp [PoolM.used] at hu; omega
      have hj : j < P.n := by simp [PoolM.used] at hv; omega
      have c3 := r.ref hk
      have fin0 : P.fill k j = (if 1 < P.refs k then (P, 4) else (P.setRow k (P.b j), 0)) := by simp only [PoolM.fill, hu, hv, Bool.and_self, if_true]; simp
      by_cases hr : 1 < P.refs k
      · have fin : P.fill k j = (P, 4) := by rw [fin0, if_pos hr]
        clear fin0
        go_enter Try.func39, Try.ntmps39
        go_wp2_with (go_at_call 79; refine (used_any _ _ _ r _).mono ?_; rintro e w' ⟨rfl, rfl⟩)
        go_ret
        exact ⟨by simp [fin, errv], by rw [fin]; exact r, Upd.refl _ _⟩
      · have fin : P.fill k j = (P.setRow k (P.b j), 0) := by rw [fin0, if_neg hr]
        clear fin0
        have ld := r.drew.load16 hj
        have st := r.drew.store16 hk (P.b j)
        go_enter Try.func39, Try.ntmps39
        go_wp2_with (go_at_call 79; refine (used_any _ _ _ r _).mono ?_; rintro e w' ⟨rfl, rfl⟩)
        refine wp_region_still_tail 13 (by kernel_rfl) (by kernel_rfl) ?_
        simp only [List.take_succ_cons, List.take_zero, List.drop_succ_cons, List.drop_zero]
        repeat (first | (refine still_load rfl 59 _ rfl _ _ rfl ld ?_) | still_step)
        refine wpStill_nil ?_
        go_wp2_with (refine wpl_store rfl 59 _ _ rfl _ _ rfl rfl st ?_)
        go_ret
        exact ⟨by simp [fin, errv], by rw [fin]; exact r.drew.setRow hk (rowL_length _) (fun j hj => rowL_get _ hj), ((Upd.refl _ _).drew).setCells (fun _ => .inl rfl) _ _ _⟩
    · have hv' : P.used g = false := by simpa using hv
      have fin : P.fill f g = (P, 2) := by simp only [PoolM.fill, hv']; simp
      go_enter Try.func39, Try.ntmps39
      go_wp2_with (go_at_call 79; refine (used_any _ _ _ r _).mono ?_; rintro e w' ⟨rfl, rfl⟩)
      go_ret
      exact ⟨by simp [fin, errv], by rw [fin]; exact r, Upd.refl _ _⟩
  · have hu' : P.used f = false := by simpa using hu
    have fin : P.fill f g = (P, 2) := by simp only [PoolM.fill, hu']; simp
    go_enter Try.func39, Try.ntmps39
    go_wp2_with (go_at_call 79; refine (used_any _ _ _ r _).mono ?_; rintro e w' ⟨rfl, rfl⟩)
    go_ret
    exact ⟨by simp [fin, errv], by rw [fin]; exact r, Upd.refl _ _⟩

set_option maxRecDepth 100000 in
set_option maxHeartbeats 400000 in
theorem same_any (w : World) (h : PoolAt) (P : PoolM) (r : PoolRep w h P) (f g : Int) :
    Calls Try.prog 41 #[.pointer (some ⟨h.p, 0, none⟩), .int .i64 f, .int .i64 g] w fun e w' =>
      e = .returned (.bool (P.same f g)) ∧ ∃ n, w' = w.drewN n := by
  have c0 := r.c0
  have c1 := r.c1
  have n64 := r.n64
  by_cases hu : P.used f = true
  · by_cases hv : P.used g = true
    · obtain ⟨k, rfl⟩ := Int.eq_ofNat_of_zero_le (by simp [PoolM.used] at hu; omega : 0 ≤ f)
      obtain ⟨j, rfl⟩ := Int.eq_ofNat_of_zero_le (by simp [PoolM.used] at hv; omega : 0 ≤ g)
      have hk : k < P.n := by simp [PoolM.used] at hu; omega
      have hj : j < P.n := by simp [PoolM.used] at hv; omega
      have ld1 : ∀ w', (∃ n, w' = w.drewN n) → _ := fun w' ⟨n, e⟩ => e ▸ (r.drewN n).load16 hk
      have ld2 : ∀ w', (∃ n, w' = w.drewN n) → _ := fun w' ⟨n, e⟩ => e ▸ (r.drewN n).load16 hj
      have heq := eql16 (P.b k) (P.b j)
      go_enter Try.func41, Try.ntmps41
      go_wp2_with fail
      refine wp_region_quiet_lit (by kernel_rfl) (by kernel_rfl) ?_
      repeat (first | go_big_quiet_skip | (go_big_quiet_want; first | (refine quiet_load 59 _ rfl _ _ rfl ld1 ?_; simp only [Act.put, List.setIfInBounds_toArray, List.set_cons_succ, List.set_cons_zero]; go_big_quiet_on) | (refine quiet_load 59 _ rfl _ _ rfl ld2 ?_; simp only [Act.put, List.setIfInBounds_toArray, List.set_cons_succ, List.set_cons_zero]; go_big_quiet_on) | (go_big_quiet_op; first | go_big_quiet_on | go_big_quiet_call (first | exact quiet_same (used_is _ _ _ (r.drewN _) _ hu) | exact quiet_same (used_is _ _ _ (r.drewN _) _ hv)))))
      refine wpQuiet_nil ?_
      intro _ hw'
      obtain ⟨nq, hw''⟩ := hw'
      subst hw''
      go_wp2
      go_ret
      exact ⟨by simp [PoolM.same, hu, hv], _, rfl⟩
    · have hv' : P.used g = false := by simpa using hv
      go_enter Try.func41, Try.ntmps41
      go_wp2_with fail
      go_quiet (first | exact quiet_same (used_is _ _ _ (r.drewN _) _ hu) | exact quiet_same (used_is _ _ _ (r.drewN _) _ hv'))
      go_wp2
      go_ret
      exact ⟨by simp [PoolM.same, hv'], _, rfl⟩
  · have hu' : P.used f = false := by simpa using hu
    go_enter Try.func41, Try.ntmps41
    go_wp2_with fail
    go_quiet (exact quiet_same (used_is _ _ _ (r.drewN _) _ hu'))
    go_wp2
    go_ret
    exact ⟨by simp [PoolM.same, hu'], _, rfl⟩

end U
end Go.Proofs.Ytnhplapcdgnaaaa
