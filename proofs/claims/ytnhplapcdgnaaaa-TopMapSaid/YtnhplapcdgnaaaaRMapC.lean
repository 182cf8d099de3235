import Derived.Test.YtnhplapcdgnaaaaRMapX
import Derived.Outline
set_option linter.unusedVariables false
set_option linter.unusedSimpArgs false
namespace Go.Proofs.Ytnhplapcdgnaaaa
open Go.RowKit
namespace U

def RTPost (w : World) (m g T N : Nat) (x : Nat → Value) (y : PoolM × MapM × Int × Bool × Nat) (e : Ending) (w' : World) : Prop :=
  e = .returned (.tuple #[.int .i64 y.2.2.1, .bool y.2.2.2.1, .int .i64 y.2.2.2.2]) ∧ RPoolRep w' m y.1 ∧ RMRep w' g T N m y.2.1 x ∧ Upd (ownR m g) w w'
theorem one_is {P : PoolM} {f : Int} (h : P.used f = true) : P.one f = (P.refs f.toNat == 1) := by
  have h1 := used_cast.1 h
  unfold PoolM.one PoolM.of
  rw [if_neg (by omega)]
  simp

section
variable {T N m : Nat}
set_option maxRecDepth 100000 in
set_option maxHeartbeats 1000000 in
theorem rtouch_off (w : World) (P : PoolM) (g : Nat) (M : MapM) (x : Nat → Value) (rp : RPoolRep w m P) (r : RMRep w g T N m M x) (n : Int) (wr : Bool) (ho : onB n = false) :
    Calls Try.prog 94 #[.pointer (some ⟨g, 0, none⟩), .int .i64 n, .bool wr] w (RTPost w m g T N x (P, M, 0, false, 1)) := by
  go_enter Try.func94, Try.ntmps94
  go_wp2_with (go_at_call 132; refine (ron_any _ _).mono ?_; rintro e w' ⟨rfl, rfl⟩)
  go_ret3
  exact ⟨rfl, rp, r, Upd.refl _ _⟩
set_option maxRecDepth 100000 in
set_option maxHeartbeats 1000000 in
theorem rtouch_absent (w : World) (P : PoolM) (g : Nat) (M : MapM) (x : Nat → Value) (rp : RPoolRep w m P) (r : RMRep w g T N m M x) (k : Nat) (hk : k < 16) (wr : Bool) (s0 : M.state k = 0) :
    Calls Try.prog 94 #[.pointer (some ⟨g, 0, none⟩), .int .i64 k, .bool wr] w (RTPost w m g T N x (P, M, 0, false, 2)) := by
  have ho' : onB k = true := onB_iff.2 ⟨by omega, by omega⟩
  have c1 := r.st hk
  rw [s0] at c1
  clear s0
  go_enter Try.func94, Try.ntmps94
  go_wp2_with (go_at_call 132; refine (ron_any _ _).mono ?_; rintro e w' ⟨rfl, rfl⟩)
  go_ret3
  exact ⟨rfl, rp, r, Upd.refl _ _⟩
set_option maxRecDepth 100000 in
set_option maxHeartbeats 1000000 in
theorem rtouch_given (w : World) (P : PoolM) (g : Nat) (M : MapM) (x : Nat → Value) (rp : RPoolRep w m P) (r : RMRep w g T N m M x) (k : Nat) (hk : k < 16) (wr : Bool) (s2 : M.state k = 2) :
    Calls Try.prog 94 #[.pointer (some ⟨g, 0, none⟩), .int .i64 k, .bool wr] w (RTPost w m g T N x (P, M, 0, false, 6)) := by
  have ho' : onB k = true := onB_iff.2 ⟨by omega, by omega⟩
  have c1 := r.st hk
  rw [s2] at c1
  clear s2
  go_enter Try.func94, Try.ntmps94
  go_wp2_with (go_at_call 132; refine (ron_any _ _).mono ?_; rintro e w' ⟨rfl, rfl⟩)
  go_ret3
  exact ⟨rfl, rp, r, Upd.refl _ _⟩
set_option maxRecDepth 100000 in
set_option maxHeartbeats 1000000 in
theorem rtouch_stay (w : World) (P : PoolM) (g : Nat) (M : MapM) (x : Nat → Value) (rp : RPoolRep w m P) (r : RMRep w g T N m M x) (k : Nat) (hk : k < 16) (wr : Bool) (s1 : M.state k = 1) (ht : (M.leaf k).there = true) (hw : (M.leaf k).write = true ∨ wr = false) :
    Calls Try.prog 94 #[.pointer (some ⟨g, 0, none⟩), .int .i64 k, .bool wr] w (RTPost w m g T N x (P, M, (M.leaf k).frame, false, 0)) := by
  have ho' : onB k = true := onB_iff.2 ⟨by omega, by omega⟩
  have c1 := r.st hk
  have c2 := r.l0 hk
  have c3 := r.l1 hk
  have c4 := r.l2 hk
  have lg := r.lt
  rw [s1] at c1
  rw [ht] at c2
  clear s1 ht
  cases wr with
  | false =>
    clear hw
    go_enter Try.func94, Try.ntmps94
    go_wp2_with (go_at_call 132; refine (ron_any _ _).mono ?_; rintro e w' ⟨rfl, rfl⟩)
    go_ret3
    exact ⟨rfl, rp.alloc _, r.alloc _, (Upd.refl _ _).alloc _⟩
  | true =>
    have hw' : (M.leaf k).write = true := by simpa using hw
    rw [hw'] at c3
    clear hw hw'
    go_enter Try.func94, Try.ntmps94
    go_wp2_with (go_at_call 132; refine (ron_any _ _).mono ?_; rintro e w' ⟨rfl, rfl⟩)
    go_ret3
    exact ⟨rfl, rp.alloc _, r.alloc _, (Upd.refl _ _).alloc _⟩
set_option maxRecDepth 100000 in
set_option maxHeartbeats 1000000 in
theorem rtouch_one (hT : T ≠ 63) (w : World) (P : PoolM) (g : Nat) (M : MapM) (x : Nat → Value) (rp : RPoolRep w m P) (r : RMRep w g T N m M x) (k : Nat) (hk : k < 16) (s1 : M.state k = 1) (ht : (M.leaf k).there = true) (hw : (M.leaf k).write = false)
    (f : Nat) (hf : (M.leaf k).frame = f) (hfn : f < P.n) (h1 : P.refs f = 1) :
    Calls Try.prog 94 #[.pointer (some ⟨g, 0, none⟩), .int .i64 k, .bool true] w (RTPost w m g T N x (P, M.setLeaf k { M.leaf k with write := true }, (M.leaf k).frame, false, 0)) := by
  have ho' : onB k = true := onB_iff.2 ⟨by omega, by omega⟩
  have hne := rmap_ne rp r hT
  have c0 := r.c0
  have c1 := r.st hk
  have c2 := r.l0 hk
  have c3 := r.l1 hk
  have c4 := r.l2 hk
  have lg := r.lt
  have lm := rp.lt
  have n64 := rp.n64
  have cr := rp.ref hfn
  have fw := r.fr (17 + k * 3 + 1)
  rw [s1] at c1
  rw [ht] at c2
  rw [hw] at c3
  rw [hf] at c4
  rw [h1] at cr
  have hbox : g ≠ w.heap.size := by omega
  have HF := Lib.hid hf
  clear s1 ht hw h1 hf
  go_enter Try.func94, Try.ntmps94
  go_wp2_with (go_at_call 132; refine (ron_any _ _).mono ?_; rintro e w' ⟨rfl, rfl⟩)
  go_quiet (fail)
  go_wp2
  go_ret3
  exact ⟨by show _ = Ending.returned (.tuple #[.int .i64 (M.leaf k).frame, .bool false, .int .i64 0]); rw [HF.out]; rfl, ((rp.alloc _).keepR1 hne _ _).drewN _, ((r.alloc _).setWrite hk).drewN _, ((((Upd.refl _ _).alloc _).setCell (p := ⟨g, 17 + k * 3 + 1, none⟩) (fun _ => .inr rfl) _).drewN _)⟩
set_option maxRecDepth 100000 in
set_option maxHeartbeats 1000000 in
theorem rtouch_new_full (hT : T ≠ 63) (w : World) (P : PoolM) (g : Nat) (M : MapM) (x : Nat → Value) (rp : RPoolRep w m P) (r : RMRep w g T N m M x) (k : Nat) (hk : k < 16) (wr : Bool) (s1 : M.state k = 1) (ht : (M.leaf k).there = false) (hf : P.free = none) :
    Calls Try.prog 94 #[.pointer (some ⟨g, 0, none⟩), .int .i64 k, .bool wr] w (RTPost w m g T N x (P, M, 0, false, 3)) := by
  have ho' : onB k = true := onB_iff.2 ⟨by omega, by omega⟩
  have c0 := r.c0
  have c1 := r.st hk
  have c2 := r.l0 hk
  have c3 := r.l1 hk
  have c4 := r.l2 hk
  have lg := r.lt
  rw [s1] at c1
  rw [ht] at c2
  have HT := Lib.hid (take_none hf)
  have hne := rmap_ne rp r hT
  clear s1 ht hf
  go_enter Try.func94, Try.ntmps94
  go_wp2_with (first
    | (go_at_call 132; refine (ron_any _ _).mono ?_; rintro e w' ⟨rfl, rfl⟩)
    | (go_at_call 31; refine (rtake_any _ m P (rp.alloc _)).mono ?_; rw [HT.out]; rintro e w2 ⟨rfl, r2, u2⟩))
  go_ret3
  exact ⟨rfl, r2, (r.alloc _).upd_ u2 hne, ((Upd.refl _ _).alloc _).trans u2.mR⟩
set_option maxRecDepth 100000 in
set_option maxHeartbeats 2000000 in
theorem rtouch_new (hT : T ≠ 63) (w : World) (P : PoolM) (g : Nat) (M : MapM) (x : Nat → Value) (rp : RPoolRep w m P) (r : RMRep w g T N m M x) (k : Nat) (hk : k < 16) (wr : Bool) (s1 : M.state k = 1) (ht : (M.leaf k).there = false) (f : Nat) (hf : P.free = some f) :
    Calls Try.prog 94 #[.pointer (some ⟨g, 0, none⟩), .int .i64 k, .bool wr] w (RTPost w m g T N x (P.take.1, M.setLeaf k ⟨true, true, f⟩, f, false, 0)) := by
  have ho' : onB k = true := onB_iff.2 ⟨by omega, by omega⟩
  have hne := rmap_ne rp r hT
  have c0 := r.c0
  have c1 := r.st hk
  have c2 := r.l0 hk
  have c3 := r.l1 hk
  have c4 := r.l2 hk
  have lg := r.lt
  have lm := rp.lt
  rw [s1] at c1
  rw [ht] at c2
  have HT := Lib.hid (take_some hf)
  clear s1 ht hf
  go_enter Try.func94, Try.ntmps94
  go_wp2_with (first
    | (go_at_call 132; refine (ron_any _ _).mono ?_; rintro e w' ⟨rfl, rfl⟩)
    | (go_at_call 31; refine (rtake_any _ m P (rp.alloc _)).mono ?_; rw [HT.out.1, HT.out.2]; rintro e w2 ⟨rfl, r2, u2⟩; have q2 := (r.alloc (.cells #[.bool false, .bool (M.leaf k).write, .int .i64 (M.leaf k).frame] 33)).upd_ u2 hne; have d0 := q2.l0 hk; have d1 := q2.l1 hk; have d2 := q2.l2 hk; have f0 := q2.fr (17 + k * 3); have f1 := q2.fr (17 + k * 3 + 1); have f2 := q2.fr (17 + k * 3 + 2); have bx := (u2.block w.heap.size (by simp) (by unfold at1; omega)).trans (heap_alloc_new w _); have b0 := cell_of_row w2 w.heap.size 0 _ _ _ bx; simp at b0; have lb2 := heap_lt bx))
  go_quiet (fail)
  go_wp2
  go_ret3
  exact ⟨rfl, (r2.keepR3 hne _ _ _ _ _ _).drewN _, (q2.setLeaf (l := ⟨true, true, f⟩) hk).drewN _, ((((Upd.refl _ _).alloc _).trans u2.mR).sc3 (S := ownR m g) (.inr rfl) _ _ _ _ _ _).drewN _⟩
/-- What stands while a page moves. -/
structure RMv (w W : World) (m g T N : Nat) (M : MapM) (x : Nat → Value) (k : Nat) (P : PoolM) : Prop where
  rp : RPoolRep W m P
  mr : RMRep W g T N m M x
  bx : W.heap[w.heap.size]? = some (.cells #[.bool (M.leaf k).there, .bool (M.leaf k).write, .int .i64 (M.leaf k).frame] 33 (0, 0))
  up : Upd (ownR m g) w W
theorem RMv.drewN {w W : World} {g : Nat} {M : MapM} {x : Nat → Value} {k : Nat} {P : PoolM} (t : RMv w W m g T N M x k P) (n : Nat) : RMv w (W.drewN n) m g T N M x k P := ⟨t.rp.drewN n, t.mr.drewN n, t.bx, t.up.drewN n⟩
theorem RMv.drew {w W : World} {g : Nat} {M : MapM} {x : Nat → Value} {k : Nat} {P : PoolM} (t : RMv w W m g T N M x k P) : RMv w W.drew m g T N M x k P := t.drewN 1
theorem RMv.step {w W W' : World} {g : Nat} {M : MapM} {x : Nat → Value} {k : Nat} {P P' : PoolM} (t : RMv w W m g T N M x k P) (h1 : g ≠ m) (h2 : w.heap.size ≠ m) (r : RPoolRep W' m P') (u : Upd (at1 m) W W') : RMv w W' m g T N M x k P' :=
  ⟨r, t.mr.upd_ u h1, (u.block _ (heap_lt t.bx) h2).trans t.bx, t.up.trans u.mR⟩
theorem RMv.b0 {w W : World} {g : Nat} {M : MapM} {x : Nat → Value} {k : Nat} {P : PoolM} (t : RMv w W m g T N M x k P) : W.cell? ⟨w.heap.size, 0, none⟩ = some (.bool (M.leaf k).there) := by rw [cell_of_row _ _ 0 _ _ _ t.bx]; rfl
theorem RMv.b2 {w W : World} {g : Nat} {M : MapM} {x : Nat → Value} {k : Nat} {P : PoolM} (t : RMv w W m g T N M x k P) : W.cell? ⟨w.heap.size, 2, none⟩ = some (.int .i64 (M.leaf k).frame) := by rw [cell_of_row _ _ 2 _ _ _ t.bx]; rfl

set_option maxRecDepth 100000 in
set_option maxHeartbeats 2000000 in
theorem rtouch_move_full (hT : T ≠ 63) (w : World) (P : PoolM) (g : Nat) (M : MapM) (x : Nat → Value) (rp : RPoolRep w m P) (r : RMRep w g T N m M x) (k : Nat) (hk : k < 16) (s1 : M.state k = 1) (ht : (M.leaf k).there = true) (hw : (M.leaf k).write = false)
    (lf : Nat) (hf : (M.leaf k).frame = lf) (hfn : lf < P.n) (h1 : P.refs lf ≠ 1) (hfr : P.free = none) :
    Calls Try.prog 94 #[.pointer (some ⟨g, 0, none⟩), .int .i64 k, .bool true] w (RTPost w m g T N x (P, M, 0, false, 3)) := by
  have ho' : onB k = true := onB_iff.2 ⟨by omega, by omega⟩
  have hne := rmap_ne rp r hT
  have c0 := r.c0
  have c1 := r.st hk
  have c2 := r.l0 hk
  have c3 := r.l1 hk
  have c4 := r.l2 hk
  have lg := r.lt
  have lm := rp.lt
  have n64 := rp.n64
  have cr := rp.ref hfn
  have h1' : (P.refs lf == 1) = false := by simpa using h1
  rw [s1] at c1
  rw [ht] at c2
  rw [hw] at c3
  rw [hf] at c4
  have HT := Lib.hid (take_none hfr)
  clear s1 ht hw h1 hf hfr
  go_enter Try.func94, Try.ntmps94
  go_wp2_with (go_at_call 132; refine (ron_any _ _).mono ?_; rintro e w' ⟨rfl, rfl⟩)
  go_quiet (fail)
  go_wp2_with (go_at_call 31; refine (rtake_any _ m P ((rp.alloc _).drewN _)).mono ?_; rw [HT.out]; rintro e w2 ⟨rfl, r2, u2⟩)
  go_ret3
  exact ⟨rfl, r2, ((r.alloc _).drewN _).upd_ u2 hne, (((Upd.refl _ _).alloc _).drewN _).trans u2.mR⟩

set_option maxRecDepth 100000 in
set_option maxHeartbeats 4000000 in
theorem rtouch_move (hT : T ≠ 63) (w : World) (P : PoolM) (g : Nat) (M : MapM) (x : Nat → Value) (rp : RPoolRep w m P) (r : RMRep w g T N m M x) (k : Nat) (hk : k < 16) (s1 : M.state k = 1) (ht : (M.leaf k).there = true) (hw : (M.leaf k).write = false)
    (lf : Nat) (hf : (M.leaf k).frame = lf) (hfn : lf < P.n) (h1 : P.refs lf ≠ 1) (f : Nat) (hfr : P.free = some f) (hr0 : 0 < P.refs lf) (hr1 : P.refs lf ≤ 1000016) :
    Calls Try.prog 94 #[.pointer (some ⟨g, 0, none⟩), .int .i64 k, .bool true] w
      (RTPost w m g T N x ((((P.setRef f 1).setRow f fun _ => 0).setRow f (P.b lf)).setRef lf (P.refs lf - 1), M.setLeaf k ⟨true, true, f⟩, f, true, 0)) := by
  have ho' : onB k = true := onB_iff.2 ⟨by omega, by omega⟩
  have hne := rmap_ne rp r hT
  have c0 := r.c0
  have c1 := r.st hk
  have c2 := r.l0 hk
  have c3 := r.l1 hk
  have c4 := r.l2 hk
  have lg := r.lt
  have lm := rp.lt
  have n64 := rp.n64
  have cr := rp.ref hfn
  have h1' : (P.refs lf == 1) = false := by simpa using h1
  obtain ⟨f1, f2⟩ := free_is hfr
  have hlf : lf ≠ f := by rintro rfl; omega
  have J0 : RMv w (w.alloc (.cells #[.bool (M.leaf k).there, .bool (M.leaf k).write, .int .i64 (M.leaf k).frame] 33)) m g T N M x k P := ⟨rp.alloc _, r.alloc _, heap_alloc_new w _, (Upd.refl _ _).alloc _⟩
  rw [ht, hw, hf] at J0
  rw [s1] at c1
  rw [ht] at c2
  rw [hw] at c3
  rw [hf] at c4
  have HT := Lib.hid (take_some hfr)
  have HP := Lib.hid (take_is hfr)
  have HL := Lib.hid ht
  have HF := Lib.hid hf
  clear s1 ht hw h1 hf hfr
  go_enter Try.func94, Try.ntmps94
  go_wp2_with (go_at_call 132; refine (ron_any _ _).mono ?_; rintro e w' ⟨rfl, rfl⟩)
  go_quiet (fail)
  go_wp2_with (go_at_call 31; refine (rtake_any _ m P (by repeat (first | assumption | apply RMv.drew | apply RMv.drewN) : RMv w _ m g T N M x k _).rp).mono ?_; rw [HT.out.1, HT.out.2, HP.out]; rintro e w2 ⟨rfl, r2, u2⟩; have J2 := RMv.step (by repeat (first | assumption | apply RMv.drew | apply RMv.drewN) : RMv w _ m g T N M x k _) hne (by omega) r2 u2; have d0 := J2.mr.c0; have b0 := J2.b0; have b2 := J2.b2; rw [HL.out] at b0; rw [HF.out] at b2; have l2 := heap_lt J2.bx; have lm2 := J2.rp.lt; have lg2 := J2.mr.lt)
  have HB := Lib.hid (show ((P.setRef f 1).setRow f fun _ => 0).b lf = P.b lf by funext j; unfold PoolM.setRef PoolM.setRow; simp [hlf])
  have ld := J2.rp.drew.load16 (i := lf) (by exact hfn)
  rw [HB.out] at ld
  have st := J2.rp.drew.store16 (i := f) (by exact f1) (P.b lf)
  have J3 := RMv.step J2.drew hne (by omega) (J2.rp.drew.setRow (i := f) (by exact f1) (rowL_length (P.b lf)) (fun j hj => rowL_get _ hj)) (Upd.setCells (S := at1 m) (fun _ => at1_self) _ _ _ (Upd.refl _ _))
  have d3 := J3.mr.c0
  have b3 := J3.b2
  have b30 := J3.b0
  have l3 := heap_lt J3.bx
  rw [HF.out] at b3
  rw [HL.out] at b30
  have bj : (lf : Int) < 64 := by omega
  have bk : (f : Int) < 64 := by omega
  have bj' : lf < 64 := by omega
  have bk' : f < 64 := by omega
  refine wp_region_still_tail 18 (by kernel_rfl) (by kernel_rfl) ?_
  simp only [List.take_succ_cons, List.take_zero, List.drop_succ_cons, List.drop_zero]
  repeat (first | (refine still_load rfl 59 _ rfl _ _ rfl ld ?_) | still_step)
  refine wpStill_nil ?_
  go_wp2_with (refine wpl_store rfl 59 _ _ rfl _ _ rfl rfl st ?_)
  have HS := Lib.hid (show (PoolM.share (((P.setRef f 1).setRow f fun _ => 0).setRow f (P.b lf)) lf (-1)).1 = (((P.setRef f 1).setRow f fun _ => 0).setRow f (P.b lf)).setRef lf (P.refs lf - 1) by
    have hu : PoolM.used (((P.setRef f 1).setRow f fun _ => 0).setRow f (P.b lf)) lf = true := by
      rw [used_iff]; unfold PoolM.setRef PoolM.setRow; simp only [hlf, if_false]; exact ⟨hfn, hr0⟩
    unfold PoolM.share
    rw [if_pos hu]
    have e : (((P.setRef f 1).setRow f fun _ => 0).setRow f (P.b lf)).refs (lf : Int).toNat = P.refs lf := by
      rw [Int.toNat_natCast]; unfold PoolM.setRef PoolM.setRow; simp [hlf]
    rw [e, show wrap64 (P.refs lf + -1) = P.refs lf - 1 from by rw [IntWalk.wrap64_in _ ⟨by omega, by omega⟩]; omega, Int.toNat_natCast])
  have hwm : w.heap.size ≠ m := by omega
  generalize w2.drew.setCells m (1 + f * 16) (rowL (P.b lf)) = w3 at J3 d3 b3 b30 l3 ⊢
  generalize hQ : (((P.setRef f 1).setRow f fun _ => 0).setRow f (P.b lf)) = Q at J3 HS ⊢
  have HQ := Lib.hid hQ
  clear hQ st ld J2 d0 b0 b2 l2 r2 u2 lm2 lg2
  go_region_with (go_at_call 33; refine (rshare_any _ m _ (RMv.rp (by repeat (first | assumption | apply RMv.drew | apply RMv.drewN) : RMv w _ m g T N M x k _)) _ _).mono ?_; rintro e w4 ⟨rfl, r4, u4⟩; have J4 := RMv.step (by repeat (first | assumption | apply RMv.drew | apply RMv.drewN) : RMv w _ m g T N M x k _) hne hwm r4 u4; have e0 := J4.mr.l0 hk; have e1 := J4.mr.l1 hk; have e2 := J4.mr.l2 hk; have g0 := J4.mr.fr (17 + k * 3); have g1 := J4.mr.fr (17 + k * 3 + 1); have g2 := J4.mr.fr (17 + k * 3 + 2); have h0 := J4.b0; rw [HL.out] at h0; have l4 := heap_lt J4.bx)
  all_goals go_wp2
  all_goals go_quiet (fail)
  all_goals go_wp2
  all_goals go_ret3
  all_goals exact ⟨rfl, by show RPoolRep _ m ((((P.setRef f 1).setRow f fun _ => 0).setRow f (P.b lf)).setRef lf (P.refs lf - 1)); rw [HQ.out, ← HS.out]; exact (RPoolRep.keepR3 r4 hne _ _ _ _ _ _).drewN _, (J4.mr.setLeaf (l := ⟨true, true, f⟩) hk).drewN _, (J4.up.sc3 (S := ownR m g) (.inr rfl) _ _ _ _ _ _).drewN _⟩

/-- Touch, all cases. -/
theorem rtouch_any (hT : T ≠ 63) (w : World) (P : PoolM) (g : Nat) (M : MapM) (x : Nat → Value) {E : Nat → Nat} (hI : MInv P M E) (rp : RPoolRep w m P) (r : RMRep w g T N m M x) (n : Int) (wr : Bool) :
    Calls Try.prog 94 #[.pointer (some ⟨g, 0, none⟩), .int .i64 n, .bool wr] w (RTPost w m g T N x (mtouch P M n wr)) := by
  by_cases ho : onB n = true
  · obtain ⟨k, rfl⟩ := Int.eq_ofNat_of_zero_le (onB_iff.1 ho).1
    have hk : k < 16 := by have := (onB_iff.1 ho).2; omega
    have e0 : mtouch P M k wr = (if M.state k = 0 then (P, M, 0, false, 2) else
      if M.state k = 2 then (P, M, 0, false, 6) else
      if (M.leaf k).there && ((M.leaf k).write || !wr) then (P, M, (M.leaf k).frame, false, 0) else
      if (M.leaf k).there && P.one (M.leaf k).frame then (P, M.setLeaf k { M.leaf k with write := true }, (M.leaf k).frame, false, 0) else
      match P.free with
      | none => (P, M, 0, false, 3)
      | some f => (P.move (M.leaf k) f, M.setLeaf k ⟨true, true, f⟩, f, (M.leaf k).there, 0)) := by unfold mtouch; rw [if_pos ho, Int.toNat_natCast]; rfl
    rw [e0]
    by_cases s0 : M.state k = 0
    · rw [if_pos s0]; exact rtouch_absent w P g M x rp r k hk wr s0
    · rw [if_neg s0]
      by_cases s2 : M.state k = 2
      · rw [if_pos s2]; exact rtouch_given w P g M x rp r k hk wr s2
      · rw [if_neg s2]
        have s1 : M.state k = 1 := by rcases hI.st k hk with e | e | e <;> simp_all
        cases ht : (M.leaf k).there with
        | false =>
          rw [if_neg (by simp), if_neg (by simp)]
          cases hf : P.free with
          | none => exact rtouch_new_full hT w P g M x rp r k hk wr s1 ht hf
          | some f =>
            have : P.move (M.leaf k) f = P.take.1 := by unfold PoolM.move; rw [ht]; rfl
            simp only []
            rw [this]
            exact rtouch_new hT w P g M x rp r k hk wr s1 ht f hf
        | true =>
          obtain ⟨_, hf0, hf1⟩ := hI.here k hk ht
          obtain ⟨lf, hlf⟩ := Int.eq_ofNat_of_zero_le hf0
          have hu := hI.used hk ht
          have hu' := used_cast.1 hu
          have hlfn : lf < P.n := by omega
          have hb := hI.bound hlfn
          have hr0 : 0 < P.refs lf := by rw [hlf] at hu'; simpa using hu'.2.2
          by_cases hw : (M.leaf k).write = true ∨ wr = false
          · rw [if_pos (by rcases hw with h | h <;> simp [h])]
            exact rtouch_stay w P g M x rp r k hk wr s1 ht hw
          · have hw1 : (M.leaf k).write = false := by cases h : (M.leaf k).write <;> simp_all
            have hw2 : wr = true := by cases h : wr <;> simp_all
            subst hw2
            rw [if_neg (by simp [hw1]), one_is hu]
            by_cases h1 : P.refs lf = 1
            · rw [if_pos (by rw [hlf]; simp [h1])]
              exact rtouch_one hT w P g M x rp r k hk s1 ht hw1 lf hlf hlfn h1
            · rw [if_neg (by rw [hlf]; simp [h1])]
              cases hf : P.free with
              | none => exact rtouch_move_full hT w P g M x rp r k hk s1 ht hw1 lf hlf hlfn h1 hf
              | some f =>
                simp only []
                rw [(move_eq hI hk ht hf).1, hlf, Int.toNat_natCast]
                exact rtouch_move hT w P g M x rp r k hk s1 ht hw1 lf hlf hlfn h1 f hf hr0 hb.2
  · have e : mtouch P M n wr = (P, M, 0, false, 1) := by unfold mtouch; rw [if_neg ho]
    rw [e]
    exact rtouch_off w P g M x rp r n wr (by simpa using ho)
end

end U
end Go.Proofs.Ytnhplapcdgnaaaa
