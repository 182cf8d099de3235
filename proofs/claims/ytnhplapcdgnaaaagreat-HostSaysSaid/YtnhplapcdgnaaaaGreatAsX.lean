import Derived.Test.YtnhplapcdgnaaaaGreatRHostX
import Derived.Test.YtnhplapcdgnaaaaGreatHostQm
import Derived.Test.YtnhplapcdgnaaaaGreatMem
import Derived.Test.YtnhplapcdgnaaaaGreatChecked
import Derived.WalkKit
import Derived.Lib.Hide
import Derived.Test.YtnhplapcdgnaaaaGreatHostGx
import Derived.Test.YtnhplapcdgnaaaaGreatGuestJX
import Derived.Deep.RegionHeld3
set_option linter.unusedVariables false
set_option linter.unusedSimpArgs false
namespace Go.Proofs.YtnhplapcdgnaaaaGreat
open Go.RowKit
namespace U

/-! The program's host and the reference's, side by side. -/
structure HB (w W : World) (h : Nat) (L : PoolAt) (K : Nat → GAt) (H : HostM) (o m : Nat) (R : Nat → Nat × Value) (O : HostM) : Prop where
  a : HW w W h L K H
  b : RHRep W o m R O
  bn : ∀ k, ownRH o m R O k → w.heap.size ≤ k
  sep : ∀ k, ownH h L K H k → ¬ ownRH o m R O k
section
variable {w W W' : World} {h o m bx : Nat} {L L' : PoolAt} {K K' K2 : Nat → GAt} {R R2 : Nat → Nat × Value} {H O H2 O2 : HostM} {x : ActM} {S : Nat → Prop}
theorem HB.non (t : HB w W h L K H o m R O) (u : Upd Non W W') : HB w W' h L K H o m R O := ⟨t.a.non u, t.b.non u, t.bn, t.sep⟩
theorem HB.alloc (t : HB w W h L K H o m R O) (b : Obj) : HB w (W.alloc b) h L K H o m R O := t.non ((Upd.refl _ _).alloc b)
theorem HB.drew (t : HB w W h L K H o m R O) : HB w W.drew h L K H o m R O := t.non (Upd.refl _ _).drew
theorem HB.drewN (t : HB w W h L K H o m R O) (n : Nat) : HB w (W.drewN n) h L K H o m R O := t.non ((Upd.refl _ _).drewN n)
theorem HB.actA (t : HB w W h L K H o m R O) (s : PH (ownH h L K H) W W' h L K2 H2) : HB w W' h L K2 H2 o m R O :=
  ⟨t.a.act s, t.b.upd_ s.up (fun k h1 h2 => t.sep k h2 h1), t.bn, fun k h1 h2 => (s.own k h1).elim (fun e => t.sep k e h2) (fun e => by have := t.b.lts k h2; omega)⟩
theorem HB.actB (t : HB w W h L K H o m R O) (s : RH (ownRH o m R O) W W' o m R2 O2) : HB w W' h L K H o m R2 O2 :=
  ⟨⟨t.a.r.upd_ s.up (fun k h1 h2 => t.sep k h1 h2), t.a.n, t.a.up.over s.up t.bn⟩, s.rep, fun k hk => (s.own k hk).elim (t.bn k) (fun e => Nat.le_trans t.a.up.size e),
    fun k h1 h2 => (s.own k h2).elim (fun e => t.sep k h1 e) (fun e => by have := t.a.r.lts k h1; omega)⟩
/-- A copy goes on; the old host's blocks may have changed. -/
theorem HB.copy {wc : World} {b : Nat} (t : HB w W h L K H o m R O) (r : HRep wc b L' K' H2) (n : ∀ k, ownH b L' K' H2 k → W.heap.size ≤ k) (u : Upd Non W wc) (up : Upd (ownH h L K H) wc W') : HB w W' b L' K' H2 o m R O := by
  have hz := t.a.up.size
  refine ⟨⟨r.upd_ up fun k h1 h2 => ?_, fun k hk => Nat.le_trans hz (n k hk), (t.a.up.trans u).over up t.a.n⟩, (t.b.non u).upd_ up (fun k h1 h2 => t.sep k h2 h1), t.bn, fun k h1 h2 => ?_⟩
  · have := n k h1
    have := t.a.r.lts k h2
    omega
  · have := n k h1
    have := t.b.lts k h2
    omega
theorem HB.start {w1 w2 : World} (r : HRep w1 h L K H) (n : ∀ k, ownH h L K H k → w.heap.size ≤ k) (u : Upd Non w w1) (r2 : RHRep w2 o m R O) (n2 : ∀ k, ownRH o m R O k → w1.heap.size ≤ k) (u2 : Upd Non w1 w2) : HB w w2 h L K H o m R O :=
  ⟨⟨r.non u2, n, u.trans u2⟩, r2, fun k hk => Nat.le_trans u.size (n2 k hk), fun k h1 h2 => by have := r.lts k h1; have := n2 k h2; omega⟩
/-- .. and a box with an act. -/
structure HBX (w W : World) (h : Nat) (L : PoolAt) (K : Nat → GAt) (H : HostM) (o m : Nat) (R : Nat → Nat × Value) (O : HostM) (bx : Nat) (x : ActM) : Prop extends HB w W h L K H o m R O where
  ax : ARow W bx x
theorem ARow.offR (t : ARow W bx x) (r : RHRep W o m R O) : ¬ ownRH o m R O bx := r.off t (by decide) (by decide) (by decide) (by decide)
theorem HBX.non (t : HBX w W h L K H o m R O bx x) (u : Upd Non W W') : HBX w W' h L K H o m R O bx x := ⟨t.toHB.non u, t.ax.non u⟩
theorem HBX.alloc (t : HBX w W h L K H o m R O bx x) (b : Obj) : HBX w (W.alloc b) h L K H o m R O bx x := t.non ((Upd.refl _ _).alloc b)
theorem HBX.drew (t : HBX w W h L K H o m R O bx x) : HBX w W.drew h L K H o m R O bx x := t.non (Upd.refl _ _).drew
theorem HBX.drewN (t : HBX w W h L K H o m R O bx x) (n : Nat) : HBX w (W.drewN n) h L K H o m R O bx x := t.non ((Upd.refl _ _).drewN n)
theorem HBX.actA (t : HBX w W h L K H o m R O bx x) (s : PH (ownH h L K H) W W' h L K2 H2) : HBX w W' h L K2 H2 o m R O bx x := ⟨t.toHB.actA s, t.ax.upd s.up (t.ax.off t.a.r)⟩
theorem HBX.actB (t : HBX w W h L K H o m R O bx x) (s : RH (ownRH o m R O) W W' o m R2 O2) : HBX w W' h L K H o m R2 O2 bx x := ⟨t.toHB.actB s, t.ax.upd s.up (t.ax.offR t.b)⟩
theorem HBX.new (t : HB w W h L K H o m R O) (x : ActM) : HBX w (W.alloc (.cells #[.string x.kind, .int .i64 x.n, .int .i64 x.a, .int .i64 x.b, .int .u8 x.v.toNat, .bool x.on] 34)) h L K H o m R O W.heap.size x := ⟨t.alloc _, ARow.new W x⟩
end

end U
end Go.Proofs.YtnhplapcdgnaaaaGreat

set_option linter.unusedVariables false
set_option linter.unusedSimpArgs false
namespace Go.Proofs.YtnhplapcdgnaaaaGreat
open Go.RowKit
namespace U

/-! Slices of ints; the reference's SameNumbers. -/
def IAt (w : World) (v : Value) (l : List Int) : Prop :=
  (v = .slice none 0 0 ∧ l = []) ∨ ∃ g o cap, v = .slice (some ⟨g, o, none⟩) l.length cap ∧ g < w.heap.size ∧ ∀ i x, l[i]? = some x → w.cell? ⟨g, o + i, none⟩ = some (.int .i64 x)
theorem IAt.upd_ {S : Nat → Prop} {w w' : World} {v : Value} {l : List Int} (h : IAt w v l) (u : Upd S w w') (hS : ∀ g, v.ownBlock = some g → ¬ S g) : IAt w' v l := by
  rcases h with h | ⟨g, o, cap, rfl, hg, h⟩
  · exact .inl h
  · exact .inr ⟨g, o, cap, rfl, Nat.lt_of_lt_of_le hg u.size, fun i x hx => u.cell (h i x hx) (hS g rfl)⟩
theorem IAt.form {w : World} {v : Value} {l : List Int} (h : IAt w v l) : ∃ A cap, v = .slice A l.length cap := by
  rcases h with ⟨rfl, rfl⟩ | ⟨g, o, cap, rfl, _⟩
  · exact ⟨_, _, rfl⟩
  · exact ⟨_, _, rfl⟩
theorem IAt.at_ {w : World} {v : Value} {l : List Int} (h : IAt w v l) {i : Nat} (hi : i < l.length) : ∃ g o cap, v = .slice (some ⟨g, o, none⟩) l.length cap ∧ g < w.heap.size ∧ w.cell? ⟨g, o + i, none⟩ = some (.int .i64 l[i]) := by
  rcases h with ⟨rfl, rfl⟩ | ⟨g, o, cap, rfl, hg, h⟩
  · simp at hi
  · exact ⟨g, o, cap, rfl, hg, h i _ (List.getElem?_eq_getElem hi)⟩

set_option maxRecDepth 100000 in
set_option maxHeartbeats 400000 in
theorem sameNumbers_law (w : World) (v1 v2 : Value) (L : List Int) (h1 : IAt w v1 L) (h2 : IAt w v2 L) (hl : L.length ≤ 1000) :
    Calls Tryz.prog 50 #[v1, v2] w fun e w' => e = .returned (.bool true) ∧ Upd Non w w' := by
  obtain ⟨A1, cap1, rfl⟩ := h1.form
  obtain ⟨A2, cap2, rfl⟩ := h2.form
  go_enter Tryz.func50, Tryz.ntmps50
  go_wp2
  go_loopw [5] (fun i wr => ∃ k : Nat, k ≤ L.length ∧ i = .int .i64 k ∧ Hid (Upd Non w wr)) (fun i _ => L.length - (intOf i).toNat)
  case atStart => exact ⟨0, Nat.zero_le _, rfl, Upd.refl _ _⟩
  case round =>
    obtain ⟨k, hk, rfl, hU⟩ := hrel
    by_cases hlt : k < L.length
    · obtain ⟨g, o, cap', hv, hg, hE⟩ := (h1.upd_ hU.out (fun _ _ => (fun h => h))).at_ hlt
      obtain ⟨rfl, rfl⟩ : A1 = some ⟨g, o, none⟩ ∧ cap1 = cap' := by simpa using hv
      obtain ⟨g2, o2, cap2', hv2, hg2, hE2⟩ := (h2.upd_ hU.out (fun _ _ => (fun h => h))).at_ hlt
      obtain ⟨rfl, rfl⟩ : A2 = some ⟨g2, o2, none⟩ ∧ cap2 = cap2' := by simpa using hv2
      obtain ⟨x, hx⟩ : ∃ x, L[k] = x := ⟨_, rfl⟩
      rw [hx] at hE hE2
      clear hx hv hv2
      have k0 : (0 : Int) ≤ k := by omega
      have k1 : (k : Int) < L.length := by omega
      go_wp2
      go_quiet (fail)
      go_wp2
      go_roundw
      case rel => exact ⟨k + 1, by omega, by go_num, hU.out.drewN _⟩
      case measure => simp [intOf]; omega
    · go_wp2
      go_ret
      exact ⟨rfl, hU.out⟩

end U
end Go.Proofs.YtnhplapcdgnaaaaGreat

set_option linter.unusedVariables false
set_option linter.unusedSimpArgs false
namespace Go.Proofs.YtnhplapcdgnaaaaGreat
open Go.RowKit
namespace U

/-! The program's host: Copy. -/
def upto (H : HostM) (j : Nat) : HostM := ⟨H.p, fun i => if i < j then H.g i else none⟩
theorem upto_none {H : HostM} {j : Nat} (h : H.g j = none) : upto H (j + 1) = upto H j := by
  unfold upto
  congr
  funext i
  by_cases e : i = j
  · subst e; rw [if_pos (by omega), if_neg (by omega)]; exact h
  · by_cases hi : i < j
    · rw [if_pos (by omega), if_pos hi]
    · rw [if_neg (by omega), if_neg hi]
theorem upto_some {H : HostM} {j : Nat} {G : GuestM} (h : H.g j = some G) : upto H (j + 1) = (upto H j).put j (upto H j).p (some G) := by
  unfold upto HostM.put
  congr
  funext i
  dsimp only
  by_cases e : i = j
  · subst e; rw [if_pos (by omega), if_pos rfl]; exact h
  · rw [if_neg e]
    by_cases hi : i < j
    · rw [if_pos (by omega), if_pos hi]
    · rw [if_neg (by omega), if_neg hi]
theorem upto_at (H : HostM) (j : Nat) : (upto H j).g j = none := by unfold upto; dsimp only; rw [if_neg (by omega)]
structure CP (w W : World) (b : Nat) (L : PoolAt) (K : Nat → GAt) (H : HostM) : Prop where
  hr : HRep W b L K H
  n : ∀ k, ownH b L K H k → w.heap.size ≤ k
  up : Upd Non w W
theorem CP.non {w W W' : World} {b : Nat} {L : PoolAt} {K : Nat → GAt} {H : HostM} (t : CP w W b L K H) (u : Upd Non W W') : CP w W' b L K H := ⟨t.hr.non u, t.n, t.up.trans u⟩
theorem CP.start {w w2 : World} {L : PoolAt} {K : Nat → GAt} {H : HostM} (rp : PoolRep w2 L H.p) (u : Upd Non w w2) (n1 : w.heap.size ≤ L.p) (n2 : w.heap.size ≤ L.bb) (n3 : w.heap.size ≤ L.rb) :
    CP w (w2.alloc (.cells #[.pointer (some ⟨L.p, 0, none⟩), .pointer none, .pointer none, .pointer none, .pointer none] 51)) w2.heap.size L K (upto H 0) := by
  have hg : ∀ i, (upto H 0).g i = none := fun i => by unfold upto; dsimp only; rw [if_neg (by omega)]
  refine ⟨⟨rp.alloc _, (hrow_new w2 w2.heap.size rfl K 0).congr fun i hi => ?_, fun i hi G hG => (by rw [hg i] at hG; cases hG), fun i j hi hj hij si sj => (by rw [hg i] at si; cases si)⟩, ?_, u.alloc _⟩
  · unfold hcells hptr
    by_cases h0 : i = 0
    · rw [if_pos h0, if_pos h0]
    · rw [if_neg h0, if_neg h0, hg]
      rfl
  · rintro k (o | ⟨i, _, hs, _⟩)
    · rcases o with rfl | (rfl | (rfl | rfl))
      · exact u.size
      · exact n1
      · exact n2
      · exact n3
    · rw [hg i] at hs; cases hs
theorem CP.come {w W W' : World} {b : Nat} {L : PoolAt} {K : Nat → GAt} {H : HostM} {j : Nat} (t : CP w W b L K (upto H j)) (hj : j < 4) {a : GAt} {G : GuestM} (hG : H.g j = some G) (u : Upd Non W W') (q : GRep W' L.p a G) (hq : ∀ k, a.own k → W.heap.size ≤ k) :
    CP w (W'.setCell ⟨b, 1 + j, none⟩ (.pointer (some ⟨a.g, 0, none⟩))) b L (setK K j a) (upto H (j + 1)) := by
  have c := t.hr.come hj (upto_at H j) u q hq
  rw [← upto_some hG] at c
  exact ⟨c.rep, fun k hk => (c.own k hk).elim (t.n k) (fun e => Nat.le_trans t.up.size e), t.up.over c.up t.n⟩
theorem CP.full {w W : World} {b : Nat} {L : PoolAt} {K : Nat → GAt} {H : HostM} (t : CP w W b L K (upto H 4)) : CP w W b L K H := by
  have e : ∀ i, i < 4 → (upto H 4).g i = H.g i := fun i hi => by unfold upto; dsimp only; rw [if_pos hi]
  refine ⟨⟨t.hr.rp, t.hr.row.congr fun i hi => ?_, fun i hi G hG => t.hr.g i hi G (by rw [e i hi]; exact hG), fun i j hi hj hij si sj => t.hr.sep i j hi hj hij (by rw [e i hi]; exact si) (by rw [e j hj]; exact sj)⟩, fun k hk => t.n k ?_, t.up⟩
  · unfold hcells hptr
    by_cases h0 : i = 0
    · rw [if_pos h0, if_pos h0]
    · rw [if_neg h0, if_neg h0, e (i - 1) (by omega)]
  · rcases hk with o | ⟨i, hi, hs, ho⟩
    · exact .inl o
    · exact .inr ⟨i, hi, by rw [e i hi]; exact hs, ho⟩
section
variable {w W : World} {h : Nat} {L : PoolAt} {K : Nat → GAt} {H : HostM}
set_option maxRecDepth 100000 in
set_option maxHeartbeats 2000000 in
theorem hcopy_any (r : HRep w h L K H) (hI : HInv H) : Calls Tryz.prog 9 #[.pointer (some ⟨h, 0, none⟩)] w fun e w' => ∃ (b : Nat) (L' : PoolAt) (K' : Nat → GAt), e = .returned (.pointer (some ⟨b, 0, none⟩)) ∧ CP w w' b L' K' H := by
  have lh := r.hlt
  have h00 := r.h0
  have HI := Lib.hid hI
  have h4 : upto H 4 = upto H 4 := rfl
  go_enter Tryz.func9, Tryz.ntmps9
  go_upto_region 2 with (first
    | (go_at_call 20; refine (copy_any _ L H.p r.rp).mono ?_; rintro e w2 ⟨L', rfl, p2, u2, n1, n2, n3⟩)
    | fail)
  have T0 := Lib.hid (CP.start (K := K) p2 u2 n1 n2 n3)
  have ux := u2.alloc (.cells #[.pointer (some ⟨L'.p, 0, none⟩), .pointer none, .pointer none, .pointer none, .pointer none] 51)
  have ld := (r.non ux).loadG
  have lx := (r.non ux).hlt
  clear u2 n1 n2 n3 p2 ux
  generalize w2.alloc (.cells #[.pointer (some ⟨L'.p, 0, none⟩), .pointer none, .pointer none, .pointer none, .pointer none] 51) = wx at T0 ld lx ⊢
  generalize w2.heap.size = b at T0 ⊢
  go_wp2_with (first | (refine wpl_load rfl 49 _ rfl _ _ rfl ld ?_) | fail)
  clear ld lx
  go_loopw [17] (fun i wi => ∃ j : Nat, j ≤ 4 ∧ i = .int .i64 j ∧ Hid (∃ K', CP w wi b L' K' (upto H j))) (fun i _ => 4 - (intOf i).toNat)
  case atStart => exact ⟨0, Nat.zero_le _, rfl, K, T0.out⟩
  case round =>
    clear T0
    obtain ⟨j, hj, rfl, hT⟩ := hrel
    by_cases hlt : j < 4
    · have hj2 : (j : Int) < 4 := by omega
      cases hG : H.g j with
      | none =>
        have hx := garr_none (K := K) hlt hG
        have hs := Lib.hid (upto_none hG)
        clear hG
        go_wp2_with fail
        go_roundw
        case rel => exact ⟨j + 1, by omega, by go_num, by rw [hs.out]; exact hT.out⟩
        case measure => simp [intOf]; omega
      | some G =>
        have hx := garr_some (K := K) hlt hG
        have hGG := Lib.hid hG
        have hC := (HI.out.gi hlt hG).c.len
        clear hG
        obtain ⟨K', T⟩ := hT.out
        clear hT
        have c0 := T.hr.h0
        have lb := T.hr.hlt
        have fb := T.hr.hfr (1 + j)
        have cj := T.hr.hnone hlt (upto_at H j)
        have rr := Lib.hid (r.non T.up)
        go_upto_region 6 with fail
        go_region_held3 (fun w' => w'.cell? ⟨b, 0, none⟩ = some (.pointer (some ⟨L'.p, 0, none⟩))) (first | exact c0 | exact T3.hr.h0 | exact Upd.cell (S := Non) (by repeat (first | assumption | exact Upd.refl _ _ | apply Upd.drew | apply Upd.drewN | refine Upd.trans ?_ u3)) c0 (fun h => h)) (first
          | (go_at_call 21; refine Calls.mono (gcopy_any (HRep.pg (HRep.non rr.out (by repeat (first | assumption | apply Upd.alloc | apply Upd.drew | apply Upd.drewN | exact Upd.refl _ _))) hlt hGG.out) (by rw [withLeaf_length]; omega) L'.p) ?_; rintro e w3 ⟨K1, rfl, q3, f3, u3⟩; have U3 : Upd Non wr w3 := (by repeat (first | assumption | exact Upd.refl _ _ | apply Upd.drew | refine Upd.trans ?_ u3)); have c3 := (T.non U3).hr.hnone hlt (upto_at H j); have f3' := (T.non U3).hr.hfr (1 + j); have l3 := (T.non U3).hr.hlt; have T3 := T.come hlt hGG.out U3 q3 f3))
        all_goals go_wp2_with fail
        all_goals go_roundw
        all_goals first
          | exact ⟨j + 1, by omega, by go_num, _, T3⟩
          | exact ⟨j + 1, by omega, by go_num, _, T3.non (Upd.refl _ _).drew⟩
          | (simp [intOf]; omega)
    · have hj3 : ¬ (j : Int) < 4 := by omega
      obtain rfl : j = 4 := by omega
      obtain ⟨K', T⟩ := hT.out
      have T4 := Lib.hid T
      clear T hT
      go_wp2_with fail
      go_ret
      exact ⟨b, rfl, L', K', T4.out.full⟩
end

end U
end Go.Proofs.YtnhplapcdgnaaaaGreat
