import Derived.Test.YtnhplapcdgnaaabHostGu
import Derived.Test.YtnhplapcdgnaaabHostQm
import Derived.Test.YtnhplapcdgnaaabGuestK
import Derived.Deep.RegionHeld3
set_option linter.unusedVariables false
set_option linter.unusedSimpArgs false
namespace Go.Proofs.Ytnhplapcdgnaaab
open Go.RowKit
namespace U

/-! The program's host: Copy. -/
def upto (H : HostM) (j : Nat) : HostM := ⟨H.p, fun i => if i < j then H.g i else none⟩
theorem upto_none {H : HostM} {j : Nat} (h : H.g j = none) : upto H (j + 1) = upto H j := by
  unfold upto
  congr
  funext i
  by_cases e : i = j
  · subst e; rw [if_pos (by omega), if_neg (by omega)]; exact h
  · by_cases hi : i < j
    · rw [if_pos (by omega), if_pos hi]
    · rw [if_neg (by omega), if_neg hi]
theorem upto_some {H : HostM} {j : Nat} {G : GuestM} (h : H.g j = some G) : upto H (j + 1) = (upto H j).put j (upto H j).p (some G) := by
  unfold upto HostM.put
  congr
  funext i
  dsimp only
  by_cases e : i = j
  · subst e; rw [if_pos (by omega), if_pos rfl]; exact h
  · rw [if_neg e]
    by_cases hi : i < j
    · rw [if_pos (by omega), if_pos hi]
    · rw [if_neg (by omega), if_neg hi]
theorem upto_at (H : HostM) (j : Nat) : (upto H j).g j = none := by unfold upto; dsimp only; rw [if_neg (by omega)]
structure CP (w W : World) (b : Nat) (L : PoolAt) (K : Nat → GAt) (H : HostM) : Prop where
  hr : HRep W b L K H
  n : ∀ k, ownH b L K H k → w.heap.size ≤ k
  up : Upd Non w W
theorem CP.non {w W W' : World} {b : Nat} {L : PoolAt} {K : Nat → GAt} {H : HostM} (t : CP w W b L K H) (u : Upd Non W W') : CP w W' b L K H := ⟨t.hr.non u, t.n, t.up.trans u⟩
theorem CP.start {w w2 : World} {L : PoolAt} {K : Nat → GAt} {H : HostM} (rp : PoolRep w2 L H.p) (u : Upd Non w w2) (n1 : w.heap.size ≤ L.p) (n2 : w.heap.size ≤ L.bb) (n3 : w.heap.size ≤ L.rb) :
    CP w (w2.alloc (.cells #[.pointer (some ⟨L.p, 0, none⟩), .pointer none, .pointer none, .pointer none, .pointer none] 51)) w2.heap.size L K (upto H 0) := by
  have hg : ∀ i, (upto H 0).g i = none := fun i => by unfold upto; dsimp only; rw [if_neg (by omega)]
  refine ⟨⟨rp.alloc _, (hrow_new w2 w2.heap.size rfl K 0).congr fun i hi => ?_, fun i hi G hG => (by rw [hg i] at hG; cases hG), fun i j hi hj hij si sj => (by rw [hg i] at si; cases si)⟩, ?_, u.alloc _⟩
  · unfold hcells hptr
    by_cases h0 : i = 0
    · rw [if_pos h0, if_pos h0]
    · rw [if_neg h0, if_neg h0, hg]
      rfl
  · rintro k (o | ⟨i, _, hs, _⟩)
    · rcases o with rfl | (rfl | (rfl | rfl))
      · exact u.size
      · exact n1
      · exact n2
      · exact n3
    · rw [hg i] at hs; cases hs
theorem CP.come {w W W' : World} {b : Nat} {L : PoolAt} {K : Nat → GAt} {H : HostM} {j : Nat} (t : CP w W b L K (upto H j)) (hj : j < 4) {a : GAt} {G : GuestM} (hG : H.g j = some G) (u : Upd Non W W') (q : GRep W' L.p a G) (hq : ∀ k, a.own k → W.heap.size ≤ k) :
    CP w (W'.setCell ⟨b, 1 + j, none⟩ (.pointer (some ⟨a.g, 0, none⟩))) b L (setK K j a) (upto H (j + 1)) := by
  have c := t.hr.come hj (upto_at H j) u q hq
  rw [← upto_some hG] at c
  exact ⟨c.rep, fun k hk => (c.own k hk).elim (t.n k) (fun e => Nat.le_trans t.up.size e), t.up.over c.up t.n⟩
theorem CP.full {w W : World} {b : Nat} {L : PoolAt} {K : Nat → GAt} {H : HostM} (t : CP w W b L K (upto H 4)) : CP w W b L K H := by
  have e : ∀ i, i < 4 → (upto H 4).g i = H.g i := fun i hi => by unfold upto; dsimp only; rw [if_pos hi]
  refine ⟨⟨t.hr.rp, t.hr.row.congr fun i hi => ?_, fun i hi G hG => t.hr.g i hi G (by rw [e i hi]; exact hG), fun i j hi hj hij si sj => t.hr.sep i j hi hj hij (by rw [e i hi]; exact si) (by rw [e j hj]; exact sj)⟩, fun k hk => t.n k ?_, t.up⟩
  · unfold hcells hptr
    by_cases h0 : i = 0
    · rw [if_pos h0, if_pos h0]
    · rw [if_neg h0, if_neg h0, e (i - 1) (by omega)]
  · rcases hk with o | ⟨i, hi, hs, ho⟩
    · exact .inl o
    · exact .inr ⟨i, hi, by rw [e i hi]; exact hs, ho⟩
section
variable {w W : World} {h : Nat} {L : PoolAt} {K : Nat → GAt} {H : HostM}
set_option maxRecDepth 100000 in
set_option maxHeartbeats 2000000 in
theorem hcopy_any (r : HRep w h L K H) (hI : HInv H) : Calls Try.prog 30 #[.pointer (some ⟨h, 0, none⟩)] w fun e w' => ∃ (b : Nat) (L' : PoolAt) (K' : Nat → GAt), e = .returned (.pointer (some ⟨b, 0, none⟩)) ∧ CP w w' b L' K' H := by
  have lh := r.hlt
  have h00 := r.h0
  have HI := Lib.hid hI
  have h4 : upto H 4 = upto H 4 := rfl
  go_enter Try.func30, Try.ntmps30
  go_upto_region 2 with (first
    | (go_at_call 50; refine (copy_any _ L H.p r.rp).mono ?_; rintro e w2 ⟨L', rfl, p2, u2, n1, n2, n3⟩)
    | fail)
  have T0 := Lib.hid (CP.start (K := K) p2 u2 n1 n2 n3)
  have ux := u2.alloc (.cells #[.pointer (some ⟨L'.p, 0, none⟩), .pointer none, .pointer none, .pointer none, .pointer none] 51)
  have ld := (r.non ux).loadG
  have lx := (r.non ux).hlt
  clear u2 n1 n2 n3 p2 ux
  generalize w2.alloc (.cells #[.pointer (some ⟨L'.p, 0, none⟩), .pointer none, .pointer none, .pointer none, .pointer none] 51) = wx at T0 ld lx ⊢
  generalize w2.heap.size = b at T0 ⊢
  go_wp2_with (first | (refine wpl_load rfl 49 _ rfl _ _ rfl ld ?_) | fail)
  clear ld lx
  go_loopw [17] (fun i wi => ∃ j : Nat, j ≤ 4 ∧ i = .int .i64 j ∧ Hid (∃ K', CP w wi b L' K' (upto H j))) (fun i _ => 4 - (intOf i).toNat)
  case atStart => exact ⟨0, Nat.zero_le _, rfl, K, T0.out⟩
  case round =>
    clear T0
    obtain ⟨j, hj, rfl, hT⟩ := hrel
    by_cases hlt : j < 4
    · have hj2 : (j : Int) < 4 := by omega
      cases hG : H.g j with
      | none =>
        have hx := garr_none (K := K) hlt hG
        have hs := Lib.hid (upto_none hG)
        clear hG
        go_wp2_with fail
        go_roundw
        case rel => exact ⟨j + 1, by omega, by go_num, by rw [hs.out]; exact hT.out⟩
        case measure => simp [intOf]; omega
      | some G =>
        have hx := garr_some (K := K) hlt hG
        have hGG := Lib.hid hG
        have hC := (HI.out.gi hlt hG).c.len
        clear hG
        obtain ⟨K', T⟩ := hT.out
        clear hT
        have c0 := T.hr.h0
        have lb := T.hr.hlt
        have fb := T.hr.hfr (1 + j)
        have cj := T.hr.hnone hlt (upto_at H j)
        have rr := Lib.hid (r.non T.up)
        go_upto_region 6 with fail
        go_region_held3 (fun w' => w'.cell? ⟨b, 0, none⟩ = some (.pointer (some ⟨L'.p, 0, none⟩))) (first | exact c0 | exact T3.hr.h0 | exact Upd.cell (S := Non) (by repeat (first | assumption | exact Upd.refl _ _ | apply Upd.drew | apply Upd.drewN | refine Upd.trans ?_ u3)) c0 (fun h => h)) (first
          | (go_at_call 51; refine Calls.mono (gcopy_any (HRep.pg (HRep.non rr.out (by repeat (first | assumption | apply Upd.alloc | apply Upd.drew | apply Upd.drewN | exact Upd.refl _ _))) hlt hGG.out) (by rw [withLeaf_length]; omega) L'.p) ?_; rintro e w3 ⟨K1, rfl, q3, f3, u3⟩; have U3 : Upd Non wr w3 := (by repeat (first | assumption | exact Upd.refl _ _ | apply Upd.drew | refine Upd.trans ?_ u3)); have c3 := (T.non U3).hr.hnone hlt (upto_at H j); have f3' := (T.non U3).hr.hfr (1 + j); have l3 := (T.non U3).hr.hlt; have T3 := T.come hlt hGG.out U3 q3 f3))
        all_goals go_wp2_with fail
        all_goals go_roundw
        all_goals first
          | exact ⟨j + 1, by omega, by go_num, _, T3⟩
          | exact ⟨j + 1, by omega, by go_num, _, T3.non (Upd.refl _ _).drew⟩
          | (simp [intOf]; omega)
    · have hj3 : ¬ (j : Int) < 4 := by omega
      obtain rfl : j = 4 := by omega
      obtain ⟨K', T⟩ := hT.out
      have T4 := Lib.hid T
      clear T hT
      go_wp2_with fail
      go_ret
      exact ⟨b, rfl, L', K', T4.out.full⟩
end

end U
end Go.Proofs.Ytnhplapcdgnaaab
