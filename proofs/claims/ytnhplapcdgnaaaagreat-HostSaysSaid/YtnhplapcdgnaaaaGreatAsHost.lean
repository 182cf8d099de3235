import Derived.Test.YtnhplapcdgnaaaaGreatRHostEX
import Derived.Test.YtnhplapcdgnaaaaGreatAsX
import Derived.Test.YtnhplapcdgnaaaaGreatHostGx
import Derived.Test.YtnhplapcdgnaaaaGreatRGuestEX
import Derived.Test.YtnhplapcdgnaaaaGreatMapLawX
import Derived.Test.YtnhplapcdgnaaaaGreatLawX
import Derived.Deep.RegionHeld3
set_option linter.unusedVariables false
set_option linter.unusedSimpArgs false
namespace Go.Proofs.YtnhplapcdgnaaaaGreat
open Go.RowKit
namespace U

/-! The law asHost. -/
theorem NRow.toI {w : World} {v : Value} {L : List Int} (h : NRow w v L) : IAt w v L := by
  rcases h with h | ⟨g, o, cap, C, rfl, h1, h2, h3, h4, h5⟩
  · exact .inl h
  · exact .inr ⟨g, o, cap, rfl, (Array.getElem?_eq_some_iff.1 h3).1, h5⟩
theorem of_norm (P : PoolM) (f : Int) : P.norm.of f = P.of f := by
  unfold PoolM.of
  by_cases h : f < 0 ∨ (P.n : Int) ≤ f
  · rw [if_pos h, if_pos (show f < 0 ∨ (P.norm.n : Int) ≤ f from h)]
  · rw [if_neg h, if_neg (show ¬ (f < 0 ∨ (P.norm.n : Int) ≤ f) from h)]
    have : f.toNat < P.n := by omega
    unfold PoolM.norm
    dsimp only
    rw [if_pos this]
theorem HInv.pos {H : HostM} (h : HInv H) : ∀ i, 0 ≤ H.p.norm.refs i := norm_pos fun i hi => by rw [h.cnt i hi]; exact Int.natCast_nonneg _
theorem gl_len4' (H : HostM) : (ints_of (gl H)).length ≤ 1000 := by
  have := glK_length H 4
  unfold ints_of
  rw [List.length_map, ← glK_four]
  omega
section
variable {w : World} {h : Nat} {L : PoolAt} {K : Nat → GAt} {H : HostM}
set_option maxRecDepth 100000 in
theorem hcached_off (r : HRep w h L K H) (n : Int) (hn : n < 0 ∨ 3 < n) : Calls Tryz.prog 57 #[.pointer (some ⟨h, 0, none⟩), .int .i64 n] w fun e w' => e = .returned (.tuple #[.slice none 0 0, errv 1]) ∧ w = w' := by
  have hc := Lib.hid (hguest_off r n hn)
  rw [errv1] at hc ⊢
  go_enter Tryz.func57, Tryz.ntmps57
  go_wp2_with (first | (go_at_call 22; refine hc.out.mono ?_; rintro e w2 ⟨rfl, rfl⟩) | fail)
  go_ret2
  exact ⟨rfl, rfl⟩
set_option maxRecDepth 100000 in
theorem hcached_none (r : HRep w h L K H) {k : Nat} (hk : k < 4) (hg : H.g k = none) : Calls Tryz.prog 57 #[.pointer (some ⟨h, 0, none⟩), .int .i64 k] w fun e w' => e = .returned (.tuple #[.slice none 0 0, errv 2]) ∧ w = w' := by
  have hc := Lib.hid (hguest_none r hk hg)
  rw [errv2] at hc ⊢
  go_enter Tryz.func57, Tryz.ntmps57
  go_wp2_with (first | (go_at_call 22; refine hc.out.mono ?_; rintro e w2 ⟨rfl, rfl⟩) | fail)
  go_ret2
  exact ⟨rfl, rfl⟩
set_option maxRecDepth 100000 in
theorem hleafC_off (r : HRep w h L K H) (n a : Int) (hn : n < 0 ∨ 3 < n) : Calls Tryz.prog 48 #[.pointer (some ⟨h, 0, none⟩), .int .i64 n, .int .i64 a] w fun e w' => e = .returned (.tuple #[LeafM.none.val, errv 1]) ∧ Upd Non w w' := by
  have hc := Lib.hid (fun W (r' : HRep W h L K H) => hguest_off r' n hn)
  have r2 := Lib.hid (r.non ((Upd.refl Non w).alloc (.cells #[.bool false, .bool false, .int .i64 0] 88)))
  rw [errv1] at hc ⊢
  go_enter Tryz.func48, Tryz.ntmps48
  go_wp2_with (first | (go_at_call 22; refine (hc.out _ r2.out).mono ?_; rintro e w2 ⟨rfl, rfl⟩) | fail)
  exact bodyPost_ret (v := .tuple #[LeafM.val ⟨false, false, 0⟩, errv 1]) (by simp [results, Tryz.results48, go_sem, LeafM.val, errv1]) rfl ⟨rfl, (Upd.refl _ _).alloc _⟩
set_option maxRecDepth 100000 in
theorem hleafC_none (r : HRep w h L K H) {k : Nat} (hk : k < 4) (hg : H.g k = none) (a : Int) : Calls Tryz.prog 48 #[.pointer (some ⟨h, 0, none⟩), .int .i64 k, .int .i64 a] w fun e w' => e = .returned (.tuple #[LeafM.none.val, errv 2]) ∧ Upd Non w w' := by
  have hc := Lib.hid (fun W (r' : HRep W h L K H) => hguest_none r' hk hg)
  have r2 := Lib.hid (r.non ((Upd.refl Non w).alloc (.cells #[.bool false, .bool false, .int .i64 0] 88)))
  rw [errv2] at hc ⊢
  go_enter Tryz.func48, Tryz.ntmps48
  go_wp2_with (first | (go_at_call 22; refine (hc.out _ r2.out).mono ?_; rintro e w2 ⟨rfl, rfl⟩) | fail)
  exact bodyPost_ret (v := .tuple #[LeafM.val ⟨false, false, 0⟩, errv 2]) (by simp [results, Tryz.results48, go_sem, LeafM.val, errv2]) rfl ⟨rfl, (Upd.refl _ _).alloc _⟩
end
section
variable {w0 w : World} {h o m : Nat} {L : PoolAt} {K : Nat → GAt} {R : Nat → Nat × Value} {H : HostM}
set_option maxRecDepth 100000 in
set_option maxHeartbeats 8000000 in
theorem asHost_law (t : HB w0 w h L K H o m R H) (hI : HInv H) :
    Calls Tryz.prog 15 #[.pointer (some ⟨h, 0, none⟩), .pointer (some ⟨o, 0, none⟩)] w fun e w' => e = .returned (.bool true) ∧ Upd Non w w' := by
  have c0 := t.b.h0
  have lo := t.b.hlt
  have hl := Lib.hid (gl_len4' H)
  go_enter Tryz.func15, Tryz.ntmps15
  go_wp2_with fail
  go_region_held3 (fun w' => w'.cell? ⟨o, 0, none⟩ = some (.pointer (some ⟨m, 0, none⟩))) (go_keep) (first
    | (go_at_call 51; refine Calls.mono (hguests_any (HB.a ((by repeat (first | assumption | apply HB.drew | apply HB.drewN | apply HB.alloc) : HB w0 _ h L K H o m R H))).r) ?_; rintro e w1 ⟨v1, rfl, n1, f1, u1⟩; have T1 : HB w0 w1 h L K H o m R H := HB.non ((by repeat (first | assumption | apply HB.drew | apply HB.drewN | apply HB.alloc) : HB w0 _ h L K H o m R H)) u1; have k1 := T1.b.h0; have l1 := T1.b.hlt)
    | (go_at_call 52; refine Calls.mono (rguests_any (HB.b ((by repeat (first | assumption | apply HB.drew | apply HB.drewN | apply HB.alloc) : HB w0 _ h L K H o m R H)))) ?_; rintro e w2 ⟨v2, rfl, n2, f2, u2⟩; have T2 : HB w0 w2 h L K H o m R H := HB.non ((by repeat (first | assumption | apply HB.drew | apply HB.drewN | apply HB.alloc) : HB w0 _ h L K H o m R H)) u2; have k2 := T2.b.h0; have l2 := T2.b.hlt)
    | (go_at_call 50; refine Calls.mono (sameNumbers_law _ _ _ (ints_of (gl H)) (NRow.toI (NRow.upd_ n1 u2 (fun _ _ => (fun h => h)))) (NRow.toI n2) hl.out) ?_; rintro e w3 ⟨rfl, u3⟩; have T3 : HB w0 w3 h L K H o m R H := HB.non ((by repeat (first | assumption | apply HB.drew | apply HB.drewN | apply HB.alloc) : HB w0 _ h L K H o m R H)) u3; have k3 := T3.b.h0; have l3 := T3.b.hlt)
    | (go_at_call 17; refine Calls.mono (hPromised_any (HB.a ((by repeat (first | assumption | apply HB.drew | apply HB.drewN | apply HB.alloc) : HB w0 _ h L K H o m R H))).r) ?_; rintro e w4 ⟨rfl, rfl⟩)
    | (go_at_call 53; refine Calls.mono (rpromised_any (HB.b ((by repeat (first | assumption | apply HB.drew | apply HB.drewN | apply HB.alloc) : HB w0 _ h L K H o m R H)))) ?_; rintro e w4 ⟨rfl, rfl⟩)
    | (go_at_call 18; refine Calls.mono (hleft_any (HB.a ((by repeat (first | assumption | apply HB.drew | apply HB.drewN | apply HB.alloc) : HB w0 _ h L K H o m R H))).r) ?_; rintro e w4 ⟨rfl, rfl⟩)
    | (go_at_call 54; refine Calls.mono (rleft_any _ _ _ (HB.b ((by repeat (first | assumption | apply HB.drew | apply HB.drewN | apply HB.alloc) : HB w0 _ h L K H o m R H))).rp) ?_; rintro e w4 ⟨rfl, rfl⟩))
  have U0 : Upd Non w w3 := by
    first
      | exact (((Upd.refl _ _).drew.trans u1).trans u2).trans u3
      | exact (u1.trans u2).trans u3
  have HU := Lib.hid U0
  clear c0 lo T1 T2 T3 k1 k2 k3 l1 l2 l3 u1 u2 u3 n1 n2 f1 f2 U0
  go_wp2_with fail
  go_loopw [5] (fun i wr => ∃ f : Int, -1 ≤ f ∧ f ≤ H.p.n + 1 ∧ i = .int .i64 f ∧ Hid (Upd Non w wr)) (fun i _ => ((H.p.n : Int) + 1 - intOf i).toNat)
  case atStart => exact ⟨-1, by omega, by omega, rfl, HU.out.drewN 0⟩
  case round =>
    clear HU
    obtain ⟨f, hf0, hf1, rfl, hU⟩ := hrel
    have T := t.non hU.out
    have c0 := T.b.h0
    have lo := T.b.hlt
    have n0 := T.b.rp.c0
    have lm := T.b.mlt
    have n64 : (H.p.n : Int) ≤ 64 := by have := t.b.rp.n64; omega
    by_cases hlt : f ≤ H.p.n
    · have hx := Lib.hid (fun W (u : Upd Non w W) => hframe_any (t.non u).a.r f)
      have hy := Lib.hid (fun W (u : Upd Non w W) => rof_any W m H.p.norm (t.non u).b.rp.norm f (hI.pos _))
      rw [of_norm] at hy
      generalize H.p.of f = y at hx hy
      obtain ⟨cl, rf, er⟩ := y
      go_wp2_with (first
        | (go_at_call 55; refine (hx.out _ hU.out).mono ?_; rintro e w1 ⟨rfl, u1⟩; unfold frameV; have U1 := hU.out.trans u1; have c1 := (t.non U1).b.h0; have l1 := (t.non U1).b.hlt)
        | (go_at_call 56; refine (hy.out _ (U1.alloc _)).mono ?_; rintro e w2 ⟨rfl, u2⟩; unfold frameV; have U2 := (U1.alloc _).trans u2; obtain ⟨hc, hfr⟩ := u2.cells; have hz := u2.size; try simp at hz; try replace hz := Nat.lt_of_succ_le hz)
        | (go_at_call 7; refine (same_law _ _ _).mono ?_; rintro e w3 ⟨rfl, rfl⟩)
        | fail)
      go_roundw
      case rel => exact ⟨f + 1, by omega, by omega, rfl, U2.alloc _⟩
      case measure => simp [intOf]; omega
    · have HU := Lib.hid hU.out
      clear hU
      go_wp2_with fail
      clear c0 lo n0 lm T
      go_loopw [10] (fun i wr => ∃ q : Int, -1 ≤ q ∧ q ≤ 5 ∧ i = .int .i64 q ∧ Hid (Upd Non w wr)) (fun i _ => (5 - intOf i).toNat)
      case atStart => exact ⟨-1, by omega, by omega, rfl, HU.out⟩
      case round =>
        clear HU
        obtain ⟨q, hq0, hq1, rfl, hU⟩ := hrel
        have T := Lib.hid (t.non hU.out)
        have UU := Lib.hid hU.out
        clear hU
        by_cases hq5 : q < 5
        · rcases who_ways H q with h0 | ⟨k, hk, rfl, hg⟩ | ⟨k, G, hk, rfl, hg⟩
          · go_wp2_with (first
              | (go_at_call 37; refine (rwho_off T.out.b q h0).mono ?_; rintro e w1 ⟨rfl, rfl⟩)
              | (go_at_call 57; refine (hcached_off T.out.a.r q h0).mono ?_; rintro e w1 ⟨rfl, rfl⟩)
              | (go_at_call 7; refine (same_law _ 1 1).mono ?_; rintro e w3 ⟨rfl, rfl⟩)
              | fail)
            go_roundw
            case rel => exact ⟨q + 1, by omega, by omega, rfl, UU.out⟩
            case measure => simp [intOf]; omega
          · have hg := Lib.hid hg
            go_wp2_with (first
              | (go_at_call 37; refine (rwho_none T.out.b hk hg.out).mono ?_; rintro e w1 ⟨rfl, rfl⟩)
              | (go_at_call 57; refine (hcached_none T.out.a.r hk hg.out).mono ?_; rintro e w1 ⟨rfl, rfl⟩)
              | (go_at_call 7; refine (same_law _ 2 2).mono ?_; rintro e w3 ⟨rfl, rfl⟩)
              | fail)
            go_roundw
            case rel => exact ⟨(k : Int) + 1, by omega, by omega, rfl, UU.out⟩
            case measure => simp [intOf]; omega
          · have gi := Lib.hid (hI.gi hk hg)
            have hcl : Hid (G.c.length ≤ 4) := gi.out.c.len
            have hc100 : Hid (G.c.length ≤ 100) := by show _ ≤ _; have := hcl.out; omega
            have hwl : Hid ((withLeaf G.m G.c).length ≤ 100) := by show _ ≤ _; rw [withLeaf_length]; exact hc100.out
            have hto : Hid (∀ e ∈ G.c, 0 ≤ e.to ∧ e.to < 16) := fun e he => ⟨(gi.out.c.ent e he).1, (gi.out.c.ent e he).2.1⟩
            have hg := Lib.hid hg
            go_wp2_with (first
              | (go_at_call 37; refine (rwho_some T.out.b hk hg.out).mono ?_; rintro e w1 ⟨rfl, rfl⟩)
              | (go_at_call 57; refine (hcached_any T.out.a.r hk hg.out hcl.out).mono ?_; rintro e w1 ⟨v1, rfl, e1, f1, u1⟩)
              | (go_at_call 59; refine (rgcached_any ((T.out.non u1).b.rg hk hg.out) hc100.out hto.out).mono ?_; rintro e w2 ⟨v2, rfl, e2, f2, u2⟩)
              | (go_at_call 58; refine (sameEntries_law _ _ _ (withLeaf G.m G.c) (e1.upd_ u2 (fun _ _ => (fun h => h))) e2 hwl.out).mono ?_; rintro e w4 ⟨rfl, u4⟩)
              | (go_at_call 7; refine (natAbs_same _ (a := 0) (b := 0) _ _ rfl rfl).mono ?_; rintro e w3 ⟨rfl, rfl⟩)
              | fail)
            have U4 := Lib.hid (((UU.out.trans u1).trans u2).trans u4)
            clear e1 f1 e2 f2 u1 u2 u4
            go_loopw [15] (fun i wr => ∃ j : Nat, j ≤ 16 ∧ i = .int .i64 j ∧ Hid (Upd Non w wr)) (fun i _ => 16 - (intOf i).toNat)
            case atStart => exact ⟨0, Nat.zero_le _, rfl, U4.out⟩
            case round =>
              obtain ⟨j, hj, rfl, hV⟩ := hrel
              clear U4
              have tw := Lib.hid (t.non hV.out)
              have UV := Lib.hid hV.out
              clear hV
              by_cases hjl : j < 16
              · have hk' : (j : Int) < 16 := by omega
                have F1 := Lib.hid (show hstate H k j = (G.m.state j, 0) by unfold hstate; rw [if_neg (by omega), Int.toNat_natCast, hg.out]; exact mstate_at hjl)
                have F2 := Lib.hid (mleaf_in (M := G.m) hjl)
                go_wp2_with (first
                  | (go_at_call 47; refine (hstate_any tw.out.a.r _ _).mono ?_; rw [F1.out]; rintro e w1 ⟨rfl, rfl⟩; unfold errv)
                  | (go_at_call 48; refine (hleafC_some tw.out.a.r hk hg.out _).mono ?_; rw [F2.out]; rintro e w1 ⟨rfl, u1⟩; unfold errv LeafM.val; have t2 := (tw.out.non u1).b.rg hk hg.out; have c0 := t2.mr.st hjl; have c1 := t2.mr.l0 hjl; have c2 := t2.mr.l1 hjl; have c3 := t2.mr.l2 hjl; have lr2 := t2.lt)
                  | fail)
                go_quiet (fail)
                go_wp2
                go_roundw
                case rel => exact ⟨j + 1, by omega, by go_num, ((UV.out.trans u1).alloc _).drewN _⟩
                case measure => simp [intOf]; omega
              · go_wp2
                go_roundw
                case rel => exact ⟨(k : Int) + 1, by omega, by omega, rfl, UV.out⟩
                case measure => simp [intOf]; omega
        · go_wp2_with fail
          go_ret
          exact ⟨rfl, UU.out⟩
end

end U
end Go.Proofs.YtnhplapcdgnaaaaGreat
