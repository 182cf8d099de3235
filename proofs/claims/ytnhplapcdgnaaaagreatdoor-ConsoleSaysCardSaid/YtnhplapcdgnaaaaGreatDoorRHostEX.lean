import Derived.Test.YtnhplapcdgnaaaaGreatDoorRHostX
import Derived.Test.YtnhplapcdgnaaaaGreatDoorHostQm
import Derived.Test.YtnhplapcdgnaaaaGreatDoorGuestLawX
set_option linter.unusedVariables false
set_option linter.unusedSimpArgs false
namespace Go.Proofs.YtnhplapcdgnaaaaGreatDoor
open Go.RowKit
namespace U

/-! The reference's host: Scan, ScanAll. -/
section
variable {w W W' : World} {h m : Nat} {R : Nat → Nat × Value} {H H' : HostM} {B : Nat} {l : LeafM}
theorem HBox.offR {R' : Nat → Nat × Value} (t : HBox W B l) (r : RHRep W h m R' H') : ¬ ownRH h m R' H' B := r.off t (by decide) (by decide) (by decide) (by decide)
/-- The host while pages are sealed: its guests stay where they are. -/
structure RS (w W : World) (h m : Nat) (R : Nat → Nat × Value) (H H' : HostM) : Prop where
  ex : ∃ R', RH (ownRH h m R H) w W h m R' H' ∧ ∀ z, (R' z).1 = (R z).1
theorem RS.start (r : RHRep w h m R H) : RS w w h m R H H := ⟨R, RH.start r, fun _ => rfl⟩
theorem RS.non (t : RS w W h m R H H') (u : Upd Non W W') : RS w W' h m R H H' := by
  obtain ⟨R', p, e⟩ := t.ex
  exact ⟨R', p.non u, e⟩
theorem RS.hlt (t : RS w W h m R H H') : h < W.heap.size := by obtain ⟨R', p, e⟩ := t.ex; exact p.rep.hlt
theorem RS.hnone (t : RS w W h m R H H') {q : Nat} (hq : q < 4) (hG : H'.g q = none) : W.cell? ⟨h, 1 + q, none⟩ = some (.pointer none) := by
  obtain ⟨R', p, e⟩ := t.ex
  exact p.rep.hnone hq hG
theorem RS.hsome (t : RS w W h m R H H') {q : Nat} (hq : q < 4) {G : GuestM} (hG : H'.g q = some G) : W.cell? ⟨h, 1 + q, none⟩ = some (.pointer (some ⟨(R q).1, 0, none⟩)) := by
  obtain ⟨R', p, e⟩ := t.ex
  rw [← e q]
  exact p.rep.hsome hq hG
theorem RS.leaf (t : RS w W h m R H H') {q : Nat} (hq : q < 4) {G : GuestM} (hG : H'.g q = some G) {j : Nat} (hj : j < 16) :
    W.cell? ⟨(R q).1, 17 + j * 3, none⟩ = some (.bool (G.m.leaf j).there) ∧ W.cell? ⟨(R q).1, 17 + j * 3 + 2, none⟩ = some (.int .i64 (G.m.leaf j).frame) ∧ (R q).1 < W.heap.size := by
  obtain ⟨R', p, e⟩ := t.ex
  rw [← e q]
  have g := p.rep.rg hq hG
  exact ⟨g.mr.l0 hj, g.mr.l2 hj, g.lt⟩
theorem RS.seal (t : RS w W h m R H H') {q : Nat} (hq : q < 4) {G : GuestM} (hG : H'.g q = some G) {E : Nat → Nat} (hI : GInv H'.p G E) {n : Int} {M : MapM} (hs : mseal G.m n = (M, 0)) (b : HBox W B l) :
    Calls Tryz.prog 43 #[.pointer (some ⟨(R q).1, 0, none⟩), .int .i64 n] W fun e w' => e = .returned (.int .i64 0) ∧ RS w w' h m R H (H'.put q H'.p (some { G with m := M })) ∧ HBox w' B l := by
  obtain ⟨R', p, e⟩ := t.ex
  rw [← e q]
  refine (rgseal_any (p.rep.rg hq hG) hI n).mono ?_
  unfold RActPost
  rw [hs]
  rintro e1 w2 ⟨rfl, v, u⟩
  have s := p.rep.guest hq hG (G' := { G with m := M }) u
  refine ⟨rfl, ⟨_, p.trans s, fun z => ?_⟩, Row.upd_ b s.up (b.offR p.rep)⟩
  unfold setR
  split
  · rename_i ez; subst ez; exact e z
  · exact e z
theorem RS.join (t : RS w W h m R H H') {q : Nat} (hq : q < 4) {G : GuestM} (hG : H'.g q = some G) {E : Nat → Nat} (hI : GInv H'.p G E) (n fr : Int) :
    Calls Tryz.prog 44 #[.pointer (some ⟨(R q).1, 0, none⟩), .int .i64 n, .int .i64 fr] W (RHActPost w h m R H (H'.put q (gact G (mjoin H'.p G.m n fr)).1 (some (gact G (mjoin H'.p G.m n fr)).2.1), (gact G (mjoin H'.p G.m n fr)).2.2)) := by
  obtain ⟨R', p, e⟩ := t.ex
  rw [← e q]
  refine (rgjoin_any (p.rep.rg hq hG) hI n fr).mono ?_
  unfold RActPost RHActPost
  rintro e1 w2 ⟨rfl, v, u⟩
  exact ⟨rfl, _, p.guest hq hG (G' := (gact G (mjoin H'.p G.m n fr)).2.1) u⟩
def RHScanPost (w : World) (h m : Nat) (R : Nat → Nat × Value) (H : HostM) (x : HostM × Bool × Nat) (e : Ending) (w' : World) : Prop :=
  e = .returned (.tuple #[.bool x.2.1, .int .i64 x.2.2]) ∧ ∃ R', RH (ownRH h m R H) w w' h m R' x.1
theorem quo16 (a b : Nat) (hb : b < 16) : (16 * (a : Int) + (b : Int)) / 16 = a ∧ (16 * (a : Int) + (b : Int)) % 16 = b ∧ (16 * (a : Int) + (b : Int)).tdiv 16 = a ∧ (16 * (a : Int) + (b : Int)).tmod 16 = b := by
  refine ⟨by omega, by omega, ?_, ?_⟩
  · rw [Int.tdiv_eq_ediv_of_nonneg (by omega)]; omega
  · rw [Int.tmod_eq_emod_of_nonneg (by omega)]; omega
set_option maxRecDepth 100000 in
set_option maxHeartbeats 8000000 in
theorem rscan_any (r : RHRep w h m R H) (hI : HInv H) (n a : Int) : Calls Tryz.prog 29 #[.pointer (some ⟨h, 0, none⟩), .int .i64 n, .int .i64 a] w (RHScanPost w h m R H (hscan H n a)) := by
  rcases who_ways H n with h0 | ⟨k, hk, rfl, hg⟩ | ⟨k, G, hk, rfl, hg⟩
  · have hc := Lib.hid (rwho_off r n h0)
    have hF := Lib.hid (hscan_off (H := H) (page := a) h0)
    go_enter Tryz.func29, Tryz.ntmps29
    go_wp2_with (first | (go_at_call 30; refine hc.out.mono ?_; rintro e w2 ⟨rfl, rfl⟩) | fail)
    go_ret2
    rw [hF.out]
    exact ⟨rfl, R, RH.start r⟩
  · have hc := Lib.hid (rwho_none r hk hg)
    have hF := Lib.hid (hscan_none (page := a) hk hg)
    go_enter Tryz.func29, Tryz.ntmps29
    go_wp2_with (first | (go_at_call 30; refine hc.out.mono ?_; rintro e w2 ⟨rfl, rfl⟩) | fail)
    go_ret2
    rw [hF.out]
    exact ⟨rfl, R, RH.start r⟩
  · have hc := Lib.hid (rwho_some r hk hg)
    have hF0 : hscan H k a = hscanG H k G a := hscan_some hk hg
    have rg := r.rg hk hg
    by_cases ho : onB a = true
    · obtain ⟨a0, a1⟩ := onB_iff.1 ho
      obtain ⟨p, rfl⟩ := Int.eq_ofNat_of_zero_le a0
      have hp : p < 16 := by omega
      have hp2 : (p : Int) < 16 := a1
      have hon := Lib.hid ho
      have l0 := rg.mr.l0 hp
      have l1 := rg.mr.l1 hp
      have l2 := rg.mr.l2 hp
      have lr := rg.lt
      cases hl : G.m.leaf p with
      | mk there wrt fr =>
      rw [hl] at l0 l1 l2
      dsimp only at l0 l1 l2
      cases there with
      | false =>
        have hF := Lib.hid (show hscan H k p = (H, false, 0) by rw [hF0]; unfold hscanG; rw [if_pos ho, Int.toNat_natCast, hl]; rfl)
        clear hF0 hl ho
        go_enter Tryz.func29, Tryz.ntmps29
        go_wp2_with (first
          | (go_at_call 30; refine hc.out.mono ?_; rintro e w2 ⟨rfl, rfl⟩)
          | (go_at_call 40; refine (ron_any _ _).mono ?_; rw [hon.out]; rintro e w1 ⟨rfl, rfl⟩)
          | fail)
        go_ret2
        rw [hF.out]
        exact ⟨rfl, R, RH.non (RH.start r) ((Upd.refl _ _).alloc _)⟩
      | true =>
        have hL := Lib.hid hl
        have hGk := Lib.hid hg
        have HI := Lib.hid hI
        have gi := hI.gi hk hg
        clear hF0 hl ho hg hI gi
        go_enter Tryz.func29, Tryz.ntmps29
        go_upto_region 8 with (first
          | (go_at_call 30; refine hc.out.mono ?_; rintro e w2 ⟨rfl, rfl⟩)
          | (go_at_call 40; refine (ron_any _ _).mono ?_; rw [hon.out]; rintro e w1 ⟨rfl, rfl⟩)
          | fail)
        have U4 := (Upd.refl Non w).alloc (.cells #[.bool true, .bool wrt, .int .i64 fr] 88)
        have B4 := HBox.new w true wrt fr
        clear l0 l1 l2 lr
        generalize w.alloc (.cells #[.bool true, .bool wrt, .int .i64 fr] 88) = w4 at U4 B4 ⊢
        have wz : ∃ Bx, w.heap.size = Bx := ⟨_, rfl⟩
        obtain ⟨Bx, hBx⟩ := wz
        rw [hBx] at B4 ⊢
        have HBx := Lib.hid hBx
        clear hBx
        have z0 := B4.c0
        have zl := B4.lt
        dsimp only at z0
        go_wp2_with fail
        clear z0 zl
        have T4 := Lib.hid (And.intro U4 B4)
        clear U4 B4
        go_loopw [12] (fun i wi => ∃ q : Nat, i = .int .i64 q ∧ Hid ((Upd Non w wi ∧ HBox wi Bx ⟨true, wrt, fr⟩) ∧ q ≤ 16 * k + p ∧ hfirst H fr q = none)) (fun i _ => 64 - (intOf i).toNat)
        case atStart => exact ⟨0, rfl, T4.out, Nat.zero_le _, rfl⟩
        case round =>
          clear T4
          obtain ⟨q, hi, hT⟩ := hrel
          have hqN := hT.out.2.1
          by_cases he : q = 16 * k + p
          · have hF := Lib.hid (hscan_not hk hp hGk.out hL.out (by rw [← he]; exact hT.out.2.2))
            subst he
            rw [show ((16 * k + p : Nat) : Int) = 16 * (k : Int) + (p : Int) by omega] at hi
            subst hi
            go_wp2_with fail
            go_ret2
            rw [hF.out]
            exact ⟨rfl, R, RH.non (RH.start r) hT.out.1.1⟩
          · obtain ⟨qa, qb, hqb, rfl⟩ : ∃ qa qb, qb < 16 ∧ q = 16 * qa + qb := ⟨q / 16, q % 16, by omega, by omega⟩
            rw [show ((16 * qa + qb : Nat) : Int) = 16 * (qa : Int) + (qb : Int) by omega] at hi
            subst hi
            have qa4 : qa < 4 := by omega
            have hlt : 16 * (qa : Int) + (qb : Int) < 16 * (k : Int) + (p : Int) := by omega
            have hge : 0 ≤ 16 * (qa : Int) + (qb : Int) := by omega
            obtain ⟨d1, d2, d3, d4⟩ := quo16 qa qb hqb
            have hN := Lib.hid (show 16 * qa + qb < 16 * k + p by omega)
            have hN2 := Lib.hid (show 16 * qa + qb + 1 ≤ 16 * k + p by omega)
            have hfn := Lib.hid hT.out.2.2
            have U5 := Lib.hid hT.out.1.1
            have B5 := Lib.hid hT.out.1.2
            have r5 := r.non U5.out
            have lh := r5.hlt
            clear hT hqN he
            cases hGq : H.g qa with
            | none =>
              have hx := r5.hnone qa4 hGq
              have hno := Lib.hid (hfirst_no hfn.out (hhit_none (N := 16 * qa + qb) (by rw [show (16 * qa + qb) / 16 = qa by omega]; exact hGq)))
              clear hGq r5
              go_wp2_with fail
              go_roundw
              case rel => exact ⟨16 * qa + qb + 1, by go_num, ⟨U5.out, B5.out⟩, hN2.out, hno.out⟩
              case measure => simp [intOf]; omega
            | some J =>
              have hx := r5.hsome qa4 hGq
              have HJ := Lib.hid hGq
              have rgJ := r5.rg qa4 hGq
              have l0 := rgJ.mr.l0 hqb
              have l1 := rgJ.mr.l1 hqb
              have l2 := rgJ.mr.l2 hqb
              have lr := rgJ.lt
              have hat := hhit_at (fr := fr) HJ.out hqb
              clear hGq rgJ r5
              cases hlf : J.m.leaf qb with
              | mk there2 wr2 fr2 =>
              rw [hlf] at hat l0 l1 l2
              have hat := Lib.hid hat
              dsimp only at l0 l1 l2
              clear hlf
              cases there2 with
              | false =>
                have hno := Lib.hid (hfirst_no hfn.out (by rw [hat.out.1]; rfl))
                go_wp2_with fail
                go_roundw
                case rel => exact ⟨16 * qa + qb + 1, by go_num, ⟨U5.out.alloc _, B5.out.non ((Upd.refl Non _).alloc _)⟩, hN2.out, hno.out⟩
                case measure => simp [intOf]; omega
              | true =>
                go_upto_region 18 with fail
                have U7 := Lib.hid (U5.out.alloc (.cells #[.bool true, .bool wr2, .int .i64 fr2] 88))
                have By := HBox.new wr true wr2 fr2
                have B7 := B5.out.non ((Upd.refl Non wr).alloc (.cells #[.bool true, .bool wr2, .int .i64 fr2] 88))
                clear l0 l1 l2 lr hx lh
                generalize wr.alloc (.cells #[.bool true, .bool wr2, .int .i64 fr2] 88) = w7 at U7 By B7 ⊢
                generalize wr.heap.size = Bb at By ⊢
                have BY := Lib.hid By
                have B7 := Lib.hid B7
                have x2 := BY.out.c2
                have z2 := B7.out.c2
                have ly := BY.out.lt
                have lb := B7.out.lt
                have h00 := (r.non U7.out).h0
                have lh := (r.non U7.out).hlt
                dsimp only at x2 z2
                clear By
                cases hs : H.p.same fr2 fr with
                | false =>
                  have hno := Lib.hid (hfirst_no hfn.out (by rw [hat.out.1]; rw [hs]; rfl))
                  have hsm := Lib.hid (show ∀ W, Upd Non w W → Calls Tryz.prog 42 #[.pointer (some ⟨m, 0, none⟩), .int .i64 fr2, .int .i64 fr] W fun e w' => e = .returned (.bool false) ∧ ∃ n, w' = W.drewN n from fun W u => hs ▸ rsame_any W m H.p (r.non u).rp fr2 fr)
                  clear hs
                  go_quiet (exact quiet_ex (hsm.out _ (U7.out.drewN _)))
                  go_wp2_with fail
                  go_roundw
                  case rel => exact ⟨16 * qa + qb + 1, by go_num, ⟨U7.out.drewN _, B7.out.non ((Upd.refl Non _).drewN _)⟩, hN2.out, hno.out⟩
                  case measure => simp [intOf]; omega
                | true =>
                  have hF0 := hscan_found hk hp hGk.out hL.out hfn.out (by rw [hat.out.1]; rw [hs]; rfl) hN.out
                  rw [hat.out.2] at hF0
                  dsimp only at hF0
                  have hsm := Lib.hid (show ∀ W, Upd Non w W → Calls Tryz.prog 42 #[.pointer (some ⟨m, 0, none⟩), .int .i64 fr2, .int .i64 fr] W fun e w' => e = .returned (.bool true) ∧ ∃ n, w' = W.drewN n from fun W u => hs ▸ rsame_any W m H.p (r.non u).rp fr2 fr)
                  clear hs
                  by_cases hff : fr2 = fr
                  · rw [if_pos hff] at hF0
                    have hF := Lib.hid hF0
                    subst hff
                    clear hF0
                    go_quiet (exact quiet_ex (hsm.out _ (U7.out.drewN _)))
                    go_wp2_with fail
                    go_ret2
                    rw [hF.out]
                    exact ⟨rfl, R, RH.non (RH.start r) (U7.out.drewN _)⟩
                  · rw [if_neg hff] at hF0
                    have hF := Lib.hid hF0
                    have hf2 : (fr2 == fr) = false := by simpa using hff
                    clear hF0 hff
                    go_quiet (exact quiet_ex (hsm.out _ (U7.out.drewN _)))
                    go_wp2_with fail
                    have T8 := Lib.hid (And.intro ((RS.start r).non (U7.out.drewN nq)) (BY.out.non ((Upd.refl Non w7).drewN nq)))
                    clear U7 BY B7 x2 z2 ly lb h00 lh
                    go_loopw [16] (fun i wi => ∃ q2 : Nat, q2 ≤ 64 ∧ i = .int .i64 q2 ∧ Hid (RS w wi h m R H (hsealN H fr2 q2) ∧ HBox wi Bb ⟨true, wr2, fr2⟩)) (fun i _ => 64 - (intOf i).toNat)
                    case atStart => exact ⟨0, by omega, rfl, by rw [hsealN_zero]; exact T8.out⟩
                    case round =>
                      clear T8
                      obtain ⟨q2, hq2, hi2, hT2⟩ := hrel
                      by_cases hlt2 : q2 < 64
                      · obtain ⟨ia, ib, hib, rfl⟩ : ∃ ia ib, ib < 16 ∧ q2 = 16 * ia + ib := ⟨q2 / 16, q2 % 16, by omega, by omega⟩
                        rw [show ((16 * ia + ib : Nat) : Int) = 16 * (ia : Int) + (ib : Int) by omega] at hi2
                        subst hi2
                        have ia4 : ia < 4 := by omega
                        have hlt3 : 16 * (ia : Int) + (ib : Int) < 64 := by omega
                        have hge2 : 0 ≤ 16 * (ia : Int) + (ib : Int) := by omega
                        obtain ⟨f1, f2, f3, f4⟩ := quo16 ia ib hib
                        have TR := Lib.hid hT2.out.1
                        have bY := Lib.hid hT2.out.2
                        have y2 := bY.out.c2
                        dsimp only at y2
                        have ly2 := bY.out.lt
                        have lh2 := TR.out.hlt
                        clear hT2 d1 d2 d3 d4
                        cases hGi : H.g ia with
                        | none =>
                          have hx2 := TR.out.hnone ia4 (show (hsealN H fr2 (16 * ia + ib)).g ia = none by rw [hsealN_g, hGi]; rfl)
                          have hsN := Lib.hid (show hsealN H fr2 (16 * ia + ib + 1) = hsealN H fr2 (16 * ia + ib) from (hsealN_none (j := ib + 1) hGi (by omega)).trans (hsealN_none hGi (by omega)).symm)
                          clear hGi
                          go_upto_region 26 with fail
                          go_quiet (fail)
                          go_wp2_with fail
                          go_roundw
                          case rel => exact ⟨16 * ia + ib + 1, by omega, by go_num, by rw [hsN.out]; exact ⟨TR.out.non ((Upd.refl _ _).drewN _), bY.out.non ((Upd.refl _ _).drewN _)⟩⟩
                          case measure => simp [intOf]; omega
                        | some Q =>
                          have hmid := hsealN_mid (fr := fr2) hGi (j := ib) (by omega)
                          have hx2 := TR.out.hsome ia4 hmid
                          obtain ⟨m0, m2, lrQ⟩ := TR.out.leaf ia4 hmid hib
                          have hsm := sealM_same Q.m fr2 ib ib
                          have e0 : ((sealG fr2 ib Q).m.leaf ib).there = (Q.m.leaf ib).there := hsm.1
                          have e2 : ((sealG fr2 ib Q).m.leaf ib).frame = (Q.m.leaf ib).frame := hsm.2.1
                          rw [e0] at m0
                          rw [e2] at m2
                          have hyes := Lib.hid (hsealN_yes (H := H) (fr := fr2) hGi hib)
                          have hno := Lib.hid (hsealN_no (H := H) (fr := fr2) hGi hib)
                          have hgi := Lib.hid ((HI.out.sealN fr2 (16 * ia + ib)).gi ia4 hmid)
                          have HM := Lib.hid hmid
                          clear hsm e0 e2 hmid hGi
                          generalize Q.m.leaf ib = lf at m0 m2 hyes hno
                          obtain ⟨th3, wr3, fr3⟩ := lf
                          dsimp only at m0 m2
                          cases th3 with
                          | false =>
                            have hno2 := Lib.hid (hno.out (fun e => by cases e.1))
                            clear hyes hno
                            go_upto_region 26 with fail
                            go_quiet (fail)
                            go_wp2_with fail
                            go_roundw
                            case rel => exact ⟨16 * ia + ib + 1, by omega, by go_num, by rw [show 16 * ia + ib + 1 = 16 * ia + (ib + 1) from rfl, hno2.out]; exact ⟨TR.out.non ((Upd.refl _ _).drewN _), bY.out.non ((Upd.refl _ _).drewN _)⟩⟩
                            case measure => simp [intOf]; omega
                          | true =>
                            by_cases hf3 : fr3 = fr2
                            · subst hf3
                              have hyes2 := Lib.hid (hyes.out rfl rfl)
                              clear hno hyes
                              go_upto_region 26 with fail
                              go_quiet (fail)
                              go_wp2_with (first
                                | (go_at_call 43; refine (RS.seal (TR.out.non ((Upd.refl _ _).drewN _)) ia4 HM.out hgi.out hyes2.out.1 (bY.out.non ((Upd.refl _ _).drewN _))).mono ?_; rintro e w3 ⟨rfl, t3, b3⟩)
                                | fail)
                              go_roundw
                              case rel => exact ⟨16 * ia + ib + 1, by omega, by go_num, by rw [show 16 * ia + ib + 1 = 16 * ia + (ib + 1) from rfl, hyes2.out.2]; exact ⟨t3, b3⟩⟩
                              case measure => simp [intOf]; omega
                            · have hno2 := Lib.hid (hno.out (fun e => hf3 e.2))
                              have hf4 : (fr3 == fr2) = false := by simpa using hf3
                              clear hyes hf3 hno
                              go_upto_region 26 with fail
                              go_quiet (fail)
                              go_wp2_with fail
                              go_roundw
                              case rel => exact ⟨16 * ia + ib + 1, by omega, by go_num, by rw [show 16 * ia + ib + 1 = 16 * ia + (ib + 1) from rfl, hno2.out]; exact ⟨TR.out.non ((Upd.refl _ _).drewN _), bY.out.non ((Upd.refl _ _).drewN _)⟩⟩
                              case measure => simp [intOf]; omega
                      · obtain rfl : q2 = 64 := by omega
                        subst hi2
                        have y2 := hT2.out.2.c2
                        dsimp only at y2
                        have ly2 := hT2.out.2.lt
                        obtain ⟨_, _, lrk⟩ := hT2.out.1.leaf hk (hsealN_at hk hGk.out fr2) (j := 0) (by omega)
                        have HA := Lib.hid ((hT2.out.1.non (Upd.refl _ _).drew).join hk (hsealN_at hk hGk.out fr2) ((HI.out.sealN fr2 64).gi hk (hsealN_at hk hGk.out fr2)) p fr2)
                        clear hT2 d1 d2 d3 d4
                        go_upto_region 28 with fail
                        go_still_tail 6, (by kernel_rfl)
                        change wpList _ _ _ _ _ (World.drew _)
                        go_wp2_with (first
                          | (go_at_call 44; refine HA.out.mono ?_; unfold RHActPost; rintro e w9 ⟨rfl, R9, t9⟩)
                          | fail)
                        go_ret2
                        rw [hF.out]
                        exact ⟨rfl, R9, t9⟩
    · have hon : Hid (onB a = false) := by show _ = _; simpa using ho
      have hF := Lib.hid (show hscan H k a = (H, false, 1) by rw [hF0]; unfold hscanG; rw [if_neg ho])
      clear hF0 ho
      go_enter Tryz.func29, Tryz.ntmps29
      go_wp2_with (first
        | (go_at_call 30; refine hc.out.mono ?_; rintro e w2 ⟨rfl, rfl⟩)
        | (go_at_call 40; refine (ron_any _ _).mono ?_; rw [hon.out]; rintro e w1 ⟨rfl, rfl⟩)
        | fail)
      go_ret2
      rw [hF.out]
      exact ⟨rfl, R, RH.start r⟩
structure RSN (w wi : World) (h m : Nat) (R : Nat → Nat × Value) (H : HostM) (k : Nat) (n : Value) : Prop where
  n : n = .int .i64 ((hscanN H k).2 : Nat)
  t : Hid (∃ R', RH (ownRH h m R H) w wi h m R' (hscanN H k).1)
def RHAllPost (w : World) (h m : Nat) (R : Nat → Nat × Value) (H : HostM) (x : HostM × Nat) (e : Ending) (w' : World) : Prop :=
  e = .returned (.int .i64 (x.2 : Nat)) ∧ ∃ R', RH (ownRH h m R H) w w' h m R' x.1
set_option maxRecDepth 100000 in
set_option maxHeartbeats 2000000 in
theorem rscanAll_any (r : RHRep w h m R H) (hI : HInv H) : Calls Tryz.prog 18 #[.pointer (some ⟨h, 0, none⟩)] w (RHAllPost w h m R H (hscanAll H)) := by
  have hP := Lib.hid (show hscanAll H = hscanN H 64 from rfl)
  go_enter Tryz.func18, Tryz.ntmps18
  go_wp2_with fail
  go_loopw [3, 4] (fun n i wi => ∃ q : Nat, q ≤ 64 ∧ i = .int .i64 q ∧ RSN w wi h m R H q n) (fun _ i _ => 64 - (intOf i).toNat)
  case atStart => exact ⟨0, Nat.zero_le _, rfl, ⟨rfl, ⟨R, RH.start r⟩⟩⟩
  case round =>
    obtain ⟨q, hq, hi, ⟨rfl, hT⟩⟩ := hrel
    by_cases hlt : q < 64
    · obtain ⟨qa, qb, hqb, rfl⟩ : ∃ qa qb, qb < 16 ∧ q = 16 * qa + qb := ⟨q / 16, q % 16, by omega, by omega⟩
      rw [show ((16 * qa + qb : Nat) : Int) = 16 * (qa : Int) + (qb : Int) by omega] at hi
      subst hi
      have qa4 : qa < 4 := by omega
      have hlt3 : 16 * (qa : Int) + (qb : Int) < 64 := by omega
      have hge2 : 0 ≤ 16 * (qa : Int) + (qb : Int) := by omega
      obtain ⟨d1, d2, d3, d4⟩ := quo16 qa qb hqb
      obtain ⟨R1, t1⟩ := hT.out
      have hc := rscan_any t1.rep (hI.scanN (16 * qa + qb)) (qa : Int) (qb : Int)
      have hst := hscanN_step H qa qb hqb
      have hle := hscanN_le H (16 * qa + qb)
      generalize hscan (hscanN H (16 * qa + qb)).1 (qa : Int) (qb : Int) = x at hc hst
      obtain ⟨H2, b, e2⟩ := x
      dsimp only at hst
      generalize hnn : (hscanN H (16 * qa + qb)).2 = nn at hle hst ⊢
      cases b with
      | true =>
        have hst2 := Lib.hid (show hscanN H (16 * qa + qb + 1) = (H2, nn + 1) from hst)
        have hc2 := Lib.hid hc
        clear hst hc hT hnn
        go_wp2_with (first
          | (go_at_call 29; refine hc2.out.mono ?_; unfold RHScanPost; dsimp only; rintro e w2 ⟨rfl, K2, t2⟩)
          | fail)
        go_roundw
        case rel => exact ⟨16 * qa + qb + 1, by omega, by go_num, ⟨by rw [hst2.out]; go_num, ⟨K2, by rw [hst2.out]; exact t1.trans t2⟩⟩⟩
        case measure => simp [intOf]; omega
      | false =>
        have hst2 := Lib.hid (show hscanN H (16 * qa + qb + 1) = (H2, nn) from hst)
        have hc2 := Lib.hid hc
        clear hst hc hT hnn
        go_wp2_with (first
          | (go_at_call 29; refine hc2.out.mono ?_; unfold RHScanPost; dsimp only; rintro e w2 ⟨rfl, K2, t2⟩)
          | fail)
        go_roundw
        case rel => exact ⟨16 * qa + qb + 1, by omega, by go_num, ⟨by rw [hst2.out], ⟨K2, by rw [hst2.out]; exact t1.trans t2⟩⟩⟩
        case measure => simp [intOf]; omega
    · obtain rfl : q = 64 := by omega
      subst hi
      have hT2 := Lib.hid hT.out
      clear hT
      go_wp2_with fail
      go_ret
      rw [hP.out]
      exact ⟨rfl, hT2.out⟩
end

end U
end Go.Proofs.YtnhplapcdgnaaaaGreatDoor

set_option linter.unusedVariables false
set_option linter.unusedSimpArgs false
namespace Go.Proofs.YtnhplapcdgnaaaaGreatDoor
open Go.RowKit
namespace U

/-! The reference's host: Guests, Add, NewHost. -/
theorem yields_build {P : Program} {ops : Array Oper} {o : Oper} {a : Act} (hg : o.guard = none) (ty : TypeId) (parts : Array (Nat × Operand))
    (ho : o.op = .build ty parts) (vals : Array (Nat × Value)) (hv : (parts.map fun (i, x) => (i, a.eval x)) = vals) (v : Value) (hl : ∀ w, (Instr.build ty vals).run P w = .ok v w) : Yields P ops o v a :=
  .inl ⟨by simp [Region.wanted, hg], fun w => by
    unfold execOp
    simp only [ho, hv, Sem.run_bind, hl, Result.andThen_ok, Sem.run_pure]⟩
section
variable {w : World} {h m : Nat} {R : Nat → Nat × Value} {H : HostM}
set_option maxRecDepth 100000 in
set_option maxHeartbeats 1000000 in
theorem rguests_any (r : RHRep w h m R H) : Calls Tryz.prog 20 #[.pointer (some ⟨h, 0, none⟩)] w fun e w' => ∃ v, e = .returned v ∧ NRow w' v (ints_of (gl H)) ∧ Fresh w v ∧ Upd Non w w' := by
  go_enter Tryz.func20, Tryz.ntmps20
  go_wp2_with fail
  go_loopw [3, 4] (fun l i wr => ∃ (j : Nat) (v' : Value), j ≤ 4 ∧ i = .int .i64 j ∧ l = v' ∧ Hid (NRow wr v' (ints_of (glK H j)) ∧ Fresh w v' ∧ Upd Non w wr)) (fun _ i _ => 4 - (intOf i).toNat)
  case atStart => exact ⟨0, _, Nat.zero_le _, rfl, rfl, NRow.nil, (fun g hg => by cases hg), Upd.refl _ _⟩
  case round =>
    obtain ⟨j, v', hj, rfl, rfl, hI⟩ := hrel
    have r5 := r.non hI.out.2.2
    have lh := r5.hlt
    by_cases hlt : j < 4
    · have hj2 : (j : Int) < 4 := by omega
      cases hG : H.g j with
      | none =>
        have hx := r5.hnone hlt hG
        have hs := Lib.hid (glK_none hG)
        clear hG
        go_wp2_with fail
        go_roundw
        case rel => exact ⟨j + 1, _, by omega, by go_num, rfl, by rw [hs.out]; exact hI.out⟩
        case measure => simp [intOf]; omega
      | some G =>
        have hx := r5.hsome hlt hG
        have hs := Lib.hid (show ints_of (glK H (j + 1)) = ints_of (glK H j) ++ [(j : Int)] by rw [glK_some hG]; unfold ints_of; simp)
        have hlen : Hid ((ints_of (glK H j)).length ≤ 100000) := by
          show _ ≤ _
          have := glK_length H j
          unfold ints_of
          rw [List.length_map]
          omega
        clear hG
        go_wp2_with (first | (at_builtin; refine wpl_append_n rfl _ _ rfl _ _ rfl rfl _ (j : Int) (hI.out.1.alloc _) hlen.out (nbox _ _) ?_; intro v2 w3 hv2 u3 hb2) | fail)
        go_roundw
        case rel => exact ⟨j + 1, _, by omega, by go_num, rfl, by rw [hs.out]; exact hv2, fresh_ofN (hI.out.2.2.alloc _) hI.out.2.1 hb2, ((hI.out.2.2.alloc _).over u3 hI.out.2.1)⟩
        case measure => simp [intOf]; omega
    · have hj3 : ¬ (j : Int) < 4 := by omega
      obtain rfl : j = 4 := by omega
      have hX := Lib.hid hI.out
      clear hI
      go_wp2_with fail
      go_ret
      exact ⟨_, rfl, hX.out⟩
def RHAddPost (w : World) (h m : Nat) (R : Nat → Nat × Value) (H : HostM) (x : HostM × Int × Nat) (e : Ending) (w' : World) : Prop :=
  e = .returned (.tuple #[.int .i64 x.2.1, .int .i64 x.2.2]) ∧ ∃ R', RH (ownRH h m R H) w w' h m R' x.1
set_option maxRecDepth 100000 in
set_option maxHeartbeats 4000000 in
theorem radd_any (r : RHRep w h m R H) : Calls Tryz.prog 16 #[.pointer (some ⟨h, 0, none⟩)] w (RHAddPost w h m R H (hadd H)) := by
  have lh := r.hlt
  have h00 := r.h0
  go_enter Tryz.func16, Tryz.ntmps16
  go_wp2_with fail
  go_loop [4] (fun i => ∃ j : Nat, j ≤ 4 ∧ i = .int .i64 j ∧ Hid (∀ q, q < j → (H.g q).isSome = true)) (fun i => 4 - (intOf i).toNat)
  case atStart => exact ⟨0, Nat.zero_le _, rfl, fun _ h => absurd h (by omega)⟩
  case round =>
    obtain ⟨j, hj, rfl, hB⟩ := hrel
    by_cases hlt : j < 4
    · have hj2 : (j : Int) < 4 := by omega
      cases hG : H.g j with
      | none =>
        have hx := r.hnone hlt hG
        have hF := Lib.hid (hadd_at hlt hB.out hG)
        have hG2 := Lib.hid hG
        have fr := r.hfr (1 + j)
        clear hG
        go_upto_region 5 with fail
        refine wp_region_any (by kernel_rfl) ?_
        change wpAny _ _ _ _ _ _ _ (World.drew _)
        refine wpAny_take (i := 0) (v := ?_) rfl (by kernel_rfl) (by kernel_rfl) (by kernel_rfl) (fun _ _ _ h => h) (Or.inl ⟨by rfl, by intro w; go_simp; try with_reducible rfl⟩) ?_
        refine wpAny_take (i := 1) (v := ?_) rfl (by kernel_rfl) (by kernel_rfl) (by kernel_rfl) (fun _ _ _ h => h) (Or.inl ⟨by rfl, by intro w; go_simp; try with_reducible rfl⟩) ?_
        refine wpAny_take (i := 2) (v := ?_) rfl (by kernel_rfl) (by kernel_rfl) (by kernel_rfl) (fun _ _ _ h => h) (Or.inl ⟨by rfl, by intro w; go_simp; try with_reducible rfl⟩) ?_
        refine wpAny_take (i := 3) (v := ?_) rfl (by kernel_rfl) (by kernel_rfl) (by kernel_rfl) (fun _ _ _ h => h) (Or.inl ⟨by rfl, by intro w; go_simp; try with_reducible rfl⟩) ?_
        refine wpAny_take (i := 4) (v := ?_) rfl (by kernel_rfl) (by kernel_rfl) (by kernel_rfl) (fun _ _ _ h => h) (Or.inl ⟨by rfl, by intro w; go_simp; try with_reducible rfl⟩) ?_
        refine wpAny_take (i := 9) (v := ?_) rfl (by kernel_rfl) (by kernel_rfl) (by kernel_rfl) (fun _ _ _ h => h) (Or.inl ⟨by rfl, by intro w; go_simp; try with_reducible rfl⟩) ?_
        refine wpAny_take (i := 10) (v := ?_) rfl (by kernel_rfl) (by kernel_rfl) (by kernel_rfl) (fun _ _ _ h => h) (Or.inl ⟨by rfl, by intro w; go_simp; try with_reducible rfl⟩) ?_
        refine wpAny_ready (rs := [5]) (by kernel_rfl) (by simp) ?_
        refine AllReady.cons rfl (fun K hK => ?_) AllReady.nil
        go_simp
        refine hK _ _ ?_
        clear hK K
        refine wpAny_take (i := 6) (v := .agg (rmapC m).toArray) rfl (by kernel_rfl) (by kernel_rfl) (by kernel_rfl) (fun _ _ _ h => h) (yields_build rfl 91 _ rfl #[(0, .pointer (some ⟨m, 0, none⟩))] (by simp only [List.map_toArray, List.map_cons, List.map_nil]; rfl) _ (fun W => build_map W m)) ?_
        simp only [Act.put, List.setIfInBounds_toArray, List.set_cons_succ, List.set_cons_zero]
        refine wpAny_take (i := 7) (v := .agg (rguestC m).toArray) rfl (by kernel_rfl) (by kernel_rfl) (by kernel_rfl) (fun _ _ _ h => h) (yields_build rfl 95 _ rfl #[(0, .agg (rmapC m).toArray), (2, .int .i64 (-1))] (by simp only [List.map_toArray, List.map_cons, List.map_nil]; rfl) _ (fun W => build_guest W m)) ?_
        simp only [Act.put, List.setIfInBounds_toArray, List.set_cons_succ, List.set_cons_zero]
        refine wpAny_ready (rs := [8]) (by kernel_rfl) (by simp) ?_
        refine AllReady.cons rfl (fun K hK => ?_) AllReady.nil
        go_simp
        refine hK _ _ ?_
        clear hK K
        refine wpAny_take (i := 11) (v := ?_) rfl (by kernel_rfl) (by kernel_rfl) (by kernel_rfl) (fun _ _ _ h => h) (Or.inl ⟨by rfl, by intro w; go_simp; try with_reducible rfl⟩) ?_
        refine wpAny_ready (rs := [12]) (by kernel_rfl) (by simp) ?_
        refine AllReady.cons rfl (fun K hK => ?_) AllReady.nil
        go_simp
        refine hK _ _ ?_
        clear hK K
        refine wpAny_done (by kernel_rfl) ?_ _
        have tc := r.come (W := w.alloc (.cells (rguestC m).toArray 95)) hlt hG2.out (a := (w.heap.size, .slice none 0 0)) (G := GuestM.fresh) ((Upd.refl _ _).alloc _) (rguest_new w m) ERow.nil (by
          rintro k (rfl | e)
          · exact Nat.le_refl _
          · cases e)
        rw [World.setCell_alloc_past _ _ _ _ lh] at tc
        have tc := Lib.hid tc
        go_wp2_with fail
        go_ret2
        rw [hF.out]
        exact ⟨rfl, _, tc.out.drew⟩
      | some G =>
        have hx := r.hsome hlt hG
        have hB2 := Lib.hid (show ∀ q, q < j + 1 → (H.g q).isSome = true from fun q hq => by
          by_cases e : q = j
          · subst e; rw [hG]; rfl
          · exact hB.out q (by omega))
        clear hG hB
        go_wp2_with fail
        go_round
        case rel => exact ⟨j + 1, by omega, by go_num, hB2.out⟩
        case measure => simp [intOf]; omega
    · have hj3 : ¬ (j : Int) < 4 := by omega
      have hF := Lib.hid (hadd_no (H := H) fun i hi => hB.out i (by omega))
      clear hB
      go_wp2_with fail
      go_ret2
      rw [hF.out]
      exact ⟨rfl, R, RH.start r⟩
set_option maxRecDepth 100000 in
theorem rnewHost_any (w : World) (k : Nat) (h1 : 1 ≤ k) (h2 : k ≤ 64) (R : Nat → Nat × Value) : Calls Tryz.prog 7 #[.int .i64 k] w fun e w' =>
    ∃ h m, e = .returned (.pointer (some ⟨h, 0, none⟩)) ∧ RHRep w' h m R (HostM.fresh k) ∧ (∀ b, ownRH h m R (HostM.fresh k) b → w.heap.size ≤ b) ∧ Upd Non w w' := by
  go_enter Tryz.func7, Tryz.ntmps7
  go_wp2_with fail
  go_ret
  have q := Row.new (w.alloc (.cells (Tryz.zeroCells45.setIfInBounds 0 (.int .i64 k)) 45)) 49 #[.pointer (some ⟨w.heap.size, 0, none⟩), .pointer none, .pointer none, .pointer none, .pointer none]
  rw [World.size_alloc] at q
  refine ⟨w.heap.size + 1, w.heap.size, rfl, ⟨(rpool_new w k h1 h2).alloc _, q.congr fun i hi => ?_, fun i hi G hG => (by cases hG), fun i hi G hG => (by cases hG), fun i j hi hj hij si sj => (by cases si)⟩, ?_, ((Upd.refl _ _).alloc _).alloc _⟩
  · have hi : i < 5 := hi
    have : i = 0 ∨ i = 1 ∨ i = 2 ∨ i = 3 ∨ i = 4 := by omega
    rcases this with rfl | rfl | rfl | rfl | rfl <;> rfl
  · rintro b ((rfl | rfl) | ⟨i, _, hs, _⟩)
    · omega
    · exact Nat.le_refl _
    · cases hs
end

end U
end Go.Proofs.YtnhplapcdgnaaaaGreatDoor
