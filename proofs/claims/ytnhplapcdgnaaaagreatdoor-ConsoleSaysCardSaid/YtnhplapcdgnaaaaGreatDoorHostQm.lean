import Derived.Test.YtnhplapcdgnaaaaGreatDoorHostPr
import Derived.Test.YtnhplapcdgnaaaaGreatDoorHostPl
set_option linter.unusedVariables false
set_option linter.unusedSimpArgs false
namespace Go.Proofs.YtnhplapcdgnaaaaGreatDoor
open Go.RowKit
namespace U

/-! The program's host: Scan, ScanAll. -/
/-- A leaf in a block of its own. -/
def HBox (w : World) (B : Nat) (l : LeafM) : Prop := Row w B 88 3 (fun i => [Value.bool l.there, .bool l.write, .int .i64 l.frame].getD i undef)
section
variable {w W W' w2 : World} {h : Nat} {L : PoolAt} {K K' : Nat → GAt} {H H' : HostM} {S : Nat → Prop} {B : Nat} {l : LeafM}
theorem HBox.non (t : HBox W B l) (u : Upd Non W W') : HBox W' B l := Row.upd_ t u (fun h => h)
theorem HBox.new (w : World) (there write : Bool) (fr : Int) : HBox (w.alloc (.cells #[.bool there, .bool write, .int .i64 fr] 88)) w.heap.size ⟨there, write, fr⟩ :=
  (Row.new w 88 #[.bool there, .bool write, .int .i64 fr]).congr fun i hi => by
    have hi : i < 3 := hi
    have : i = 0 ∨ i = 1 ∨ i = 2 := by omega
    rcases this with rfl | rfl | rfl <;> rfl
theorem HBox.c0 (t : HBox W B l) : W.cell? ⟨B, 0, none⟩ = some (.bool l.there) := Row.cell t (i := 0) (by omega)
theorem HBox.c2 (t : HBox W B l) : W.cell? ⟨B, 2, none⟩ = some (.int .i64 l.frame) := Row.cell t (i := 2) (by omega)
theorem HBox.lt (t : HBox W B l) : B < W.heap.size := Row.lt t
theorem hfirst_no {fr : Int} {N : Nat} (h : hfirst H fr N = none) (hh : hhit H fr N = false) : hfirst H fr (N + 1) = none := by
  rw [hfirst_succ, h, hh]; rfl
theorem hhit_none {fr : Int} {N : Nat} (h : H.g (N / 16) = none) : hhit H fr N = false := by
  unfold hhit hleaf; rw [h]; rfl
theorem hfirst_skip {fr : Int} {q : Nat} (h : hfirst H fr (16 * q) = none) (hg : H.g q = none) : ∀ j, j ≤ 16 → hfirst H fr (16 * q + j) = none := by
  intro j
  induction j with
  | zero => exact fun _ => h
  | succ j ih => exact fun hj => hfirst_no (ih (by omega)) (hhit_none (N := 16 * q + j) (by rw [show (16 * q + j) / 16 = q by omega]; exact hg))
theorem hhit_at {fr : Int} {q j : Nat} {G : GuestM} (hg : H.g q = some G) (hj : j < 16) : hhit H fr (16 * q + j) = ((G.m.leaf j).there && H.p.same (G.m.leaf j).frame fr) ∧ hleaf H (16 * q + j) = G.m.leaf j := by
  have e : hleaf H (16 * q + j) = G.m.leaf j := by
    unfold hleaf
    rw [show (16 * q + j) / 16 = q by omega, hg, show (16 * q + j) % 16 = j by omega]
  refine ⟨?_, e⟩
  unfold hhit
  rw [e]
def HScanPost (w : World) (h : Nat) (L : PoolAt) (K : Nat → GAt) (H : HostM) (x : HostM × Bool × Nat) (e : Ending) (w' : World) : Prop :=
  e = .returned (.tuple #[.bool x.2.1, errv x.2.2]) ∧ ∃ K', PH (ownH h L K H) w w' h L K' x.1
theorem hscan_found {k p : Nat} {G : GuestM} (hk : k < 4) (hp : p < 16) (hg : H.g k = some G) {fr : Int} {wr : Bool} (hl : G.m.leaf p = ⟨true, wr, fr⟩) {N : Nat} (hf : hfirst H fr N = none) (hh : hhit H fr N = true) (hN : N < 16 * k + p) :
    hscan H k p = if (hleaf H N).frame = fr then (H, false, 0) else ((hjoin H k G p (hleaf H N).frame).1, true, (hjoin H k G p (hleaf H N).frame).2) := by
  rw [hscan_some hk hg]
  unfold hscanG
  rw [if_pos (onB_iff.2 ⟨by omega, by omega⟩), Int.toNat_natCast, hl, if_pos rfl, hfirst_more hf hh _ hN]
theorem hscan_not {k p : Nat} {G : GuestM} (hk : k < 4) (hp : p < 16) (hg : H.g k = some G) {fr : Int} {wr : Bool} (hl : G.m.leaf p = ⟨true, wr, fr⟩) (hf : hfirst H fr (16 * k + p) = none) : hscan H k p = (H, false, 0) := by
  rw [hscan_some hk hg]
  unfold hscanG
  rw [if_pos (onB_iff.2 ⟨by omega, by omega⟩), Int.toNat_natCast, hl, if_pos rfl, hf]
set_option maxRecDepth 100000 in
set_option maxHeartbeats 4000000 in
theorem hscan_any (r : HRep w h L K H) (hI : HInv H) (n a : Int) : Calls Tryz.prog 65 #[.pointer (some ⟨h, 0, none⟩), .int .i64 n, .int .i64 a] w (HScanPost w h L K H (hscan H n a)) := by
  rcases who_ways H n with h0 | ⟨k, hk, rfl, hg⟩ | ⟨k, G, hk, rfl, hg⟩
  · have hc := Lib.hid (hguest_off r n h0)
    rw [errv1] at hc
    have hF := Lib.hid (hscan_off (H := H) (page := a) h0)
    go_enter Tryz.func65, Tryz.ntmps65
    go_wp2_with (first | (go_at_call 87; refine hc.out.mono ?_; rintro e w2 ⟨rfl, rfl⟩) | fail)
    go_ret2
    rw [hF.out]
    exact ⟨rfl, K, PH.start r⟩
  · have hc := Lib.hid (hguest_none r hk hg)
    rw [errv2] at hc
    have hF := Lib.hid (hscan_none (page := a) hk hg)
    go_enter Tryz.func65, Tryz.ntmps65
    go_wp2_with (first | (go_at_call 87; refine hc.out.mono ?_; rintro e w2 ⟨rfl, rfl⟩) | fail)
    go_ret2
    rw [hF.out]
    exact ⟨rfl, K, PH.start r⟩
  · have hc := Lib.hid (hguest_some r hk hg)
    have hF0 : hscan H k a = hscanG H k G a := hscan_some hk hg
    have pg := r.pg hk hg
    by_cases ho : onB a = true
    · have ha := onB_iff.1 ho
      obtain ⟨p, rfl⟩ := Int.eq_ofNat_of_zero_le ha.1
      have hp : p < 16 := by omega
      have hl0 := mleaf_in (M := G.m) hp
      cases hl : G.m.leaf p with
      | mk there wrt fr =>
      rw [hl] at hl0
      have hml := Lib.hid hl0
      cases there with
      | false =>
        have hF := Lib.hid (show hscan H k p = (H, false, 0) by rw [hF0]; unfold hscanG; rw [if_pos ho, Int.toNat_natCast, hl]; rfl)
        clear hF0 hl hl0 ha ho
        go_enter Tryz.func65, Tryz.ntmps65
        go_wp2_with (first
          | (go_at_call 87; refine hc.out.mono ?_; rintro e w2 ⟨rfl, rfl⟩)
          | (go_at_call 99; refine (gleaf_any pg _).mono ?_; rw [hml.out]; rintro e w3 ⟨rfl, u3⟩; unfold LeafM.val errv)
          | fail)
        go_ret2
        rw [hF.out]
        exact ⟨rfl, K, PH.non (PH.start r) (u3.alloc _)⟩
      | true =>
        have hL := Lib.hid hl
        have hGk := Lib.hid hg
        have HI := Lib.hid hI
        clear hF0 hl hl0 ha ho hg hI
        go_enter Tryz.func65, Tryz.ntmps65
        go_upto_region 7 with (first
          | (go_at_call 87; refine hc.out.mono ?_; rintro e w2 ⟨rfl, rfl⟩)
          | (go_at_call 99; refine (gleaf_any pg _).mono ?_; rw [hml.out]; rintro e w3 ⟨rfl, u3⟩; unfold LeafM.val errv)
          | fail)
        have U4 := u3.alloc (.cells #[.bool true, .bool wrt, .int .i64 fr] 88)
        have B4 := HBox.new w3 true wrt fr
        clear u3
        generalize w3.alloc (.cells #[.bool true, .bool wrt, .int .i64 fr] 88) = w4 at U4 B4 ⊢
        generalize w3.heap.size = Bx at B4 ⊢
        have ld := (r.non U4).loadG
        have lh := (r.non U4).hlt
        go_wp2_with (first | (refine wpl_load rfl 78 _ rfl _ _ rfl ld ?_) | fail)
        clear ld lh
        have T4 := Lib.hid (And.intro U4 B4)
        clear U4 B4
        go_loopw [43] (fun i wi => ∃ q : Nat, i = .int .i64 q ∧ Hid ((Upd Non w wi ∧ HBox wi Bx ⟨true, wrt, fr⟩) ∧ 16 * q ≤ 16 * k + p ∧ hfirst H fr (16 * q) = none)) (fun i _ => 4 - (intOf i).toNat)
        case atStart => exact ⟨0, rfl, T4.out, Nat.zero_le _, rfl⟩
        case round =>
          clear T4
          obtain ⟨q, rfl, hT⟩ := hrel
          have hq := hT.out.2.1
          have q4 : q < 4 := by omega
          have hq2 : (q : Int) < 4 := by omega
          cases hGq : H.g q with
          | none =>
            have hx := garr_none (K := K) q4 hGq
            have hne : q ≠ k := fun e => by rw [e, hGk.out] at hGq; cases hGq
            have a1 : ¬ (k : Int) < (q : Int) := by omega
            have a2 : ((q : Int) == (k : Int)) = false := by simp; omega
            have hs := Lib.hid (hfirst_skip hT.out.2.2 hGq 16 (Nat.le_refl _))
            have hqk : 16 * (q + 1) ≤ 16 * k + p := by omega
            clear hGq hne
            go_wp2_with fail
            refine wp_loop_rounds 1 ?_
            rw [rounds_succ]
            go_wp2_with fail
            go_roundw
            case rel => exact ⟨q + 1, by go_num, hT.out.1, hqk, hs.out⟩
            case measure => simp [intOf]; omega
          | some J =>
            have hx := garr_some (K := K) q4 hGq
            have HJ := Lib.hid hGq
            clear hGq
            go_wp2_with fail
            go_loopw [47] (fun i wi => ∃ j : Nat, j ≤ 16 ∧ i = .int .i64 j ∧ Hid ((Upd Non w wi ∧ HBox wi Bx ⟨true, wrt, fr⟩) ∧ 16 * q + j ≤ 16 * k + p ∧ hfirst H fr (16 * q + j) = none)) (fun i _ => 16 - (intOf i).toNat)
            case atStart => exact ⟨0, Nat.zero_le _, rfl, hT.out⟩
            case round =>
              clear hT
              obtain ⟨j, hj, rfl, hS⟩ := hrel
              have hjN := hS.out.2.1
              by_cases hjl : j < 16
              · have hj2 : (j : Int) < 16 := by omega
                by_cases he : 16 * q + j = 16 * k + p
                · have hF := Lib.hid (hscan_not hk hp hGk.out hL.out (by rw [← he]; exact hS.out.2.2))
                  obtain rfl : q = k := by omega
                  obtain rfl : j = p := by omega
                  go_wp2_with fail
                  go_ret2
                  rw [hF.out]
                  exact ⟨rfl, K, PH.non (PH.start r) hS.out.1.1⟩
                · have hN := Lib.hid (show 16 * q + j < 16 * k + p by omega)
                  have hN2 := Lib.hid (show 16 * q + (j + 1) ≤ 16 * k + p by omega)
                  have hc2 : q < k ∨ (q = k ∧ j < p) := by omega
                  have hat := hhit_at (fr := fr) HJ.out hjl
                  have hml2 := mleaf_in (M := J.m) hjl
                  have hfn := Lib.hid hS.out.2.2
                  have U5 := hS.out.1.1
                  have B5 := hS.out.1.2
                  clear hS hj hjN he
                  cases hlf : J.m.leaf j with
                  | mk there2 wr2 fr2 =>
                  rw [hlf] at hat hml2
                  have hat := Lib.hid hat
                  have hml2 := Lib.hid hml2
                  clear hlf
                  cases there2 with
                  | false =>
                    have hno := Lib.hid (hfirst_no hfn.out (by rw [hat.out.1]; rfl))
                    rcases hc2 with hqk | ⟨e, hjp⟩
                    all_goals first
                      | (have a1 : ¬ (k : Int) < (q : Int) := by omega
                         have a2 : ((q : Int) == (k : Int)) = false := by simp; omega)
                      | (subst e; have a1 : (j : Int) < (p : Int) := by omega)
                    all_goals go_upto_region 17 with (first
                      | (go_at_call 99; refine (gleaf_any ((r.non U5).pg q4 HJ.out) _).mono ?_; rw [hml2.out]; rintro e w6 ⟨rfl, u6⟩; unfold LeafM.val errv; have U6 := U5.trans u6; have B6 := B5.non u6)
                      | fail)
                    all_goals go_quiet (fail)
                    all_goals go_wp2_with fail
                    all_goals go_roundw
                    all_goals first
                      | exact ⟨j + 1, by omega, by go_num, ⟨(U6.alloc _).drewN _, (B6.non ((Upd.refl Non _).alloc _)).non ((Upd.refl Non _).drewN _)⟩, hN2.out, hno.out⟩
                      | exact ⟨j + 1, by omega, by go_num, ⟨(U6.alloc _), (B6.non ((Upd.refl Non _).alloc _))⟩, hN2.out, hno.out⟩
                      | (simp [intOf]; omega)
                  | true =>
                    rcases hc2 with hqk | ⟨e, hjp⟩
                    · have a1 : ¬ (k : Int) < (q : Int) := by omega
                      have a2 : ((q : Int) == (k : Int)) = false := by simp; omega
                      go_upto_region 17 with (first
                        | (go_at_call 99; refine (gleaf_any ((r.non U5).pg q4 HJ.out) _).mono ?_; rw [hml2.out]; rintro e w6 ⟨rfl, u6⟩; unfold LeafM.val errv; have U6 := U5.trans u6; have B6 := B5.non u6)
                        | fail)
                      have U7 := U6.alloc (.cells #[.bool true, .bool wr2, .int .i64 fr2] 88)
                      have By := HBox.new w6 true wr2 fr2
                      have B7 := B6.non ((Upd.refl Non _).alloc (.cells #[.bool true, .bool wr2, .int .i64 fr2] 88))
                      clear U6 B6 U5 B5 u6
                      generalize w6.alloc (.cells #[.bool true, .bool wr2, .int .i64 fr2] 88) = w7 at U7 By B7 ⊢
                      generalize w6.heap.size = Bb at By ⊢
                      have x0 := By.c0
                      have x2 := By.c2
                      have z2 := B7.c2
                      have ly := By.lt
                      have lb := B7.lt
                      have h00 := (r.non U7).h0
                      have lh := (r.non U7).hlt
                      dsimp only at x0 x2 z2
                      cases hs : H.p.same fr2 fr with
                      | false =>
                        have hno := Lib.hid (hfirst_no hfn.out (by rw [hat.out.1]; rw [hs]; rfl))
                        have hsm := Lib.hid (show ∀ W, Upd Non w W → Calls Tryz.prog 100 #[.pointer (some ⟨L.p, 0, none⟩), .int .i64 fr2, .int .i64 fr] W fun e w' => e = .returned (.bool false) ∧ ∃ n, w' = W.drewN n from fun W u => hs ▸ same_any W L H.p (r.non u).rp fr2 fr)
                        clear hs
                        go_quiet (exact quiet_ex (hsm.out _ (U7.drewN _)))
                        go_wp2_with fail
                        go_roundw
                        case rel => exact ⟨j + 1, by omega, by go_num, ⟨U7.drewN _, B7.non ((Upd.refl Non _).drewN _)⟩, hN2.out, hno.out⟩
                        case measure => simp [intOf]; omega
                      | true =>
                        have hF0 := hscan_found hk hp hGk.out hL.out hfn.out (by rw [hat.out.1]; rw [hs]; rfl) hN.out
                        rw [hat.out.2] at hF0
                        dsimp only at hF0
                        have hsm := Lib.hid (show ∀ W, Upd Non w W → Calls Tryz.prog 100 #[.pointer (some ⟨L.p, 0, none⟩), .int .i64 fr2, .int .i64 fr] W fun e w' => e = .returned (.bool true) ∧ ∃ n, w' = W.drewN n from fun W u => hs ▸ same_any W L H.p (r.non u).rp fr2 fr)
                        clear hs
                        by_cases hff : fr2 = fr
                        · rw [if_pos hff] at hF0
                          have hF := Lib.hid hF0
                          subst hff
                          clear hF0
                          go_quiet (exact quiet_ex (hsm.out _ (U7.drewN _)))
                          go_wp2_with fail
                          go_ret2
                          rw [hF.out]
                          exact ⟨rfl, K, PH.non (PH.start r) (U7.drewN _)⟩
                        · rw [if_neg hff] at hF0
                          have hF := Lib.hid hF0
                          have hf2 : (fr2 == fr) = false := by simpa using hff
                          clear hF0 hff
                          go_quiet (exact quiet_ex (hsm.out _ (U7.drewN _)))
                          go_wp2_with (first
                            | (go_at_call 101; refine (hjoin_any (r.non (U7.drewN _)) HI.out hk hGk.out p fr2).mono ?_; unfold HPost; rintro e w8 ⟨rfl, K2, t8⟩; have t9 := PH.trans (PH.non (PH.start r) (U7.drewN _)) t8)
                            | fail)
                          go_ret2
                          rw [hF.out]
                          exact ⟨rfl, K2, t9⟩
                    · subst e
                      have a1 : (j : Int) < (p : Int) := by omega
                      go_upto_region 17 with (first
                        | (go_at_call 99; refine (gleaf_any ((r.non U5).pg q4 HJ.out) _).mono ?_; rw [hml2.out]; rintro e w6 ⟨rfl, u6⟩; unfold LeafM.val errv; have U6 := U5.trans u6; have B6 := B5.non u6)
                        | fail)
                      have U7 := U6.alloc (.cells #[.bool true, .bool wr2, .int .i64 fr2] 88)
                      have By := HBox.new w6 true wr2 fr2
                      have B7 := B6.non ((Upd.refl Non _).alloc (.cells #[.bool true, .bool wr2, .int .i64 fr2] 88))
                      clear U6 B6 U5 B5 u6
                      generalize w6.alloc (.cells #[.bool true, .bool wr2, .int .i64 fr2] 88) = w7 at U7 By B7 ⊢
                      generalize w6.heap.size = Bb at By ⊢
                      have x0 := By.c0
                      have x2 := By.c2
                      have z2 := B7.c2
                      have ly := By.lt
                      have lb := B7.lt
                      have h00 := (r.non U7).h0
                      have lh := (r.non U7).hlt
                      dsimp only at x0 x2 z2
                      cases hs : H.p.same fr2 fr with
                      | false =>
                        have hno := Lib.hid (hfirst_no hfn.out (by rw [hat.out.1]; rw [hs]; rfl))
                        have hsm := Lib.hid (show ∀ W, Upd Non w W → Calls Tryz.prog 100 #[.pointer (some ⟨L.p, 0, none⟩), .int .i64 fr2, .int .i64 fr] W fun e w' => e = .returned (.bool false) ∧ ∃ n, w' = W.drewN n from fun W u => hs ▸ same_any W L H.p (r.non u).rp fr2 fr)
                        clear hs
                        go_quiet (exact quiet_ex (hsm.out _ (U7.drewN _)))
                        go_wp2_with fail
                        go_roundw
                        case rel => exact ⟨j + 1, by omega, by go_num, ⟨U7.drewN _, B7.non ((Upd.refl Non _).drewN _)⟩, hN2.out, hno.out⟩
                        case measure => simp [intOf]; omega
                      | true =>
                        have hF0 := hscan_found hk hp hGk.out hL.out hfn.out (by rw [hat.out.1]; rw [hs]; rfl) hN.out
                        rw [hat.out.2] at hF0
                        dsimp only at hF0
                        have hsm := Lib.hid (show ∀ W, Upd Non w W → Calls Tryz.prog 100 #[.pointer (some ⟨L.p, 0, none⟩), .int .i64 fr2, .int .i64 fr] W fun e w' => e = .returned (.bool true) ∧ ∃ n, w' = W.drewN n from fun W u => hs ▸ same_any W L H.p (r.non u).rp fr2 fr)
                        clear hs
                        by_cases hff : fr2 = fr
                        · rw [if_pos hff] at hF0
                          have hF := Lib.hid hF0
                          subst hff
                          clear hF0
                          go_quiet (exact quiet_ex (hsm.out _ (U7.drewN _)))
                          go_wp2_with fail
                          go_ret2
                          rw [hF.out]
                          exact ⟨rfl, K, PH.non (PH.start r) (U7.drewN _)⟩
                        · rw [if_neg hff] at hF0
                          have hF := Lib.hid hF0
                          have hf2 : (fr2 == fr) = false := by simpa using hff
                          clear hF0 hff
                          go_quiet (exact quiet_ex (hsm.out _ (U7.drewN _)))
                          go_wp2_with (first
                            | (go_at_call 101; refine (hjoin_any (r.non (U7.drewN _)) HI.out hk hGk.out p fr2).mono ?_; unfold HPost; rintro e w8 ⟨rfl, K2, t8⟩; have t9 := PH.trans (PH.non (PH.start r) (U7.drewN _)) t8)
                            | fail)
                          go_ret2
                          rw [hF.out]
                          exact ⟨rfl, K2, t9⟩
              · have hj3 : ¬ (j : Int) < 16 := by omega
                go_wp2_with fail
                go_roundw
                case rel => exact ⟨q + 1, by go_num, hS.out.1, by omega, by rw [show 16 * (q + 1) = 16 * q + j by omega]; exact hS.out.2.2⟩
                case measure => simp [intOf]; omega
    · have hl := Lib.hid (show mleaf G.m a = (LeafM.none, 1) by unfold mleaf; rw [if_neg ho])
      have hF := Lib.hid (show hscan H k a = (H, false, 1) by rw [hF0]; unfold hscanG; rw [if_neg ho])
      clear hF0 ho
      go_enter Tryz.func65, Tryz.ntmps65
      go_wp2_with (first
        | (go_at_call 87; refine hc.out.mono ?_; rintro e w2 ⟨rfl, rfl⟩)
        | (go_at_call 99; refine (gleaf_any pg _).mono ?_; rw [hl.out, errv1]; rintro e w3 ⟨rfl, u3⟩; unfold LeafM.val LeafM.none)
        | fail)
      go_ret2
      rw [hF.out]
      exact ⟨rfl, K, PH.non (PH.start r) (u3.alloc _)⟩
end

end U
end Go.Proofs.YtnhplapcdgnaaaaGreatDoor

set_option linter.unusedVariables false
set_option linter.unusedSimpArgs false
namespace Go.Proofs.YtnhplapcdgnaaaaGreatDoor
open Go.RowKit
namespace U

/-! The program's host: New, ScanAll. -/
section
variable {w W W' : World} {h : Nat} {L : PoolAt} {K : Nat → GAt} {H : HostM}
theorem fresh_own {h : Nat} {L : PoolAt} {K : Nat → GAt} {n : Nat} {k : Nat} (o : ownH h L K (HostM.fresh n) k) : k = h ∨ (k = L.p ∨ L.own k) := by
  rcases o with o | ⟨i, _, hs, _⟩
  · exact o
  · cases hs
theorem fresh_host {b : Nat} {n : Nat} (K : Nat → GAt) (rp : PoolRep W L (PoolM.fresh n)) (q : Row W b 80 5 (hcells L K (HostM.fresh n))) : HRep W b L K (HostM.fresh n) :=
  ⟨rp, q, fun i hi G hG => (by cases hG), fun i j hi hj hij si sj => (by cases si)⟩
theorem hrow_new (w : World) (b : Nat) (hb : w.heap.size = b) (K : Nat → GAt) (n : Nat) :
    Row (w.alloc (.cells #[.pointer (some ⟨L.p, 0, none⟩), .pointer none, .pointer none, .pointer none, .pointer none] 80)) b 80 5 (hcells L K (HostM.fresh n)) := by
  subst hb
  refine (Row.new w 80 #[.pointer (some ⟨L.p, 0, none⟩), .pointer none, .pointer none, .pointer none, .pointer none]).congr fun i hi => ?_
  have hi : i < 5 := hi
  have : i = 0 ∨ i = 1 ∨ i = 2 ∨ i = 3 ∨ i = 4 := by omega
  rcases this with rfl | rfl | rfl | rfl | rfl <;> rfl
set_option maxRecDepth 100000 in
theorem hnew_bad (w : World) (n : Int) (h : n < 1 ∨ 64 < n) : Calls Tryz.prog 10 #[.int .i64 n] w fun e w' => e = .returned (.tuple #[.pointer none, errv 1]) ∧ w = w' := by
  have hz : Hid (errv 1 = .iface 37 (.int .i64 1)) := rfl
  rw [hz.out]
  go_enter Tryz.func10, Tryz.ntmps10
  go_wp2_with (first
    | (go_at_call 32; refine (new_bad _ n h).mono ?_; rw [hz.out]; rintro e w1 ⟨rfl, rfl⟩)
    | fail)
  go_ret2
  exact ⟨rfl, rfl⟩
set_option maxRecDepth 100000 in
theorem hnew_ok (w : World) (k : Nat) (h1 : 1 ≤ k) (h2 : k ≤ 64) (K : Nat → GAt) : Calls Tryz.prog 10 #[.int .i64 k] w fun e w' =>
    ∃ (h : Nat) (L : PoolAt), e = .returned (.tuple #[.pointer (some ⟨h, 0, none⟩), .nilIface]) ∧ HRep w' h L K (HostM.fresh k) ∧ (∀ b, ownH h L K (HostM.fresh k) b → w.heap.size ≤ b) ∧ Upd Non w w' := by
  go_enter Tryz.func10, Tryz.ntmps10
  go_wp2_with (first
    | (go_at_call 32; refine (new_ok _ k h1 h2).mono ?_; rintro e w1 ⟨L, rfl, r, u, l1, l2, l3⟩)
    | fail)
  go_ret2
  have hz := u.size
  refine ⟨_, L, rfl, fresh_host K (r.alloc _) (hrow_new w1 _ rfl K k), ?_, u.alloc _⟩
  rintro b hb
  rcases fresh_own hb with rfl | (rfl | (rfl | rfl))
  · exact hz
  · exact l1
  · exact l2
  · exact l3
theorem hscanN_step (H : HostM) (i k : Nat) (hk : k < 16) : hscanN H (16 * i + (k + 1)) = ((hscan (hscanN H (16 * i + k)).1 i k).1, (hscanN H (16 * i + k)).2 + if (hscan (hscanN H (16 * i + k)).1 i k).2.1 then 1 else 0) := by
  have e : hscanN H (16 * i + (k + 1)) = ((hscan (hscanN H (16 * i + k)).1 (((16 * i + k) / 16 : Nat) : Int) (((16 * i + k) % 16 : Nat) : Int)).1, (hscanN H (16 * i + k)).2 + if (hscan (hscanN H (16 * i + k)).1 (((16 * i + k) / 16 : Nat) : Int) (((16 * i + k) % 16 : Nat) : Int)).2.1 then 1 else 0) := rfl
  rw [e, show (16 * i + k) / 16 = i by omega, show (16 * i + k) % 16 = k by omega]
theorem hscanN_le (H : HostM) (k : Nat) : (hscanN H k).2 ≤ k := by
  induction k with
  | zero => exact Nat.le_refl _
  | succ k ih =>
    unfold hscanN
    dsimp only
    split <;> omega
structure SN (w wi : World) (h : Nat) (L : PoolAt) (K : Nat → GAt) (H : HostM) (k : Nat) (n : Value) : Prop where
  n : n = .int .i64 ((hscanN H k).2 : Nat)
  t : Hid (∃ K', PH (ownH h L K H) w wi h L K' (hscanN H k).1)
def HAllPost (w : World) (h : Nat) (L : PoolAt) (K : Nat → GAt) (H : HostM) (x : HostM × Nat) (e : Ending) (w' : World) : Prop :=
  e = .returned (.int .i64 (x.2 : Nat)) ∧ ∃ K', PH (ownH h L K H) w w' h L K' x.1
set_option maxRecDepth 100000 in
set_option maxHeartbeats 2000000 in
theorem hscanAll_any (r : HRep w h L K H) (hI : HInv H) : Calls Tryz.prog 67 #[.pointer (some ⟨h, 0, none⟩)] w (HAllPost w h L K H (hscanAll H)) := by
  have lh := r.hlt
  have hP := Lib.hid (show hscanAll H = hscanN H 64 from rfl)
  go_enter Tryz.func67, Tryz.ntmps67
  go_wp2_with fail
  go_loopw [3, 8] (fun n i wi => ∃ q : Nat, q ≤ 4 ∧ i = .int .i64 q ∧ SN w wi h L K H (16 * q) n) (fun _ i _ => 4 - (intOf i).toNat)
  case atStart => exact ⟨0, Nat.zero_le _, rfl, ⟨rfl, ⟨K, PH.start r⟩⟩⟩
  case round =>
    obtain ⟨q, hq, rfl, ⟨rfl, hT⟩⟩ := hrel
    by_cases hq4 : q < 4
    · have q4 : (q : Int) < 4 := by omega
      go_wp2_with fail
      go_loopw [3, 11] (fun n i wi => ∃ j : Nat, j ≤ 16 ∧ i = .int .i64 j ∧ SN w wi h L K H (16 * q + j) n) (fun _ i _ => 16 - (intOf i).toNat)
      case atStart => exact ⟨0, Nat.zero_le _, rfl, ⟨rfl, hT.out⟩⟩
      case round =>
        clear hT
        obtain ⟨j, hj, rfl, ⟨rfl, hS⟩⟩ := hrel
        by_cases hj16 : j < 16
        · have j16 : (j : Int) < 16 := by omega
          obtain ⟨K1, t1⟩ := hS.out
          have hc := hscan_any t1.rep (hI.scanN (16 * q + j)) (q : Int) (j : Int)
          have hst := hscanN_step H q j hj16
          have hle := hscanN_le H (16 * q + j)
          generalize hscan (hscanN H (16 * q + j)).1 (q : Int) (j : Int) = x at hc hst
          obtain ⟨H2, b, e2⟩ := x
          dsimp only at hst
          cases b with
          | true =>
            have hst2 := Lib.hid (show hscanN H (16 * q + (j + 1)) = (H2, (hscanN H (16 * q + j)).2 + 1) from hst)
            have hc2 := Lib.hid hc
            clear hst hc hS
            go_wp2_with (first
              | (go_at_call 65; refine hc2.out.mono ?_; unfold HScanPost; dsimp only; rintro e w2 ⟨rfl, K2, t2⟩)
              | fail)
            go_roundw
            case rel => exact ⟨j + 1, by omega, by go_num, ⟨by rw [hst2.out]; go_num, ⟨K2, by rw [hst2.out]; exact t1.trans t2⟩⟩⟩
            case measure => simp [intOf]; omega
          | false =>
            have hst2 := Lib.hid (show hscanN H (16 * q + (j + 1)) = (H2, (hscanN H (16 * q + j)).2) from hst)
            have hc2 := Lib.hid hc
            clear hst hc hS
            go_wp2_with (first
              | (go_at_call 65; refine hc2.out.mono ?_; unfold HScanPost; dsimp only; rintro e w2 ⟨rfl, K2, t2⟩)
              | fail)
            go_roundw
            case rel => exact ⟨j + 1, by omega, by go_num, ⟨by rw [hst2.out], ⟨K2, by rw [hst2.out]; exact t1.trans t2⟩⟩⟩
            case measure => simp [intOf]; omega
        · have hj3 : ¬ (j : Int) < 16 := by omega
          obtain rfl : j = 16 := by omega
          have hS2 := Lib.hid hS.out
          clear hS
          go_wp2_with fail
          go_roundw
          case rel => exact ⟨q + 1, by omega, by go_num, ⟨rfl, hS2.out⟩⟩
          case measure => simp [intOf]; omega
    · have hq3 : ¬ (q : Int) < 4 := by omega
      obtain rfl : q = 4 := by omega
      have hT2 := Lib.hid hT.out
      clear hT
      go_wp2_with fail
      go_ret
      rw [hP.out]
      exact ⟨rfl, hT2.out⟩
end

end U
end Go.Proofs.YtnhplapcdgnaaaaGreatDoor

set_option linter.unusedVariables false
set_option linter.unusedSimpArgs false
namespace Go.Proofs.YtnhplapcdgnaaaaGreatDoor
open Go.RowKit
namespace U

/-! The program's host in a law: an act's box beside it; two hosts. -/
section
variable {w W W' : World} {h o bx : Nat} {L L' : PoolAt} {K K' K2 : Nat → GAt} {H O H2 : HostM} {x : ActM} {S : Nat → Prop}
/-- A host that is younger than world w. -/
structure HW (w W : World) (h : Nat) (L : PoolAt) (K : Nat → GAt) (H : HostM) : Prop where
  r : HRep W h L K H
  n : ∀ k, ownH h L K H k → w.heap.size ≤ k
  up : Upd Non w W
theorem HW.non (t : HW w W h L K H) (u : Upd Non W W') : HW w W' h L K H := ⟨t.r.non u, t.n, t.up.trans u⟩
theorem HW.alloc (t : HW w W h L K H) (b : Obj) : HW w (W.alloc b) h L K H := t.non ((Upd.refl _ _).alloc b)
theorem HW.drew (t : HW w W h L K H) : HW w W.drew h L K H := t.non (Upd.refl _ _).drew
theorem HW.drewN (t : HW w W h L K H) (n : Nat) : HW w (W.drewN n) h L K H := t.non ((Upd.refl _ _).drewN n)
theorem HW.act (t : HW w W h L K H) (s : PH (ownH h L K H) W W' h L K2 H2) : HW w W' h L K2 H2 :=
  ⟨s.rep, fun k hk => (s.own k hk).elim (t.n k) (fun e => Nat.le_trans t.up.size e), t.up.over s.up t.n⟩

/-- Two hosts that are younger than world w. -/
structure HH (w W : World) (h o : Nat) (L L' : PoolAt) (K K' : Nat → GAt) (H O : HostM) : Prop where
  a : HW w W h L K H
  b : HW w W o L' K' O
  sep : ∀ k, ownH h L K H k → ¬ ownH o L' K' O k
theorem HH.non (t : HH w W h o L L' K K' H O) (u : Upd Non W W') : HH w W' h o L L' K K' H O := ⟨t.a.non u, t.b.non u, t.sep⟩
theorem HH.alloc (t : HH w W h o L L' K K' H O) (b : Obj) : HH w (W.alloc b) h o L L' K K' H O := t.non ((Upd.refl _ _).alloc b)
theorem HH.drew (t : HH w W h o L L' K K' H O) : HH w W.drew h o L L' K K' H O := t.non (Upd.refl _ _).drew
theorem HH.drewN (t : HH w W h o L L' K K' H O) (n : Nat) : HH w (W.drewN n) h o L L' K K' H O := t.non ((Upd.refl _ _).drewN n)
theorem HH.swap (t : HH w W h o L L' K K' H O) : HH w W o h L' L K' K O H := ⟨t.b, t.a, fun k h1 h2 => t.sep k h2 h1⟩
theorem HH.actA (t : HH w W h o L L' K K' H O) (s : PH (ownH h L K H) W W' h L K2 H2) : HH w W' h o L L' K2 K' H2 O :=
  ⟨t.a.act s, ⟨t.b.r.upd_ s.up (fun k h1 h2 => t.sep k h2 h1), t.b.n, (t.a.act s).up⟩, fun k h1 h2 => (s.own k h1).elim (fun e => t.sep k e h2) (fun e => by have := t.b.r.lts k h2; omega)⟩
theorem HH.actB (t : HH w W h o L L' K K' H O) (s : PH (ownH o L' K' O) W W' o L' K2 H2) : HH w W' h o L L' K K2 H H2 := (t.swap.actA s).swap
/-- The second one comes. -/
theorem HH.start {w1 w2 : World} (r : HRep w1 h L K H) (n : ∀ k, ownH h L K H k → w.heap.size ≤ k) (u : Upd Non w w1) (r2 : HRep w2 o L' K' O) (n2 : ∀ k, ownH o L' K' O k → w1.heap.size ≤ k) (u2 : Upd Non w1 w2) : HH w w2 h o L L' K K' H O :=
  ⟨⟨r.non u2, n, u.trans u2⟩, ⟨r2, fun k hk => Nat.le_trans u.size (n2 k hk), u.trans u2⟩, fun k h1 h2 => by have := r.lts k h1; have := n2 k h2; omega⟩
end

end U
end Go.Proofs.YtnhplapcdgnaaaaGreatDoor

set_option linter.unusedVariables false
set_option linter.unusedSimpArgs false
namespace Go.Proofs.YtnhplapcdgnaaaaGreatDoor
open Go.RowKit
namespace U

/-! An act's kind, and the act (written by gen_hostm.py). -/
def kindL (l : List UInt8) : HK :=
  if l == [97, 100, 100] then .add
  else if l == [114, 101, 109, 111, 118, 101] then .remove
  else if l == [112, 108, 117, 103] then .plug
  else if l == [117, 110, 112, 108, 117, 103] then .unplug
  else if l == [103, 105, 118, 101] then .give
  else if l == [98, 97, 99, 107] then .back
  else if l == [108, 111, 97, 100] then .load
  else if l == [115, 116, 111, 114, 101] then .store
  else if l == [114, 111, 111, 116] then .root
  else if l == [102, 111, 114, 103, 101, 116] then .forget
  else if l == [100, 114, 111, 112] then .drop
  else if l == [115, 99, 97, 110] then .scan
  else if l == [115, 99, 97, 110, 97, 108, 108] then .scanall
  else .other
def kindOf (k : ByteArray) : HK := kindL k.toList
theorem list_of {s : ByteArray} {l : List UInt8} (h : (s.toList == l) = true) : s.toList = l := by simpa using h
theorem kind_add {s : ByteArray} (h : (s.toList == [97, 100, 100]) = true) : kindOf s = .add := by unfold kindOf; rw [list_of h]; rfl
theorem kind_remove {s : ByteArray} (h : (s.toList == [114, 101, 109, 111, 118, 101]) = true) : kindOf s = .remove := by unfold kindOf; rw [list_of h]; rfl
theorem kind_plug {s : ByteArray} (h : (s.toList == [112, 108, 117, 103]) = true) : kindOf s = .plug := by unfold kindOf; rw [list_of h]; rfl
theorem kind_unplug {s : ByteArray} (h : (s.toList == [117, 110, 112, 108, 117, 103]) = true) : kindOf s = .unplug := by unfold kindOf; rw [list_of h]; rfl
theorem kind_give {s : ByteArray} (h : (s.toList == [103, 105, 118, 101]) = true) : kindOf s = .give := by unfold kindOf; rw [list_of h]; rfl
theorem kind_back {s : ByteArray} (h : (s.toList == [98, 97, 99, 107]) = true) : kindOf s = .back := by unfold kindOf; rw [list_of h]; rfl
theorem kind_load {s : ByteArray} (h : (s.toList == [108, 111, 97, 100]) = true) : kindOf s = .load := by unfold kindOf; rw [list_of h]; rfl
theorem kind_store {s : ByteArray} (h : (s.toList == [115, 116, 111, 114, 101]) = true) : kindOf s = .store := by unfold kindOf; rw [list_of h]; rfl
theorem kind_root {s : ByteArray} (h : (s.toList == [114, 111, 111, 116]) = true) : kindOf s = .root := by unfold kindOf; rw [list_of h]; rfl
theorem kind_forget {s : ByteArray} (h : (s.toList == [102, 111, 114, 103, 101, 116]) = true) : kindOf s = .forget := by unfold kindOf; rw [list_of h]; rfl
theorem kind_drop {s : ByteArray} (h : (s.toList == [100, 114, 111, 112]) = true) : kindOf s = .drop := by unfold kindOf; rw [list_of h]; rfl
theorem kind_scan {s : ByteArray} (h : (s.toList == [115, 99, 97, 110]) = true) : kindOf s = .scan := by unfold kindOf; rw [list_of h]; rfl
theorem kind_scanall {s : ByteArray} (h : (s.toList == [115, 99, 97, 110, 97, 108, 108]) = true) : kindOf s = .scanall := by unfold kindOf; rw [list_of h]; rfl
theorem kind_other {s : ByteArray} (h0 : (s.toList == [97, 100, 100]) = false) (h1 : (s.toList == [114, 101, 109, 111, 118, 101]) = false) (h2 : (s.toList == [112, 108, 117, 103]) = false) (h3 : (s.toList == [117, 110, 112, 108, 117, 103]) = false) (h4 : (s.toList == [103, 105, 118, 101]) = false) (h5 : (s.toList == [98, 97, 99, 107]) = false) (h6 : (s.toList == [108, 111, 97, 100]) = false) (h7 : (s.toList == [115, 116, 111, 114, 101]) = false) (h8 : (s.toList == [114, 111, 111, 116]) = false) (h9 : (s.toList == [102, 111, 114, 103, 101, 116]) = false) (h10 : (s.toList == [100, 114, 111, 112]) = false) (h11 : (s.toList == [115, 99, 97, 110]) = false) (h12 : (s.toList == [115, 99, 97, 110, 97, 108, 108]) = false) : kindOf s = .other := by
  unfold kindOf kindL
  rw [h0, h1, h2, h3, h4, h5, h6, h7, h8, h9, h10, h11, h12]
  rfl
def DidPost (w : World) (h : Nat) (L : PoolAt) (K : Nat → GAt) (H : HostM) (x : HostM × Int × Nat) (e : Ending) (w' : World) : Prop :=
  e = .returned (.tuple #[.int .i64 x.2.1, .int .i64 x.2.2]) ∧ ∃ K', PH (ownH h L K H) w w' h L K' x.1
theorem assert_errno (er : Nat) : ∀ (xT : TypeId) W, (Instr.typeAssert (.iface 37 (.int .i64 er)) xT 37 true).run Tryz.prog W = .ok (.tuple #[.int .i64 er, .bool true]) W := by
  intro xT W
  simp [Instr.typeAssert, run_underlying Tryz.underlying37]
theorem wrap_byte (v : UInt8) : wrap64 (v.toNat : Int) = v.toNat := IntWalk.wrap64_in _ (by have := v.toNat_lt; constructor <;> omega)
theorem tail2 {w W w2 : World} {h : Nat} {L : PoolAt} {K K2 : Nat → GAt} {H H2 : HostM} (r : HRep w h L K H) (u : Upd Non w W) (t : PH (ownH h L K H) W w2 h L K2 H2) : PH (ownH h L K H) w w2 h L K2 H2 := ((PH.start r).non u).trans t
section
variable {w : World} {h : Nat} {L : PoolAt} {K : Nat → GAt} {H : HostM}
end

end U
end Go.Proofs.YtnhplapcdgnaaaaGreatDoor
