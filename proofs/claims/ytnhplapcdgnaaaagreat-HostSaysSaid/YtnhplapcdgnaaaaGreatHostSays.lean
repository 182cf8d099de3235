import Derived.Test.YtnhplapcdgnaaaaGreatHosted
import Derived.Test.YtnhplapcdgnaaaaGreatAsX
set_option linter.unusedVariables false
set_option linter.unusedSimpArgs false
namespace Go.Proofs.YtnhplapcdgnaaaaGreat
open Go.RowKit
namespace U

/-! The laws hosts, HostSays. -/
def hostsH1 : HostM := (hadd (HostM.fresh 8)).1
def hostsH2 : HostM := (hplug hostsH1 0 1).1
def hostsH3 : HostM := (hstore hostsH2 0 65 9).1
theorem hosts_1 : hadd (HostM.fresh 8) = (hostsH1, 0, 0) := Prod.ext rfl (by kernel_rfl)
theorem hosts_2 : hplug hostsH1 0 1 = (hostsH2, 0) := Prod.ext rfl (by kernel_rfl)
theorem hosts_3 : hprom hostsH2 = 4 := by kernel_rfl
theorem hosts_4 : hstore hostsH2 0 65 9 = (hostsH3, 0) := Prod.ext rfl (by kernel_rfl)
theorem hosts_5 : hostsH3.p.left = 7 := by kernel_rfl
set_option maxRecDepth 100000 in
set_option maxHeartbeats 2000000 in
theorem hosts_law (w : World) : Calls Tryz.prog 4 #[] w fun e w' => e = .returned (.bool true) ∧ Upd Non w w' := by
  have K0 : Nat → GAt := fun _ => ⟨0, 0, 0, undef⟩
  have i0 := Lib.hid (HFine.fresh 8).inv
  have i1 : Hid (HInv hostsH1) := by have := i0.out.add; rw [hosts_1] at this; exact this
  have i2 : Hid (HInv hostsH2) := by have := i1.out.plug 0 1; rw [hosts_2] at this; exact this
  have e1 := Lib.hid hosts_1
  have e2 := Lib.hid hosts_2
  have e3 := Lib.hid hosts_3
  have e4 := Lib.hid hosts_4
  have e5 := Lib.hid hosts_5
  go_enter Tryz.func4, Tryz.ntmps4
  go_wp2_with (first
    | (go_at_call 6; refine (hnew_ok _ 8 (by omega) (by omega) K0).mono ?_; rintro e w1 ⟨h, L, rfl, r1, n1, u1⟩)
    | (go_at_call 12; refine (hadd_any r1).mono ?_; unfold HAddPost; rw [e1.out]; dsimp only; rintro e w2 ⟨rfl, K2, t2⟩; unfold errv)
    | (go_at_call 16; refine (hplug_any t2.rep i1.out 0 1).mono ?_; unfold HPost; rw [e2.out]; dsimp only; rintro e w3 ⟨rfl, K3, s3⟩; have t3 := t2.trans s3; unfold errv)
    | (go_at_call 17; refine (hPromised_any t3.rep).mono ?_; rw [e3.out]; rintro e w4 ⟨rfl, rfl⟩)
    | (go_at_call 10; refine (hstore_any t3.rep i2.out 0 65 9).mono ?_; unfold HPost; rw [e4.out]; dsimp only; rintro e w5 ⟨rfl, K5, s5⟩; have t5 := t3.trans s5; unfold errv)
    | (go_at_call 18; refine (hleft_any t5.rep).mono ?_; rw [e5.out]; rintro e w6 ⟨rfl, rfl⟩)
    | (go_at_call 7; refine (same_law _ 0 0).mono ?_; rintro e w9 ⟨rfl, rfl⟩)
    | fail)
  go_ret
  exact ⟨rfl, u1.over t5.up n1⟩
set_option maxRecDepth 100000 in
set_option maxHeartbeats 4000000 in
theorem hostSays_go (w : World) (k : Nat) (hn1 : 1 ≤ (k : Int)) (hn2 : (k : Int) ≤ 64) (Ad : Option Addr) (cap : Nat) (l : List ActM) (hl : ActsAt w Ad l) (h100 : (l.length : Int) ≤ 100) :
    Calls Tryz.prog 3 #[.int .i64 k, .slice Ad l.length cap] w fun e w' => e = .returned (.bool true) ∧ Upd Non w w' := by
  have K0 : Nat → GAt := fun _ => ⟨0, 0, 0, undef⟩
  have R0 : Nat → Nat × Value := fun _ => (0, undef)
  go_enter Tryz.func3, Tryz.ntmps3
  go_wp2_with (first
    | (go_at_call 4; refine (hosts_law _).mono ?_; rintro e ws ⟨rfl, u1⟩)
    | (go_at_call 5; refine (light_law _ _ _ _ _).mono ?_; rintro e w2 ⟨rfl, rfl⟩)
    | (go_at_call 6; refine (hnew_ok _ k (by omega) (by omega) K0).mono ?_; rintro e w1 ⟨h, L, rfl, r1, n1, u2⟩)
    | (go_at_call 8; refine (rnewHost_any _ k (by omega) (by omega) R0).mono ?_; rintro e w2 ⟨o, m, rfl, r2, n2, u3⟩)
    | fail)
  have H0 := Lib.hid (HB.start (w := w) r1 (fun x hx => Nat.le_trans u1.size (n1 x hx)) (u1.trans u2) r2 n2 u3)
  clear r1 n1 u2 r2 n2 u3 u1
  go_loopw [6, 9] (fun p i wr => ∃ (q h : Nat) (L : PoolAt) (K : Nat → GAt) (R : Nat → Nat × Value) (H : HostM), q ≤ l.length ∧ p = .pointer (some ⟨h, 0, none⟩) ∧ i = .int .i64 q ∧ Hid (HB w wr h L K H o m R H ∧ HInv H)) (fun _ i _ => l.length - (intOf i).toNat)
  case atStart => exact ⟨0, h, L, _, _, _, Nat.zero_le _, rfl, rfl, H0.out, (HFine.fresh k).inv⟩
  case round =>
    clear H0
    obtain ⟨q, h, L, K, R, H, hq, rfl, rfl, hI⟩ := hrel
    by_cases hlt : q < l.length
    · obtain ⟨b, oo, rfl, hb, hx⟩ : ∃ b oo, Ad = some ⟨b, oo, none⟩ ∧ b < w.heap.size ∧ ∀ i x, l[i]? = some x → ActAt w b (oo + i * 6) x := by
        rcases hl with rfl | h
        · simp at hlt
        · exact h
      have ha := (hx q l[q] (List.getElem?_eq_getElem hlt)).upd_ hI.out.1.a.up (fun h => h)
      clear hx hl
      generalize l[q] = x at ha
      obtain ⟨a0, a1, a2, a3, a4, a5⟩ := ha
      have t := Lib.hid hI.out.1
      have HI := Lib.hid hI.out.2
      have I1 := Lib.hid (HI.out.store 0 3 77)
      have I2 := Lib.hid (I1.out.remove 1)
      have I3 := Lib.hid I2.out.add
      clear hI
      go_wp2_with fail
      · -- copy
        go_wp2_with (first
          | (go_at_call 9; refine (hcopy_any t.out.a.r HI.out).mono ?_; rintro e c2 ⟨b2, L', K', rfl, t2⟩)
          | (go_at_call 10; refine (hstore_any (t.out.non t2.up).a.r HI.out 0 3 77).mono ?_; unfold HPost; rintro e c3 ⟨rfl, K3, s3⟩)
          | (go_at_call 11; refine (hremove_any s3.rep I1.out 1).mono ?_; unfold HPost; rintro e c4 ⟨rfl, K4, s4⟩)
          | (go_at_call 12; refine (hadd_any s4.rep).mono ?_; unfold HAddPost; rintro e c5 ⟨rfl, K5, s5⟩)
          | (go_at_call 13; refine (hscanAll_any s5.rep I3.out).mono ?_; unfold HAllPost; rintro e c6 ⟨rfl, K6, s6⟩)
          | fail)
        have t9 := t.out.copy t2.hr t2.n t2.up (((s3.trans s4).trans s5).trans s6).up
        exact ⟨⟨q + 1, b2, L', K', R, H, by omega, rfl, by go_num, t9, HI.out⟩, by simp [intOf]; omega⟩
      · -- another act
        go_wp2_with (first
          | (go_at_call 14; refine (hosted_law t.out HI.out x).mono ?_; unfold HostedPost; rintro e w4 ⟨rfl, K4, R4, H4, t4, i4, n4⟩)
          | (go_at_call 15; refine (asHost_law t4 i4).mono ?_; rintro e w5 ⟨rfl, u5⟩; have t5 := t4.non u5)
          | fail)
        all_goals first
          | exact ⟨⟨q + 1, h, L, K4, R4, H4, by omega, rfl, by go_num, t5, i4⟩, by simp [intOf]; omega⟩
          | exact ⟨⟨q + 1, h, L, K4, R4, H4, by omega, rfl, by go_num, t4, i4⟩, by simp [intOf]; omega⟩
    · -- end
      have t := hI.out.1
      obtain rfl : q = l.length := by omega
      go_wp2_with (first
        | (go_at_call 15; refine (asHost_law t hI.out.2).mono ?_; rintro e c2 ⟨rfl, u2⟩)
        | fail)
      go_ret
      exact ⟨rfl, t.a.up.trans u2⟩

set_option maxRecDepth 100000 in
set_option maxHeartbeats 400000 in
theorem hostSays_law (w : World) (n : Int) (A : Option Addr) (cap : Nat) (l : List ActM) (hl : ActsAt w A l) :
    Calls Tryz.prog 3 #[.int .i64 n, .slice A l.length cap] w fun e w' => e = .returned (.bool true) ∧ Upd Non w w' := by
  by_cases h100 : (l.length : Int) ≤ 100
  · by_cases h1 : 1 ≤ n ∧ n ≤ 64
    · obtain ⟨k, rfl⟩ := Int.eq_ofNat_of_zero_le (by omega : 0 ≤ n)
      exact hostSays_go w k h1.1 h1.2 A cap l hl h100
    · have h2 : n < 1 ∨ 64 < n := by omega
      clear h1
      rcases h2 with h2 | h2
      · have hb := Lib.hid (fun W => hnew_bad W n (.inl h2))
        go_enter Tryz.func3, Tryz.ntmps3
        go_wp2_with (first
          | (go_at_call 4; refine (hosts_law _).mono ?_; rintro e ws ⟨rfl, u1⟩)
          | (go_at_call 5; refine (light_law _ _ _ _ _).mono ?_; rintro e w2 ⟨rfl, rfl⟩)
          | (go_at_call 6; refine (hb.out _).mono ?_; rintro e w1 ⟨rfl, rfl⟩)
          | (go_at_call 7; refine (same_law _ 1 1).mono ?_; rintro e w9 ⟨rfl, rfl⟩)
          | fail)
        go_ret
        exact ⟨rfl, u1⟩
      · have hb := Lib.hid (fun W => hnew_bad W n (.inr h2))
        go_enter Tryz.func3, Tryz.ntmps3
        go_wp2_with (first
          | (go_at_call 4; refine (hosts_law _).mono ?_; rintro e ws ⟨rfl, u1⟩)
          | (go_at_call 5; refine (light_law _ _ _ _ _).mono ?_; rintro e w2 ⟨rfl, rfl⟩)
          | (go_at_call 6; refine (hb.out _).mono ?_; rintro e w1 ⟨rfl, rfl⟩)
          | (go_at_call 7; refine (same_law _ 1 1).mono ?_; rintro e w9 ⟨rfl, rfl⟩)
          | fail)
        go_ret
        exact ⟨rfl, u1⟩
  · go_enter Tryz.func3, Tryz.ntmps3
    go_wp2_with (first
      | (go_at_call 4; refine (hosts_law _).mono ?_; rintro e ws ⟨rfl, u1⟩)
      | (go_at_call 5; refine (light_law _ _ _ _ _).mono ?_; rw [show decide ((l.length : Int) ≤ 100) = false from decide_eq_false (by omega)]; rintro e w2 ⟨rfl, rfl⟩))
    go_ret
    exact ⟨rfl, u1⟩

end U
end Go.Proofs.YtnhplapcdgnaaaaGreat
