import Derived.Test.YtnhplapcdgnaaaaHostQm
import Derived.Test.YtnhplapcdgnaaaaHostPl
import Derived.Test.YtnhplapcdgnaaaaLawB
set_option linter.unusedVariables false
set_option linter.unusedSimpArgs false
namespace Go.Proofs.Ytnhplapcdgnaaaa
open Go.RowKit
namespace U

/-! The law TopApart (written by gen_topapart.py). -/
theorem skips_none {g : Int} {kind : ByteArray} {x : ActM} (h0 : (kind.toList == [108, 111, 97, 100]) = false) (h1 : (kind.toList == [115, 116, 111, 114, 101]) = false) (h2 : (kind.toList == [114, 111, 111, 116]) = false) (h3 : (kind.toList == [102, 111, 114, 103, 101, 116]) = false) (h4 : (kind.toList == [100, 114, 111, 112]) = false) (h5 : (kind.toList == [115, 99, 97, 110]) = false) (h6 : (kind.toList == [115, 99, 97, 110, 97, 108, 108]) = false) : skips g (kindOf kind) x = false := by
  unfold kindOf kindL
  simp only [h0, h1, h2, h3, h4, h5, h6, Bool.false_eq_true, if_false]
  (repeat' split) <;> rfl
theorem Apart.act2 {g : Int} {H O : HostM} (t : Apart g H O) (k : HK) (x : ActM) (hs : skips g k x = false) : ∃ H2 O2 y er, hdid H k x = (H2, y, er) ∧ hdid O k x = (O2, y, er) ∧ Apart g H2 O2 :=
  ⟨_, (hdid O k x).1, _, _, rfl, Prod.ext rfl (t.act k x hs).1.symm, (t.act k x hs).2⟩
theorem Apart.skip2 {g : Int} {H O : HostM} (t : Apart g H O) (k : HK) (x : ActM) (hs : skips g k x = true) : ∃ H2 y er, hdid H k x = (H2, y, er) ∧ Apart g H2 O :=
  ⟨_, _, _, rfl, t.skip k x hs⟩
set_option maxRecDepth 100000 in
set_option maxHeartbeats 8000000 in
theorem topApart_go (w : World) (k : Nat) (hn1 : 1 ≤ (k : Int)) (hn2 : (k : Int) ≤ 64) (g : Int) (Ad : Option Addr) (cap : Nat) (l : List ActM) (hl : ActsAt w Ad l) (h100 : (l.length : Int) ≤ 100) :
    Calls Try.prog 11 #[.int .i64 k, .int .i64 g, .slice Ad l.length cap] w fun e w' => e = .returned (.bool true) ∧ Upd Non w w' := by
  have K0 : Nat → GAt := fun _ => ⟨0, 0, 0, undef⟩
  go_enter Try.func11, Try.ntmps11
  go_wp2_with (first
    | (go_at_call 13; refine (light_law _ _ _ _ _).mono ?_; rintro e w3 ⟨rfl, rfl⟩)
    | (go_at_call 69; refine (hnew_ok w k (by omega) (by omega) K0).mono ?_; rintro e w1 ⟨h, L, rfl, r1, n1, u1⟩)
    | (go_at_call 69; refine (hnew_ok w1 k (by omega) (by omega) K0).mono ?_; rintro e w2 ⟨o, L', rfl, r2, n2, u2⟩)
    | fail)
  have T0 := Lib.hid (HH.start r1 n1 u1 r2 n2 u2)
  clear r1 n1 u1 r2 n2 u2
  go_loopw [11] (fun i wr => ∃ (q : Nat) (K K' : Nat → GAt) (H O : HostM), q ≤ l.length ∧ i = .int .i64 q ∧ Hid (HH w wr h o L L' K K' H O) ∧ Hid (Apart g H O)) (fun i _ => l.length - (intOf i).toNat)
  case atStart => exact ⟨0, _, _, _, _, Nat.zero_le _, rfl, T0.out, Apart.fresh g k⟩
  case round =>
    clear T0
    obtain ⟨q, K, K', H, O, hq, rfl, hT, HI⟩ := hrel
    by_cases hlt : q < l.length
    · obtain ⟨b, oo, rfl, hb, hx⟩ : ∃ b oo, Ad = some ⟨b, oo, none⟩ ∧ b < w.heap.size ∧ ∀ i x, l[i]? = some x → ActAt w b (oo + i * 6) x := by
        rcases hl with rfl | h
        · simp at hlt
        · exact h
      have ha := (hx q l[q] (List.getElem?_eq_getElem hlt)).upd_ hT.out.a.up (fun h => h)
      clear hx hl
      generalize l[q] = x at ha
      obtain ⟨kind, xn, xa, xb, xv, on⟩ := x
      obtain ⟨a0, a1, a2, a3, a4, a5⟩ := ha
      dsimp only at a0 a1 a2 a3 a4 a5
      have T := hT.out
      have X0 := ARow.new wr ⟨kind, xn, xa, xb, xv, on⟩
      have TA := T.alloc (.cells #[.string kind, .int .i64 xn, .int .i64 xa, .int .i64 xb, .int .u8 xv.toNat, .bool on] 31)
      dsimp only at X0
      have cH := Lib.hid (show ∀ W, HRep W h L K H → Calls Try.prog 70 #[.pointer (some ⟨h, 0, none⟩), .agg #[.string kind, .int .i64 xn, .int .i64 xa, .int .i64 xb, .int .u8 xv.toNat, .bool on]] W (DidPost W h L K H (hdid H (kindOf kind) ⟨kind, xn, xa, xb, xv, on⟩)) from fun W r => did_any r HI.out.fh.inv ⟨kind, xn, xa, xb, xv, on⟩)
      have cO := Lib.hid (show ∀ W, HRep W o L' K' O → Calls Try.prog 70 #[.pointer (some ⟨o, 0, none⟩), .agg #[.string kind, .int .i64 xn, .int .i64 xa, .int .i64 xb, .int .u8 xv.toNat, .bool on]] W (DidPost W o L' K' O (hdid O (kindOf kind) ⟨kind, xn, xa, xb, xv, on⟩)) from fun W r => did_any r HI.out.fo.inv ⟨kind, xn, xa, xb, xv, on⟩)
      go_upto_region 11 with fail
      have y0 := X0.a0
      have y1 := X0.a1
      have y2 := X0.a2
      have y3 := X0.a3
      have y4 := X0.a4
      have y5 := X0.a5
      have lx := X0.lt
      clear a0 a1 a2 a3 a4 a5 T
      generalize wr.alloc (.cells #[.string kind, .int .i64 xn, .int .i64 xa, .int .i64 xb, .int .u8 xv.toNat, .bool on] 31) = wx at TA X0 y0 y1 y2 y3 y4 y5 lx ⊢
      generalize wr.heap.size = bx at X0 y0 y1 y2 y3 y4 y5 lx ⊢
      cases h_load : (kind.toList == [108, 111, 97, 100]) with
      | true =>
        have q_store : (kind.toList == [115, 116, 111, 114, 101]) = false := by rw [list_of h_load]; rfl
        have q_root : (kind.toList == [114, 111, 111, 116]) = false := by rw [list_of h_load]; rfl
        have q_forget : (kind.toList == [102, 111, 114, 103, 101, 116]) = false := by rw [list_of h_load]; rfl
        have q_drop : (kind.toList == [100, 114, 111, 112]) = false := by rw [list_of h_load]; rfl
        have q_scan : (kind.toList == [115, 99, 97, 110]) = false := by rw [list_of h_load]; rfl
        have q_scanall : (kind.toList == [115, 99, 97, 110, 97, 108, 108]) = false := by rw [list_of h_load]; rfl
        by_cases hn : xn = g
        · have hn1 : (xn != g) = false := by simpa using hn
          clear hn
          obtain ⟨H2, O2, y, er, e1, e2, hA2⟩ := HI.out.act2 (kindOf kind) ⟨kind, xn, xa, xb, xv, on⟩ (by rw [kind_load h_load]; exact hn1)
          rw [e1] at cH
          rw [e2] at cO
          clear e1 e2
          have HA := Lib.hid hA2
          clear hA2
          go_wp2_with (first
            | (go_at_call 70; refine Calls.mono (cH.out _ (HW.r (HH.a ((by repeat (first | assumption | apply HH.drew | apply HH.drewN | apply HH.alloc)) : HH w _ h o L L' K K' H O)))) ?_; unfold DidPost; dsimp only; rintro e w4 ⟨rfl, K2, t4⟩; have T4 := HH.actA ((by repeat (first | assumption | apply HH.drew | apply HH.drewN | apply HH.alloc)) : HH w _ h o L L' K K' H O) t4; have X4 := ARow.act ((by repeat (first | assumption | apply ARow.drewN)) : ARow _ bx ⟨kind, xn, xa, xb, xv, on⟩) (HW.r (HH.a ((by repeat (first | assumption | apply HH.drew | apply HH.drewN | apply HH.alloc)) : HH w _ h o L L' K K' H O))) t4.up; have z0 := X4.a0; have z1 := X4.a1; have z2 := X4.a2; have z3 := X4.a3; have z4 := X4.a4; have z5 := X4.a5; have lz := X4.lt; clear cH)
            | (go_at_call 70; refine Calls.mono (cO.out _ (HW.r (HH.b ((by repeat (first | assumption | apply HH.drew | apply HH.drewN | apply HH.alloc)) : HH w _ h o L L' K2 K' H2 O)))) ?_; unfold DidPost; dsimp only; rintro e w5 ⟨rfl, K3, t5⟩; have T5 := HH.actB ((by repeat (first | assumption | apply HH.drew | apply HH.drewN | apply HH.alloc)) : HH w _ h o L L' K2 K' H2 O) t5)
            | fail)
          go_roundw
          case rel => exact ⟨q + 1, _, _, _, _, by omega, by go_num, T5, HA.out⟩
          case measure => simp [intOf]; omega
        · have hn1 : (xn != g) = true := by simpa using hn
          clear hn
          obtain ⟨H2, y, er, e1, hA⟩ := HI.out.skip2 (kindOf kind) ⟨kind, xn, xa, xb, xv, on⟩ (by rw [kind_load h_load]; exact hn1)
          rw [e1] at cH
          clear cO e1
          have HA := Lib.hid hA
          clear hA
          go_wp2_with (first
            | (go_at_call 70; refine Calls.mono (cH.out _ (HW.r (HH.a ((by repeat (first | assumption | apply HH.drew | apply HH.drewN | apply HH.alloc)) : HH w _ h o L L' K K' H O)))) ?_; unfold DidPost; dsimp only; rintro e w4 ⟨rfl, K2, t4⟩; have T4 := HH.actA ((by repeat (first | assumption | apply HH.drew | apply HH.drewN | apply HH.alloc)) : HH w _ h o L L' K K' H O) t4; have X4 := ARow.act ((by repeat (first | assumption | apply ARow.drewN)) : ARow _ bx ⟨kind, xn, xa, xb, xv, on⟩) (HW.r (HH.a ((by repeat (first | assumption | apply HH.drew | apply HH.drewN | apply HH.alloc)) : HH w _ h o L L' K K' H O))) t4.up; have z0 := X4.a0; have z1 := X4.a1; have z2 := X4.a2; have z3 := X4.a3; have z4 := X4.a4; have z5 := X4.a5; have lz := X4.lt; clear cH)
            | fail)
          go_roundw
          case rel => exact ⟨q + 1, _, _, _, _, by omega, by go_num, T4, HA.out⟩
          case measure => simp [intOf]; omega
      | false =>
      cases h_store : (kind.toList == [115, 116, 111, 114, 101]) with
      | true =>
        have q_load : (kind.toList == [108, 111, 97, 100]) = false := by rw [list_of h_store]; rfl
        have q_root : (kind.toList == [114, 111, 111, 116]) = false := by rw [list_of h_store]; rfl
        have q_forget : (kind.toList == [102, 111, 114, 103, 101, 116]) = false := by rw [list_of h_store]; rfl
        have q_drop : (kind.toList == [100, 114, 111, 112]) = false := by rw [list_of h_store]; rfl
        have q_scan : (kind.toList == [115, 99, 97, 110]) = false := by rw [list_of h_store]; rfl
        have q_scanall : (kind.toList == [115, 99, 97, 110, 97, 108, 108]) = false := by rw [list_of h_store]; rfl
        by_cases hn : xn = g
        · have hn1 : (xn != g) = false := by simpa using hn
          clear hn
          obtain ⟨H2, O2, y, er, e1, e2, hA2⟩ := HI.out.act2 (kindOf kind) ⟨kind, xn, xa, xb, xv, on⟩ (by rw [kind_store h_store]; exact hn1)
          rw [e1] at cH
          rw [e2] at cO
          clear e1 e2
          have HA := Lib.hid hA2
          clear hA2
          go_wp2_with (first
            | (go_at_call 70; refine Calls.mono (cH.out _ (HW.r (HH.a ((by repeat (first | assumption | apply HH.drew | apply HH.drewN | apply HH.alloc)) : HH w _ h o L L' K K' H O)))) ?_; unfold DidPost; dsimp only; rintro e w4 ⟨rfl, K2, t4⟩; have T4 := HH.actA ((by repeat (first | assumption | apply HH.drew | apply HH.drewN | apply HH.alloc)) : HH w _ h o L L' K K' H O) t4; have X4 := ARow.act ((by repeat (first | assumption | apply ARow.drewN)) : ARow _ bx ⟨kind, xn, xa, xb, xv, on⟩) (HW.r (HH.a ((by repeat (first | assumption | apply HH.drew | apply HH.drewN | apply HH.alloc)) : HH w _ h o L L' K K' H O))) t4.up; have z0 := X4.a0; have z1 := X4.a1; have z2 := X4.a2; have z3 := X4.a3; have z4 := X4.a4; have z5 := X4.a5; have lz := X4.lt; clear cH)
            | (go_at_call 70; refine Calls.mono (cO.out _ (HW.r (HH.b ((by repeat (first | assumption | apply HH.drew | apply HH.drewN | apply HH.alloc)) : HH w _ h o L L' K2 K' H2 O)))) ?_; unfold DidPost; dsimp only; rintro e w5 ⟨rfl, K3, t5⟩; have T5 := HH.actB ((by repeat (first | assumption | apply HH.drew | apply HH.drewN | apply HH.alloc)) : HH w _ h o L L' K2 K' H2 O) t5)
            | fail)
          go_roundw
          case rel => exact ⟨q + 1, _, _, _, _, by omega, by go_num, T5, HA.out⟩
          case measure => simp [intOf]; omega
        · have hn1 : (xn != g) = true := by simpa using hn
          clear hn
          obtain ⟨H2, y, er, e1, hA⟩ := HI.out.skip2 (kindOf kind) ⟨kind, xn, xa, xb, xv, on⟩ (by rw [kind_store h_store]; exact hn1)
          rw [e1] at cH
          clear cO e1
          have HA := Lib.hid hA
          clear hA
          go_wp2_with (first
            | (go_at_call 70; refine Calls.mono (cH.out _ (HW.r (HH.a ((by repeat (first | assumption | apply HH.drew | apply HH.drewN | apply HH.alloc)) : HH w _ h o L L' K K' H O)))) ?_; unfold DidPost; dsimp only; rintro e w4 ⟨rfl, K2, t4⟩; have T4 := HH.actA ((by repeat (first | assumption | apply HH.drew | apply HH.drewN | apply HH.alloc)) : HH w _ h o L L' K K' H O) t4; have X4 := ARow.act ((by repeat (first | assumption | apply ARow.drewN)) : ARow _ bx ⟨kind, xn, xa, xb, xv, on⟩) (HW.r (HH.a ((by repeat (first | assumption | apply HH.drew | apply HH.drewN | apply HH.alloc)) : HH w _ h o L L' K K' H O))) t4.up; have z0 := X4.a0; have z1 := X4.a1; have z2 := X4.a2; have z3 := X4.a3; have z4 := X4.a4; have z5 := X4.a5; have lz := X4.lt; clear cH)
            | fail)
          go_roundw
          case rel => exact ⟨q + 1, _, _, _, _, by omega, by go_num, T4, HA.out⟩
          case measure => simp [intOf]; omega
      | false =>
      cases h_root : (kind.toList == [114, 111, 111, 116]) with
      | true =>
        have q_load : (kind.toList == [108, 111, 97, 100]) = false := by rw [list_of h_root]; rfl
        have q_store : (kind.toList == [115, 116, 111, 114, 101]) = false := by rw [list_of h_root]; rfl
        have q_forget : (kind.toList == [102, 111, 114, 103, 101, 116]) = false := by rw [list_of h_root]; rfl
        have q_drop : (kind.toList == [100, 114, 111, 112]) = false := by rw [list_of h_root]; rfl
        have q_scan : (kind.toList == [115, 99, 97, 110]) = false := by rw [list_of h_root]; rfl
        have q_scanall : (kind.toList == [115, 99, 97, 110, 97, 108, 108]) = false := by rw [list_of h_root]; rfl
        by_cases hn : xn = g
        · have hn1 : (xn != g) = false := by simpa using hn
          clear hn
          obtain ⟨H2, O2, y, er, e1, e2, hA2⟩ := HI.out.act2 (kindOf kind) ⟨kind, xn, xa, xb, xv, on⟩ (by rw [kind_root h_root]; exact hn1)
          rw [e1] at cH
          rw [e2] at cO
          clear e1 e2
          have HA := Lib.hid hA2
          clear hA2
          go_wp2_with (first
            | (go_at_call 70; refine Calls.mono (cH.out _ (HW.r (HH.a ((by repeat (first | assumption | apply HH.drew | apply HH.drewN | apply HH.alloc)) : HH w _ h o L L' K K' H O)))) ?_; unfold DidPost; dsimp only; rintro e w4 ⟨rfl, K2, t4⟩; have T4 := HH.actA ((by repeat (first | assumption | apply HH.drew | apply HH.drewN | apply HH.alloc)) : HH w _ h o L L' K K' H O) t4; have X4 := ARow.act ((by repeat (first | assumption | apply ARow.drewN)) : ARow _ bx ⟨kind, xn, xa, xb, xv, on⟩) (HW.r (HH.a ((by repeat (first | assumption | apply HH.drew | apply HH.drewN | apply HH.alloc)) : HH w _ h o L L' K K' H O))) t4.up; have z0 := X4.a0; have z1 := X4.a1; have z2 := X4.a2; have z3 := X4.a3; have z4 := X4.a4; have z5 := X4.a5; have lz := X4.lt; clear cH)
            | (go_at_call 70; refine Calls.mono (cO.out _ (HW.r (HH.b ((by repeat (first | assumption | apply HH.drew | apply HH.drewN | apply HH.alloc)) : HH w _ h o L L' K2 K' H2 O)))) ?_; unfold DidPost; dsimp only; rintro e w5 ⟨rfl, K3, t5⟩; have T5 := HH.actB ((by repeat (first | assumption | apply HH.drew | apply HH.drewN | apply HH.alloc)) : HH w _ h o L L' K2 K' H2 O) t5)
            | fail)
          go_roundw
          case rel => exact ⟨q + 1, _, _, _, _, by omega, by go_num, T5, HA.out⟩
          case measure => simp [intOf]; omega
        · have hn1 : (xn != g) = true := by simpa using hn
          clear hn
          obtain ⟨H2, y, er, e1, hA⟩ := HI.out.skip2 (kindOf kind) ⟨kind, xn, xa, xb, xv, on⟩ (by rw [kind_root h_root]; exact hn1)
          rw [e1] at cH
          clear cO e1
          have HA := Lib.hid hA
          clear hA
          go_wp2_with (first
            | (go_at_call 70; refine Calls.mono (cH.out _ (HW.r (HH.a ((by repeat (first | assumption | apply HH.drew | apply HH.drewN | apply HH.alloc)) : HH w _ h o L L' K K' H O)))) ?_; unfold DidPost; dsimp only; rintro e w4 ⟨rfl, K2, t4⟩; have T4 := HH.actA ((by repeat (first | assumption | apply HH.drew | apply HH.drewN | apply HH.alloc)) : HH w _ h o L L' K K' H O) t4; have X4 := ARow.act ((by repeat (first | assumption | apply ARow.drewN)) : ARow _ bx ⟨kind, xn, xa, xb, xv, on⟩) (HW.r (HH.a ((by repeat (first | assumption | apply HH.drew | apply HH.drewN | apply HH.alloc)) : HH w _ h o L L' K K' H O))) t4.up; have z0 := X4.a0; have z1 := X4.a1; have z2 := X4.a2; have z3 := X4.a3; have z4 := X4.a4; have z5 := X4.a5; have lz := X4.lt; clear cH)
            | fail)
          go_roundw
          case rel => exact ⟨q + 1, _, _, _, _, by omega, by go_num, T4, HA.out⟩
          case measure => simp [intOf]; omega
      | false =>
      cases h_forget : (kind.toList == [102, 111, 114, 103, 101, 116]) with
      | true =>
        have q_load : (kind.toList == [108, 111, 97, 100]) = false := by rw [list_of h_forget]; rfl
        have q_store : (kind.toList == [115, 116, 111, 114, 101]) = false := by rw [list_of h_forget]; rfl
        have q_root : (kind.toList == [114, 111, 111, 116]) = false := by rw [list_of h_forget]; rfl
        have q_drop : (kind.toList == [100, 114, 111, 112]) = false := by rw [list_of h_forget]; rfl
        have q_scan : (kind.toList == [115, 99, 97, 110]) = false := by rw [list_of h_forget]; rfl
        have q_scanall : (kind.toList == [115, 99, 97, 110, 97, 108, 108]) = false := by rw [list_of h_forget]; rfl
        by_cases hn : xn = g
        · have hn1 : (xn != g) = false := by simpa using hn
          clear hn
          obtain ⟨H2, O2, y, er, e1, e2, hA2⟩ := HI.out.act2 (kindOf kind) ⟨kind, xn, xa, xb, xv, on⟩ (by rw [kind_forget h_forget]; exact hn1)
          rw [e1] at cH
          rw [e2] at cO
          clear e1 e2
          have HA := Lib.hid hA2
          clear hA2
          go_wp2_with (first
            | (go_at_call 70; refine Calls.mono (cH.out _ (HW.r (HH.a ((by repeat (first | assumption | apply HH.drew | apply HH.drewN | apply HH.alloc)) : HH w _ h o L L' K K' H O)))) ?_; unfold DidPost; dsimp only; rintro e w4 ⟨rfl, K2, t4⟩; have T4 := HH.actA ((by repeat (first | assumption | apply HH.drew | apply HH.drewN | apply HH.alloc)) : HH w _ h o L L' K K' H O) t4; have X4 := ARow.act ((by repeat (first | assumption | apply ARow.drewN)) : ARow _ bx ⟨kind, xn, xa, xb, xv, on⟩) (HW.r (HH.a ((by repeat (first | assumption | apply HH.drew | apply HH.drewN | apply HH.alloc)) : HH w _ h o L L' K K' H O))) t4.up; have z0 := X4.a0; have z1 := X4.a1; have z2 := X4.a2; have z3 := X4.a3; have z4 := X4.a4; have z5 := X4.a5; have lz := X4.lt; clear cH)
            | (go_at_call 70; refine Calls.mono (cO.out _ (HW.r (HH.b ((by repeat (first | assumption | apply HH.drew | apply HH.drewN | apply HH.alloc)) : HH w _ h o L L' K2 K' H2 O)))) ?_; unfold DidPost; dsimp only; rintro e w5 ⟨rfl, K3, t5⟩; have T5 := HH.actB ((by repeat (first | assumption | apply HH.drew | apply HH.drewN | apply HH.alloc)) : HH w _ h o L L' K2 K' H2 O) t5)
            | fail)
          go_roundw
          case rel => exact ⟨q + 1, _, _, _, _, by omega, by go_num, T5, HA.out⟩
          case measure => simp [intOf]; omega
        · have hn1 : (xn != g) = true := by simpa using hn
          clear hn
          obtain ⟨H2, y, er, e1, hA⟩ := HI.out.skip2 (kindOf kind) ⟨kind, xn, xa, xb, xv, on⟩ (by rw [kind_forget h_forget]; exact hn1)
          rw [e1] at cH
          clear cO e1
          have HA := Lib.hid hA
          clear hA
          go_wp2_with (first
            | (go_at_call 70; refine Calls.mono (cH.out _ (HW.r (HH.a ((by repeat (first | assumption | apply HH.drew | apply HH.drewN | apply HH.alloc)) : HH w _ h o L L' K K' H O)))) ?_; unfold DidPost; dsimp only; rintro e w4 ⟨rfl, K2, t4⟩; have T4 := HH.actA ((by repeat (first | assumption | apply HH.drew | apply HH.drewN | apply HH.alloc)) : HH w _ h o L L' K K' H O) t4; have X4 := ARow.act ((by repeat (first | assumption | apply ARow.drewN)) : ARow _ bx ⟨kind, xn, xa, xb, xv, on⟩) (HW.r (HH.a ((by repeat (first | assumption | apply HH.drew | apply HH.drewN | apply HH.alloc)) : HH w _ h o L L' K K' H O))) t4.up; have z0 := X4.a0; have z1 := X4.a1; have z2 := X4.a2; have z3 := X4.a3; have z4 := X4.a4; have z5 := X4.a5; have lz := X4.lt; clear cH)
            | fail)
          go_roundw
          case rel => exact ⟨q + 1, _, _, _, _, by omega, by go_num, T4, HA.out⟩
          case measure => simp [intOf]; omega
      | false =>
      cases h_drop : (kind.toList == [100, 114, 111, 112]) with
      | true =>
        have q_load : (kind.toList == [108, 111, 97, 100]) = false := by rw [list_of h_drop]; rfl
        have q_store : (kind.toList == [115, 116, 111, 114, 101]) = false := by rw [list_of h_drop]; rfl
        have q_root : (kind.toList == [114, 111, 111, 116]) = false := by rw [list_of h_drop]; rfl
        have q_forget : (kind.toList == [102, 111, 114, 103, 101, 116]) = false := by rw [list_of h_drop]; rfl
        have q_scan : (kind.toList == [115, 99, 97, 110]) = false := by rw [list_of h_drop]; rfl
        have q_scanall : (kind.toList == [115, 99, 97, 110, 97, 108, 108]) = false := by rw [list_of h_drop]; rfl
        by_cases hn : xn = g
        · have hn1 : (xn != g) = false := by simpa using hn
          clear hn
          obtain ⟨H2, O2, y, er, e1, e2, hA2⟩ := HI.out.act2 (kindOf kind) ⟨kind, xn, xa, xb, xv, on⟩ (by rw [kind_drop h_drop]; exact hn1)
          rw [e1] at cH
          rw [e2] at cO
          clear e1 e2
          have HA := Lib.hid hA2
          clear hA2
          go_wp2_with (first
            | (go_at_call 70; refine Calls.mono (cH.out _ (HW.r (HH.a ((by repeat (first | assumption | apply HH.drew | apply HH.drewN | apply HH.alloc)) : HH w _ h o L L' K K' H O)))) ?_; unfold DidPost; dsimp only; rintro e w4 ⟨rfl, K2, t4⟩; have T4 := HH.actA ((by repeat (first | assumption | apply HH.drew | apply HH.drewN | apply HH.alloc)) : HH w _ h o L L' K K' H O) t4; have X4 := ARow.act ((by repeat (first | assumption | apply ARow.drewN)) : ARow _ bx ⟨kind, xn, xa, xb, xv, on⟩) (HW.r (HH.a ((by repeat (first | assumption | apply HH.drew | apply HH.drewN | apply HH.alloc)) : HH w _ h o L L' K K' H O))) t4.up; have z0 := X4.a0; have z1 := X4.a1; have z2 := X4.a2; have z3 := X4.a3; have z4 := X4.a4; have z5 := X4.a5; have lz := X4.lt; clear cH)
            | (go_at_call 70; refine Calls.mono (cO.out _ (HW.r (HH.b ((by repeat (first | assumption | apply HH.drew | apply HH.drewN | apply HH.alloc)) : HH w _ h o L L' K2 K' H2 O)))) ?_; unfold DidPost; dsimp only; rintro e w5 ⟨rfl, K3, t5⟩; have T5 := HH.actB ((by repeat (first | assumption | apply HH.drew | apply HH.drewN | apply HH.alloc)) : HH w _ h o L L' K2 K' H2 O) t5)
            | fail)
          go_roundw
          case rel => exact ⟨q + 1, _, _, _, _, by omega, by go_num, T5, HA.out⟩
          case measure => simp [intOf]; omega
        · have hn1 : (xn != g) = true := by simpa using hn
          clear hn
          obtain ⟨H2, y, er, e1, hA⟩ := HI.out.skip2 (kindOf kind) ⟨kind, xn, xa, xb, xv, on⟩ (by rw [kind_drop h_drop]; exact hn1)
          rw [e1] at cH
          clear cO e1
          have HA := Lib.hid hA
          clear hA
          go_wp2_with (first
            | (go_at_call 70; refine Calls.mono (cH.out _ (HW.r (HH.a ((by repeat (first | assumption | apply HH.drew | apply HH.drewN | apply HH.alloc)) : HH w _ h o L L' K K' H O)))) ?_; unfold DidPost; dsimp only; rintro e w4 ⟨rfl, K2, t4⟩; have T4 := HH.actA ((by repeat (first | assumption | apply HH.drew | apply HH.drewN | apply HH.alloc)) : HH w _ h o L L' K K' H O) t4; have X4 := ARow.act ((by repeat (first | assumption | apply ARow.drewN)) : ARow _ bx ⟨kind, xn, xa, xb, xv, on⟩) (HW.r (HH.a ((by repeat (first | assumption | apply HH.drew | apply HH.drewN | apply HH.alloc)) : HH w _ h o L L' K K' H O))) t4.up; have z0 := X4.a0; have z1 := X4.a1; have z2 := X4.a2; have z3 := X4.a3; have z4 := X4.a4; have z5 := X4.a5; have lz := X4.lt; clear cH)
            | fail)
          go_roundw
          case rel => exact ⟨q + 1, _, _, _, _, by omega, by go_num, T4, HA.out⟩
          case measure => simp [intOf]; omega
      | false =>
      cases h_scan : (kind.toList == [115, 99, 97, 110]) with
      | true =>
        have q_load : (kind.toList == [108, 111, 97, 100]) = false := by rw [list_of h_scan]; rfl
        have q_store : (kind.toList == [115, 116, 111, 114, 101]) = false := by rw [list_of h_scan]; rfl
        have q_root : (kind.toList == [114, 111, 111, 116]) = false := by rw [list_of h_scan]; rfl
        have q_forget : (kind.toList == [102, 111, 114, 103, 101, 116]) = false := by rw [list_of h_scan]; rfl
        have q_drop : (kind.toList == [100, 114, 111, 112]) = false := by rw [list_of h_scan]; rfl
        have q_scanall : (kind.toList == [115, 99, 97, 110, 97, 108, 108]) = false := by rw [list_of h_scan]; rfl
        obtain ⟨H2, y, er, e1, hA⟩ := HI.out.skip2 (kindOf kind) ⟨kind, xn, xa, xb, xv, on⟩ (by rw [kind_scan h_scan]; rfl)
        rw [e1] at cH
        clear cO e1
        have HA := Lib.hid hA
        clear hA
        go_wp2_with (first
          | (go_at_call 70; refine Calls.mono (cH.out _ (HW.r (HH.a ((by repeat (first | assumption | apply HH.drew | apply HH.drewN | apply HH.alloc)) : HH w _ h o L L' K K' H O)))) ?_; unfold DidPost; dsimp only; rintro e w4 ⟨rfl, K2, t4⟩; have T4 := HH.actA ((by repeat (first | assumption | apply HH.drew | apply HH.drewN | apply HH.alloc)) : HH w _ h o L L' K K' H O) t4; have X4 := ARow.act ((by repeat (first | assumption | apply ARow.drewN)) : ARow _ bx ⟨kind, xn, xa, xb, xv, on⟩) (HW.r (HH.a ((by repeat (first | assumption | apply HH.drew | apply HH.drewN | apply HH.alloc)) : HH w _ h o L L' K K' H O))) t4.up; have z0 := X4.a0; have z1 := X4.a1; have z2 := X4.a2; have z3 := X4.a3; have z4 := X4.a4; have z5 := X4.a5; have lz := X4.lt; clear cH)
          | fail)
        go_roundw
        case rel => exact ⟨q + 1, _, _, _, _, by omega, by go_num, T4, HA.out⟩
        case measure => simp [intOf]; omega
      | false =>
      cases h_scanall : (kind.toList == [115, 99, 97, 110, 97, 108, 108]) with
      | true =>
        have q_load : (kind.toList == [108, 111, 97, 100]) = false := by rw [list_of h_scanall]; rfl
        have q_store : (kind.toList == [115, 116, 111, 114, 101]) = false := by rw [list_of h_scanall]; rfl
        have q_root : (kind.toList == [114, 111, 111, 116]) = false := by rw [list_of h_scanall]; rfl
        have q_forget : (kind.toList == [102, 111, 114, 103, 101, 116]) = false := by rw [list_of h_scanall]; rfl
        have q_drop : (kind.toList == [100, 114, 111, 112]) = false := by rw [list_of h_scanall]; rfl
        have q_scan : (kind.toList == [115, 99, 97, 110]) = false := by rw [list_of h_scanall]; rfl
        obtain ⟨H2, y, er, e1, hA⟩ := HI.out.skip2 (kindOf kind) ⟨kind, xn, xa, xb, xv, on⟩ (by rw [kind_scanall h_scanall]; rfl)
        rw [e1] at cH
        clear cO e1
        have HA := Lib.hid hA
        clear hA
        go_wp2_with (first
          | (go_at_call 70; refine Calls.mono (cH.out _ (HW.r (HH.a ((by repeat (first | assumption | apply HH.drew | apply HH.drewN | apply HH.alloc)) : HH w _ h o L L' K K' H O)))) ?_; unfold DidPost; dsimp only; rintro e w4 ⟨rfl, K2, t4⟩; have T4 := HH.actA ((by repeat (first | assumption | apply HH.drew | apply HH.drewN | apply HH.alloc)) : HH w _ h o L L' K K' H O) t4; have X4 := ARow.act ((by repeat (first | assumption | apply ARow.drewN)) : ARow _ bx ⟨kind, xn, xa, xb, xv, on⟩) (HW.r (HH.a ((by repeat (first | assumption | apply HH.drew | apply HH.drewN | apply HH.alloc)) : HH w _ h o L L' K K' H O))) t4.up; have z0 := X4.a0; have z1 := X4.a1; have z2 := X4.a2; have z3 := X4.a3; have z4 := X4.a4; have z5 := X4.a5; have lz := X4.lt; clear cH)
          | fail)
        go_roundw
        case rel => exact ⟨q + 1, _, _, _, _, by omega, by go_num, T4, HA.out⟩
        case measure => simp [intOf]; omega
      | false =>
      obtain ⟨H2, O2, y, er, e1, e2, hA2⟩ := HI.out.act2 (kindOf kind) ⟨kind, xn, xa, xb, xv, on⟩ (skips_none h_load h_store h_root h_forget h_drop h_scan h_scanall)
      rw [e1] at cH
      rw [e2] at cO
      clear e1 e2
      have HA := Lib.hid hA2
      clear hA2
      go_wp2_with (first
        | (go_at_call 70; refine Calls.mono (cH.out _ (HW.r (HH.a ((by repeat (first | assumption | apply HH.drew | apply HH.drewN | apply HH.alloc)) : HH w _ h o L L' K K' H O)))) ?_; unfold DidPost; dsimp only; rintro e w4 ⟨rfl, K2, t4⟩; have T4 := HH.actA ((by repeat (first | assumption | apply HH.drew | apply HH.drewN | apply HH.alloc)) : HH w _ h o L L' K K' H O) t4; have X4 := ARow.act ((by repeat (first | assumption | apply ARow.drewN)) : ARow _ bx ⟨kind, xn, xa, xb, xv, on⟩) (HW.r (HH.a ((by repeat (first | assumption | apply HH.drew | apply HH.drewN | apply HH.alloc)) : HH w _ h o L L' K K' H O))) t4.up; have z0 := X4.a0; have z1 := X4.a1; have z2 := X4.a2; have z3 := X4.a3; have z4 := X4.a4; have z5 := X4.a5; have lz := X4.lt; clear cH)
        | (go_at_call 70; refine Calls.mono (cO.out _ (HW.r (HH.b ((by repeat (first | assumption | apply HH.drew | apply HH.drewN | apply HH.alloc)) : HH w _ h o L L' K2 K' H2 O)))) ?_; unfold DidPost; dsimp only; rintro e w5 ⟨rfl, K3, t5⟩; have T5 := HH.actB ((by repeat (first | assumption | apply HH.drew | apply HH.drewN | apply HH.alloc)) : HH w _ h o L L' K2 K' H2 O) t5)
        | fail)
      go_roundw
      case rel => exact ⟨q + 1, _, _, _, _, by omega, by go_num, T5, HA.out⟩
      case measure => simp [intOf]; omega
    · go_wp2
      go_ret
      exact ⟨rfl, hT.out.a.up⟩

set_option maxRecDepth 100000 in
set_option maxHeartbeats 400000 in
theorem topApart_law (w : World) (n g : Int) (A : Option Addr) (cap : Nat) (l : List ActM) (hl : ActsAt w A l) :
    Calls Try.prog 11 #[.int .i64 n, .int .i64 g, .slice A l.length cap] w fun e w' => e = .returned (.bool true) ∧ Upd Non w w' := by
  have hz : Hid (errv 1 = .iface 130 (.int .i64 1)) := rfl
  by_cases h1 : n < 1
  · go_enter Try.func11, Try.ntmps11
    go_wp2_with (first
      | (go_at_call 69; refine (hnew_bad _ n (.inl h1)).mono ?_; rw [hz.out]; rintro e w1 ⟨rfl, rfl⟩))
    go_ret
    exact ⟨rfl, Upd.refl _ _⟩
  · by_cases h2 : 64 < n
    · go_enter Try.func11, Try.ntmps11
      go_wp2_with (first
        | (go_at_call 69; refine (hnew_bad _ n (.inr h2)).mono ?_; rw [hz.out]; rintro e w1 ⟨rfl, rfl⟩))
      go_ret
      exact ⟨rfl, Upd.refl _ _⟩
    · obtain ⟨k, rfl⟩ := Int.eq_ofNat_of_zero_le (by omega : 0 ≤ n)
      by_cases h100 : (l.length : Int) ≤ 100
      · exact topApart_go w k (by omega) (by omega) g A cap l hl h100
      · have K0 : Nat → GAt := fun _ => ⟨0, 0, 0, undef⟩
        have hd := Lib.hid (show decide ((l.length : Int) ≤ 100) = false from decide_eq_false (by omega))
        go_enter Try.func11, Try.ntmps11
        go_wp2_with (first
          | (go_at_call 69; refine (hnew_ok w k (by omega) (by omega) K0).mono ?_; rintro e w1 ⟨h, L, rfl, r1, n1, u1⟩)
          | (go_at_call 69; refine (hnew_ok w1 k (by omega) (by omega) K0).mono ?_; rintro e w2 ⟨o, L', rfl, r2, n2, u2⟩)
          | (go_at_call 13; refine (light_law _ _ _ _ _).mono ?_; rw [hd.out]; rintro e w3 ⟨rfl, rfl⟩))
        go_ret
        exact ⟨rfl, u1.trans u2⟩

end U
end Go.Proofs.Ytnhplapcdgnaaaa
