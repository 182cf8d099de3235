import Derived.Test.YtnhplapcdgnaaaaGreatDoorConXX
set_option linter.unusedVariables false
set_option linter.unusedSimpArgs false
namespace Go.Proofs.YtnhplapcdgnaaaaGreatDoor
open Go.RowKit
namespace U

/-! The law ConsoleSays. -/
/-- What the loop over the reference's host holds behind j lines. -/
structure SayI (w w1 wr : World) (o m : Nat) (R : Nat → Nat × Value) (v : Value) (X : HostM × List ByteArray) : Prop where
  r : RHRep wr o m R X.1
  up : Upd Non w wr
  n : ∀ k, ownRH o m R X.1 k → w1.heap.size ≤ k
  sr : SRow wr v X.2
  fr : Fresh w1 v
  old : ∀ k, ownRH o m R X.1 k → v.ownBlock ≠ some k
  up1 : Upd Non w1 wr
  le : w.heap.size ≤ w1.heap.size
theorem SayI.step {w w1 wr w3 w5 : World} {o m : Nat} {R R3 : Nat → Nat × Value} {v v2 : Value} {H H3 : HostM} {out : List ByteArray} {s : ByteArray} {bx : Obj} (t : SayI w w1 wr o m R v (H, out)) (s3 : RH (ownRH o m R H) wr w3 o m R3 H3)
    (u5 : Upd (fun k => v.ownBlock = some k) (w3.alloc bx) w5) (hv2 : SRow w5 v2 (out ++ [s])) (hb : v2.ownBlock = v.ownBlock ∨ v2.ownBlock = some (w3.alloc bx).heap.size) : SayI w w1 w5 o m R3 v2 (H3, out ++ [s]) := by
  have old3 : ∀ k, ownRH o m R3 H3 k → v.ownBlock ≠ some k := fun k hk e => (s3.own k hk).elim (fun h => t.old k h e) (fun h => by have := t.sr.lt e; omega)
  have z1 := t.up1.size
  have z0 := t.le
  have z3 := s3.up.size
  have z5 := u5.size
  have za : (w3.alloc bx).heap.size = w3.heap.size + 1 := by simp
  have n3 : ∀ k, ownRH o m R3 H3 k → w1.heap.size ≤ k := fun k hk => (s3.own k hk).elim (t.n k) (fun h => by omega)
  refine ⟨(s3.rep.non ((Upd.refl _ _).alloc bx)).upd_ u5 (fun k h1 h2 => old3 k h1 h2), ?_, n3, hv2, ?_, ?_, ?_, z0⟩
  · exact ((t.up.over s3.up (fun k hk => Nat.le_trans z0 (t.n k hk))).alloc bx).over u5 (fun k hk => Nat.le_trans z0 (t.fr k hk))
  · intro g hg
    rcases hb with hb | hb
    · exact t.fr g (hb ▸ hg)
    · rw [hb] at hg
      have hg : (w3.alloc bx).heap.size = g := by simpa using hg
      omega
  · intro k hk e
    rcases hb with hb | hb
    · exact old3 k hk (hb ▸ e)
    · rw [hb] at e
      have e : (w3.alloc bx).heap.size = k := by simpa using e
      have := s3.rep.lts k hk
      omega
  · exact ((t.up1.over s3.up t.n).alloc bx).over u5 (fun k hk => t.fr k hk)
set_option maxRecDepth 100000 in
set_option maxHeartbeats 16000000 in
theorem console_ok (w : World) (lw : LW w) (k : Nat) (h1 : 1 ≤ k) (h2 : k ≤ 64) (A : Option Addr) (cap : Nat) (l : List ByteArray) (hl : TAt w A l) (h120 : l.length ≤ 120) :
    Calls Tryz.prog 3 #[.int .i64 k, .slice A l.length cap] w fun e w' => e = .returned (.bool true) ∧ Upd Non w w' := by
  have R0 : Nat → Nat × Value := fun _ => (0, undef)
  have h13 : ¬ (130 : Int) < l.length := by omega
  have h14 : ¬ (120 : Int) < l.length := by omega
  have k1 : ¬ (k : Int) < 1 := by omega
  have k2 : ¬ (64 : Int) < k := by omega
  have hz : Hid (errv 0 = .nilIface) := rfl
  have hsm := Lib.hid (fun W => same_law W 0 0)
  rw [hz.out] at hsm
  go_enter Tryz.func3, Tryz.ntmps3
  go_wp2_with (first
    | (go_at_call 4; refine (hello_law _ lw).mono ?_; rintro e ws ⟨rfl, u1⟩)
    | fail)
  go_loopw [6] (fun i wr => ∃ j : Nat, j ≤ l.length ∧ i = .int .i64 j ∧ Hid (Upd Non w wr) ∧ Hid (∀ s ∈ l.take j, s.size ≤ 300)) (fun i _ => l.length - (intOf i).toNat)
  case atStart => exact ⟨0, Nat.zero_le _, rfl, u1, fun s hs => by cases hs⟩
  case round =>
    obtain ⟨j, hj, rfl, hU, hall⟩ := hrel
    by_cases hlt : j < l.length
    · have hlt2 : (j : Int) < l.length := by omega
      obtain ⟨g, o, rfl, hg, hE⟩ := (hl.upd_ hU.out (fun _ _ => (fun h => h))).at_ hlt
      have hts := Lib.hid (show l.take (j + 1) = l.take j ++ [l[j]] from List.take_succ_eq_append_getElem hlt)
      generalize l[j] = s at hE hts
      by_cases h3 : s.size ≤ 300
      · have h32 : ¬ (300 : Int) < s.size := by omega
        go_wp2_with fail
        go_roundw
        case rel => exact ⟨j + 1, by omega, by go_num, hU.out, fun y hy => by
          rw [hts.out, List.mem_append] at hy
          rcases hy with hy | hy
          · exact hall.out y hy
          · rw [List.mem_singleton] at hy; rw [hy]; exact h3⟩
        case measure => simp [intOf]; omega
      · have h32 : (300 : Int) < s.size := by omega
        go_wp2_with fail
        go_ret
        exact ⟨rfl, hU.out⟩
    · obtain rfl : j = l.length := by omega
      have hT := Lib.hid (hl.upd_ hU.out (fun _ _ => (fun h => h)))
      have hs3 := hall.out
      rw [List.take_length] at hs3
      have hs3 := Lib.hid hs3
      have lwr := Lib.hid (lw.upd hU.out)
      have hl0 := Lib.hid hl
      clear hl hall
      go_wp2_with (first
        | (at_builtin; refine wpl_append_alls rfl _ rfl rfl hT.out (by omega) ?_; intro v2 w2 hv2 u2 hf2)
        | (at_builtin; refine wpl_append_s rfl _ _ rfl _ _ rfl rfl l { data := #[109, 97, 114, 107] } (hv2.alloc _) (by omega) (sbox _ _) ?_; intro v3 w3 hv3 u3 hb3'; obtain ⟨g3, o3, cap3, rfl, hc3, ht3⟩ := hv3.front; have hc4 : ¬ cap3 = 0 := (by omega); have hc5 : l.length ≤ cap3 := (by omega); have U3 := Lib.hid (((hU.out.trans u2).alloc (.cells #[.string { data := #[109, 97, 114, 107] }] 9)).over u3 (fun k hk => Nat.le_trans hU.out.size (hf2 k hk))))
        | (go_at_call 5; refine Calls.mono (run_ok _ (lw.upd U3.out) k h1 h2 _ cap3 l ht3 h120 hs3.out) ?_; rintro e w4 ⟨v4, rfl, hv4, u4⟩; obtain ⟨A4, c4, rfl, ht4⟩ := hv4.toT)
        | (go_at_call 7; refine (rnewHost_any _ k (by omega) (by omega) R0).mono ?_; rintro e w5 ⟨o, m, rfl, r5, n5, u5⟩)
        | fail)
      have HT3 := Lib.hid (TAt.upd_ ht3 u4 (fun _ _ => (fun h => h)))
      have HI0 : Hid (SayI w w4 w5 o m R0 (.slice none 0 0) (runN (HostM.fresh k) (l.take 0))) := ⟨r5, U3.out.trans (u4.trans u5), n5, SRow.nil, (fun g hg => by cases hg), (fun k hk e => by cases e), u5, (U3.out.trans u4).size⟩
      have HT4 := Lib.hid ht4
      have hL4 := Lib.hid (runN_len (H := HostM.fresh k) l)
      clear u1 u2 u3 u4 u5 hv2 hv3 hv4 ht3 ht4 r5 n5 hf2 hb3'
      go_loopw [11, 12] (fun x i wr => ∃ (j : Nat) (v : Value) (R : Nat → Nat × Value), j ≤ l.length ∧ i = .int .i64 j ∧ x = v ∧ Hid (SayI w w4 wr o m R v (runN (HostM.fresh k) (l.take j)))) (fun _ i _ => l.length - (intOf i).toNat)
      case atStart => exact ⟨0, _, R0, Nat.zero_le _, rfl, rfl, HI0.out⟩
      case round =>
        clear HI0
        obtain ⟨j, v, R, hj, rfl, rfl, hI⟩ := hrel
        by_cases hlt : j < l.length
        · have hlt2 : (j : Int) < l.length := by omega
          obtain ⟨g, oo, rfl, hg, hE⟩ := (hl0.out.upd_ hI.out.up (fun _ _ => (fun h => h))).at_ hlt
          have hsz : (l[j]).size ≤ 300 := hs3.out _ (List.getElem_mem hlt)
          have hr := Lib.hid (runN_take (HostM.fresh k) l hlt)
          have hln := Lib.hid (runN_len (H := HostM.fresh k) (l.take j))
          have hinv := Lib.hid (runN_inv (H := HostM.fresh k) (HFine.fresh k).inv (l.take j))
          have hll : Hid ((runN (HostM.fresh k) (l.take j)).2.length ≤ 100000) := by show _ ≤ _; rw [hln.out]; have := List.length_take_le j l; omega
          generalize l[j] = s at hE hsz hr
          generalize runN (HostM.fresh k) (l.take j) = X at hI hr hll hln hinv
          obtain ⟨H, out⟩ := X
          have hI2 := Lib.hid hI.out
          clear hI
          go_wp2_with (first
            | (go_at_call 8; refine Calls.mono (rsay_any hI2.out.r hinv.out s hsz) ?_; unfold RDoPost; rintro e w6 ⟨rfl, R6, s6⟩; have hv6 := Lib.hid (hI2.out.sr.upd_ s6.up (fun g hg h => hI2.out.old g h hg)))
            | (at_builtin; refine wpl_append_s rfl _ _ rfl _ _ rfl rfl out (csay H s).2 (hv6.out.alloc _) hll.out (sbox _ _) ?_; intro v2 w8 hv2 u8 hb2)
            | fail)
          go_roundw
          case rel => exact ⟨j + 1, v2, R6, by omega, by go_num, rfl, by rw [hr.out]; exact hI2.out.step s6 u8 hv2 hb2⟩
          case measure => simp [intOf]; omega
        · obtain rfl : j = l.length := by omega
          have hI := hI.out
          rw [List.take_length] at hI
          obtain ⟨A5, c5, rfl, ht5⟩ := hI.sr.toT
          have T4 := Lib.hid (HT4.out.upd_ hI.up1 (fun _ _ => (fun h => h)))
          have T3 := Lib.hid (HT3.out.upd_ hI.up1 (fun _ _ => (fun h => h)))
          have TL := Lib.hid (hl0.out.upd_ hI.up (fun _ _ => (fun h => h)))
          have T5 := Lib.hid ht5
          have UP := Lib.hid hI.up
          clear hI ht5 HT4 HT3
          generalize (runN (HostM.fresh k) l).2 = M at T4 T5 hL4 ⊢
          have C1 := Lib.hid (sameTexts_law _ A4 A5 c4 c5 M T4.out T5.out (by rw [hL4.out]; exact Nat.le_trans h120 (Nat.le_of_ble_eq_true rfl)))
          have C2 := Lib.hid (fun W (u : Upd Non wr W) => sameTexts_law W _ A cap3 cap l (T3.out.upd_ u (fun _ _ => (fun h => h))) (TL.out.upd_ u (fun _ _ => (fun h => h))) (Nat.le_trans h120 (Nat.le_of_ble_eq_true rfl)))
          clear T3 T4 T5 TL
          go_wp2_with (first
            | (go_at_call 6; refine Calls.mono (hsm.out _) ?_; rintro e w9 ⟨rfl, rfl⟩)
            | (go_at_call 9; refine Calls.mono C1.out ?_; rintro e w6 ⟨rfl, u6⟩; clear C1; have C3 := Lib.hid (C2.out _ u6); clear C2)
            | (go_at_call 9; refine Calls.mono C3.out ?_; rintro e w7 ⟨rfl, u7⟩)
            | fail)
          go_ret
          exact ⟨rfl, (UP.out.trans u6).trans u7⟩
set_option maxRecDepth 100000 in
theorem consoleSays_law (w : World) (lw : LW w) (n : Int) (A : Option Addr) (cap : Nat) (l : List ByteArray) (hl : TAt w A l) :
    Calls Tryz.prog 3 #[.int .i64 n, .slice A l.length cap] w fun e w' => e = .returned (.bool true) ∧ Upd Non w w' := by
  by_cases h130 : l.length ≤ 130
  · by_cases h1 : 1 ≤ n ∧ n ≤ 64
    · by_cases h120 : l.length ≤ 120
      · obtain ⟨k, rfl⟩ := Int.eq_ofNat_of_zero_le (show 0 ≤ n by omega)
        exact console_ok w lw k (by omega) (by omega) A cap l hl h120
      · exact console_bad w lw n A cap l hl h130 (.inr ⟨h1.1, h1.2, by omega⟩)
    · exact console_bad w lw n A cap l hl h130 (.inl (by omega))
  · have h13 : (130 : Int) < l.length := by omega
    go_enter Tryz.func3, Tryz.ntmps3
    go_wp2_with (first
      | (go_at_call 4; refine (hello_law _ lw).mono ?_; rintro e ws ⟨rfl, u1⟩)
      | fail)
    go_ret
    exact ⟨rfl, u1⟩

end U
end Go.Proofs.YtnhplapcdgnaaaaGreatDoor
