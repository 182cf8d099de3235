import Derived.Test.YtnhplapcdgnaaabHostCp
import Derived.Test.YtnhplapcdgnaaabHostQm
import Derived.Test.YtnhplapcdgnaaabHostG
import Derived.Test.YtnhplapcdgnaaabNumU
import Derived.Lib.SlBytesRow
import Derived.BigQuiet
import Derived.Deep.RegionHeld3
set_option linter.unusedVariables false
set_option linter.unusedSimpArgs false
namespace Go.Proofs.Ytnhplapcdgnaaab
open Go.RowKit
namespace U

/-! A page's bytes, told by a copy of the host (the law TopMerge's 'alike'). -/
theorem vload_flat {V : ViewM} (hr : V.root < 0) {k i : Nat} (hk : k < 16) (hi : i < 16) (hs : V.state k = 1) : vload V ((16 * k + i : Nat) : Int) = (V, V.b k i, 0) := by
  have e1 : ((16 * k + i : Nat) : Int) / 16 = (k : Int) := by omega
  have e2 : (((16 * k + i : Nat) : Int) % 16).toNat = i := by omega
  have hv : vat V ((16 * k + i : Nat) : Int) false = (V, (k : Int), 0) := by
    unfold vat
    rw [if_neg (by omega), if_pos hr, e1]
    unfold vpage
    rw [Int.toNat_natCast, hs]
    rfl
  unfold vload
  rw [hv, if_neg (by simp), e2, Int.toNat_natCast]
def rowB16 (R : Nat → UInt8) (n : Nat) : List UInt8 := (List.range n).map R
theorem rowB16_succ (R : Nat → UInt8) (n : Nat) : rowB16 R (n + 1) = rowB16 R n ++ [R n] := by
  unfold rowB16
  rw [List.range_succ, List.map_append]
  rfl
theorem rowB16_length (R : Nat → UInt8) (n : Nat) : (rowB16 R n).length = n := by unfold rowB16; simp
/-- A page's bytes as a string. -/
def rowStr (R : Nat → UInt8) : ByteArray := ⟨(rowB16 R 16).toArray⟩
theorem URow.str {w : World} {A : Option Addr} {cap : Nat} {R : Nat → UInt8} (h : URow w (.slice A 16 cap) (rowB16 R 16)) : ∃ g o, A = some ⟨g, o, none⟩ ∧ Lib.Bytes w g o (rowStr R) := by
  obtain ⟨g, o, cap', hv, hg, _⟩ := h.at_ (i := 0) (by rw [rowB16_length]; omega)
  obtain ⟨rfl, _⟩ : A = some ⟨g, o, none⟩ ∧ _ := by simpa using hv
  refine ⟨g, o, rfl, fun i hi => ?_⟩
  have h0 : (rowStr R).size = (rowB16 R 16).length := rfl
  have hi2 : i < (rowB16 R 16).length := by rw [← h0]; exact hi
  obtain ⟨g', o', cap'', hv', _, hc⟩ := h.at_ hi2
  obtain ⟨⟨rfl, rfl⟩, _⟩ : (g = g' ∧ o = o') ∧ _ := by simpa using hv'
  rw [hc]
  rfl
def sset (S : Nat → ByteArray) (f : Nat) (s : ByteArray) : Nat → ByteArray := fun i => if i = f then s else S i
def strs (S : Nat → ByteArray) : Nat → Value := fun i => .string (S i)
theorem URow.row {w : World} {v : Value} {l : List UInt8} (h : URow w v l) {g : Nat} (hg : v.ownBlock = some g) : ∃ N c, Row w g 5 N c := by
  rcases h with ⟨rfl, _⟩ | ⟨g', o, cap, C, rfl, h1, h2, h3, h4, h5⟩
  · cases hg
  · have e : g' = g := by simpa [Value.ownBlock] using hg
    subst e
    exact ⟨C.size, fun i => C.getD i undef, C, h3, rfl, fun i hi => by simp [hi]⟩
theorem URow.off {W : World} {b : Nat} {L : PoolAt} {K : Nat → GAt} {H : HostM} {v : Value} {l : List UInt8} (h : URow W v l) (r : HRep W b L K H) : ∀ g, v.ownBlock = some g → ¬ ownH b L K H g := fun g hg => by
  obtain ⟨N, c, q⟩ := h.row hg
  exact r.off q (by decide) (by decide) (by decide) (by decide) (by decide) (by decide) (by decide) (by decide)
theorem CP.far {w W W' : World} {b : Nat} {L : PoolAt} {K : Nat → GAt} {H : HostM} {S : Nat → Prop} (t : CP w W b L K H) (u : Upd S W W') (hS : ∀ k, ownH b L K H k → ¬ S k) (hw : ∀ k, S k → w.heap.size ≤ k) : CP w W' b L K H := ⟨t.hr.upd_ u hS, t.n, t.up.over u hw⟩
structure AL (w W : World) (b : Nat) (L : PoolAt) (H : HostM) (n : Nat) (V : ViewM) (v : Value) (l : List UInt8) : Prop where
  t : ∃ K, CP w W b L K H
  f : HFine H
  s : HSees H n V
  u : URow W v l
  fr : Fresh w v
section
variable {w W : World} {h : Nat} {L : PoolAt} {K : Nat → GAt} {H : HostM}
theorem strs_set {w : World} {g N : Nat} {S : Nat → ByteArray} (h : Row w g 36 N (strs S)) {i : Nat} (v : ByteArray) : Row (w.setCell ⟨g, i, none⟩ (.string v)) g 36 N (strs (sset S i v)) :=
  (h.set_ _).congr fun j _ => by unfold upd strs sset; split <;> rfl
set_option maxRecDepth 100000 in
set_option maxHeartbeats 4000000 in
theorem alike_any (r : HRep w h L K H) (hF : HFine H) {n k : Nat} (hn : n < 4) {G : GuestM} (hg : H.g n = some G) (hk : k < 16) (hst : G.m.state k = 1) {fr : Int} (f0 : 0 ≤ fr) (f1 : fr ≤ 63) {ab : Nat} {S : Nat → ByteArray} (q : Row w ab 36 64 (strs S)) :
    Calls Try.prog 12 #[.pointer (some ⟨h, 0, none⟩), .int .i64 n, .int .i64 k, .int .i64 fr, .pointer (some ⟨ab, 0, none⟩)] w fun e w' =>
      e = .returned (.bool ((if (S fr.toNat).toList.isEmpty then rowStr (mpage H.p G.m k) else S fr.toNat).toList == (rowStr (mpage H.p G.m k)).toList)) ∧ Row w' ab 36 64 (strs (sset S fr.toNat (if (S fr.toNat).toList.isEmpty then rowStr (mpage H.p G.m k) else S fr.toNat))) ∧ Upd (at1 ab) w w' := by
  have v0 := hview G hg
  have sr := v0.root hn (-1)
  have hr1 : vroot ⟨G.m.state, mpage H.p G.m, G.root, G.c⟩ (-1) = (⟨G.m.state, mpage H.p G.m, -1, G.c⟩, 0) := by unfold vroot; rw [if_neg (by omega)]
  rw [hr1] at sr
  obtain ⟨sr1, sr2⟩ := sr
  dsimp only at sr1 sr2
  have hfr := hF.root n (-1)
  obtain ⟨V, hV⟩ : ∃ V : ViewM, V = ⟨G.m.state, mpage H.p G.m, -1, G.c⟩ := ⟨_, rfl⟩
  rw [← hV] at sr2
  have hroot1 : hroot H n (-1) = ((hroot H n (-1)).1, 0) := Prod.ext rfl sr1
  generalize (hroot H n (-1)).1 = H1 at hroot1 sr2 hfr
  have vr : V.root < 0 := by rw [hV]; show (-1 : Int) < 0; omega
  have vs : V.state k = 1 := by rw [hV]; exact hst
  have vb : V.b k = mpage H.p G.m k := by rw [hV]
  have HR1 := Lib.hid hroot1
  have HI := Lib.hid hF.inv
  generalize mpage H.p G.m k = R at vb ⊢
  clear v0 hr1 sr1 hV hroot1 hF
  have rr := Lib.hid r
  have qq := Lib.hid q
  have S0 := Lib.hid (And.intro hfr sr2)
  clear hfr sr2 r q
  go_enter Try.func12, Try.ntmps12
  go_wp2_with (first
    | (go_at_call 30; refine (hcopy_any rr.out HI.out).mono ?_; rintro e w2 ⟨c, L', K', rfl, t2⟩)
    | (go_at_call 23; refine (hroot_any t2.hr HI.out n (-1)).mono ?_; rw [HR1.out]; unfold HPost errv; rintro e w3 ⟨rfl, K3, t3⟩; have t4 : CP w w3 c L' K3 H1 := ⟨t3.rep, fun k hk => (t3.own k hk).elim (t2.n k) (fun e => Nat.le_trans t2.up.size e), t2.up.over t3.up t2.n⟩)
    | fail)
  have T0 := Lib.hid t4
  clear t2 t3 t4
  go_loopw [12, 13] (fun v i wi => ∃ (j : Nat) (v' : Value), j ≤ 16 ∧ i = .int .i64 j ∧ v = v' ∧ Hid (∃ Hc, AL w wi c L' Hc n V v' (rowB16 R j))) (fun _ i _ => 16 - (intOf i).toNat)
  case atStart => exact ⟨0, _, Nat.zero_le _, rfl, rfl, H1, ⟨K3, T0.out⟩, S0.out.1, S0.out.2, URow.nil, fun g hg => by cases hg⟩
  case round =>
    clear T0
    obtain ⟨j, v', hj, rfl, rfl, hJ⟩ := hrel
    obtain ⟨Hc, aj⟩ := hJ.out
    obtain ⟨Kc, tc⟩ := aj.t
    by_cases hjl : j < 16
    · have hj2 : (j : Int) < 16 := by omega
      have hl1 := aj.s.load aj.f hn ((16 * k + j : Nat) : Int)
      rw [vload_flat vr hk hjl vs, vb] at hl1
      obtain ⟨hl2, hl3⟩ := hl1
      have hl4 := aj.f.load n ((16 * k + j : Nat) : Int)
      have hl5 : hload Hc n ((16 * k + j : Nat) : Int) = ((hload Hc n ((16 * k + j : Nat) : Int)).1, R j, 0) := Prod.ext rfl hl2
      generalize (hload Hc n ((16 * k + j : Nat) : Int)).1 = H2 at hl3 hl4 hl5
      rw [show ((16 * k + j : Nat) : Int) = 16 * (k : Int) + (j : Int) by omega] at hl5
      have HL := Lib.hid hl5
      have hs := Lib.hid (rowB16_succ R j)
      have hlen : Hid ((rowB16 R j).length ≤ 100000) := by show _ ≤ _; rw [rowB16_length]; omega
      have A := Lib.hid aj
      have TC := Lib.hid tc
      clear hl2 hl5 aj tc hJ
      go_wp2_with (first
        | (go_at_call 21; refine (hload_any TC.out.hr A.out.f.inv n (16 * (k : Int) + j)).mono ?_; rw [HL.out]; unfold HLoadPost errv; rintro e w5 ⟨rfl, K5, t5⟩; have t6 : CP w w5 c L' K5 H2 := ⟨t5.rep, fun k hk => (t5.own k hk).elim (TC.out.n k) (fun e => Nat.le_trans TC.out.up.size e), TC.out.up.over t5.up TC.out.n⟩; have hU5 := A.out.u.upd_ t5.up (fun g hg hk => A.out.u.off TC.out.hr g hg hk))
        | (at_builtin; refine wpl_append_u rfl _ _ rfl _ _ rfl rfl _ (R j) (hU5.alloc _) hlen.out (ubox _ _) ?_; intro v2 w6 hv2 u6 hb2)
        | fail)
      have t7 := CP.far (t6.non ((Upd.refl Non w5).alloc (.cells #[.int .u8 (R j).toNat] 5))) u6 (fun k h1 h2 => (hU5.alloc _).off (t6.non ((Upd.refl Non w5).alloc (.cells #[.int .u8 (R j).toNat] 5))).hr k h2 h1) A.out.fr
      have f7 := fresh_ofU (t6.up.alloc (.cells #[.int .u8 (R j).toNat] 5)) A.out.fr hb2
      go_roundw
      case rel => exact ⟨j + 1, _, by omega, by go_num, rfl, H2, ⟨K5, t7⟩, hl4, hl3, by rw [hs.out]; exact hv2, f7⟩
      case measure => simp [intOf]; omega
    · obtain rfl : j = 16 := by omega
      obtain ⟨Av, capv, rfl⟩ := aj.u.form
      have hl16 := rowB16_length R 16
      have hU := aj.u
      rw [hl16] at hU ⊢
      obtain ⟨gv, ov, rfl, hby⟩ := hU.str
      have q2 := qq.out.upd_ tc.up (fun h => h)
      have cs := q2.cell (i := fr.toNat) (by omega)
      unfold strs at cs
      have fs := q2.frozen fr.toNat
      have ls := q2.lt
      have hne : gv ≠ ab := fun e => by
        obtain ⟨N, c2, q3⟩ := hU.row (g := gv) rfl
        exact q3.ne_ q2 (by decide) e
      have hcv := fun W (hb : Lib.Bytes W gv ov (rowStr R)) => Lib.run_convert_whole (P := Try.prog) W 67 5 9 Try.underlying67 Try.underlying5 Try.underlying9 gv ov (rowStr R) hb capv
      have hsz : (rowStr R).size = 16 := hl16
      rw [hsz] at hcv
      have U := tc.up
      have hf64 : fr < 64 := by omega
      cases hS : (S fr.toNat).toList.isEmpty with
      | true =>
        have hb1 : Lib.Bytes wr.drew gv ov (rowStr R) := hby.drewN 1
        have k1 := hcv _ hb1
        have u13 : Upd (at1 ab) wr (wr.setCell ⟨ab, fr.toNat, none⟩ (.string (rowStr R))) := (Upd.refl _ _).setCell (p := ⟨ab, fr.toNat, none⟩) (fun _ => at1_self) _
        have hb2 : Lib.Bytes (wr.setCell ⟨ab, fr.toNat, none⟩ (.string (rowStr R))) gv ov (rowStr R) := fun i hi => u13.cell (hby i hi) (fun e => hne e)
        have k2 : (Go.convert 67 9 (.slice (some ⟨gv, ov, none⟩) 16 capv)).run Try.prog (wr.setCell ⟨ab, fr.toNat, none⟩ (.string (rowStr R))).drew.drew = .ok (.string (rowStr R)) (wr.setCell ⟨ab, fr.toNat, none⟩ (.string (rowStr R))).drew.drew := hcv _ (hb2.drewN 2)
        have q3 := Lib.hid (strs_set q2 (i := fr.toNat) (rowStr R))
        have U3 := Lib.hid ((U.mono (T := at1 ab) (fun _ _ h => h.elim)).setCell (p := ⟨ab, fr.toNat, none⟩) (fun _ => at1_self) (.string (rowStr R)))
        have HS := Lib.hid hS
        clear hcv hby hb1 hb2 u13 hJ aj tc
        go_upto_region 13 with fail
        go_region
        all_goals go_upto_region 14 with fail
        all_goals go_region
        all_goals go_wp2_with fail
        all_goals go_ret
        all_goals exact ⟨by simp, (show Row _ _ _ _ (strs (sset S fr.toNat (rowStr R))) from q3.out.drewN 2), U3.out.drewN 2⟩
      | false =>
        have k1 : (Go.convert 67 9 (.slice (some ⟨gv, ov, none⟩) 16 capv)).run Try.prog wr.drew = .ok (.string (rowStr R)) wr.drew := hcv _ (hby.drewN 1)
        have q3 := Lib.hid (show Row wr.drew ab 36 64 (strs (sset S fr.toNat (S fr.toNat))) from (q2.drewN 1).congr fun i _ => by unfold strs sset; split <;> first | rfl | (rename_i e; rw [e]))
        have U3 := Lib.hid ((U.mono (T := at1 ab) (fun _ _ h => h.elim)).drewN 1)
        clear hcv hby hJ aj tc
        go_upto_region 14 with fail
        go_region
        all_goals go_wp2_with fail
        all_goals go_ret
        all_goals exact ⟨by simp, (show Row _ _ _ _ (strs (sset S fr.toNat (S fr.toNat))) from q3.out), U3.out⟩
end

end U
end Go.Proofs.Ytnhplapcdgnaaab
