import Derived.Test.YtnhplapcdgnaaaaGreatDoorConMX
import Derived.Test.YtnhplapcdgnaaaaGreatDoorAsHost
set_option linter.unusedVariables false
set_option linter.unusedSimpArgs false
namespace Go.Proofs.YtnhplapcdgnaaaaGreatDoor
open Go.RowKit
namespace U

/-! What a command answers; errors are small. -/
theorem le_ite {p : Prop} [Decidable p] {a b n : Nat} (h1 : a ≤ n) (h2 : b ≤ n) : (if p then a else b) ≤ n := by split <;> assumption
theorem touch_le (P : PoolM) (M : MapM) (n : Int) (wr : Bool) : (mtouch P M n wr).2.2.2.2 ≤ 9 := by
  unfold mtouch
  split
  · split
    · exact Nat.le_of_ble_eq_true rfl
    · split
      · exact Nat.le_of_ble_eq_true rfl
      · split
        · exact Nat.zero_le _
        · split
          · exact Nat.zero_le _
          · split
            · exact Nat.le_of_ble_eq_true rfl
            · exact Nat.zero_le _
  · exact Nat.le_of_ble_eq_true rfl
theorem gtouch_le (P : PoolM) (G : GuestM) (n : Int) (wr : Bool) : (gtouch P G n wr).2.2.2 ≤ 9 := touch_le _ _ _ _
theorem gwalk_le (P : PoolM) (G : GuestM) (page : Int) : (gwalk P G page).2.2.2.2 ≤ 9 := by
  unfold gwalk
  dsimp only
  split
  · exact gtouch_le _ _ _ _
  · split
    · exact Nat.le_of_ble_eq_true rfl
    · exact Nat.zero_le _
theorem gframe_le (P : PoolM) (G : GuestM) (a : Int) (wr : Bool) : (gframe P G a wr).2.2.2 ≤ 9 := by
  unfold gframe
  dsimp only
  split
  · exact Nat.le_of_ble_eq_true rfl
  · split
    · exact gtouch_le _ _ _ _
    · split
      · split
        · exact Nat.le_of_ble_eq_true rfl
        · exact gtouch_le _ _ _ _
      · split
        · exact gwalk_le _ _ _
        · split
          · exact Nat.le_of_ble_eq_true rfl
          · first
            | exact gtouch_le _ _ _ _
            | (split <;> first | exact gtouch_le _ _ _ _ | exact Nat.zero_le _)
theorem gload_le (P : PoolM) (G : GuestM) (a : Int) : (gload P G a).2.2.2 ≤ 9 := by
  unfold gload
  dsimp only
  split
  · exact gframe_le _ _ _ _
  · exact Nat.zero_le _
theorem pset_le (P : PoolM) (f a : Int) (v : UInt8) : (P.set f a v).2 ≤ 9 := by
  unfold PoolM.set
  split
  · exact Nat.le_of_ble_eq_true rfl
  · split
    · split
      · exact Nat.le_of_ble_eq_true rfl
      · exact Nat.zero_le _
    · exact Nat.le_of_ble_eq_true rfl
theorem gstore_le (P : PoolM) (G : GuestM) (a : Int) (v : UInt8) : (gstore P G a v).2.2 ≤ 9 := by
  unfold gstore
  dsimp only
  split
  · exact gframe_le _ _ _ _
  · exact pset_le _ _ _ _
theorem hon_le {H : HostM} {n : Int} {f : PoolM → GuestM → PoolM × GuestM × Nat} (h : ∀ P G, (f P G).2.2 ≤ 9) : (hon H n f).2 ≤ 9 := by
  unfold hon
  split
  · exact Nat.le_of_ble_eq_true rfl
  · split
    · exact Nat.le_of_ble_eq_true rfl
    · exact h _ _
theorem hload_le (H : HostM) (n a : Int) : (hload H n a).2.2 ≤ 9 := by
  unfold hload
  split
  · exact Nat.le_of_ble_eq_true rfl
  · split
    · exact Nat.le_of_ble_eq_true rfl
    · exact gload_le _ _ _
theorem hstore_le (H : HostM) (n a : Int) (v : UInt8) : (hstore H n a v).2 ≤ 9 := hon_le fun P G => gstore_le _ _ _ _
theorem hroot_le (H : HostM) (n a : Int) : (hroot H n a).2 ≤ 9 := hon_le fun P G => by
  show (groot G a).2 ≤ 9
  unfold groot
  split <;> exact Nat.le_of_ble_eq_true rfl
theorem hforget_le (H : HostM) (n a : Int) : (hforget H n a).2 ≤ 9 := hon_le fun P G => by
  show (gforget G a).2 ≤ 9
  unfold gforget
  split
  · exact Nat.le_of_ble_eq_true rfl
  · exact Nat.zero_le _
theorem hforgetAll_le (H : HostM) (n a : Int) : (hforgetAll H n a).2 ≤ 9 := hon_le fun P G => by
  show (gforgetAll G a).2 ≤ 9
  unfold gforgetAll
  split
  · exact Nat.zero_le _
  · exact Nat.le_of_ble_eq_true rfl
theorem hgive_le (H : HostM) (n a : Int) : (hgive H n a).2 ≤ 9 := hon_le fun P G => by
  show (mgive P G.m a).2.2 ≤ 9
  unfold mgive
  split
  · split
    · exact Nat.zero_le _
    · exact Nat.le_of_ble_eq_true rfl
  · exact Nat.le_of_ble_eq_true rfl
theorem hback_le (H : HostM) (n a : Int) : (hback H n a).2 ≤ 9 := hon_le fun P G => by
  unfold hbackF
  split
  · exact Nat.le_of_ble_eq_true rfl
  · show (mback G.m a).2 ≤ 9
    unfold mback
    split
    · split
      · exact Nat.zero_le _
      · exact Nat.le_of_ble_eq_true rfl
    · exact Nat.le_of_ble_eq_true rfl
theorem hplug_le (H : HostM) (n a : Int) : (hplug H n a).2 ≤ 9 := hon_le fun P G => by
  unfold hplugF
  split
  · exact Nat.le_of_ble_eq_true rfl
  · split
    · exact Nat.le_of_ble_eq_true rfl
    · split
      · exact Nat.le_of_ble_eq_true rfl
      · exact Nat.zero_le _
theorem hunplug_le (H : HostM) (n a : Int) : (hunplug H n a).2 ≤ 9 := hon_le fun P G => by
  unfold hunplugF
  split
  · exact Nat.le_of_ble_eq_true rfl
  · split
    · exact Nat.le_of_ble_eq_true rfl
    · exact Nat.zero_le _
theorem hremove_le (H : HostM) (n : Int) : (hremove H n).2 ≤ 9 := by
  unfold hremove
  split
  · exact Nat.le_of_ble_eq_true rfl
  · split
    · exact Nat.le_of_ble_eq_true rfl
    · exact Nat.zero_le _
theorem hadd_le (H : HostM) : (∃ k : Nat, (hadd H).2.1 = k ∧ k ≤ 3) ∧ (hadd H).2.2 ≤ 9 := by
  unfold hadd
  split
  · rename_i n h
    have := List.mem_range.1 (List.mem_of_find?_eq_some h)
    exact ⟨⟨n, rfl, by omega⟩, Nat.zero_le _⟩
  · exact ⟨⟨0, rfl, by omega⟩, Nat.le_of_ble_eq_true rfl⟩
theorem mjoin_le (P : PoolM) (M : MapM) (n f : Int) : (mjoin P M n f).2.2 ≤ 9 := by
  unfold mjoin
  split
  · split
    · exact Nat.zero_le _
    · exact Nat.le_of_ble_eq_true rfl
  · exact Nat.le_of_ble_eq_true rfl
theorem hscan_le (H : HostM) (n a : Int) : (hscan H n a).2.2 ≤ 9 := by
  unfold hscan
  split
  · exact Nat.le_of_ble_eq_true rfl
  · split
    · exact Nat.le_of_ble_eq_true rfl
    · unfold hscanG
      split
      · split
        · split
          · exact Nat.zero_le _
          · split
            · exact Nat.zero_le _
            · exact mjoin_le _ _ _ _
        · exact Nat.zero_le _
      · exact Nat.le_of_ble_eq_true rfl
theorem hscanN_le9 (H : HostM) : ∀ k, (hscanN H k).2 ≤ k
  | 0 => Nat.le_refl _
  | k + 1 => by
    have := hscanN_le9 H k
    show (hscanN H k).2 + (if _ then 1 else 0) ≤ _
    split <;> omega
theorem hscanAll_le (H : HostM) : (hscanAll H).2 ≤ 64 := hscanN_le9 H 64
theorem hpromN_le9 (H : HostM) : ∀ k, hpromN H k ≤ 16 * k
  | 0 => Nat.le_refl _
  | k + 1 => by
    have := hpromN_le9 H k
    have h2 : oprom (H.g k) ≤ 16 := by
      unfold oprom
      split
      · refine Nat.le_trans List.countP_le_length ?_
        simp
      · exact Nat.zero_le _
    show hpromN H k + oprom (H.g k) ≤ _
    omega
theorem hprom_le64 (H : HostM) : hprom H ≤ 64 := hpromN_le9 H 4

/-! What a command answers. -/
inductive CK where
  | add | remove | plug | unplug | give | back | load | store | root | forget | drop | scan | scanall | guests | left | promised | frame | page
def ownS : ByteArray := strOf [32, 111, 119, 110]
def sealedS : ByteArray := strOf [32, 115, 101, 97, 108, 101, 100]
def nowhereS : ByteArray := { data := #[32, 110, 111, 119, 104, 101, 114, 101] }
def pageS (H : HostM) (n a : Int) : ByteArray :=
  if (hstate H n a).2 = 0 then
    (if (hleafOf H n a).1.there then numS (hstate H n a).1.toNat ++ (if (hleafOf H n a).1.write then ownS else sealedS) ++ spB ++ numS (H.p.refs (hleafOf H n a).1.frame.toNat).toNat
    else numS (hstate H n a).1.toNat ++ nowhereS)
  else faultS (hstate H n a).2
def scanS (did : Bool) (e : Nat) : ByteArray := if e = 0 then strOf (Lib.formatBool did) else faultS e
def frameS (x : Int × Int × Nat) : ByteArray := if x.2.2 = 0 then listS [x.1.toNat, x.2.1.toNat] else faultS x.2.2
def cdo (H : HostM) (k : CK) (a b c : Int) : HostM × ByteArray :=
  match k with
  | .add => ((hadd H).1, toldS (hadd H).2.1.toNat (hadd H).2.2)
  | .remove => ((hremove H a).1, doneS (hremove H a).2)
  | .plug => ((hplug H a b).1, doneS (hplug H a b).2)
  | .unplug => ((hunplug H a b).1, doneS (hunplug H a b).2)
  | .give => ((hgive H a b).1, doneS (hgive H a b).2)
  | .back => ((hback H a b).1, doneS (hback H a b).2)
  | .load => ((hload H a b).1, toldS (hload H a b).2.1.toNat (hload H a b).2.2)
  | .store => if c < 0 ∨ 255 < c then (H, faultS 1) else ((hstore H a b (UInt8.ofNat c.toNat)).1, doneS (hstore H a b (UInt8.ofNat c.toNat)).2)
  | .root => ((hroot H a b).1, doneS (hroot H a b).2)
  | .forget => ((hforget H a b).1, doneS (hforget H a b).2)
  | .drop => ((hforgetAll H a b).1, doneS (hforgetAll H a b).2)
  | .scan => ((hscan H a b).1, scanS (hscan H a b).2.1 (hscan H a b).2.2)
  | .scanall => ((hscanAll H).1, numS (hscanAll H).2)
  | .guests => (H, listS (gl H))
  | .left => (H, numS H.p.left)
  | .promised => (H, numS (hprom H))
  | .frame => (H, frameS (H.p.of a))
  | .page => (H, pageS H a b)

end U
end Go.Proofs.YtnhplapcdgnaaaaGreatDoor

set_option linter.unusedVariables false
set_option linter.unusedSimpArgs false
namespace Go.Proofs.YtnhplapcdgnaaaaGreatDoor
open Go.RowKit
namespace U

/-! The program's console: page. -/
theorem of_at {P : PoolM} {f : Nat} (h : f < P.n) {r : Nat} (hr : P.refs f = r) : P.of f = (((min r 2 : Nat) : Int), (r : Int), 0) := by
  unfold PoolM.of
  rw [if_neg (by omega), Int.toNat_natCast, hr]
  congr 1
  omega
theorem refs_nat {H : HostM} (hI : HInv H) {f : Nat} (h : f < H.p.n) : ∃ r : Nat, H.p.refs f = r ∧ r ≤ 64 := by
  refine ⟨hcnt H f, hI.cnt f h, ?_⟩
  unfold hcnt
  have := ocnt_le (H.g 0) f
  have := ocnt_le (H.g 1) f
  have := ocnt_le (H.g 2) f
  have := ocnt_le (H.g 3) f
  omega
theorem pageS_err {H : HostM} {n a : Int} {e : Nat} {s : Int} (h : hstate H n a = (s, e)) (he : e ≠ 0) : pageS H n a = faultS e := by
  unfold pageS
  rw [h, if_neg he]
theorem leafbox (w : World) (x y z : Value) : (w.alloc (.cells #[x, y, z] 88)).cell? ⟨w.heap.size, 0, none⟩ = some x ∧ (w.alloc (.cells #[x, y, z] 88)).cell? ⟨w.heap.size, 1, none⟩ = some y ∧ (w.alloc (.cells #[x, y, z] 88)).cell? ⟨w.heap.size, 2, none⟩ = some z := by
  refine ⟨?_, ?_, ?_⟩ <;> (rw [cell_of_row _ w.heap.size _ _ _ (0, 0) (heap_alloc_new w _)]; rfl)
theorem framebox (w : World) (x y : Value) : (w.alloc (.cells #[x, y] 64)).cell? ⟨w.heap.size, 0, none⟩ = some x ∧ (w.alloc (.cells #[x, y] 64)).cell? ⟨w.heap.size, 1, none⟩ = some y := by
  refine ⟨?_, ?_⟩ <;> (rw [cell_of_row _ w.heap.size _ _ _ (0, 0) (heap_alloc_new w _)]; rfl)
section
variable {w0 w : World} {h : Nat} {L : PoolAt} {K : Nat → GAt} {H : HostM}
set_option maxRecDepth 100000 in
set_option maxHeartbeats 2000000 in
theorem page_err (T : HW w0 w h L K H) (t : LW w0) (n a : Int) {e : Nat} {s : Int} (hs : hstate H n a = (s, e + 1)) (he : e ≤ 100) : Calls Tryz.prog 73 #[.pointer (some ⟨h, 0, none⟩), .int .i64 n, .int .i64 a] w fun e w' => e = .returned (.string (pageS H n a)) ∧ Upd Non w w' := by
  have hc := Lib.hid (hstate_any T.r n a)
  have HP := Lib.hid (pageS_err hs (by omega))
  have hf := Lib.hid (fault_any (t.upd T.up) (e + 1) (by omega))
  rw [hs] at hc
  unfold errv at hc
  rw [if_neg (by simp)] at hc
  dsimp only at hc
  clear hs T
  go_enter Tryz.func73, Tryz.ntmps73
  go_wp2_with (first
    | (go_at_call 107; refine Calls.mono hc.out ?_; rintro e w2 ⟨rfl, rfl⟩)
    | (go_at_call 35; refine Calls.mono hf.out ?_; rintro e w2 ⟨rfl, u2⟩)
    | fail)
  go_ret
  exact ⟨by rw [HP.out]; rfl, u2⟩
set_option maxRecDepth 100000 in
set_option maxHeartbeats 4000000 in
theorem page_any (T : HW w0 w h L K H) (t : LW w0) (hI : HInv H) (n a : Int) : Calls Tryz.prog 73 #[.pointer (some ⟨h, 0, none⟩), .int .i64 n, .int .i64 a] w fun e w' => e = .returned (.string (pageS H n a)) ∧ Upd Non w w' := by
  rcases who_ways H n with h0 | ⟨k, hk, rfl, hg⟩ | ⟨k, G, hk, rfl, hg⟩
  · exact page_err T t n a (e := 0) (s := 0) (by unfold hstate; rw [if_pos h0]) (by omega)
  · exact page_err T t k a (e := 1) (s := 0) (by unfold hstate; rw [if_neg (by omega), Int.toNat_natCast, hg]) (by omega)
  · by_cases ho : onB a = true
    · have hS0 : hstate H k a = (G.m.state a.toNat, 0) := by unfold hstate; rw [if_neg (by omega), Int.toNat_natCast, hg]; show mstate G.m a = _; unfold mstate; rw [if_pos ho]
      have hL0 : hleafOf H k a = (G.m.leaf a.toNat, 0) := by unfold hleafOf; rw [if_neg (by omega), Int.toNat_natCast, hg]; show mleaf G.m a = _; unfold mleaf; rw [if_pos ho]
      have hM0 : mleaf G.m a = (G.m.leaf a.toNat, 0) := by unfold mleaf; rw [if_pos ho]
      obtain ⟨a0, a1⟩ := onB_iff.1 ho
      have hp : a.toNat < 16 := by omega
      obtain ⟨s, hs, hs2⟩ : ∃ s : Nat, G.m.state a.toNat = s ∧ s ≤ 2 := by
        rcases (hI.g k hk G hg).st a.toNat hp with e | e | e
        · exact ⟨0, e, by omega⟩
        · exact ⟨1, e, by omega⟩
        · exact ⟨2, e, by omega⟩
      rw [hs] at hS0
      have hc := Lib.hid (hstate_any T.r k a)
      have hl := Lib.hid (hleafC_some T.r hk hg a)
      rw [hS0] at hc
      rw [hM0] at hl
      unfold errv at hc hl
      rw [if_pos rfl] at hc hl
      dsimp only at hc hl
      have here := (hI.g k hk G hg).here a.toNat hp
      have tu := Lib.hid (t.upd T.up)
      have zs := numS_size (n := s) (by omega)
      rcases hq : G.m.leaf a.toNat with ⟨there, write, frame⟩
      rw [hq] at hL0 hl here
      unfold LeafM.val at hl
      dsimp only at hl
      cases there with
      | false =>
        have HP := Lib.hid (show pageS H k a = numS s ++ nowhereS by unfold pageS; rw [hS0, hL0]; rfl)
        clear hS0 hL0 hM0 hs here hq ho a0 a1 hp hg
        go_enter Tryz.func73, Tryz.ntmps73
        go_wp2_with (first
          | (go_at_call 107; refine Calls.mono hc.out ?_; rintro e w2 ⟨rfl, rfl⟩)
          | (go_at_call 108; refine Calls.mono hl.out ?_; rintro e w2 ⟨rfl, u2⟩)
          | (go_at_call 51; refine Calls.mono (itoa_any (tu.out.upd (u2.alloc _)) s (by omega)) ?_; rintro e w3 ⟨rfl, u3⟩; have c0 := Upd.cell u3 (leafbox w2 (.bool false) (.bool write) (.int .i64 frame)).1 (fun h => h))
          | fail)
        go_ret
        exact ⟨by rw [HP.out]; rfl, (u2.alloc _).trans u3⟩
      | true =>
        obtain ⟨_, f0, f1⟩ := here rfl
        have f0 : 0 ≤ frame := f0
        have f1 : frame < H.p.n := f1
        obtain ⟨f, rfl⟩ := Int.eq_ofNat_of_zero_le f0
        obtain ⟨r, hr, hr2⟩ := refs_nat hI (f := f) (by omega)
        have ho2 := of_at (by omega) hr
        have hfr := Lib.hid (fun W (r' : HRep W h L K H) => hframe_any r' f)
        rw [ho2] at hfr
        unfold errv frameV at hfr
        rw [if_pos rfl] at hfr
        dsimp only at hfr
        have zr := numS_size (n := r) (by omega)
        have zo : ownS.size ≤ 4 := Nat.le_refl _
        have ze : sealedS.size ≤ 7 := Nat.le_refl _
        have zp : spB.size ≤ 1 := Nat.le_refl _
        cases write with
        | true =>
          have HP := Lib.hid (show pageS H k a = numS s ++ ownS ++ spB ++ numS r by unfold pageS; rw [hS0, hL0]; show numS s ++ ownS ++ spB ++ numS (H.p.refs f).toNat = _; rw [hr]; rfl)
          have z1 : (numS s ++ ownS).size ≤ 1000010 := by rw [ByteArray.size_append]; omega
          have z2 : (numS s ++ ownS ++ spB).size ≤ 1000020 := by rw [ByteArray.size_append]; omega
          clear hS0 hL0 hM0 hs here hq ho a0 a1 hp hg f0 f1 ho2 hr
          go_enter Tryz.func73, Tryz.ntmps73
          go_wp2_with (first
            | (go_at_call 107; refine Calls.mono hc.out ?_; rintro e w2 ⟨rfl, rfl⟩)
            | (go_at_call 108; refine Calls.mono hl.out ?_; rintro e w2 ⟨rfl, u2⟩)
            | (go_at_call 51; refine Calls.mono (itoa_any (tu.out.upd (u2.alloc _)) s (by omega)) ?_; rintro e w3 ⟨rfl, u3⟩; have b1 := leafbox w2 (.bool true) (.bool true) (.int .i64 f); have c0 := Upd.cell u3 b1.1 (fun h => h); have c1 := Upd.cell u3 b1.2.1 (fun h => h); have c2 := Upd.cell u3 b1.2.2 (fun h => h); have tu3 := Lib.hid (tu.out.upd ((u2.alloc _).trans u3)); have T3 := Lib.hid (T.non ((u2.alloc _).trans u3)); have U3 := Lib.hid ((u2.alloc _).trans u3))
            | (go_at_call 72; refine Calls.mono (hfr.out _ T3.out.r) ?_; rintro e w4 ⟨rfl, u4⟩; have k1 := Upd.cell (u4.alloc (.cells #[.int .i64 (min r 2 : Nat), .int .i64 r] 64)) c1 (fun h => h); have k2 := framebox w4 (.int .i64 (min r 2 : Nat)) (.int .i64 r); have k20 := k2.1; have k21 := k2.2)
            | (go_at_call 51; refine Calls.mono (itoa_any (tu3.out.upd (u4.alloc _)) r (by omega)) ?_; rintro e w5 ⟨rfl, u5⟩)
            | fail)
          go_ret
          exact ⟨by rw [HP.out]; rfl, (U3.out.trans (u4.alloc _)).trans u5⟩
        | false =>
          have HP := Lib.hid (show pageS H k a = numS s ++ sealedS ++ spB ++ numS r by unfold pageS; rw [hS0, hL0]; show numS s ++ sealedS ++ spB ++ numS (H.p.refs f).toNat = _; rw [hr]; rfl)
          have z1 : (numS s ++ sealedS).size ≤ 1000010 := by rw [ByteArray.size_append]; omega
          have z2 : (numS s ++ sealedS ++ spB).size ≤ 1000020 := by rw [ByteArray.size_append]; omega
          clear hS0 hL0 hM0 hs here hq ho a0 a1 hp hg f0 f1 ho2 hr
          go_enter Tryz.func73, Tryz.ntmps73
          go_wp2_with (first
            | (go_at_call 107; refine Calls.mono hc.out ?_; rintro e w2 ⟨rfl, rfl⟩)
            | (go_at_call 108; refine Calls.mono hl.out ?_; rintro e w2 ⟨rfl, u2⟩)
            | (go_at_call 51; refine Calls.mono (itoa_any (tu.out.upd (u2.alloc _)) s (by omega)) ?_; rintro e w3 ⟨rfl, u3⟩; have b1 := leafbox w2 (.bool true) (.bool false) (.int .i64 f); have c0 := Upd.cell u3 b1.1 (fun h => h); have c1 := Upd.cell u3 b1.2.1 (fun h => h); have c2 := Upd.cell u3 b1.2.2 (fun h => h); have tu3 := Lib.hid (tu.out.upd ((u2.alloc _).trans u3)); have T3 := Lib.hid (T.non ((u2.alloc _).trans u3)); have U3 := Lib.hid ((u2.alloc _).trans u3))
            | (go_at_call 72; refine Calls.mono (hfr.out _ T3.out.r) ?_; rintro e w4 ⟨rfl, u4⟩; have k1 := Upd.cell (u4.alloc (.cells #[.int .i64 (min r 2 : Nat), .int .i64 r] 64)) c1 (fun h => h); have k2 := framebox w4 (.int .i64 (min r 2 : Nat)) (.int .i64 r); have k20 := k2.1; have k21 := k2.2)
            | (go_at_call 51; refine Calls.mono (itoa_any (tu3.out.upd (u4.alloc _)) r (by omega)) ?_; rintro e w5 ⟨rfl, u5⟩)
            | fail)
          go_ret
          exact ⟨by rw [HP.out]; rfl, (U3.out.trans (u4.alloc _)).trans u5⟩
    · exact page_err T t k a (e := 0) (s := 0) (by unfold hstate; rw [if_neg (by omega), Int.toNat_natCast, hg]; show mstate G.m a = _; unfold mstate; rw [if_neg ho]) (by omega)
end

end U
end Go.Proofs.YtnhplapcdgnaaaaGreatDoor

set_option linter.unusedVariables false
set_option linter.unusedSimpArgs false
namespace Go.Proofs.YtnhplapcdgnaaaaGreatDoor
open Go.RowKit
namespace U

/-! What a line answers (written by gen_cont.py). -/
def ckL : List (List UInt8 × CK × Nat) := [([97, 100, 100], .add, 0), ([114, 101, 109, 111, 118, 101], .remove, 1), ([112, 108, 117, 103], .plug, 2), ([117, 110, 112, 108, 117, 103], .unplug, 2), ([103, 105, 118, 101], .give, 2), ([98, 97, 99, 107], .back, 2), ([108, 111, 97, 100], .load, 2), ([115, 116, 111, 114, 101], .store, 3), ([114, 111, 111, 116], .root, 2), ([102, 111, 114, 103, 101, 116], .forget, 2), ([100, 114, 111, 112], .drop, 2), ([115, 99, 97, 110], .scan, 2), ([115, 99, 97, 110, 97, 108, 108], .scanall, 0), ([103, 117, 101, 115, 116, 115], .guests, 0), ([108, 101, 102, 116], .left, 0), ([112, 114, 111, 109, 105, 115, 101, 100], .promised, 0), ([102, 114, 97, 109, 101], .frame, 1), ([112, 97, 103, 101], .page, 2)]
def ckOf (l : List UInt8) : Option (CK × Nat) := (ckL.find? (fun p => p.1 == l)).map (·.2)
theorem manyL_ck : manyL = ckL.map fun p => (p.1, (p.2.2 : Int)) := rfl
theorem manyOf_ck (l : List UInt8) : manyOf l = (ckOf l).map fun p => (p.2 : Int) := by
  unfold manyOf ckOf
  rw [manyL_ck, List.find?_map, Option.map_map, Option.map_map]
  rfl
theorem ck_mem {l : List UInt8} {q : CK × Nat} (h : ckOf l = some q) : (l, q) ∈ ckL := by
  unfold ckOf at h
  cases hf : ckL.find? (fun p => p.1 == l) with
  | none => rw [hf] at h; cases h
  | some p =>
    rw [hf] at h
    have h1 := List.find?_some hf
    have h2 := List.mem_of_find?_eq_some hf
    have h3 : p.1 = l := by simpa using h1
    have h4 : p.2 = q := by simpa using h
    rw [← h3, ← h4]
    exact h2
theorem ck_none {l : List UInt8} (h : ckOf l = none) {p : List UInt8 × CK × Nat} (hp : p ∈ ckL) : (l == p.1) = false := by
  unfold ckOf at h
  have h := List.find?_eq_none.1 (Option.map_eq_none_iff.1 h) p hp
  rw [Bool.eq_false_iff]
  intro e
  have e : l = p.1 := by simpa using e
  exact h (by simp [e])
def numsOf : List ByteArray → Option (List Int)
  | [] => some []
  | y :: r => match numL y.data.toList with
    | none => none
    | some z => (numsOf r).map (z :: ·)
theorem numsOf_snoc : ∀ (L : List ByteArray) (y : ByteArray) {l : List Int} {z : Int}, numsOf L = some l → numL y.data.toList = some z → numsOf (L ++ [y]) = some (l ++ [z])
  | [], y, l, z, h1, h2 => by
    cases h1
    show (match numL y.data.toList with | none => none | some z => (numsOf []).map (z :: ·)) = _
    rw [h2]
    rfl
  | x :: L, y, l, z, h1, h2 => by
    unfold numsOf at h1
    cases hx : numL x.data.toList with
    | none => rw [hx] at h1; cases h1
    | some u =>
      rw [hx] at h1
      cases hL : numsOf L with
      | none => rw [hL] at h1; cases h1
      | some l2 =>
        rw [hL] at h1
        have h1 : u :: l2 = l := by simpa using h1
        subst h1
        show (match numL x.data.toList with | none => none | some z => (numsOf (L ++ [y])).map (z :: ·)) = _
        rw [hx, numsOf_snoc L y hL h2]
        rfl
theorem numsOf_bad : ∀ (L : List ByteArray) {y : ByteArray}, y ∈ L → numL y.data.toList = none → numsOf L = none
  | [], y, h, _ => by cases h
  | x :: L, y, h, hn => by
    unfold numsOf
    rcases List.mem_cons.1 h with rfl | h
    · rw [hn]
    · rw [numsOf_bad L h hn]
      split <;> rfl
theorem numsOf_len : ∀ (L : List ByteArray) {l : List Int}, numsOf L = some l → l.length = L.length
  | [], l, h => by cases h; rfl
  | x :: L, l, h => by
    unfold numsOf at h
    cases hx : numL x.data.toList with
    | none => rw [hx] at h; cases h
    | some u =>
      rw [hx] at h
      cases hL : numsOf L with
      | none => rw [hL] at h; cases h
      | some l2 =>
        rw [hL] at h
        have h : u :: l2 = l := by simpa using h
        subst h
        show l2.length + 1 = L.length + 1
        rw [numsOf_len L hL]
/-- A command with its words. -/
def csayN (H : HostM) (k : CK) (args : List ByteArray) : HostM × ByteArray :=
  match numsOf args with
  | none => (H, faultS 9)
  | some ns => cdo H k (ns.getD 0 0) (ns.getD 1 0) (ns.getD 2 0)
theorem csayN_bad {H : HostM} {k : CK} {args : List ByteArray} (h : numsOf args = none) : csayN H k args = (H, faultS 9) := by unfold csayN; rw [h]
theorem csayN_nums {H : HostM} {k : CK} {args : List ByteArray} {ns : List Int} (h : numsOf args = some ns) : csayN H k args = cdo H k (ns.getD 0 0) (ns.getD 1 0) (ns.getD 2 0) := by unfold csayN; rw [h]
def csay (H : HostM) (s : ByteArray) : HostM × ByteArray :=
  match wordsB s with
  | [] => (H, faultS 9)
  | x :: args => match ckOf x.data.toList with
    | none => (H, faultS 9)
    | some q => if args.length = q.2 ∧ s.size ≤ 200 then csayN H q.1 args else (H, faultS 9)
theorem csay_none {H : HostM} {s x : ByteArray} {args : List ByteArray} (h : wordsB s = x :: args) (hk : ckOf x.data.toList = none) : csay H s = (H, faultS 9) := by unfold csay; rw [h]; dsimp only; rw [hk]
theorem csay_bad {H : HostM} {s x : ByteArray} {args : List ByteArray} {q : CK × Nat} (h : wordsB s = x :: args) (hk : ckOf x.data.toList = some q) (hb : ¬ (args.length = q.2 ∧ s.size ≤ 200)) : csay H s = (H, faultS 9) := by unfold csay; rw [h]; dsimp only; rw [hk]; dsimp only; rw [if_neg hb]
theorem csay_is {H : HostM} {s x : ByteArray} {args : List ByteArray} {q : CK × Nat} (h : wordsB s = x :: args) (hk : ckOf x.data.toList = some q) (hb : args.length = q.2 ∧ s.size ≤ 200) : csay H s = csayN H q.1 args := by unfold csay; rw [h]; dsimp only; rw [hk]; dsimp only; rw [if_pos hb]
theorem words_cons (s : ByteArray) : ∃ x args, wordsB s = x :: args := by
  cases h : wordsB s with
  | nil => have := wordsB_length s; rw [h] at this; cases this
  | cons x args => exact ⟨x, args, rfl⟩

end U
end Go.Proofs.YtnhplapcdgnaaaaGreatDoor
