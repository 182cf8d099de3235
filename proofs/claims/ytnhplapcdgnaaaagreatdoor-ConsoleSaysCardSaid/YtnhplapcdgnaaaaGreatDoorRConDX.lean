import Derived.Test.YtnhplapcdgnaaaaGreatDoorConPX
import Derived.Test.YtnhplapcdgnaaaaGreatDoorRHostEX
import Derived.BigRegion
import Derived.Deep.RegionWith
set_option linter.unusedVariables false
set_option linter.unusedSimpArgs false
namespace Go.Proofs.YtnhplapcdgnaaaaGreatDoor
open Go.RowKit
namespace U

/-! The reference's console: Guest.say (written by gen_rcon.py). -/
def RDoPost (w : World) (o m : Nat) (R : Nat → Nat × Value) (H : HostM) (x : HostM × ByteArray) (e : Ending) (w' : World) : Prop :=
  e = .returned (.string x.2) ∧ ∃ R', RH (ownRH o m R H) w w' o m R' x.1
theorem test_codes2 {x : ByteArray} {l m : List UInt8} (h : x.data.toList = l) {b : Bool} (e : (l == m) = b) : (x.toList == m) = b := by rw [toList_dat, h]; exact e
theorem told_pos {n e : Nat} : toldS n (e + 1) = faultS (e + 1) := by unfold toldS; rw [if_neg (by omega)]
theorem told_zero {n : Nat} : toldS n 0 = numS n := by unfold toldS; rw [if_pos rfl]
section
variable {w : World} {o m k : Nat} {R : Nat → Nat × Value} {H : HostM} {G : GuestM}
set_option maxRecDepth 100000 in
set_option maxHeartbeats 8000000 in
theorem gsay_load (b c : Int) (r : RHRep w o m R H) (hI0 : HInv H) (hk : k < 4) (hg0 : H.g k = some G) (x : ByteArray) (hx : x.data.toList = [108, 111, 97, 100]) :
    Calls Tryz.prog 31 #[.pointer (some ⟨(R k).1, 0, none⟩), .string x, .agg #[.int .i64 k, .int .i64 b, .int .i64 c], .pointer (some ⟨m, 0, none⟩)] w (RDoPost w o m R H (cdo H .load k b c)) := by
  have hI := Lib.hid hI0
  have hg := Lib.hid hg0
  have gi := Lib.hid (hI0.gi hk hg0)
  have T := RH.start r
  have lg := (r.rg hk hg0).lt
  clear hI0
  have h0 := test_codes2 hx (m := [108, 111, 97, 100]) (b := true) rfl
  clear hx
  have he := hload_le H k b
  show Calls Tryz.prog 31 _ w (RDoPost w o m R H ((hload H k b).1, toldS (hload H k b).2.1.toNat (hload H k b).2.2))
  rw [hload_some hk hg0] at he ⊢
  have hc := Lib.hid (fun W (r : RHRep W o m R H) => rgload_any (r.rg hk hg.out) gi.out b)
  generalize gload H.p G b = y at he hc ⊢
  obtain ⟨P2, G2, v, e⟩ := y
  unfold RLoadPost at hc
  dsimp only at he hc ⊢
  have hv : v.toNat ≤ 1000000 := by have := v.toNat_lt; omega
  clear hg0
  cases e with
  | zero =>
    rw [told_zero]
    go_enter Tryz.func31, Tryz.ntmps31
    go_wp2_with (first
      | (go_at_call 45; refine Calls.mono (hc.out _ (RH.rep (by repeat (first | assumption | apply RH.drew | apply RH.drewN | apply RH.alloc)))) ?_; rintro e w2 ⟨rfl, v2, s2⟩; have T2 := RH.guest (S := ownRH o m R H) (by repeat (first | assumption | apply RH.drew | apply RH.drewN | apply RH.alloc)) hk hg.out s2)
      | (go_at_call 17; refine Calls.mono (rdecimal_any v.toNat v.toNat (Nat.le_refl _) (by omega) _) ?_; rintro e w3 ⟨rfl, u3⟩; have T3 := RH.non T2 u3)
      | fail)
    go_ret
    exact ⟨rfl, _, T3⟩
  | succ e =>
    rw [told_pos]
    have hp : (0 : Int) < ((e + 1 : Nat) : Int) := by omega
    generalize e + 1 = e at hp he hc ⊢
    go_enter Tryz.func31, Tryz.ntmps31
    go_wp2_with (first
      | (go_at_call 45; refine Calls.mono (hc.out _ (RH.rep (by repeat (first | assumption | apply RH.drew | apply RH.drewN | apply RH.alloc)))) ?_; rintro e w2 ⟨rfl, v2, s2⟩; have T2 := RH.guest (S := ownRH o m R H) (by repeat (first | assumption | apply RH.drew | apply RH.drewN | apply RH.alloc)) hk hg.out s2)
      | (go_at_call 14; refine Calls.mono (rfault_any _ e (by omega)) ?_; rintro e w3 ⟨rfl, u3⟩; have T3 := RH.non T2 u3)
      | fail)
    go_ret
    exact ⟨rfl, _, T3⟩
set_option maxRecDepth 100000 in
set_option maxHeartbeats 8000000 in
theorem gsay_root (b c : Int) (r : RHRep w o m R H) (hI0 : HInv H) (hk : k < 4) (hg0 : H.g k = some G) (x : ByteArray) (hx : x.data.toList = [114, 111, 111, 116]) :
    Calls Tryz.prog 31 #[.pointer (some ⟨(R k).1, 0, none⟩), .string x, .agg #[.int .i64 k, .int .i64 b, .int .i64 c], .pointer (some ⟨m, 0, none⟩)] w (RDoPost w o m R H (cdo H .root k b c)) := by
  have hI := Lib.hid hI0
  have hg := Lib.hid hg0
  have gi := Lib.hid (hI0.gi hk hg0)
  have T := RH.start r
  have lg := (r.rg hk hg0).lt
  clear hI0
  have h0 := test_codes2 hx (m := [108, 111, 97, 100]) (b := false) rfl
  have h1 := test_codes2 hx (m := [115, 116, 111, 114, 101]) (b := false) rfl
  have h2 := test_codes2 hx (m := [114, 111, 111, 116]) (b := true) rfl
  clear hx
  have he := hroot_le H k b
  show Calls Tryz.prog 31 _ w (RDoPost w o m R H ((hroot H k b).1, doneS (hroot H k b).2))
  rw [show hroot H k b = _ from hon_some hk hg0] at he ⊢
  have hc := Lib.hid (fun W (r : RHRep W o m R H) => rgsetRoot_any (r.rg hk hg.out) b)
  dsimp only at he ⊢
  generalize groot G b = y at he hc ⊢
  obtain ⟨G2, e⟩ := y
  unfold RActPost at hc
  dsimp only at he hc ⊢
  clear hg0
  go_enter Tryz.func31, Tryz.ntmps31
  go_wp2_with (first
    | (go_at_call 47; refine Calls.mono (hc.out _ (RH.rep (by repeat (first | assumption | apply RH.drew | apply RH.drewN | apply RH.alloc)))) ?_; rintro e w2 ⟨rfl, v2, s2⟩; have T2 := RH.guest (S := ownRH o m R H) (by repeat (first | assumption | apply RH.drew | apply RH.drewN | apply RH.alloc)) hk hg.out s2)
    | (go_at_call 23; refine Calls.mono (rdone_any _ e (by omega)) ?_; rintro e w3 ⟨rfl, u3⟩; have T3 := RH.non T2 u3)
    | fail)
  go_ret
  exact ⟨rfl, _, T3⟩
set_option maxRecDepth 100000 in
set_option maxHeartbeats 8000000 in
theorem gsay_forget (b c : Int) (r : RHRep w o m R H) (hI0 : HInv H) (hk : k < 4) (hg0 : H.g k = some G) (x : ByteArray) (hx : x.data.toList = [102, 111, 114, 103, 101, 116]) :
    Calls Tryz.prog 31 #[.pointer (some ⟨(R k).1, 0, none⟩), .string x, .agg #[.int .i64 k, .int .i64 b, .int .i64 c], .pointer (some ⟨m, 0, none⟩)] w (RDoPost w o m R H (cdo H .forget k b c)) := by
  have hI := Lib.hid hI0
  have hg := Lib.hid hg0
  have gi := Lib.hid (hI0.gi hk hg0)
  have T := RH.start r
  have lg := (r.rg hk hg0).lt
  clear hI0
  have h0 := test_codes2 hx (m := [108, 111, 97, 100]) (b := false) rfl
  have h1 := test_codes2 hx (m := [115, 116, 111, 114, 101]) (b := false) rfl
  have h2 := test_codes2 hx (m := [114, 111, 111, 116]) (b := false) rfl
  have h3 := test_codes2 hx (m := [102, 111, 114, 103, 101, 116]) (b := true) rfl
  clear hx
  have he := hforget_le H k b
  show Calls Tryz.prog 31 _ w (RDoPost w o m R H ((hforget H k b).1, doneS (hforget H k b).2))
  rw [show hforget H k b = _ from hon_some hk hg0] at he ⊢
  have hc := Lib.hid (fun W (r : RHRep W o m R H) => rgforget_any (r.rg hk hg.out) gi.out b)
  dsimp only at he ⊢
  generalize gforget G b = y at he hc ⊢
  obtain ⟨G2, e⟩ := y
  unfold RActPost at hc
  dsimp only at he hc ⊢
  clear hg0
  go_enter Tryz.func31, Tryz.ntmps31
  go_wp2_with (first
    | (go_at_call 48; refine Calls.mono (hc.out _ (RH.rep (by repeat (first | assumption | apply RH.drew | apply RH.drewN | apply RH.alloc)))) ?_; rintro e w2 ⟨rfl, v2, s2⟩; have T2 := RH.guest (S := ownRH o m R H) (by repeat (first | assumption | apply RH.drew | apply RH.drewN | apply RH.alloc)) hk hg.out s2)
    | (go_at_call 23; refine Calls.mono (rdone_any _ e (by omega)) ?_; rintro e w3 ⟨rfl, u3⟩; have T3 := RH.non T2 u3)
    | fail)
  go_ret
  exact ⟨rfl, _, T3⟩
set_option maxRecDepth 100000 in
set_option maxHeartbeats 8000000 in
theorem gsay_drop (b c : Int) (r : RHRep w o m R H) (hI0 : HInv H) (hk : k < 4) (hg0 : H.g k = some G) (x : ByteArray) (hx : x.data.toList = [100, 114, 111, 112]) :
    Calls Tryz.prog 31 #[.pointer (some ⟨(R k).1, 0, none⟩), .string x, .agg #[.int .i64 k, .int .i64 b, .int .i64 c], .pointer (some ⟨m, 0, none⟩)] w (RDoPost w o m R H (cdo H .drop k b c)) := by
  have hI := Lib.hid hI0
  have hg := Lib.hid hg0
  have gi := Lib.hid (hI0.gi hk hg0)
  have T := RH.start r
  have lg := (r.rg hk hg0).lt
  clear hI0
  have h0 := test_codes2 hx (m := [108, 111, 97, 100]) (b := false) rfl
  have h1 := test_codes2 hx (m := [115, 116, 111, 114, 101]) (b := false) rfl
  have h2 := test_codes2 hx (m := [114, 111, 111, 116]) (b := false) rfl
  have h3 := test_codes2 hx (m := [102, 111, 114, 103, 101, 116]) (b := false) rfl
  have h4 := test_codes2 hx (m := [100, 114, 111, 112]) (b := true) rfl
  clear hx
  have he := hforgetAll_le H k b
  show Calls Tryz.prog 31 _ w (RDoPost w o m R H ((hforgetAll H k b).1, doneS (hforgetAll H k b).2))
  rw [show hforgetAll H k b = _ from hon_some hk hg0] at he ⊢
  have hc := Lib.hid (fun W (r : RHRep W o m R H) => rgforgetAll_any (r.rg hk hg.out) gi.out b)
  dsimp only at he ⊢
  generalize gforgetAll G b = y at he hc ⊢
  obtain ⟨G2, e⟩ := y
  unfold RActPost at hc
  dsimp only at he hc ⊢
  clear hg0
  go_enter Tryz.func31, Tryz.ntmps31
  go_wp2_with (first
    | (go_at_call 49; refine Calls.mono (hc.out _ (RH.rep (by repeat (first | assumption | apply RH.drew | apply RH.drewN | apply RH.alloc)))) ?_; rintro e w2 ⟨rfl, v2, s2⟩; have T2 := RH.guest (S := ownRH o m R H) (by repeat (first | assumption | apply RH.drew | apply RH.drewN | apply RH.alloc)) hk hg.out s2)
    | (go_at_call 23; refine Calls.mono (rdone_any _ e (by omega)) ?_; rintro e w3 ⟨rfl, u3⟩; have T3 := RH.non T2 u3)
    | fail)
  go_ret
  exact ⟨rfl, _, T3⟩
set_option maxRecDepth 100000 in
set_option maxHeartbeats 8000000 in
theorem gsay_store (b : Int) (v : UInt8) (r : RHRep w o m R H) (hI0 : HInv H) (hk : k < 4) (hg0 : H.g k = some G) (x : ByteArray) (hx : x.data.toList = [115, 116, 111, 114, 101]) :
    Calls Tryz.prog 31 #[.pointer (some ⟨(R k).1, 0, none⟩), .string x, .agg #[.int .i64 k, .int .i64 b, .int .i64 (v.toNat : Nat)], .pointer (some ⟨m, 0, none⟩)] w (RDoPost w o m R H (cdo H .store k b (v.toNat : Nat))) := by
  have hI := Lib.hid hI0
  have hg := Lib.hid hg0
  have gi := Lib.hid (hI0.gi hk hg0)
  have T := RH.start r
  have lg := (r.rg hk hg0).lt
  clear hI0
  have h0 := test_codes2 hx (m := [108, 111, 97, 100]) (b := false) rfl
  have h1 := test_codes2 hx (m := [115, 116, 111, 114, 101]) (b := true) rfl
  clear hx
  have hv := v.toNat_lt
  have hw : IntKind.u8.wrap ((v.toNat : Nat) : Int) = ((v.toNat : Nat) : Int) := IntWalk.u8_in _ (by constructor <;> omega)
  have HC := Lib.hid (show cdo H .store k b ((v.toNat : Nat) : Int) = ((hstore H k b v).1, doneS (hstore H k b v).2) by unfold cdo; dsimp only; rw [if_neg (by omega), Int.toNat_natCast, UInt8.ofNat_toNat])
  rw [HC.out]
  clear hv
  have he := hstore_le H k b v
  rw [show hstore H k b v = _ from hon_some hk hg0] at he ⊢
  have hc := Lib.hid (fun W (r : RHRep W o m R H) => rgstore_any (r.rg hk hg.out) gi.out b v)
  dsimp only at he ⊢
  generalize gstore H.p G b v = y at he hc ⊢
  obtain ⟨P2, G2, e⟩ := y
  unfold RActPost at hc
  dsimp only at he hc ⊢
  clear hg0
  go_enter Tryz.func31, Tryz.ntmps31
  go_wp2_with (first
    | (go_at_call 46; refine Calls.mono (hc.out _ (RH.rep (by repeat (first | assumption | apply RH.drew | apply RH.drewN | apply RH.alloc)))) ?_; rintro e w2 ⟨rfl, v2, s2⟩; have T2 := RH.guest (S := ownRH o m R H) (by repeat (first | assumption | apply RH.drew | apply RH.drewN | apply RH.alloc)) hk hg.out s2)
    | (go_at_call 23; refine Calls.mono (rdone_any _ e (by omega)) ?_; rintro e w3 ⟨rfl, u3⟩; have T3 := RH.non T2 u3)
    | fail)
  go_ret
  exact ⟨rfl, _, T3⟩
end

end U
end Go.Proofs.YtnhplapcdgnaaaaGreatDoor

set_option linter.unusedVariables false
set_option linter.unusedSimpArgs false
namespace Go.Proofs.YtnhplapcdgnaaaaGreatDoor
open Go.RowKit
namespace U

/-! The reference's console: Guest.say of a page. -/
theorem ba_assoc (a b c : ByteArray) : a ++ b ++ c = a ++ (b ++ c) := by apply ByteArray.ext; simp
structure Box3 (W : World) (g : Nat) (a b c : Int) : Prop where
  lt : g < W.heap.size
  c0 : W.cell? ⟨g, 0, none⟩ = some (.int .i64 a)
  c1 : W.cell? ⟨g, 1, none⟩ = some (.int .i64 b)
  c2 : W.cell? ⟨g, 2, none⟩ = some (.int .i64 c)
theorem Box3.new (w : World) (a b c : Int) : Box3 (w.alloc (.cells #[.int .i64 a, .int .i64 b, .int .i64 c] 53)) w.heap.size a b c := by
  refine ⟨by simp, ?_, ?_, ?_⟩ <;> (rw [cell_of_row _ w.heap.size _ _ _ (0, 0) (heap_alloc_new w _)]; rfl)
theorem Box3.non {W W' : World} {g : Nat} {a b c : Int} (t : Box3 W g a b c) (u : Upd Non W W') : Box3 W' g a b c := ⟨Nat.lt_of_lt_of_le t.lt u.size, u.cell t.c0 (fun h => h), u.cell t.c1 (fun h => h), u.cell t.c2 (fun h => h)⟩
section
variable {w : World} {o m k : Nat} {R : Nat → Nat × Value} {H : HostM} {G : GuestM}
set_option maxRecDepth 100000 in
set_option maxHeartbeats 8000000 in
theorem gsay_page (b c : Int) (r : RHRep w o m R H) (hI0 : HInv H) (hk : k < 4) (hg0 : H.g k = some G) (x : ByteArray) (hx : x.data.toList = [112, 97, 103, 101]) :
    Calls Tryz.prog 31 #[.pointer (some ⟨(R k).1, 0, none⟩), .string x, .agg #[.int .i64 k, .int .i64 b, .int .i64 c], .pointer (some ⟨m, 0, none⟩)] w (RDoPost w o m R H (cdo H .page k b c)) := by
  have hg := Lib.hid hg0
  have T := RH.start r
  have lg := (r.rg hk hg0).lt
  have h0 := test_codes2 hx (m := [108, 111, 97, 100]) (b := false) rfl
  have h1 := test_codes2 hx (m := [115, 116, 111, 114, 101]) (b := false) rfl
  have h2 := test_codes2 hx (m := [114, 111, 111, 116]) (b := false) rfl
  have h3 := test_codes2 hx (m := [102, 111, 114, 103, 101, 116]) (b := false) rfl
  have h4 := test_codes2 hx (m := [100, 114, 111, 112]) (b := false) rfl
  clear hx
  show Calls Tryz.prog 31 _ w (RDoPost w o m R H (H, pageS H k b))
  by_cases ho : onB b = true
  · obtain ⟨b0, b1⟩ := onB_iff.1 ho
    obtain ⟨p, rfl⟩ := Int.eq_ofNat_of_zero_le b0
    have hp : p < 16 := by omega
    have hp2 : (p : Int) < 16 := by omega
    have hon := Lib.hid ho
    have hS0 : hstate H k p = (G.m.state p, 0) := by unfold hstate; rw [if_neg (by omega), Int.toNat_natCast, hg0]; exact mstate_at hp
    have hL0 : hleafOf H k p = (G.m.leaf p, 0) := by unfold hleafOf; rw [if_neg (by omega), Int.toNat_natCast, hg0]; exact mleaf_in hp
    obtain ⟨s, hs, hs2⟩ : ∃ s : Nat, G.m.state p = s ∧ s ≤ 2 := by
      rcases (hI0.g k hk G hg0).st p hp with e | e | e
      · exact ⟨0, e, by omega⟩
      · exact ⟨1, e, by omega⟩
      · exact ⟨2, e, by omega⟩
    have here := (hI0.g k hk G hg0).here p hp
    have t2 := r.rg hk hg0
    have c0 := t2.mr.st hp
    have c1 := t2.mr.l0 hp
    have c2 := t2.mr.l1 hp
    have c3 := t2.mr.l2 hp
    have hlt := Lib.hid (r.rg hk hg0).lt
    have zs := numS_size (n := s) (by omega)
    have hsE := Lib.hid hs
    rw [hs] at hS0 c0
    rcases hq : G.m.leaf p with ⟨there, write, frame⟩
    rw [hq] at hL0 c1 c2 c3 here
    dsimp only at c1 c2 c3
    have hqE := Lib.hid hq
    cases there with
    | false =>
      have HP := Lib.hid (show pageS H k p = numS s ++ nowhereS by unfold pageS; rw [hS0, hL0]; rfl)
      rw [HP.out]
      have zn : nowhereS.size ≤ 8 := Nat.le_refl _
      clear hS0 hL0 hs here hq ho b0 b1 hg0 t2
      go_enter Tryz.func31, Tryz.ntmps31
      go_upto_region 18 with (first
        | (go_at_call 40; refine (ron_any _ _).mono ?_; rw [hon.out]; rintro e w1 ⟨rfl, rfl⟩)
        | fail)
      have UB := (Upd.refl Non w).alloc (.cells #[.int .i64 k, .int .i64 p, .int .i64 c] 53)
      have BB := Box3.new w k p c
      generalize w.alloc (.cells #[.int .i64 k, .int .i64 p, .int .i64 c] 53) = wB at UB BB ⊢
      generalize w.heap.size = Bx at BB ⊢
      clear lg c0 c1 c2 c3
      have rB := Lib.hid (r.non UB)
      have TB := Lib.hid (T.non UB)
      clear UB T
      have tB := rB.out.rg hk hg.out
      have c0 := tB.mr.st hp
      have lg := tB.lt
      have b1 := BB.c1
      have lb := BB.lt
      clear tB
      have RD := Lib.hid (rB.out.non (Upd.refl Non _).drew)
      have TD := Lib.hid (TB.out.non (Upd.refl Non _).drew)
      have BD := Lib.hid (BB.non (Upd.refl Non _).drew)
      clear BB rB TB
      rw [hsE.out] at c0
      go_still_tail 8, (by kernel_rfl)
      change wpList _ _ _ _ _ (World.drew _)
      go_wp2_with (first
        | (go_at_call 17; refine Calls.mono (rdecimal_any s s (Nat.le_refl _) (by omega) _) ?_; rintro e w3 ⟨rfl, u3⟩)
        | fail)
      have R3 := Lib.hid (RD.out.non u3)
      have T3 := Lib.hid (TD.out.non u3)
      have B3 := Lib.hid (BD.out.non u3)
      clear RD TD BD u3 c0 lg b1 lb
      have t3 := R3.out.rg hk hg.out
      have c1 := t3.mr.l0 hp
      have c2 := t3.mr.l1 hp
      have c3 := t3.mr.l2 hp
      have lg := t3.lt
      have b1 := B3.out.c1
      have lb := B3.out.lt
      rw [hqE.out] at c1 c2 c3
      dsimp only at c1 c2 c3
      clear t3
      go_region
      go_wp2_with fail
      go_ret
      exact ⟨rfl, _, (T3.out.drew).alloc _⟩
    | true =>
      obtain ⟨_, f0, f1⟩ := here rfl
      have f0 : 0 ≤ frame := f0
      have f1 : frame < H.p.n := f1
      obtain ⟨f, rfl⟩ := Int.eq_ofNat_of_zero_le f0
      have hfn : f < H.p.n := Int.ofNat_lt.1 f1
      obtain ⟨q, hr, hr2⟩ := refs_nat hI0 hfn
      have hrE := Lib.hid hr
      have hf64 := r.rp.n64
      have hf2 : (f : Int) < 64 := by omega
      have zr := numS_size (n := q) (by omega)
      clear hf64
      cases write with
      | true =>
        have HP := Lib.hid (show pageS H k p = numS s ++ { data := #[32, 111, 119, 110, 32] } ++ numS q by
          unfold pageS
          rw [hS0, hL0]
          show numS s ++ ownS ++ spB ++ numS (H.p.refs f).toNat = _
          rw [hr, ba_assoc (numS s) ownS spB]
          rfl)
        rw [HP.out]
        have z1 : ({ data := #[32, 111, 119, 110, 32] } : ByteArray).size ≤ 8 := Nat.le_of_ble_eq_true rfl
        have z2 : (numS s ++ ({ data := #[32, 111, 119, 110, 32] } : ByteArray)).size ≤ 1000020 := by rw [ByteArray.size_append]; omega
        clear hS0 hL0 hs here hq ho b0 b1 hg0 t2 hr f0 f1
        go_enter Tryz.func31, Tryz.ntmps31
        go_upto_region 18 with (first
          | (go_at_call 40; refine (ron_any _ _).mono ?_; rw [hon.out]; rintro e w1 ⟨rfl, rfl⟩)
          | fail)
        have UB := (Upd.refl Non w).alloc (.cells #[.int .i64 k, .int .i64 p, .int .i64 c] 53)
        have BB := Box3.new w k p c
        generalize w.alloc (.cells #[.int .i64 k, .int .i64 p, .int .i64 c] 53) = wB at UB BB ⊢
        generalize w.heap.size = Bx at BB ⊢
        clear lg c0 c1 c2 c3
        have rB := Lib.hid (r.non UB)
        have TB := Lib.hid (T.non UB)
        clear UB T
        have tB := rB.out.rg hk hg.out
        have c0 := tB.mr.st hp
        have lg := tB.lt
        have b1 := BB.c1
        have lb := BB.lt
        clear tB
        have RD := Lib.hid (rB.out.non (Upd.refl Non _).drew)
        have TD := Lib.hid (TB.out.non (Upd.refl Non _).drew)
        have BD := Lib.hid (BB.non (Upd.refl Non _).drew)
        clear BB rB TB
        rw [hsE.out] at c0
        go_still_tail 8, (by kernel_rfl)
        change wpList _ _ _ _ _ (World.drew _)
        go_wp2_with (first
          | (go_at_call 17; refine Calls.mono (rdecimal_any s s (Nat.le_refl _) (by omega) _) ?_; rintro e w3 ⟨rfl, u3⟩)
          | fail)
        have R3 := Lib.hid (RD.out.non u3)
        have T3 := Lib.hid (TD.out.non u3)
        have B3 := Lib.hid (BD.out.non u3)
        clear RD TD BD u3 c0 lg b1 lb
        have t3 := R3.out.rg hk hg.out
        have c1 := t3.mr.l0 hp
        have c2 := t3.mr.l1 hp
        have c3 := t3.mr.l2 hp
        have lg := t3.lt
        have b1 := B3.out.c1
        have lb := B3.out.lt
        rw [hqE.out] at c1 c2 c3
        dsimp only at c1 c2 c3
        clear t3
        go_region
        go_upto_region 25 with fail
        have U5 := ((Upd.refl Non w3).alloc (.cells #[.bool true, .bool true, .int .i64 f] 88)).drew
        have R5 := Lib.hid (R3.out.non U5)
        have T5 := Lib.hid (T3.out.non U5)
        have c5 : (w3.alloc (.cells #[.bool true, .bool true, .int .i64 f] 88)).drew.cell? ⟨w3.heap.size, 2, none⟩ = some (.int .i64 f) := (leafbox w3 (.bool true) (.bool true) (.int .i64 f)).2.2
        have l5 : w3.heap.size < (w3.alloc (.cells #[.bool true, .bool true, .int .i64 f] 88)).drew.heap.size := by simp
        clear U5 R3 T3 B3 c1 c2 c3 lg b1 lb
        generalize (w3.alloc (.cells #[.bool true, .bool true, .int .i64 f] 88)).drew = w5 at R5 T5 c5 l5 ⊢
        generalize w3.heap.size = B5 at c5 l5 ⊢
        have cr := R5.out.rp.ref hfn
        have lm : m < w5.heap.size := by obtain ⟨cc, hR, _⟩ := R5.out.rp.row; exact hR.lt
        rw [hrE.out] at cr
        go_region_with (go_at_call 17; refine Calls.mono (rdecimal_any q q (Nat.le_refl _) (by omega) _) ?_; rintro e w6 ⟨rfl, u6⟩)
        all_goals go_wp2_with fail
        all_goals go_ret
        all_goals exact ⟨rfl, _, (T5.out.drew).non u6⟩
      | false =>
        have HP := Lib.hid (show pageS H k p = numS s ++ { data := #[32, 115, 101, 97, 108, 101, 100, 32] } ++ numS q by
          unfold pageS
          rw [hS0, hL0]
          show numS s ++ sealedS ++ spB ++ numS (H.p.refs f).toNat = _
          rw [hr, ba_assoc (numS s) sealedS spB]
          rfl)
        rw [HP.out]
        have z1 : ({ data := #[32, 115, 101, 97, 108, 101, 100, 32] } : ByteArray).size ≤ 8 := Nat.le_of_ble_eq_true rfl
        have z2 : (numS s ++ ({ data := #[32, 115, 101, 97, 108, 101, 100, 32] } : ByteArray)).size ≤ 1000020 := by rw [ByteArray.size_append]; omega
        clear hS0 hL0 hs here hq ho b0 b1 hg0 t2 hr f0 f1
        go_enter Tryz.func31, Tryz.ntmps31
        go_upto_region 18 with (first
          | (go_at_call 40; refine (ron_any _ _).mono ?_; rw [hon.out]; rintro e w1 ⟨rfl, rfl⟩)
          | fail)
        have UB := (Upd.refl Non w).alloc (.cells #[.int .i64 k, .int .i64 p, .int .i64 c] 53)
        have BB := Box3.new w k p c
        generalize w.alloc (.cells #[.int .i64 k, .int .i64 p, .int .i64 c] 53) = wB at UB BB ⊢
        generalize w.heap.size = Bx at BB ⊢
        clear lg c0 c1 c2 c3
        have rB := Lib.hid (r.non UB)
        have TB := Lib.hid (T.non UB)
        clear UB T
        have tB := rB.out.rg hk hg.out
        have c0 := tB.mr.st hp
        have lg := tB.lt
        have b1 := BB.c1
        have lb := BB.lt
        clear tB
        have RD := Lib.hid (rB.out.non (Upd.refl Non _).drew)
        have TD := Lib.hid (TB.out.non (Upd.refl Non _).drew)
        have BD := Lib.hid (BB.non (Upd.refl Non _).drew)
        clear BB rB TB
        rw [hsE.out] at c0
        go_still_tail 8, (by kernel_rfl)
        change wpList _ _ _ _ _ (World.drew _)
        go_wp2_with (first
          | (go_at_call 17; refine Calls.mono (rdecimal_any s s (Nat.le_refl _) (by omega) _) ?_; rintro e w3 ⟨rfl, u3⟩)
          | fail)
        have R3 := Lib.hid (RD.out.non u3)
        have T3 := Lib.hid (TD.out.non u3)
        have B3 := Lib.hid (BD.out.non u3)
        clear RD TD BD u3 c0 lg b1 lb
        have t3 := R3.out.rg hk hg.out
        have c1 := t3.mr.l0 hp
        have c2 := t3.mr.l1 hp
        have c3 := t3.mr.l2 hp
        have lg := t3.lt
        have b1 := B3.out.c1
        have lb := B3.out.lt
        rw [hqE.out] at c1 c2 c3
        dsimp only at c1 c2 c3
        clear t3
        go_region
        go_upto_region 25 with fail
        have U5 := ((Upd.refl Non w3).alloc (.cells #[.bool true, .bool false, .int .i64 f] 88)).drew
        have R5 := Lib.hid (R3.out.non U5)
        have T5 := Lib.hid (T3.out.non U5)
        have c5 : (w3.alloc (.cells #[.bool true, .bool false, .int .i64 f] 88)).drew.cell? ⟨w3.heap.size, 2, none⟩ = some (.int .i64 f) := (leafbox w3 (.bool true) (.bool false) (.int .i64 f)).2.2
        have l5 : w3.heap.size < (w3.alloc (.cells #[.bool true, .bool false, .int .i64 f] 88)).drew.heap.size := by simp
        clear U5 R3 T3 B3 c1 c2 c3 lg b1 lb
        generalize (w3.alloc (.cells #[.bool true, .bool false, .int .i64 f] 88)).drew = w5 at R5 T5 c5 l5 ⊢
        generalize w3.heap.size = B5 at c5 l5 ⊢
        have cr := R5.out.rp.ref hfn
        have lm : m < w5.heap.size := by obtain ⟨cc, hR, _⟩ := R5.out.rp.row; exact hR.lt
        rw [hrE.out] at cr
        go_region_with (go_at_call 17; refine Calls.mono (rdecimal_any q q (Nat.le_refl _) (by omega) _) ?_; rintro e w6 ⟨rfl, u6⟩)
        all_goals go_wp2_with fail
        all_goals go_ret
        all_goals exact ⟨rfl, _, (T5.out.drew).non u6⟩
  · have hon : Hid (onB b = false) := by show _ = _; simpa using ho
    have HP := Lib.hid (pageS_err (show hstate H k b = (0, 0 + 1) by unfold hstate; rw [if_neg (by omega), Int.toNat_natCast, hg0]; show mstate G.m b = _; unfold mstate; rw [if_neg ho]) (by omega))
    rw [HP.out]
    clear ho hg0
    go_enter Tryz.func31, Tryz.ntmps31
    go_wp2_with (first
      | (go_at_call 40; refine (ron_any _ _).mono ?_; rw [hon.out]; rintro e w1 ⟨rfl, rfl⟩)
      | (go_at_call 14; refine Calls.mono (rfault_any _ 1 (by omega)) ?_; rintro e w3 ⟨rfl, u3⟩; have T3 := RH.non (by repeat (first | assumption | apply RH.drew | apply RH.drewN | apply RH.alloc)) u3)
      | fail)
    go_ret
    exact ⟨rfl, _, T3⟩
end

end U
end Go.Proofs.YtnhplapcdgnaaaaGreatDoor
