import Derived.Test.YtnhplapcdgnaaaaGreatDoorConPX
import Derived.Test.YtnhplapcdgnaaaaGreatDoorHostQm
set_option linter.unusedVariables false
set_option linter.unusedSimpArgs false
namespace Go.Proofs.YtnhplapcdgnaaaaGreatDoor
open Go.RowKit
namespace U

/-! The program's console: do (written by gen_condo.py). -/
structure CN (w0 w1 : World) (S : Nat → Prop) (W : World) (h : Nat) (L : PoolAt) (K : Nat → GAt) (H : HostM) (g o : Nat) (ns : List Int) : Prop where
  a : HW w0 W h L K H
  ph : PH S w1 W h L K H
  c : ∀ i x, ns[i]? = some x → W.cell? ⟨g, o + i, none⟩ = some (.int .i64 x)
  off : ns ≠ [] → ¬ ownH h L K H g
  lt : ns ≠ [] → g < W.heap.size
  lw : LW w0
section
variable {w0 w1 W W' : World} {S : Nat → Prop} {h g o : Nat} {L : PoolAt} {K K2 : Nat → GAt} {H H2 : HostM} {ns : List Int}
theorem ne_of_get {i : Nat} {x : Int} (h : ns[i]? = some x) : ns ≠ [] := fun e => by rw [e] at h; cases h
theorem CN.non (t : CN w0 w1 S W h L K H g o ns) (u : Upd Non W W') : CN w0 w1 S W' h L K H g o ns :=
  ⟨t.a.non u, t.ph.non u, fun i x hx => u.cell (t.c i x hx) (fun h => h), t.off, fun e => Nat.lt_of_lt_of_le (t.lt e) u.size, t.lw⟩
theorem CN.alloc (t : CN w0 w1 S W h L K H g o ns) (b : Obj) : CN w0 w1 S (W.alloc b) h L K H g o ns := t.non ((Upd.refl _ _).alloc b)
theorem CN.drew (t : CN w0 w1 S W h L K H g o ns) : CN w0 w1 S W.drew h L K H g o ns := t.non (Upd.refl _ _).drew
theorem CN.drewN (t : CN w0 w1 S W h L K H g o ns) (n : Nat) : CN w0 w1 S (W.drewN n) h L K H g o ns := t.non ((Upd.refl _ _).drewN n)
theorem CN.act (t : CN w0 w1 S W h L K H g o ns) (s : PH (ownH h L K H) W W' h L K2 H2) : CN w0 w1 S W' h L K2 H2 g o ns :=
  ⟨t.a.act s, t.ph.trans s, fun i x hx => s.up.cell (t.c i x hx) (t.off (ne_of_get hx)), fun e k => (s.own g k).elim (t.off e) (fun e2 => by have := t.lt e; omega), fun e => Nat.lt_of_lt_of_le (t.lt e) s.up.size, t.lw⟩
theorem CN.lww (t : CN w0 w1 S W h L K H g o ns) : LW W := t.lw.upd t.a.up
theorem CN.a0 {a : Int} {r : List Int} (t : CN w0 w1 S W h L K H g o (a :: r)) : W.cell? ⟨g, o, none⟩ = some (.int .i64 a) := t.c 0 a rfl
theorem CN.a1 {a b : Int} {r : List Int} (t : CN w0 w1 S W h L K H g o (a :: b :: r)) : W.cell? ⟨g, o + 1, none⟩ = some (.int .i64 b) := t.c 1 b rfl
theorem CN.a2 {a b c : Int} {r : List Int} (t : CN w0 w1 S W h L K H g o (a :: b :: c :: r)) : W.cell? ⟨g, o + 2, none⟩ = some (.int .i64 c) := t.c 2 c rfl
end
def DoPost (w : World) (h : Nat) (L : PoolAt) (K : Nat → GAt) (H : HostM) (x : HostM × ByteArray) (e : Ending) (w' : World) : Prop :=
  e = .returned (.string x.2) ∧ ∃ K', PH (ownH h L K H) w w' h L K' x.1
theorem test_codes {x : ByteArray} {l m : List UInt8} (h : x.data.toList = l) {b : Bool} (e : (l == m) = b) : (x.toList == m) = b := by rw [toList_dat, h]; exact e
section
variable {w0 w : World} {h g o : Nat} {L : PoolAt} {K : Nat → GAt} {H : HostM}
set_option maxRecDepth 100000 in
set_option maxHeartbeats 8000000 in
theorem do_add (v : Value) {cap : Nat} (T : CN w0 w (ownH h L K H) w h L K H g o []) (hI0 : HInv H) (x : ByteArray) (hx : x.data.toList = [97, 100, 100]) :
    Calls Tryz.prog 37 #[.pointer (some ⟨h, 0, none⟩), .string x, v] w (DoPost w h L K H (cdo H .add 0 0 0)) := by
  have hI := Lib.hid hI0
  clear hI0
  have h0 := test_codes hx (m := [97, 100, 100]) (b := true) rfl
  clear hx
  obtain ⟨⟨k, hk, hk2⟩, he⟩ := hadd_le H
  have HA := Lib.hid (show (cdo H .add 0 0 0) = ((hadd H).1, toldS k (hadd H).2.2) by unfold cdo; dsimp only; rw [hk]; rfl)
  rw [HA.out]
  go_enter Tryz.func37, Tryz.ntmps37
  go_wp2_with (first
    | (go_at_call 53; refine Calls.mono (hadd_any (HW.r (CN.a (by repeat (first | assumption | apply CN.drew | apply CN.drewN | apply CN.alloc))))) ?_; unfold HAddPost; rw [hk]; rintro e w2 ⟨rfl, K2, s2⟩; have T2 := CN.act (by repeat (first | assumption | apply CN.drew | apply CN.drewN | apply CN.alloc)) s2)
    | (go_at_call 52; refine Calls.mono (told_any T2.lww k _ (by omega) (by omega)) ?_; rintro e w3 ⟨rfl, u3⟩; have T3 := CN.non T2 u3)
    | fail)
  all_goals go_ret
  all_goals exact ⟨rfl, _, CN.ph (by repeat (first | assumption | apply CN.drew | apply CN.drewN | apply CN.alloc))⟩
set_option maxRecDepth 100000 in
set_option maxHeartbeats 8000000 in
theorem do_remove (a : Int) {cap : Nat} (T : CN w0 w (ownH h L K H) w h L K H g o [a]) (hI0 : HInv H) (x : ByteArray) (hx : x.data.toList = [114, 101, 109, 111, 118, 101]) :
    Calls Tryz.prog 37 #[.pointer (some ⟨h, 0, none⟩), .string x, .slice (some ⟨g, o, none⟩) 1 cap] w (DoPost w h L K H (cdo H .remove a 0 0)) := by
  have hI := Lib.hid hI0
  clear hI0
  have h0 := test_codes hx (m := [97, 100, 100]) (b := false) rfl
  have h1 := test_codes hx (m := [114, 101, 109, 111, 118, 101]) (b := true) rfl
  have a0 := T.a0
  clear hx
  have he := hremove_le H a
  have hc := Lib.hid (fun W (r : HRep W h L K H) => hremove_any r hI.out a)
  show Calls Tryz.prog 37 _ w (DoPost w h L K H ((hremove H a).1, doneS (hremove H a).2))
  generalize hremove H a = y at he hc ⊢
  obtain ⟨H2, e⟩ := y
  unfold HPost at hc
  dsimp only at he hc ⊢
  go_enter Tryz.func37, Tryz.ntmps37
  go_wp2_with (first
    | (go_at_call 55; refine Calls.mono (hc.out _ (HW.r (CN.a (by repeat (first | assumption | apply CN.drew | apply CN.drewN | apply CN.alloc))))) ?_; rintro e w2 ⟨rfl, K2, s2⟩; have T2 := CN.act (by repeat (first | assumption | apply CN.drew | apply CN.drewN | apply CN.alloc)) s2)
    | (go_at_call 54; refine Calls.mono (done_any T2.lww _ (Nat.le_trans (he) (Nat.le_of_ble_eq_true rfl))) ?_; rintro e w3 ⟨rfl, u3⟩; have T3 := CN.non T2 u3)
    | fail)
  all_goals go_ret
  all_goals exact ⟨rfl, _, CN.ph (by repeat (first | assumption | apply CN.drew | apply CN.drewN | apply CN.alloc))⟩
set_option maxRecDepth 100000 in
set_option maxHeartbeats 8000000 in
theorem do_plug (a b : Int) {cap : Nat} (T : CN w0 w (ownH h L K H) w h L K H g o [a, b]) (hI0 : HInv H) (x : ByteArray) (hx : x.data.toList = [112, 108, 117, 103]) :
    Calls Tryz.prog 37 #[.pointer (some ⟨h, 0, none⟩), .string x, .slice (some ⟨g, o, none⟩) 2 cap] w (DoPost w h L K H (cdo H .plug a b 0)) := by
  have hI := Lib.hid hI0
  clear hI0
  have h0 := test_codes hx (m := [97, 100, 100]) (b := false) rfl
  have h1 := test_codes hx (m := [114, 101, 109, 111, 118, 101]) (b := false) rfl
  have h2 := test_codes hx (m := [112, 108, 117, 103]) (b := true) rfl
  have a0 := T.a0
  have a1 := T.a1
  clear hx
  have he := hplug_le H a b
  have hc := Lib.hid (fun W (r : HRep W h L K H) => hplug_any r hI.out a b)
  show Calls Tryz.prog 37 _ w (DoPost w h L K H ((hplug H a b).1, doneS (hplug H a b).2))
  generalize hplug H a b = y at he hc ⊢
  obtain ⟨H2, e⟩ := y
  unfold HPost at hc
  dsimp only at he hc ⊢
  go_enter Tryz.func37, Tryz.ntmps37
  go_wp2_with fail
  go_region_held3 (fun w' => w'.cell? ⟨g, o, none⟩ = some (.int .i64 a) ∧ w'.cell? ⟨g, o + 1, none⟩ = some (.int .i64 b)) (first | exact ⟨T3.a0, T3.a1⟩ | exact ⟨T2.a0, T2.a1⟩ | exact ⟨a0, a1⟩ | simp) (first
    | (go_at_call 56; refine Calls.mono (hc.out _ (HW.r (CN.a (by repeat (first | assumption | apply CN.drew | apply CN.drewN | apply CN.alloc))))) ?_; rintro e w2 ⟨rfl, K2, s2⟩; have T2 := CN.act (by repeat (first | assumption | apply CN.drew | apply CN.drewN | apply CN.alloc)) s2; have a0' := T2.a0; have a1' := T2.a1)
    | (go_at_call 54; refine Calls.mono (done_any T2.lww _ (Nat.le_trans (he) (Nat.le_of_ble_eq_true rfl))) ?_; rintro e w3 ⟨rfl, u3⟩; have T3 := CN.non T2 u3))
  all_goals go_wp2
  all_goals go_ret
  all_goals exact ⟨rfl, _, CN.ph (by repeat (first | assumption | apply CN.drew | apply CN.drewN | apply CN.alloc))⟩
set_option maxRecDepth 100000 in
set_option maxHeartbeats 8000000 in
theorem do_unplug (a b : Int) {cap : Nat} (T : CN w0 w (ownH h L K H) w h L K H g o [a, b]) (hI0 : HInv H) (x : ByteArray) (hx : x.data.toList = [117, 110, 112, 108, 117, 103]) :
    Calls Tryz.prog 37 #[.pointer (some ⟨h, 0, none⟩), .string x, .slice (some ⟨g, o, none⟩) 2 cap] w (DoPost w h L K H (cdo H .unplug a b 0)) := by
  have hI := Lib.hid hI0
  clear hI0
  have h0 := test_codes hx (m := [97, 100, 100]) (b := false) rfl
  have h1 := test_codes hx (m := [114, 101, 109, 111, 118, 101]) (b := false) rfl
  have h2 := test_codes hx (m := [112, 108, 117, 103]) (b := false) rfl
  have h3 := test_codes hx (m := [117, 110, 112, 108, 117, 103]) (b := true) rfl
  have a0 := T.a0
  have a1 := T.a1
  clear hx
  have he := hunplug_le H a b
  have hc := Lib.hid (fun W (r : HRep W h L K H) => hunplug_any r hI.out a b)
  show Calls Tryz.prog 37 _ w (DoPost w h L K H ((hunplug H a b).1, doneS (hunplug H a b).2))
  generalize hunplug H a b = y at he hc ⊢
  obtain ⟨H2, e⟩ := y
  unfold HPost at hc
  dsimp only at he hc ⊢
  go_enter Tryz.func37, Tryz.ntmps37
  go_wp2_with fail
  go_region_held3 (fun w' => w'.cell? ⟨g, o, none⟩ = some (.int .i64 a) ∧ w'.cell? ⟨g, o + 1, none⟩ = some (.int .i64 b)) (first | exact ⟨T3.a0, T3.a1⟩ | exact ⟨T2.a0, T2.a1⟩ | exact ⟨a0, a1⟩ | simp) (first
    | (go_at_call 57; refine Calls.mono (hc.out _ (HW.r (CN.a (by repeat (first | assumption | apply CN.drew | apply CN.drewN | apply CN.alloc))))) ?_; rintro e w2 ⟨rfl, K2, s2⟩; have T2 := CN.act (by repeat (first | assumption | apply CN.drew | apply CN.drewN | apply CN.alloc)) s2; have a0' := T2.a0; have a1' := T2.a1)
    | (go_at_call 54; refine Calls.mono (done_any T2.lww _ (Nat.le_trans (he) (Nat.le_of_ble_eq_true rfl))) ?_; rintro e w3 ⟨rfl, u3⟩; have T3 := CN.non T2 u3))
  all_goals go_wp2
  all_goals go_ret
  all_goals exact ⟨rfl, _, CN.ph (by repeat (first | assumption | apply CN.drew | apply CN.drewN | apply CN.alloc))⟩
set_option maxRecDepth 100000 in
set_option maxHeartbeats 8000000 in
theorem do_give (a b : Int) {cap : Nat} (T : CN w0 w (ownH h L K H) w h L K H g o [a, b]) (hI0 : HInv H) (x : ByteArray) (hx : x.data.toList = [103, 105, 118, 101]) :
    Calls Tryz.prog 37 #[.pointer (some ⟨h, 0, none⟩), .string x, .slice (some ⟨g, o, none⟩) 2 cap] w (DoPost w h L K H (cdo H .give a b 0)) := by
  have hI := Lib.hid hI0
  clear hI0
  have h0 := test_codes hx (m := [97, 100, 100]) (b := false) rfl
  have h1 := test_codes hx (m := [114, 101, 109, 111, 118, 101]) (b := false) rfl
  have h2 := test_codes hx (m := [112, 108, 117, 103]) (b := false) rfl
  have h3 := test_codes hx (m := [117, 110, 112, 108, 117, 103]) (b := false) rfl
  have h4 := test_codes hx (m := [103, 105, 118, 101]) (b := true) rfl
  have a0 := T.a0
  have a1 := T.a1
  clear hx
  have he := hgive_le H a b
  have hc := Lib.hid (fun W (r : HRep W h L K H) => hgive_any r hI.out a b)
  show Calls Tryz.prog 37 _ w (DoPost w h L K H ((hgive H a b).1, doneS (hgive H a b).2))
  generalize hgive H a b = y at he hc ⊢
  obtain ⟨H2, e⟩ := y
  unfold HPost at hc
  dsimp only at he hc ⊢
  go_enter Tryz.func37, Tryz.ntmps37
  go_wp2_with fail
  go_region_held3 (fun w' => w'.cell? ⟨g, o, none⟩ = some (.int .i64 a) ∧ w'.cell? ⟨g, o + 1, none⟩ = some (.int .i64 b)) (first | exact ⟨T3.a0, T3.a1⟩ | exact ⟨T2.a0, T2.a1⟩ | exact ⟨a0, a1⟩ | simp) (first
    | (go_at_call 58; refine Calls.mono (hc.out _ (HW.r (CN.a (by repeat (first | assumption | apply CN.drew | apply CN.drewN | apply CN.alloc))))) ?_; rintro e w2 ⟨rfl, K2, s2⟩; have T2 := CN.act (by repeat (first | assumption | apply CN.drew | apply CN.drewN | apply CN.alloc)) s2; have a0' := T2.a0; have a1' := T2.a1)
    | (go_at_call 54; refine Calls.mono (done_any T2.lww _ (Nat.le_trans (he) (Nat.le_of_ble_eq_true rfl))) ?_; rintro e w3 ⟨rfl, u3⟩; have T3 := CN.non T2 u3))
  all_goals go_wp2
  all_goals go_ret
  all_goals exact ⟨rfl, _, CN.ph (by repeat (first | assumption | apply CN.drew | apply CN.drewN | apply CN.alloc))⟩
set_option maxRecDepth 100000 in
set_option maxHeartbeats 8000000 in
theorem do_back (a b : Int) {cap : Nat} (T : CN w0 w (ownH h L K H) w h L K H g o [a, b]) (hI0 : HInv H) (x : ByteArray) (hx : x.data.toList = [98, 97, 99, 107]) :
    Calls Tryz.prog 37 #[.pointer (some ⟨h, 0, none⟩), .string x, .slice (some ⟨g, o, none⟩) 2 cap] w (DoPost w h L K H (cdo H .back a b 0)) := by
  have hI := Lib.hid hI0
  clear hI0
  have h0 := test_codes hx (m := [97, 100, 100]) (b := false) rfl
  have h1 := test_codes hx (m := [114, 101, 109, 111, 118, 101]) (b := false) rfl
  have h2 := test_codes hx (m := [112, 108, 117, 103]) (b := false) rfl
  have h3 := test_codes hx (m := [117, 110, 112, 108, 117, 103]) (b := false) rfl
  have h4 := test_codes hx (m := [103, 105, 118, 101]) (b := false) rfl
  have h5 := test_codes hx (m := [98, 97, 99, 107]) (b := true) rfl
  have a0 := T.a0
  have a1 := T.a1
  clear hx
  have he := hback_le H a b
  have hc := Lib.hid (fun W (r : HRep W h L K H) => hback_any r hI.out a b)
  show Calls Tryz.prog 37 _ w (DoPost w h L K H ((hback H a b).1, doneS (hback H a b).2))
  generalize hback H a b = y at he hc ⊢
  obtain ⟨H2, e⟩ := y
  unfold HPost at hc
  dsimp only at he hc ⊢
  go_enter Tryz.func37, Tryz.ntmps37
  go_wp2_with fail
  go_region_held3 (fun w' => w'.cell? ⟨g, o, none⟩ = some (.int .i64 a) ∧ w'.cell? ⟨g, o + 1, none⟩ = some (.int .i64 b)) (first | exact ⟨T3.a0, T3.a1⟩ | exact ⟨T2.a0, T2.a1⟩ | exact ⟨a0, a1⟩ | simp) (first
    | (go_at_call 59; refine Calls.mono (hc.out _ (HW.r (CN.a (by repeat (first | assumption | apply CN.drew | apply CN.drewN | apply CN.alloc))))) ?_; rintro e w2 ⟨rfl, K2, s2⟩; have T2 := CN.act (by repeat (first | assumption | apply CN.drew | apply CN.drewN | apply CN.alloc)) s2; have a0' := T2.a0; have a1' := T2.a1)
    | (go_at_call 54; refine Calls.mono (done_any T2.lww _ (Nat.le_trans (he) (Nat.le_of_ble_eq_true rfl))) ?_; rintro e w3 ⟨rfl, u3⟩; have T3 := CN.non T2 u3))
  all_goals go_wp2
  all_goals go_ret
  all_goals exact ⟨rfl, _, CN.ph (by repeat (first | assumption | apply CN.drew | apply CN.drewN | apply CN.alloc))⟩
set_option maxRecDepth 100000 in
set_option maxHeartbeats 8000000 in
theorem do_root (a b : Int) {cap : Nat} (T : CN w0 w (ownH h L K H) w h L K H g o [a, b]) (hI0 : HInv H) (x : ByteArray) (hx : x.data.toList = [114, 111, 111, 116]) :
    Calls Tryz.prog 37 #[.pointer (some ⟨h, 0, none⟩), .string x, .slice (some ⟨g, o, none⟩) 2 cap] w (DoPost w h L K H (cdo H .root a b 0)) := by
  have hI := Lib.hid hI0
  clear hI0
  have h0 := test_codes hx (m := [97, 100, 100]) (b := false) rfl
  have h1 := test_codes hx (m := [114, 101, 109, 111, 118, 101]) (b := false) rfl
  have h2 := test_codes hx (m := [112, 108, 117, 103]) (b := false) rfl
  have h3 := test_codes hx (m := [117, 110, 112, 108, 117, 103]) (b := false) rfl
  have h4 := test_codes hx (m := [103, 105, 118, 101]) (b := false) rfl
  have h5 := test_codes hx (m := [98, 97, 99, 107]) (b := false) rfl
  have h6 := test_codes hx (m := [108, 111, 97, 100]) (b := false) rfl
  have h7 := test_codes hx (m := [115, 116, 111, 114, 101]) (b := false) rfl
  have h8 := test_codes hx (m := [114, 111, 111, 116]) (b := true) rfl
  have a0 := T.a0
  have a1 := T.a1
  clear hx
  have he := hroot_le H a b
  have hc := Lib.hid (fun W (r : HRep W h L K H) => hroot_any r hI.out a b)
  show Calls Tryz.prog 37 _ w (DoPost w h L K H ((hroot H a b).1, doneS (hroot H a b).2))
  generalize hroot H a b = y at he hc ⊢
  obtain ⟨H2, e⟩ := y
  unfold HPost at hc
  dsimp only at he hc ⊢
  go_enter Tryz.func37, Tryz.ntmps37
  go_wp2_with fail
  go_region_held3 (fun w' => w'.cell? ⟨g, o, none⟩ = some (.int .i64 a) ∧ w'.cell? ⟨g, o + 1, none⟩ = some (.int .i64 b)) (first | exact ⟨T3.a0, T3.a1⟩ | exact ⟨T2.a0, T2.a1⟩ | exact ⟨a0, a1⟩ | simp) (first
    | (go_at_call 62; refine Calls.mono (hc.out _ (HW.r (CN.a (by repeat (first | assumption | apply CN.drew | apply CN.drewN | apply CN.alloc))))) ?_; rintro e w2 ⟨rfl, K2, s2⟩; have T2 := CN.act (by repeat (first | assumption | apply CN.drew | apply CN.drewN | apply CN.alloc)) s2; have a0' := T2.a0; have a1' := T2.a1)
    | (go_at_call 54; refine Calls.mono (done_any T2.lww _ (Nat.le_trans (he) (Nat.le_of_ble_eq_true rfl))) ?_; rintro e w3 ⟨rfl, u3⟩; have T3 := CN.non T2 u3))
  all_goals go_wp2
  all_goals go_ret
  all_goals exact ⟨rfl, _, CN.ph (by repeat (first | assumption | apply CN.drew | apply CN.drewN | apply CN.alloc))⟩
set_option maxRecDepth 100000 in
set_option maxHeartbeats 8000000 in
theorem do_forget (a b : Int) {cap : Nat} (T : CN w0 w (ownH h L K H) w h L K H g o [a, b]) (hI0 : HInv H) (x : ByteArray) (hx : x.data.toList = [102, 111, 114, 103, 101, 116]) :
    Calls Tryz.prog 37 #[.pointer (some ⟨h, 0, none⟩), .string x, .slice (some ⟨g, o, none⟩) 2 cap] w (DoPost w h L K H (cdo H .forget a b 0)) := by
  have hI := Lib.hid hI0
  clear hI0
  have h0 := test_codes hx (m := [97, 100, 100]) (b := false) rfl
  have h1 := test_codes hx (m := [114, 101, 109, 111, 118, 101]) (b := false) rfl
  have h2 := test_codes hx (m := [112, 108, 117, 103]) (b := false) rfl
  have h3 := test_codes hx (m := [117, 110, 112, 108, 117, 103]) (b := false) rfl
  have h4 := test_codes hx (m := [103, 105, 118, 101]) (b := false) rfl
  have h5 := test_codes hx (m := [98, 97, 99, 107]) (b := false) rfl
  have h6 := test_codes hx (m := [108, 111, 97, 100]) (b := false) rfl
  have h7 := test_codes hx (m := [115, 116, 111, 114, 101]) (b := false) rfl
  have h8 := test_codes hx (m := [114, 111, 111, 116]) (b := false) rfl
  have h9 := test_codes hx (m := [102, 111, 114, 103, 101, 116]) (b := true) rfl
  have a0 := T.a0
  have a1 := T.a1
  clear hx
  have he := hforget_le H a b
  have hc := Lib.hid (fun W (r : HRep W h L K H) => hforget_any r hI.out a b)
  show Calls Tryz.prog 37 _ w (DoPost w h L K H ((hforget H a b).1, doneS (hforget H a b).2))
  generalize hforget H a b = y at he hc ⊢
  obtain ⟨H2, e⟩ := y
  unfold HPost at hc
  dsimp only at he hc ⊢
  go_enter Tryz.func37, Tryz.ntmps37
  go_wp2_with fail
  go_region_held3 (fun w' => w'.cell? ⟨g, o, none⟩ = some (.int .i64 a) ∧ w'.cell? ⟨g, o + 1, none⟩ = some (.int .i64 b)) (first | exact ⟨T3.a0, T3.a1⟩ | exact ⟨T2.a0, T2.a1⟩ | exact ⟨a0, a1⟩ | simp) (first
    | (go_at_call 63; refine Calls.mono (hc.out _ (HW.r (CN.a (by repeat (first | assumption | apply CN.drew | apply CN.drewN | apply CN.alloc))))) ?_; rintro e w2 ⟨rfl, K2, s2⟩; have T2 := CN.act (by repeat (first | assumption | apply CN.drew | apply CN.drewN | apply CN.alloc)) s2; have a0' := T2.a0; have a1' := T2.a1)
    | (go_at_call 54; refine Calls.mono (done_any T2.lww _ (Nat.le_trans (he) (Nat.le_of_ble_eq_true rfl))) ?_; rintro e w3 ⟨rfl, u3⟩; have T3 := CN.non T2 u3))
  all_goals go_wp2
  all_goals go_ret
  all_goals exact ⟨rfl, _, CN.ph (by repeat (first | assumption | apply CN.drew | apply CN.drewN | apply CN.alloc))⟩
set_option maxRecDepth 100000 in
set_option maxHeartbeats 8000000 in
theorem do_drop (a b : Int) {cap : Nat} (T : CN w0 w (ownH h L K H) w h L K H g o [a, b]) (hI0 : HInv H) (x : ByteArray) (hx : x.data.toList = [100, 114, 111, 112]) :
    Calls Tryz.prog 37 #[.pointer (some ⟨h, 0, none⟩), .string x, .slice (some ⟨g, o, none⟩) 2 cap] w (DoPost w h L K H (cdo H .drop a b 0)) := by
  have hI := Lib.hid hI0
  clear hI0
  have h0 := test_codes hx (m := [97, 100, 100]) (b := false) rfl
  have h1 := test_codes hx (m := [114, 101, 109, 111, 118, 101]) (b := false) rfl
  have h2 := test_codes hx (m := [112, 108, 117, 103]) (b := false) rfl
  have h3 := test_codes hx (m := [117, 110, 112, 108, 117, 103]) (b := false) rfl
  have h4 := test_codes hx (m := [103, 105, 118, 101]) (b := false) rfl
  have h5 := test_codes hx (m := [98, 97, 99, 107]) (b := false) rfl
  have h6 := test_codes hx (m := [108, 111, 97, 100]) (b := false) rfl
  have h7 := test_codes hx (m := [115, 116, 111, 114, 101]) (b := false) rfl
  have h8 := test_codes hx (m := [114, 111, 111, 116]) (b := false) rfl
  have h9 := test_codes hx (m := [102, 111, 114, 103, 101, 116]) (b := false) rfl
  have h10 := test_codes hx (m := [100, 114, 111, 112]) (b := true) rfl
  have a0 := T.a0
  have a1 := T.a1
  clear hx
  have he := hforgetAll_le H a b
  have hc := Lib.hid (fun W (r : HRep W h L K H) => hforgetAll_any r hI.out a b)
  show Calls Tryz.prog 37 _ w (DoPost w h L K H ((hforgetAll H a b).1, doneS (hforgetAll H a b).2))
  generalize hforgetAll H a b = y at he hc ⊢
  obtain ⟨H2, e⟩ := y
  unfold HPost at hc
  dsimp only at he hc ⊢
  go_enter Tryz.func37, Tryz.ntmps37
  go_wp2_with fail
  go_region_held3 (fun w' => w'.cell? ⟨g, o, none⟩ = some (.int .i64 a) ∧ w'.cell? ⟨g, o + 1, none⟩ = some (.int .i64 b)) (first | exact ⟨T3.a0, T3.a1⟩ | exact ⟨T2.a0, T2.a1⟩ | exact ⟨a0, a1⟩ | simp) (first
    | (go_at_call 64; refine Calls.mono (hc.out _ (HW.r (CN.a (by repeat (first | assumption | apply CN.drew | apply CN.drewN | apply CN.alloc))))) ?_; rintro e w2 ⟨rfl, K2, s2⟩; have T2 := CN.act (by repeat (first | assumption | apply CN.drew | apply CN.drewN | apply CN.alloc)) s2; have a0' := T2.a0; have a1' := T2.a1)
    | (go_at_call 54; refine Calls.mono (done_any T2.lww _ (Nat.le_trans (he) (Nat.le_of_ble_eq_true rfl))) ?_; rintro e w3 ⟨rfl, u3⟩; have T3 := CN.non T2 u3))
  all_goals go_wp2
  all_goals go_ret
  all_goals exact ⟨rfl, _, CN.ph (by repeat (first | assumption | apply CN.drew | apply CN.drewN | apply CN.alloc))⟩
set_option maxRecDepth 100000 in
set_option maxHeartbeats 8000000 in
theorem do_load (a b : Int) {cap : Nat} (T : CN w0 w (ownH h L K H) w h L K H g o [a, b]) (hI0 : HInv H) (x : ByteArray) (hx : x.data.toList = [108, 111, 97, 100]) :
    Calls Tryz.prog 37 #[.pointer (some ⟨h, 0, none⟩), .string x, .slice (some ⟨g, o, none⟩) 2 cap] w (DoPost w h L K H (cdo H .load a b 0)) := by
  have hI := Lib.hid hI0
  clear hI0
  have h0 := test_codes hx (m := [97, 100, 100]) (b := false) rfl
  have h1 := test_codes hx (m := [114, 101, 109, 111, 118, 101]) (b := false) rfl
  have h2 := test_codes hx (m := [112, 108, 117, 103]) (b := false) rfl
  have h3 := test_codes hx (m := [117, 110, 112, 108, 117, 103]) (b := false) rfl
  have h4 := test_codes hx (m := [103, 105, 118, 101]) (b := false) rfl
  have h5 := test_codes hx (m := [98, 97, 99, 107]) (b := false) rfl
  have h6 := test_codes hx (m := [108, 111, 97, 100]) (b := true) rfl
  have a0 := T.a0
  have a1 := T.a1
  clear hx
  have he := hload_le H a b
  have hc := Lib.hid (fun W (r : HRep W h L K H) => hload_any r hI.out a b)
  show Calls Tryz.prog 37 _ w (DoPost w h L K H ((hload H a b).1, toldS (hload H a b).2.1.toNat (hload H a b).2.2))
  generalize hload H a b = y at he hc ⊢
  obtain ⟨H2, v, e⟩ := y
  unfold HLoadPost at hc
  dsimp only at he hc ⊢
  have hv : v.toNat ≤ 1000000 := by have := v.toNat_lt; omega
  go_enter Tryz.func37, Tryz.ntmps37
  go_wp2_with fail
  go_region_held3 (fun w' => w'.cell? ⟨g, o, none⟩ = some (.int .i64 a) ∧ w'.cell? ⟨g, o + 1, none⟩ = some (.int .i64 b)) (first | exact ⟨T2.a0, T2.a1⟩ | exact ⟨a0, a1⟩ | simp) (first
    | (go_at_call 60; refine Calls.mono (hc.out _ (HW.r (CN.a (by repeat (first | assumption | apply CN.drew | apply CN.drewN | apply CN.alloc))))) ?_; rintro e w2 ⟨rfl, K2, s2⟩; have T2 := CN.act (by repeat (first | assumption | apply CN.drew | apply CN.drewN | apply CN.alloc)) s2; have a0' := T2.a0; have a1' := T2.a1))
  all_goals go_wp2_with (first
    | (go_at_call 52; refine Calls.mono (told_any (CN.lww (by repeat (first | exact T2 | apply CN.drew | apply CN.drewN | apply CN.alloc))) v.toNat e hv (Nat.le_trans he (Nat.le_of_ble_eq_true rfl))) ?_; rintro e w3 ⟨rfl, u3⟩; have T3 := CN.non (by repeat (first | exact T2 | apply CN.drew | apply CN.drewN | apply CN.alloc)) u3)
    | fail)
  all_goals go_ret
  all_goals exact ⟨rfl, _, CN.ph (by repeat (first | assumption | apply CN.drew | apply CN.drewN | apply CN.alloc))⟩
end

end U
end Go.Proofs.YtnhplapcdgnaaaaGreatDoor

set_option linter.unusedVariables false
set_option linter.unusedSimpArgs false
namespace Go.Proofs.YtnhplapcdgnaaaaGreatDoor
open Go.RowKit
namespace U

/-! The program's console: do (written by gen_condo.py), the second half. -/
theorem two_row (w : World) (a b : Nat) {g2 : Nat} (hg : w.heap.size = g2) : NRow (w.alloc (.cells #[.int .i64 a, .int .i64 b] 3)) (.slice (some ⟨g2, 0, none⟩) 2 2) ([a, b].map fun (n : Nat) => (n : Int)) := by
  subst hg
  refine NRow.fresh (L := [(a : Int), (b : Int)]) (heap_alloc_new w _) (Nat.le_refl _) (by unfold maxLen; omega) (Nat.le_refl _) ?_
  intro j u hu
  simpa [nflat] using hu
section
variable {w0 w : World} {h g o : Nat} {L : PoolAt} {K : Nat → GAt} {H : HostM}
set_option maxRecDepth 100000 in
set_option maxHeartbeats 8000000 in
theorem do_store (a b c : Int) {cap : Nat} (T : CN w0 w (ownH h L K H) w h L K H g o [a, b, c]) (hI0 : HInv H) (x : ByteArray) (hx : x.data.toList = [115, 116, 111, 114, 101]) :
    Calls Tryz.prog 37 #[.pointer (some ⟨h, 0, none⟩), .string x, .slice (some ⟨g, o, none⟩) 3 cap] w (DoPost w h L K H (cdo H .store a b c)) := by
  have hI := Lib.hid hI0
  clear hI0
  have h0 := test_codes hx (m := [97, 100, 100]) (b := false) rfl
  have h1 := test_codes hx (m := [114, 101, 109, 111, 118, 101]) (b := false) rfl
  have h2 := test_codes hx (m := [112, 108, 117, 103]) (b := false) rfl
  have h3 := test_codes hx (m := [117, 110, 112, 108, 117, 103]) (b := false) rfl
  have h4 := test_codes hx (m := [103, 105, 118, 101]) (b := false) rfl
  have h5 := test_codes hx (m := [98, 97, 99, 107]) (b := false) rfl
  have h6 := test_codes hx (m := [108, 111, 97, 100]) (b := false) rfl
  have h7 := test_codes hx (m := [115, 116, 111, 114, 101]) (b := true) rfl
  have a0 := T.a0
  have a1 := T.a1
  have a2 := T.a2
  clear hx
  by_cases hc0 : c < 0 ∨ 255 < c
  · have HC := Lib.hid (show cdo H .store a b c = (H, faultS 1) by unfold cdo; dsimp only; rw [if_pos hc0])
    rw [HC.out]
    have hq : c < 0 ∨ (¬ c < 0 ∧ 255 < c) := by omega
    clear hc0
    rcases hq with hc1 | ⟨hc1, hc2⟩
    all_goals
      go_enter Tryz.func37, Tryz.ntmps37
      go_wp2_with (first | (go_at_call 35; refine Calls.mono (fault_any T.lww 1 (by omega)) ?_; rintro e w3 ⟨rfl, u3⟩; have T3 := CN.non T u3) | fail)
      go_ret
      exact ⟨rfl, _, CN.ph T3⟩
  · obtain ⟨v, rfl⟩ : ∃ v : UInt8, c = (v.toNat : Nat) := ⟨UInt8.ofNat c.toNat, by rw [UInt8.toNat_ofNat']; omega⟩
    have hv := v.toNat_lt
    have hc1 : ¬ ((v.toNat : Nat) : Int) < 0 := by omega
    have hc2 : ¬ (255 : Int) < ((v.toNat : Nat) : Int) := by omega
    have hw : IntKind.u8.wrap ((v.toNat : Nat) : Int) = ((v.toNat : Nat) : Int) := IntWalk.u8_in _ (by constructor <;> omega)
    have HC := Lib.hid (show cdo H .store a b ((v.toNat : Nat) : Int) = ((hstore H a b v).1, doneS (hstore H a b v).2) by unfold cdo; dsimp only; rw [if_neg hc0, Int.toNat_natCast, UInt8.ofNat_toNat])
    rw [HC.out]
    clear hc0 hv
    have he := hstore_le H a b v
    have hc := Lib.hid (fun W (r : HRep W h L K H) => hstore_any r hI.out a b v)
    generalize hstore H a b v = y at he hc ⊢
    obtain ⟨H2, e⟩ := y
    unfold HPost at hc
    dsimp only at he hc ⊢
    go_enter Tryz.func37, Tryz.ntmps37
    go_wp2_with fail
    go_region_held3 (fun w' => w'.cell? ⟨g, o, none⟩ = some (.int .i64 a) ∧ w'.cell? ⟨g, o + 1, none⟩ = some (.int .i64 b) ∧ w'.cell? ⟨g, o + 2, none⟩ = some (.int .i64 (v.toNat : Nat))) (first | exact ⟨T3.a0, T3.a1, T3.a2⟩ | exact ⟨T2.a0, T2.a1, T2.a2⟩ | exact ⟨a0, a1, a2⟩ | simp) (first
      | (go_at_call 61; refine Calls.mono (hc.out _ (HW.r (CN.a (by repeat (first | assumption | apply CN.drew | apply CN.drewN | apply CN.alloc))))) ?_; rintro e w2 ⟨rfl, K2, s2⟩; have T2 := CN.act (by repeat (first | assumption | apply CN.drew | apply CN.drewN | apply CN.alloc)) s2; have a0' := T2.a0; have a1' := T2.a1; have a2' := T2.a2)
      | (go_at_call 54; refine Calls.mono (done_any T2.lww _ (Nat.le_trans (he) (Nat.le_of_ble_eq_true rfl))) ?_; rintro e w3 ⟨rfl, u3⟩; have T3 := CN.non T2 u3))
    all_goals go_wp2
    all_goals go_ret
    all_goals exact ⟨rfl, _, CN.ph (by repeat (first | assumption | apply CN.drew | apply CN.drewN | apply CN.alloc))⟩
set_option maxRecDepth 100000 in
set_option maxHeartbeats 8000000 in
theorem do_scan (a b : Int) {cap : Nat} (T : CN w0 w (ownH h L K H) w h L K H g o [a, b]) (hI0 : HInv H) (x : ByteArray) (hx : x.data.toList = [115, 99, 97, 110]) :
    Calls Tryz.prog 37 #[.pointer (some ⟨h, 0, none⟩), .string x, .slice (some ⟨g, o, none⟩) 2 cap] w (DoPost w h L K H (cdo H .scan a b 0)) := by
  have hI := Lib.hid hI0
  clear hI0
  have h0 := test_codes hx (m := [97, 100, 100]) (b := false) rfl
  have h1 := test_codes hx (m := [114, 101, 109, 111, 118, 101]) (b := false) rfl
  have h2 := test_codes hx (m := [112, 108, 117, 103]) (b := false) rfl
  have h3 := test_codes hx (m := [117, 110, 112, 108, 117, 103]) (b := false) rfl
  have h4 := test_codes hx (m := [103, 105, 118, 101]) (b := false) rfl
  have h5 := test_codes hx (m := [98, 97, 99, 107]) (b := false) rfl
  have h6 := test_codes hx (m := [108, 111, 97, 100]) (b := false) rfl
  have h7 := test_codes hx (m := [115, 116, 111, 114, 101]) (b := false) rfl
  have h8 := test_codes hx (m := [114, 111, 111, 116]) (b := false) rfl
  have h9 := test_codes hx (m := [102, 111, 114, 103, 101, 116]) (b := false) rfl
  have h10 := test_codes hx (m := [100, 114, 111, 112]) (b := false) rfl
  have h11 := test_codes hx (m := [115, 99, 97, 110]) (b := true) rfl
  have a0 := T.a0
  have a1 := T.a1
  clear hx
  have he := hscan_le H a b
  have hc := Lib.hid (fun W (r : HRep W h L K H) => hscan_any r hI.out a b)
  show Calls Tryz.prog 37 _ w (DoPost w h L K H ((hscan H a b).1, scanS (hscan H a b).2.1 (hscan H a b).2.2))
  generalize hscan H a b = y at he hc ⊢
  obtain ⟨H2, did, e⟩ := y
  unfold HScanPost at hc
  dsimp only at he hc ⊢
  cases e with
  | zero =>
    have hF := Lib.hid (show scanS did 0 = strOf (Lib.formatBool did) by unfold scanS; rw [if_pos rfl])
    rw [hF.out]
    unfold errv at hc
    rw [if_pos rfl] at hc
    go_enter Tryz.func37, Tryz.ntmps37
    go_wp2_with fail
    go_region_held3 (fun w' => w'.cell? ⟨g, o, none⟩ = some (.int .i64 a) ∧ w'.cell? ⟨g, o + 1, none⟩ = some (.int .i64 b)) (first | exact ⟨T2.a0, T2.a1⟩ | exact ⟨a0, a1⟩ | simp) (first
      | (go_at_call 65; refine Calls.mono (hc.out _ (HW.r (CN.a (by repeat (first | assumption | apply CN.drew | apply CN.drewN | apply CN.alloc))))) ?_; rintro e w2 ⟨rfl, K2, s2⟩; have T2 := CN.act (by repeat (first | assumption | apply CN.drew | apply CN.drewN | apply CN.alloc)) s2; have a0' := T2.a0; have a1' := T2.a1))
    all_goals go_wp2_with (first | (go_at_call 66; refine Calls.mono (fbool_any _ did) ?_; rintro e w3 ⟨rfl, rfl⟩) | fail)
    all_goals go_ret
    all_goals exact ⟨rfl, _, CN.ph (by repeat (first | assumption | apply CN.drew | apply CN.drewN | apply CN.alloc))⟩
  | succ e =>
    have hF := Lib.hid (show scanS did (e + 1) = faultS (e + 1) by unfold scanS; rw [if_neg (by omega)])
    rw [hF.out]
    unfold errv at hc
    rw [if_neg (by omega)] at hc
    go_enter Tryz.func37, Tryz.ntmps37
    go_wp2_with fail
    go_region_held3 (fun w' => w'.cell? ⟨g, o, none⟩ = some (.int .i64 a) ∧ w'.cell? ⟨g, o + 1, none⟩ = some (.int .i64 b)) (first | exact ⟨T2.a0, T2.a1⟩ | exact ⟨a0, a1⟩ | simp) (first
      | (go_at_call 65; refine Calls.mono (hc.out _ (HW.r (CN.a (by repeat (first | assumption | apply CN.drew | apply CN.drewN | apply CN.alloc))))) ?_; rintro e w2 ⟨rfl, K2, s2⟩; have T2 := CN.act (by repeat (first | assumption | apply CN.drew | apply CN.drewN | apply CN.alloc)) s2; have a0' := T2.a0; have a1' := T2.a1))
    all_goals go_wp2_with (first | (go_at_call 35; refine Calls.mono (fault_any (CN.lww (by repeat (first | exact T2 | apply CN.drew | apply CN.drewN | apply CN.alloc))) (e + 1) (by omega)) ?_; rintro e w3 ⟨rfl, u3⟩; have T3 := CN.non (by repeat (first | exact T2 | apply CN.drew | apply CN.drewN | apply CN.alloc)) u3) | fail)
    all_goals go_ret
    all_goals exact ⟨rfl, _, CN.ph (by repeat (first | assumption | apply CN.drew | apply CN.drewN | apply CN.alloc))⟩
set_option maxRecDepth 100000 in
set_option maxHeartbeats 8000000 in
theorem do_scanall (v : Value) {cap : Nat} (T : CN w0 w (ownH h L K H) w h L K H g o []) (hI0 : HInv H) (x : ByteArray) (hx : x.data.toList = [115, 99, 97, 110, 97, 108, 108]) :
    Calls Tryz.prog 37 #[.pointer (some ⟨h, 0, none⟩), .string x, v] w (DoPost w h L K H (cdo H .scanall 0 0 0)) := by
  have hI := Lib.hid hI0
  clear hI0
  have h0 := test_codes hx (m := [97, 100, 100]) (b := false) rfl
  have h1 := test_codes hx (m := [114, 101, 109, 111, 118, 101]) (b := false) rfl
  have h2 := test_codes hx (m := [112, 108, 117, 103]) (b := false) rfl
  have h3 := test_codes hx (m := [117, 110, 112, 108, 117, 103]) (b := false) rfl
  have h4 := test_codes hx (m := [103, 105, 118, 101]) (b := false) rfl
  have h5 := test_codes hx (m := [98, 97, 99, 107]) (b := false) rfl
  have h6 := test_codes hx (m := [108, 111, 97, 100]) (b := false) rfl
  have h7 := test_codes hx (m := [115, 116, 111, 114, 101]) (b := false) rfl
  have h8 := test_codes hx (m := [114, 111, 111, 116]) (b := false) rfl
  have h9 := test_codes hx (m := [102, 111, 114, 103, 101, 116]) (b := false) rfl
  have h10 := test_codes hx (m := [100, 114, 111, 112]) (b := false) rfl
  have h11 := test_codes hx (m := [115, 99, 97, 110]) (b := false) rfl
  have h12 := test_codes hx (m := [115, 99, 97, 110, 97, 108, 108]) (b := true) rfl
  clear hx
  have he := hscanAll_le H
  have hc := Lib.hid (fun W (r : HRep W h L K H) => hscanAll_any r hI.out)
  show Calls Tryz.prog 37 _ w (DoPost w h L K H ((hscanAll H).1, numS (hscanAll H).2))
  generalize hscanAll H = y at he hc ⊢
  obtain ⟨H2, n⟩ := y
  unfold HAllPost at hc
  dsimp only at he hc ⊢
  go_enter Tryz.func37, Tryz.ntmps37
  go_wp2_with (first
    | (go_at_call 67; refine Calls.mono (hc.out _ (HW.r (CN.a (by repeat (first | assumption | apply CN.drew | apply CN.drewN | apply CN.alloc))))) ?_; rintro e w2 ⟨rfl, K2, s2⟩; have T2 := CN.act (by repeat (first | assumption | apply CN.drew | apply CN.drewN | apply CN.alloc)) s2)
    | (go_at_call 51; refine Calls.mono (itoa_any T2.lww n (by omega)) ?_; rintro e w3 ⟨rfl, u3⟩; have T3 := CN.non T2 u3)
    | fail)
  all_goals go_ret
  all_goals exact ⟨rfl, _, CN.ph (by repeat (first | assumption | apply CN.drew | apply CN.drewN | apply CN.alloc))⟩
set_option maxRecDepth 100000 in
set_option maxHeartbeats 8000000 in
theorem do_guests (v : Value) {cap : Nat} (T : CN w0 w (ownH h L K H) w h L K H g o []) (hI0 : HInv H) (x : ByteArray) (hx : x.data.toList = [103, 117, 101, 115, 116, 115]) :
    Calls Tryz.prog 37 #[.pointer (some ⟨h, 0, none⟩), .string x, v] w (DoPost w h L K H (cdo H .guests 0 0 0)) := by
  have hI := Lib.hid hI0
  clear hI0
  have h0 := test_codes hx (m := [97, 100, 100]) (b := false) rfl
  have h1 := test_codes hx (m := [114, 101, 109, 111, 118, 101]) (b := false) rfl
  have h2 := test_codes hx (m := [112, 108, 117, 103]) (b := false) rfl
  have h3 := test_codes hx (m := [117, 110, 112, 108, 117, 103]) (b := false) rfl
  have h4 := test_codes hx (m := [103, 105, 118, 101]) (b := false) rfl
  have h5 := test_codes hx (m := [98, 97, 99, 107]) (b := false) rfl
  have h6 := test_codes hx (m := [108, 111, 97, 100]) (b := false) rfl
  have h7 := test_codes hx (m := [115, 116, 111, 114, 101]) (b := false) rfl
  have h8 := test_codes hx (m := [114, 111, 111, 116]) (b := false) rfl
  have h9 := test_codes hx (m := [102, 111, 114, 103, 101, 116]) (b := false) rfl
  have h10 := test_codes hx (m := [100, 114, 111, 112]) (b := false) rfl
  have h11 := test_codes hx (m := [115, 99, 97, 110]) (b := false) rfl
  have h12 := test_codes hx (m := [115, 99, 97, 110, 97, 108, 108]) (b := false) rfl
  have h13 := test_codes hx (m := [103, 117, 101, 115, 116, 115]) (b := true) rfl
  clear hx
  show Calls Tryz.prog 37 _ w (DoPost w h L K H (H, listS (gl H)))
  have hg : ∀ n ∈ gl H, n ≤ 1000 := fun n hn => by have := (gl_mem hn).1; omega
  have hl : (gl H).length ≤ 10 := by unfold gl; refine Nat.le_trans (List.length_filter_le _ _) ?_; simp
  go_enter Tryz.func37, Tryz.ntmps37
  go_wp2_with (first
    | (go_at_call 69; refine Calls.mono (hguests_any T.a.r) ?_; rintro e w2 ⟨v, rfl, hv, hf, u2⟩; have T2 := CN.non T u2)
    | (go_at_call 68; refine Calls.mono (numbers_any T2.lww v (gl H) hv hl hg) ?_; rintro e w3 ⟨rfl, u3⟩; have T3 := CN.non T2 u3)
    | fail)
  all_goals go_ret
  all_goals exact ⟨rfl, _, CN.ph (by repeat (first | assumption | apply CN.drew | apply CN.drewN | apply CN.alloc))⟩
set_option maxRecDepth 100000 in
set_option maxHeartbeats 8000000 in
theorem do_left (v : Value) {cap : Nat} (T : CN w0 w (ownH h L K H) w h L K H g o []) (hI0 : HInv H) (x : ByteArray) (hx : x.data.toList = [108, 101, 102, 116]) :
    Calls Tryz.prog 37 #[.pointer (some ⟨h, 0, none⟩), .string x, v] w (DoPost w h L K H (cdo H .left 0 0 0)) := by
  have hI := Lib.hid hI0
  clear hI0
  have h0 := test_codes hx (m := [97, 100, 100]) (b := false) rfl
  have h1 := test_codes hx (m := [114, 101, 109, 111, 118, 101]) (b := false) rfl
  have h2 := test_codes hx (m := [112, 108, 117, 103]) (b := false) rfl
  have h3 := test_codes hx (m := [117, 110, 112, 108, 117, 103]) (b := false) rfl
  have h4 := test_codes hx (m := [103, 105, 118, 101]) (b := false) rfl
  have h5 := test_codes hx (m := [98, 97, 99, 107]) (b := false) rfl
  have h6 := test_codes hx (m := [108, 111, 97, 100]) (b := false) rfl
  have h7 := test_codes hx (m := [115, 116, 111, 114, 101]) (b := false) rfl
  have h8 := test_codes hx (m := [114, 111, 111, 116]) (b := false) rfl
  have h9 := test_codes hx (m := [102, 111, 114, 103, 101, 116]) (b := false) rfl
  have h10 := test_codes hx (m := [100, 114, 111, 112]) (b := false) rfl
  have h11 := test_codes hx (m := [115, 99, 97, 110]) (b := false) rfl
  have h12 := test_codes hx (m := [115, 99, 97, 110, 97, 108, 108]) (b := false) rfl
  have h13 := test_codes hx (m := [103, 117, 101, 115, 116, 115]) (b := false) rfl
  have h14 := test_codes hx (m := [108, 101, 102, 116]) (b := true) rfl
  clear hx
  show Calls Tryz.prog 37 _ w (DoPost w h L K H (H, numS (H.p.left)))
  have hb : H.p.left ≤ 9223372036854775807 := (by have := H.p.leftTo_le H.p.n; have := T.a.r.rp.n64; show H.p.leftTo H.p.n ≤ _; omega)
  go_enter Tryz.func37, Tryz.ntmps37
  go_wp2_with (first
    | (go_at_call 70; refine Calls.mono (hleft_any T.a.r) ?_; rintro e w2 ⟨rfl, rfl⟩)
    | (go_at_call 51; refine Calls.mono (itoa_any T.lww (H.p.left) hb) ?_; rintro e w3 ⟨rfl, u3⟩; have T3 := CN.non T u3)
    | fail)
  all_goals go_ret
  all_goals exact ⟨rfl, _, CN.ph (by repeat (first | assumption | apply CN.drew | apply CN.drewN | apply CN.alloc))⟩
set_option maxRecDepth 100000 in
set_option maxHeartbeats 8000000 in
theorem do_promised (v : Value) {cap : Nat} (T : CN w0 w (ownH h L K H) w h L K H g o []) (hI0 : HInv H) (x : ByteArray) (hx : x.data.toList = [112, 114, 111, 109, 105, 115, 101, 100]) :
    Calls Tryz.prog 37 #[.pointer (some ⟨h, 0, none⟩), .string x, v] w (DoPost w h L K H (cdo H .promised 0 0 0)) := by
  have hI := Lib.hid hI0
  clear hI0
  have h0 := test_codes hx (m := [97, 100, 100]) (b := false) rfl
  have h1 := test_codes hx (m := [114, 101, 109, 111, 118, 101]) (b := false) rfl
  have h2 := test_codes hx (m := [112, 108, 117, 103]) (b := false) rfl
  have h3 := test_codes hx (m := [117, 110, 112, 108, 117, 103]) (b := false) rfl
  have h4 := test_codes hx (m := [103, 105, 118, 101]) (b := false) rfl
  have h5 := test_codes hx (m := [98, 97, 99, 107]) (b := false) rfl
  have h6 := test_codes hx (m := [108, 111, 97, 100]) (b := false) rfl
  have h7 := test_codes hx (m := [115, 116, 111, 114, 101]) (b := false) rfl
  have h8 := test_codes hx (m := [114, 111, 111, 116]) (b := false) rfl
  have h9 := test_codes hx (m := [102, 111, 114, 103, 101, 116]) (b := false) rfl
  have h10 := test_codes hx (m := [100, 114, 111, 112]) (b := false) rfl
  have h11 := test_codes hx (m := [115, 99, 97, 110]) (b := false) rfl
  have h12 := test_codes hx (m := [115, 99, 97, 110, 97, 108, 108]) (b := false) rfl
  have h13 := test_codes hx (m := [103, 117, 101, 115, 116, 115]) (b := false) rfl
  have h14 := test_codes hx (m := [108, 101, 102, 116]) (b := false) rfl
  have h15 := test_codes hx (m := [112, 114, 111, 109, 105, 115, 101, 100]) (b := true) rfl
  clear hx
  show Calls Tryz.prog 37 _ w (DoPost w h L K H (H, numS (hprom H)))
  have hb : hprom H ≤ 9223372036854775807 := (by have := hprom_le64 H; omega)
  go_enter Tryz.func37, Tryz.ntmps37
  go_wp2_with (first
    | (go_at_call 71; refine Calls.mono (hPromised_any T.a.r) ?_; rintro e w2 ⟨rfl, rfl⟩)
    | (go_at_call 51; refine Calls.mono (itoa_any T.lww (hprom H) hb) ?_; rintro e w3 ⟨rfl, u3⟩; have T3 := CN.non T u3)
    | fail)
  all_goals go_ret
  all_goals exact ⟨rfl, _, CN.ph (by repeat (first | assumption | apply CN.drew | apply CN.drewN | apply CN.alloc))⟩
set_option maxRecDepth 100000 in
set_option maxHeartbeats 8000000 in
theorem do_frame (a : Int) {cap : Nat} (T : CN w0 w (ownH h L K H) w h L K H g o [a]) (hI0 : HInv H) (x : ByteArray) (hx : x.data.toList = [102, 114, 97, 109, 101]) :
    Calls Tryz.prog 37 #[.pointer (some ⟨h, 0, none⟩), .string x, .slice (some ⟨g, o, none⟩) 1 cap] w (DoPost w h L K H (cdo H .frame a 0 0)) := by
  have hI := Lib.hid hI0
  clear hI0
  have h0 := test_codes hx (m := [97, 100, 100]) (b := false) rfl
  have h1 := test_codes hx (m := [114, 101, 109, 111, 118, 101]) (b := false) rfl
  have h2 := test_codes hx (m := [112, 108, 117, 103]) (b := false) rfl
  have h3 := test_codes hx (m := [117, 110, 112, 108, 117, 103]) (b := false) rfl
  have h4 := test_codes hx (m := [103, 105, 118, 101]) (b := false) rfl
  have h5 := test_codes hx (m := [98, 97, 99, 107]) (b := false) rfl
  have h6 := test_codes hx (m := [108, 111, 97, 100]) (b := false) rfl
  have h7 := test_codes hx (m := [115, 116, 111, 114, 101]) (b := false) rfl
  have h8 := test_codes hx (m := [114, 111, 111, 116]) (b := false) rfl
  have h9 := test_codes hx (m := [102, 111, 114, 103, 101, 116]) (b := false) rfl
  have h10 := test_codes hx (m := [100, 114, 111, 112]) (b := false) rfl
  have h11 := test_codes hx (m := [115, 99, 97, 110]) (b := false) rfl
  have h12 := test_codes hx (m := [115, 99, 97, 110, 97, 108, 108]) (b := false) rfl
  have h13 := test_codes hx (m := [103, 117, 101, 115, 116, 115]) (b := false) rfl
  have h14 := test_codes hx (m := [108, 101, 102, 116]) (b := false) rfl
  have h15 := test_codes hx (m := [112, 114, 111, 109, 105, 115, 101, 100]) (b := false) rfl
  have h16 := test_codes hx (m := [102, 114, 97, 109, 101]) (b := true) rfl
  have a0 := T.a0
  clear hx
  show Calls Tryz.prog 37 _ w (DoPost w h L K H (H, frameS (H.p.of a)))
  by_cases hf : a < 0 ∨ (H.p.n : Int) ≤ a
  · have ho : H.p.of a = (0, 0, 1) := by unfold PoolM.of; rw [if_pos hf]
    have hc := Lib.hid (hframe_any T.a.r a)
    rw [ho] at hc
    unfold errv frameV at hc
    dsimp only at hc
    rw [if_neg (by decide)] at hc
    rw [ho, show frameS (0, 0, 1) = faultS 1 from rfl]
    clear hf ho
    go_enter Tryz.func37, Tryz.ntmps37
    go_wp2_with (first
      | (go_at_call 72; refine Calls.mono hc.out ?_; rintro e w2 ⟨rfl, u2⟩; have T2 := CN.alloc (CN.non T u2) (.cells #[.int .i64 0, .int .i64 0] 64))
      | (go_at_call 35; refine Calls.mono (fault_any T2.lww 1 (by omega)) ?_; rintro e w3 ⟨rfl, u3⟩; have T3 := CN.non T2 u3)
      | fail)
    go_ret
    exact ⟨rfl, _, CN.ph T3⟩
  · obtain ⟨f, rfl⟩ := Int.eq_ofNat_of_zero_le (Int.not_lt.1 fun e => hf (.inl e))
    have hfn : f < H.p.n := Int.ofNat_lt.1 (Int.not_le.1 fun e => hf (.inr e))
    obtain ⟨r, hr, hr2⟩ := refs_nat hI.out (f := f) hfn
    have ho := of_at hfn hr
    have hc := Lib.hid (hframe_any T.a.r f)
    rw [ho] at hc
    unfold errv frameV at hc
    rw [if_pos rfl] at hc
    rw [ho, show frameS (((min r 2 : Nat) : Int), (r : Int), 0) = listS [min r 2, r] from rfl]
    dsimp only at hc
    clear hf ho hr
    have hm : min r 2 ≤ 2 := Nat.min_le_right _ _
    generalize min r 2 = cl at hm hc ⊢
    have hsm : ∀ n ∈ [cl, r], n ≤ 1000 := fun n hn => by simp at hn; omega
    go_enter Tryz.func37, Tryz.ntmps37
    go_wp2_with (first
      | (go_at_call 72; refine Calls.mono hc.out ?_; rintro e w2 ⟨rfl, u2⟩; have T2 := CN.alloc (CN.non T u2) (.cells #[.int .i64 cl, .int .i64 r] 64); have k2 := framebox w2 (.int .i64 cl) (.int .i64 r); have k20 := k2.1; have k21 := k2.2; clear k2)
      | (go_at_call 68; refine Calls.mono (numbers_any (CN.lww (by repeat (first | exact T2 | apply CN.drew | apply CN.drewN | apply CN.alloc))) _ [cl, r] (two_row _ _ _ (by simp)) (by simp) hsm) ?_; rintro e w3 ⟨rfl, u3⟩; have T3 := CN.non (by repeat (first | exact T2 | apply CN.drew | apply CN.drewN | apply CN.alloc)) u3)
      | fail)
    go_ret
    exact ⟨rfl, _, CN.ph (by repeat (first | assumption | apply CN.drew | apply CN.drewN | apply CN.alloc))⟩
set_option maxRecDepth 100000 in
set_option maxHeartbeats 8000000 in
theorem do_page (a b : Int) {cap : Nat} (T : CN w0 w (ownH h L K H) w h L K H g o [a, b]) (hI0 : HInv H) (x : ByteArray) (hx : x.data.toList = [112, 97, 103, 101]) :
    Calls Tryz.prog 37 #[.pointer (some ⟨h, 0, none⟩), .string x, .slice (some ⟨g, o, none⟩) 2 cap] w (DoPost w h L K H (cdo H .page a b 0)) := by
  have hI := Lib.hid hI0
  clear hI0
  have h0 := test_codes hx (m := [97, 100, 100]) (b := false) rfl
  have h1 := test_codes hx (m := [114, 101, 109, 111, 118, 101]) (b := false) rfl
  have h2 := test_codes hx (m := [112, 108, 117, 103]) (b := false) rfl
  have h3 := test_codes hx (m := [117, 110, 112, 108, 117, 103]) (b := false) rfl
  have h4 := test_codes hx (m := [103, 105, 118, 101]) (b := false) rfl
  have h5 := test_codes hx (m := [98, 97, 99, 107]) (b := false) rfl
  have h6 := test_codes hx (m := [108, 111, 97, 100]) (b := false) rfl
  have h7 := test_codes hx (m := [115, 116, 111, 114, 101]) (b := false) rfl
  have h8 := test_codes hx (m := [114, 111, 111, 116]) (b := false) rfl
  have h9 := test_codes hx (m := [102, 111, 114, 103, 101, 116]) (b := false) rfl
  have h10 := test_codes hx (m := [100, 114, 111, 112]) (b := false) rfl
  have h11 := test_codes hx (m := [115, 99, 97, 110]) (b := false) rfl
  have h12 := test_codes hx (m := [115, 99, 97, 110, 97, 108, 108]) (b := false) rfl
  have h13 := test_codes hx (m := [103, 117, 101, 115, 116, 115]) (b := false) rfl
  have h14 := test_codes hx (m := [108, 101, 102, 116]) (b := false) rfl
  have h15 := test_codes hx (m := [112, 114, 111, 109, 105, 115, 101, 100]) (b := false) rfl
  have h16 := test_codes hx (m := [102, 114, 97, 109, 101]) (b := false) rfl
  have a0 := T.a0
  have a1 := T.a1
  clear hx
  show Calls Tryz.prog 37 _ w (DoPost w h L K H (H, pageS H a b))
  have hc := Lib.hid (fun W (r : HW w0 W h L K H) => page_any r T.lw hI.out a b)
  go_enter Tryz.func37, Tryz.ntmps37
  go_wp2_with fail
  go_region_held3 (fun w' => w'.cell? ⟨g, o, none⟩ = some (.int .i64 a) ∧ w'.cell? ⟨g, o + 1, none⟩ = some (.int .i64 b)) (first | exact ⟨T2.a0, T2.a1⟩ | exact ⟨a0, a1⟩ | simp) (first
    | (go_at_call 73; refine Calls.mono (hc.out _ (CN.a (by repeat (first | assumption | apply CN.drew | apply CN.drewN | apply CN.alloc)))) ?_; rintro e w2 ⟨rfl, u2⟩; have T2 := CN.non (by repeat (first | assumption | apply CN.drew | apply CN.drewN | apply CN.alloc)) u2; have a0' := T2.a0; have a1' := T2.a1))
  all_goals go_wp2
  all_goals go_ret
  all_goals exact ⟨rfl, _, CN.ph (by repeat (first | assumption | apply CN.drew | apply CN.drewN | apply CN.alloc))⟩
end

end U
end Go.Proofs.YtnhplapcdgnaaaaGreatDoor
