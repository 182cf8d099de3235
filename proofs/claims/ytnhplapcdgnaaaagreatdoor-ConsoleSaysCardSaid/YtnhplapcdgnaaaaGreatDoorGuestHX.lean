import Derived.Test.YtnhplapcdgnaaaaGreatDoorGuestG
set_option linter.unusedVariables false
set_option linter.unusedSimpArgs false
namespace Go.Proofs.YtnhplapcdgnaaaaGreatDoor
open Go.RowKit
namespace U

/-! The program's guest: loads, stores, what it forgets, its map's acts. -/
section
variable {w W : World} {L : PoolAt} {K : GAt} {v : Value} {P : PoolM} {E : Nat → Nat} {G : GuestM}

def LoadPost (w : World) (L : PoolAt) (K : GAt) (x : PoolM × GuestM × UInt8 × Nat) (e : Ending) (w' : World) : Prop :=
  e = .returned (.tuple #[.int .u8 x.2.2.1.toNat, errv x.2.2.2]) ∧ ∃ v', PG w w' L K v' x.1 x.2.1.m (withLeaf x.2.1.m x.2.1.c) x.2.1.root x.2.1.walks
/-- What an act leaves: its error, the guest. -/
def ActPost (w : World) (L : PoolAt) (K : GAt) (x : PoolM × GuestM × Nat) (e : Ending) (w' : World) : Prop :=
  e = .returned (errv x.2.2) ∧ ∃ v', PG w w' L K v' x.1 x.2.1.m (withLeaf x.2.1.m x.2.1.c) x.2.1.root x.2.1.walks

theorem Upd.box3 {a w : World} {b : Nat} (u : Upd Non a w) (hb : a.heap.size ≤ b) (v0 v1 v2 : Value) :
    Upd Non a (((w.setCell ⟨b, 0, none⟩ v0).setCell ⟨b, 1, none⟩ v1).setCell ⟨b, 2, none⟩ v2) := by
  have h : ∀ i, (⟨b, i, none⟩ : Addr).block < a.heap.size → Non (⟨b, i, none⟩ : Addr).block := fun i h => absurd h (by show ¬ b < _; omega)
  exact (((u.setCell (h 0) v0).setCell (h 1) v1).setCell (h 2) v2)
theorem gframe_range {addr : Int} {wr : Bool} (h : (gframe P G addr wr).2.2.2 = 0) : 0 ≤ addr ∧ addr ≤ 255 := by
  by_cases ha : addr < 0 ∨ 255 < addr
  · unfold gframe at h; rw [if_pos ha] at h; simp at h
  · omega

set_option maxRecDepth 100000 in
set_option maxHeartbeats 1000000 in
theorem gload_any (t : PG w W L K v P G.m (withLeaf G.m G.c) G.root G.walks) (hI : GInv P G E) (addr : Int) :
    Calls Tryz.prog 94 #[.pointer (some ⟨K.g, 0, none⟩), .int .i64 addr] W (LoadPost w L K (gload P G addr)) := by
  have hframe := Lib.hid (gframe_any t hI addr false)
  have hF : Hid (gload P G addr = if (gframe P G addr false).2.2.2 ≠ 0 then ((gframe P G addr false).1, (gframe P G addr false).2.1, 0, (gframe P G addr false).2.2.2) else ((gframe P G addr false).1, (gframe P G addr false).2.1, gbyte (gframe P G addr false).1 (gframe P G addr false).2.2.1 (addr % 16), 0)) := rfl
  by_cases he : (gframe P G addr false).2.2.2 = 0
  · have hu := hI.frame_used he
    obtain ⟨h0, h1⟩ := gframe_range he
    have hget : Hid ((gframe P G addr false).1.get (gframe P G addr false).2.2.1 (addr % 16) = (gbyte (gframe P G addr false).1 (gframe P G addr false).2.2.1 (addr % 16), 0)) := by
      show _ = _
      unfold PoolM.get gbyte
      rw [if_neg (by omega), if_pos hu]
    rw [if_neg (by simpa using he)] at hF
    clear hu
    generalize gbyte (gframe P G addr false).1 (gframe P G addr false).2.2.1 (addr % 16) = b at hget hF
    generalize gframe P G addr false = X at hframe hF hget he
    obtain ⟨P1, G1, f, er⟩ := X
    dsimp only at he hF hget
    subst he
    go_enter Tryz.func94, Tryz.ntmps94
    go_wp2_with (first
      | (go_at_call 124; refine hframe.out.mono ?_; unfold FramePost; dsimp only; rintro e w2 ⟨rfl, v2, t2⟩; unfold errv; have d0 := t2.c0; have lg2 := t2.glt)
      | (go_at_call 125; refine (get_any _ L P1 t2.rp f (addr % 16)).mono ?_; rw [hget.out]; rintro e w3 ⟨rfl, rfl⟩; unfold errv)
      | fail)
    go_ret2
    exact ⟨by rw [hF.out]; rfl, v2, by rw [hF.out]; exact t2⟩
  · rw [if_pos he] at hF
    generalize gframe P G addr false = X at hframe hF he
    obtain ⟨P1, G1, f, er⟩ := X
    dsimp only at he hF
    have hz := Lib.hid (errv_ne he)
    clear he
    go_enter Tryz.func94, Tryz.ntmps94
    go_wp2_with (first
      | (go_at_call 124; refine hframe.out.mono ?_; unfold FramePost; dsimp only; rw [hz.out]; rintro e w2 ⟨rfl, v2, t2⟩)
      | fail)
    go_ret2
    exact ⟨by rw [hF.out]; show _ = Ending.returned (.tuple #[.int .u8 0, errv er]); rw [hz.out]; rfl, v2, by rw [hF.out]; exact t2⟩

set_option maxRecDepth 100000 in
set_option maxHeartbeats 1000000 in
theorem gstore_any (t : PG w W L K v P G.m (withLeaf G.m G.c) G.root G.walks) (hI : GInv P G E) (addr : Int) (b : UInt8) :
    Calls Tryz.prog 95 #[.pointer (some ⟨K.g, 0, none⟩), .int .i64 addr, .int .u8 b.toNat] W (ActPost w L K (gstore P G addr b)) := by
  have hframe := Lib.hid (gframe_any t hI addr true)
  have hF : Hid (gstore P G addr b = if (gframe P G addr true).2.2.2 ≠ 0 then ((gframe P G addr true).1, (gframe P G addr true).2.1, (gframe P G addr true).2.2.2) else (((gframe P G addr true).1.set (gframe P G addr true).2.2.1 (addr % 16) b).1, (gframe P G addr true).2.1, ((gframe P G addr true).1.set (gframe P G addr true).2.2.1 (addr % 16) b).2)) := rfl
  by_cases he : (gframe P G addr true).2.2.2 = 0
  · obtain ⟨h0, h1⟩ := gframe_range he
    rw [if_neg (by simpa using he)] at hF
    generalize gframe P G addr true = X at hframe hF he
    obtain ⟨P1, G1, f, er⟩ := X
    dsimp only at he hF
    subst he
    go_enter Tryz.func95, Tryz.ntmps95
    go_wp2_with (first
      | (go_at_call 124; refine hframe.out.mono ?_; unfold FramePost; dsimp only; rintro e w2 ⟨rfl, v2, t2⟩; unfold errv; have d0 := t2.c0; have lg2 := t2.glt)
      | (go_at_call 126; refine (set_any _ L P1 t2.rp f (addr % 16) b).mono ?_; rintro e w3 ⟨rfl, r3, u3⟩; have t3 := t2.pool r3 u3)
      | fail)
    go_ret
    exact ⟨by rw [hF.out]; rfl, v2, by rw [hF.out]; exact t3⟩
  · rw [if_pos he] at hF
    generalize gframe P G addr true = X at hframe hF he
    obtain ⟨P1, G1, f, er⟩ := X
    dsimp only at he hF
    have hz := Lib.hid (errv_ne he)
    clear he
    go_enter Tryz.func95, Tryz.ntmps95
    go_wp2_with (first
      | (go_at_call 124; refine hframe.out.mono ?_; unfold FramePost; dsimp only; rw [hz.out]; rintro e w2 ⟨rfl, v2, t2⟩)
      | fail)
    go_ret
    exact ⟨by rw [hF.out]; show _ = Ending.returned (errv er); rw [hz.out]; rfl, v2, by rw [hF.out]; exact t2⟩

set_option maxRecDepth 100000 in
set_option maxHeartbeats 400000 in
theorem gsetRoot_any (t : PG w W L K v P G.m (withLeaf G.m G.c) G.root G.walks) (n : Int) :
    Calls Tryz.prog 96 #[.pointer (some ⟨K.g, 0, none⟩), .int .i64 n] W (ActPost w L K (P, groot G n)) := by
  have c3 := t.c3
  have f3 := t.fr 3
  have lg := t.glt
  by_cases h : n < -1 ∨ 15 < n
  · have hF : Hid (groot G n = (G, 1)) := by show _ = _; unfold groot; rw [if_pos h]
    go_enter Tryz.func96, Tryz.ntmps96
    go_wp2_with fail
    all_goals first | (exfalso; simp_all; omega) | go_ret
    all_goals exact ⟨by rw [hF.out]; rfl, v, by rw [hF.out]; exact t⟩
  · have hF : Hid (groot G n = ({ G with root := n }, 0)) := by show _ = _; unfold groot; rw [if_neg h]
    have h0 : -1 ≤ n := by omega
    have h1 : n < 16 := by omega
    clear h
    go_enter Tryz.func96, Tryz.ntmps96
    go_wp2_with fail
    all_goals first | (exfalso; simp_all; omega) | go_ret
    all_goals exact ⟨by rw [hF.out]; rfl, v, by rw [hF.out]; exact t.setRoot n⟩

set_option maxRecDepth 100000 in
set_option maxHeartbeats 1000000 in
theorem gforget_any (t : PG w W L K v P G.m (withLeaf G.m G.c) G.root G.walks) (hI : GInv P G E) (addr : Int) :
    Calls Tryz.prog 97 #[.pointer (some ⟨K.g, 0, none⟩), .int .i64 addr] W (ActPost w L K (P, gforget G addr)) := by
  have c2 := t.c2
  have c3 := t.c3
  have lg := t.glt
  have hlen : (withLeaf G.m G.c).length ≤ 100 := by rw [withLeaf_length]; have := hI.c.len; omega
  by_cases h : addr < 0 ∨ 255 < addr
  · have hF : Hid (gforget G addr = (G, 1)) := by show _ = _; unfold gforget; rw [if_pos h]
    go_enter Tryz.func97, Tryz.ntmps97
    go_wp2_with fail
    all_goals first | (exfalso; simp_all; done) | go_ret
    all_goals exact ⟨by rw [hF.out]; rfl, v, by rw [hF.out]; exact t⟩
  · have hF : Hid (gforget G addr = ({ G with c := keep2 G.root (addr / 16) G.c }, 0)) := by show _ = _; unfold gforget; rw [if_neg h]
    have hk := Lib.hid (withLeaf_keep2 G.m G.c G.root (addr / 16))
    have h0 : 0 ≤ addr := by omega
    have h1 : addr ≤ 255 := by omega
    clear h hI
    go_enter Tryz.func97, Tryz.ntmps97
    go_wp2_with fail
    go_still_tail 10, (by kernel_rfl)
    have td := t.drew
    change wpList _ _ _ _ _ W.drew
    clear c2 c3 lg
    generalize W.drew = wd at td ⊢
    go_wp2_with (first
      | (go_at_call 127; refine (cDrop_any _ K.cb v (withLeaf G.m G.c) td.cr td.ev hlen G.root (addr / 16)).mono ?_; rw [hk.out]; rintro e w3 ⟨v', rfl, r3, e3, k3, u3⟩; have t3 := td.cput r3 e3 k3 u3)
      | fail)
    go_ret
    exact ⟨by rw [hF.out]; rfl, _, by rw [hF.out]; exact t3⟩

set_option maxRecDepth 100000 in
set_option maxHeartbeats 1000000 in
theorem gforgetAll_any (t : PG w W L K v P G.m (withLeaf G.m G.c) G.root G.walks) (hI : GInv P G E) (n : Int) :
    Calls Tryz.prog 98 #[.pointer (some ⟨K.g, 0, none⟩), .int .i64 n] W (ActPost w L K (P, gforgetAll G n)) := by
  have c2 := t.c2
  have lg := t.glt
  have hlen : (withLeaf G.m G.c).length ≤ 100 := by rw [withLeaf_length]; have := hI.c.len; omega
  by_cases h : onB n = true
  · have hF : Hid (gforgetAll G n = ({ G with c := keep1 n G.c }, 0)) := by show _ = _; unfold gforgetAll; rw [if_pos h]
    have hk := Lib.hid (withLeaf_keep1 G.m G.c n)
    obtain ⟨h0, h1⟩ := onB_iff.1 h
    clear h hI
    go_enter Tryz.func98, Tryz.ntmps98
    go_wp2_with (first
      | (go_at_call 128; refine (cForget_any _ K.cb v (withLeaf G.m G.c) t.cr t.ev hlen n).mono ?_; rw [hk.out]; rintro e w3 ⟨v', rfl, r3, e3, k3, u3⟩; have t3 := t.cput r3 e3 k3 u3)
      | fail)
    all_goals first | (exfalso; simp_all; omega) | go_ret
    all_goals exact ⟨by rw [hF.out]; rfl, _, by rw [hF.out]; exact t3⟩
  · have hF : Hid (gforgetAll G n = (G, 1)) := by show _ = _; unfold gforgetAll; rw [if_neg h]
    have h2 : n < 0 ∨ 15 < n := by
      by_cases a : n < 0
      · exact .inl a
      · exact .inr (by apply Classical.byContradiction; intro b; exact h (onB_iff.2 ⟨by omega, by omega⟩))
    clear h hI
    go_enter Tryz.func98, Tryz.ntmps98
    go_wp2_with fail
    all_goals first | (exfalso; simp_all; omega) | go_ret
    all_goals exact ⟨by rw [hF.out]; rfl, v, by rw [hF.out]; exact t⟩

set_option maxRecDepth 100000 in
theorem gstate_any (t : PG w W L K v P G.m (withLeaf G.m G.c) G.root G.walks) (n : Int) :
    Calls Tryz.prog 89 #[.pointer (some ⟨K.g, 0, none⟩), .int .i64 n] W fun e w' => e = .returned (.tuple #[.int .i64 (mstate G.m n).1, errv (mstate G.m n).2]) ∧ W = w' := by
  have c1 := t.c1
  have lg := t.glt
  go_enter Tryz.func89, Tryz.ntmps89
  go_wp2_with (go_at_call 120; refine (mstate_any _ K.mb 65 L.p G.m t.m n).mono ?_; rintro e w2 ⟨rfl, rfl⟩)
  go_ret2
  exact ⟨rfl, rfl⟩
set_option maxRecDepth 100000 in
theorem gleaf_any (t : PG w W L K v P G.m (withLeaf G.m G.c) G.root G.walks) (n : Int) :
    Calls Tryz.prog 99 #[.pointer (some ⟨K.g, 0, none⟩), .int .i64 n] W fun e w' => e = .returned (.tuple #[(mleaf G.m n).1.val, errv (mleaf G.m n).2]) ∧ Upd Non W w' := by
  have c1 := t.c1
  have lg := t.glt
  generalize hm : mleaf G.m n = y
  have hm := Lib.hid hm
  obtain ⟨⟨there, write, fr⟩, er⟩ := y
  go_enter Tryz.func99, Tryz.ntmps99
  go_wp2_with (go_at_call 129; refine (mleaf_any _ K.mb 65 L.p G.m (t.alloc _).m n).mono ?_; rw [hm.out]; rintro e w2 ⟨rfl, u2⟩; unfold LeafM.val; obtain ⟨hcc, hff⟩ := u2.cells; have hz := u2.size; simp at hz)
  exact bodyPost_ret (v := .tuple #[LeafM.val ⟨there, write, fr⟩, errv er]) (by simp [results, Tryz.results99, go_sem, hcc, LeafM.val]) rfl ⟨rfl, Upd.box3 (((Upd.refl _ _).alloc _).trans u2) (Nat.le_refl _) _ _ _⟩
end

end U
end Go.Proofs.YtnhplapcdgnaaaaGreatDoor

set_option linter.unusedVariables false
set_option linter.unusedSimpArgs false
namespace Go.Proofs.YtnhplapcdgnaaaaGreatDoor
open Go.RowKit
namespace U

/-! The program's guest: its acts on its map (written by gen_guesti.py). -/
/-- What an act on the map has to do with its page: none done, nothing turned; done, one page alone. -/
structure MAct (P : PoolM) (M : MapM) (n : Int) (y : PoolM × MapM × Nat) : Prop where
  no : y.2.2 ≠ 0 → y.1 = P ∧ y.2.1 = M
  yes : y.2.2 = 0 → onB n = true ∧ ∀ i : Nat, (i : Int) ≠ n → y.2.1.leaf i = M.leaf i
theorem setLeaf_off (M : MapM) {n : Int} (hn : 0 ≤ n) (l : LeafM) (i : Nat) (h : (i : Int) ≠ n) : (M.setLeaf n.toNat l).leaf i = M.leaf i := by unfold MapM.setLeaf; simp only []; rw [if_neg (by omega)]
theorem mact_plug (P : PoolM) (M : MapM) (n : Int) : MAct P M n (P, (mplug M n).1, (mplug M n).2) := by
  unfold mplug
  repeat' split
  all_goals first | exact ⟨fun _ => ⟨rfl, rfl⟩, fun h => by simp at h⟩ | exact ⟨fun h => by simp at h, fun _ => ⟨by assumption, fun _ _ => rfl⟩⟩
theorem mact_back (P : PoolM) (M : MapM) (n : Int) : MAct P M n (P, (mback M n).1, (mback M n).2) := by
  unfold mback
  repeat' split
  all_goals first | exact ⟨fun _ => ⟨rfl, rfl⟩, fun h => by simp at h⟩ | exact ⟨fun h => by simp at h, fun _ => ⟨by assumption, fun _ _ => rfl⟩⟩
theorem mact_seal (P : PoolM) (M : MapM) (n : Int) : MAct P M n (P, (mseal M n).1, (mseal M n).2) := by
  unfold mseal
  by_cases ho : onB n = true
  · rw [if_pos ho]
    split
    · exact ⟨fun h => by simp at h, fun _ => ⟨ho, setLeaf_off M (onB_iff.1 ho).1 _⟩⟩
    · exact ⟨fun _ => ⟨rfl, rfl⟩, fun h => by simp at h⟩
  · rw [if_neg ho]; exact ⟨fun _ => ⟨rfl, rfl⟩, fun h => by simp at h⟩
theorem mact_unplug (P : PoolM) (M : MapM) (n : Int) : MAct P M n (munplug P M n) := by
  unfold munplug
  by_cases ho : onB n = true
  · rw [if_pos ho]
    split
    · exact ⟨fun _ => ⟨rfl, rfl⟩, fun h => by simp at h⟩
    · exact ⟨fun h => by simp at h, fun _ => ⟨ho, setLeaf_off M (onB_iff.1 ho).1 _⟩⟩
  · rw [if_neg ho]; exact ⟨fun _ => ⟨rfl, rfl⟩, fun h => by simp at h⟩
theorem mact_give (P : PoolM) (M : MapM) (n : Int) : MAct P M n (mgive P M n) := by
  unfold mgive
  by_cases ho : onB n = true
  · rw [if_pos ho]
    split
    · exact ⟨fun h => by simp at h, fun _ => ⟨ho, setLeaf_off M (onB_iff.1 ho).1 _⟩⟩
    · exact ⟨fun _ => ⟨rfl, rfl⟩, fun h => by simp at h⟩
  · rw [if_neg ho]; exact ⟨fun _ => ⟨rfl, rfl⟩, fun h => by simp at h⟩
theorem mact_join (P : PoolM) (M : MapM) (n fr : Int) : MAct P M n (mjoin P M n fr) := by
  unfold mjoin
  by_cases ho : onB n = true
  · rw [if_pos ho]
    split
    · exact ⟨fun h => by simp at h, fun _ => ⟨ho, setLeaf_off M (onB_iff.1 ho).1 _⟩⟩
    · exact ⟨fun _ => ⟨rfl, rfl⟩, fun h => by simp at h⟩
  · rw [if_neg ho]; exact ⟨fun _ => ⟨rfl, rfl⟩, fun h => by simp at h⟩
/-- An act on a guest's map. -/
def gact (G : GuestM) (y : PoolM × MapM × Nat) : PoolM × GuestM × Nat := (y.1, { G with m := y.2.1 }, y.2.2)
section
variable {w W : World} {L : PoolAt} {K : GAt} {v : Value} {P : PoolM} {E : Nat → Nat} {G : GuestM}


set_option maxRecDepth 100000 in
set_option maxHeartbeats 1000000 in
theorem gchange_plug (t : PG w W L K v P G.m (withLeaf G.m G.c) G.root G.walks) (hI : GInv P G E) (n : Int) (y : PoolM × MapM × Nat) (hy : MAct P G.m n y)
    (hact : Calls Tryz.prog 121 #[.pointer (some ⟨K.mb, 0, none⟩), .int .i64 n] W fun e w' => e = .returned (errv y.2.2) ∧ PG w w' L K v y.1 y.2.1 (withLeaf G.m G.c) G.root G.walks) :
    Calls Tryz.prog 118 #[.pointer (some ⟨K.g, 0, none⟩), .int .i64 n, .func (.func 121) #[.pointer (some ⟨K.mb, 0, none⟩)] #[]] W fun e w' =>
      e = .returned (errv y.2.2) ∧ PG w w' L K v y.1 y.2.1 (withLeaf y.2.1 G.c) G.root G.walks := by
  have hlen : ∀ M : MapM, (withLeaf M G.c).length ≤ 100 := fun M => by rw [withLeaf_length]; have := hI.c.len; omega
  have hto : ∀ e ∈ G.c, 0 ≤ e.to := fun e he => (hI.c.ent e he).1
  have hact := Lib.hid hact
  obtain ⟨P1, M1, er⟩ := y
  dsimp only at hact
  by_cases he : er = 0
  · subst he
    obtain ⟨ho, hl⟩ := hy.yes rfl
    have hg := Lib.hid (gpt_with hto ho hl)
    dsimp only at hg
    clear hy ho hl
    go_enter Tryz.func118, Tryz.ntmps118
    go_wp2_with (first
      | (go_at_call 121; refine hact.out.mono ?_; rintro e w2 ⟨rfl, t2⟩; unfold errv)
      | (go_at_call 146; refine (gpoint_any t2 (hlen _) n).mono ?_; rw [hg.out]; rintro e w3 ⟨rfl, t3⟩)
      | fail)
    go_ret
    exact ⟨rfl, t3⟩
  · obtain ⟨rfl, rfl⟩ := hy.no he
    have hz := Lib.hid (errv_ne he)
    clear he hy
    go_enter Tryz.func118, Tryz.ntmps118
    go_wp2_with (first
      | (go_at_call 121; refine hact.out.mono ?_; rw [hz.out]; rintro e w2 ⟨rfl, t2⟩)
      | fail)
    go_ret
    exact ⟨hz.out ▸ rfl, t2⟩
set_option maxRecDepth 100000 in
set_option maxHeartbeats 1000000 in
theorem gplug_any (t : PG w W L K v P G.m (withLeaf G.m G.c) G.root G.walks) (hI : GInv P G E) (n : Int) :
    Calls Tryz.prog 91 #[.pointer (some ⟨K.g, 0, none⟩), .int .i64 n] W (ActPost w L K (gact G ((P, (mplug G.m n).1, (mplug G.m n).2)))) := by
  have c1 := t.c1
  have lg := t.glt
  have hact := Lib.hid (gchange_plug t hI n ((P, (mplug G.m n).1, (mplug G.m n).2)) (mact_plug P G.m n) ((plug_any _ K.mb 65 L.p G.m t.m n).mono (by rintro e w2 ⟨rfl, q2, u2⟩; exact ⟨rfl, t.map q2 u2⟩)))
  generalize (P, (mplug G.m n).1, (mplug G.m n).2) = y at hact ⊢
  go_enter Tryz.func91, Tryz.ntmps91
  go_wp2_with (go_at_call 118; refine hact.out.mono ?_; rintro e w2 ⟨rfl, t2⟩)
  go_ret
  exact ⟨rfl, v, t2⟩

set_option maxRecDepth 100000 in
set_option maxHeartbeats 1000000 in
theorem gchange_unplug (t : PG w W L K v P G.m (withLeaf G.m G.c) G.root G.walks) (hI : GInv P G E) (n : Int) (y : PoolM × MapM × Nat) (hy : MAct P G.m n y)
    (hact : Calls Tryz.prog 119 #[.pointer (some ⟨K.mb, 0, none⟩), .int .i64 n] W fun e w' => e = .returned (errv y.2.2) ∧ PG w w' L K v y.1 y.2.1 (withLeaf G.m G.c) G.root G.walks) :
    Calls Tryz.prog 118 #[.pointer (some ⟨K.g, 0, none⟩), .int .i64 n, .func (.func 119) #[.pointer (some ⟨K.mb, 0, none⟩)] #[]] W fun e w' =>
      e = .returned (errv y.2.2) ∧ PG w w' L K v y.1 y.2.1 (withLeaf y.2.1 G.c) G.root G.walks := by
  have hlen : ∀ M : MapM, (withLeaf M G.c).length ≤ 100 := fun M => by rw [withLeaf_length]; have := hI.c.len; omega
  have hto : ∀ e ∈ G.c, 0 ≤ e.to := fun e he => (hI.c.ent e he).1
  have hact := Lib.hid hact
  obtain ⟨P1, M1, er⟩ := y
  dsimp only at hact
  by_cases he : er = 0
  · subst he
    obtain ⟨ho, hl⟩ := hy.yes rfl
    have hg := Lib.hid (gpt_with hto ho hl)
    dsimp only at hg
    clear hy ho hl
    go_enter Tryz.func118, Tryz.ntmps118
    go_wp2_with (first
      | (go_at_call 119; refine hact.out.mono ?_; rintro e w2 ⟨rfl, t2⟩; unfold errv)
      | (go_at_call 146; refine (gpoint_any t2 (hlen _) n).mono ?_; rw [hg.out]; rintro e w3 ⟨rfl, t3⟩)
      | fail)
    go_ret
    exact ⟨rfl, t3⟩
  · obtain ⟨rfl, rfl⟩ := hy.no he
    have hz := Lib.hid (errv_ne he)
    clear he hy
    go_enter Tryz.func118, Tryz.ntmps118
    go_wp2_with (first
      | (go_at_call 119; refine hact.out.mono ?_; rw [hz.out]; rintro e w2 ⟨rfl, t2⟩)
      | fail)
    go_ret
    exact ⟨hz.out ▸ rfl, t2⟩
set_option maxRecDepth 100000 in
set_option maxHeartbeats 1000000 in
theorem gunplug_any (t : PG w W L K v P G.m (withLeaf G.m G.c) G.root G.walks) (hI : GInv P G E) (n : Int) :
    Calls Tryz.prog 88 #[.pointer (some ⟨K.g, 0, none⟩), .int .i64 n] W (ActPost w L K (gact G (munplug P G.m n))) := by
  have c1 := t.c1
  have lg := t.glt
  have hact := Lib.hid (gchange_unplug t hI n (munplug P G.m n) (mact_unplug P G.m n) ((unplug_any _ L P K.mb 65 G.m t.rp t.m n).mono (by rintro e w2 ⟨rfl, r2, q2, u2⟩; exact ⟨rfl, t.mapP r2 q2 u2⟩)))
  generalize munplug P G.m n = y at hact ⊢
  go_enter Tryz.func88, Tryz.ntmps88
  go_wp2_with (go_at_call 118; refine hact.out.mono ?_; rintro e w2 ⟨rfl, t2⟩)
  go_ret
  exact ⟨rfl, v, t2⟩

set_option maxRecDepth 100000 in
set_option maxHeartbeats 1000000 in
theorem gchange_give (t : PG w W L K v P G.m (withLeaf G.m G.c) G.root G.walks) (hI : GInv P G E) (n : Int) (y : PoolM × MapM × Nat) (hy : MAct P G.m n y)
    (hact : Calls Tryz.prog 122 #[.pointer (some ⟨K.mb, 0, none⟩), .int .i64 n] W fun e w' => e = .returned (errv y.2.2) ∧ PG w w' L K v y.1 y.2.1 (withLeaf G.m G.c) G.root G.walks) :
    Calls Tryz.prog 118 #[.pointer (some ⟨K.g, 0, none⟩), .int .i64 n, .func (.func 122) #[.pointer (some ⟨K.mb, 0, none⟩)] #[]] W fun e w' =>
      e = .returned (errv y.2.2) ∧ PG w w' L K v y.1 y.2.1 (withLeaf y.2.1 G.c) G.root G.walks := by
  have hlen : ∀ M : MapM, (withLeaf M G.c).length ≤ 100 := fun M => by rw [withLeaf_length]; have := hI.c.len; omega
  have hto : ∀ e ∈ G.c, 0 ≤ e.to := fun e he => (hI.c.ent e he).1
  have hact := Lib.hid hact
  obtain ⟨P1, M1, er⟩ := y
  dsimp only at hact
  by_cases he : er = 0
  · subst he
    obtain ⟨ho, hl⟩ := hy.yes rfl
    have hg := Lib.hid (gpt_with hto ho hl)
    dsimp only at hg
    clear hy ho hl
    go_enter Tryz.func118, Tryz.ntmps118
    go_wp2_with (first
      | (go_at_call 122; refine hact.out.mono ?_; rintro e w2 ⟨rfl, t2⟩; unfold errv)
      | (go_at_call 146; refine (gpoint_any t2 (hlen _) n).mono ?_; rw [hg.out]; rintro e w3 ⟨rfl, t3⟩)
      | fail)
    go_ret
    exact ⟨rfl, t3⟩
  · obtain ⟨rfl, rfl⟩ := hy.no he
    have hz := Lib.hid (errv_ne he)
    clear he hy
    go_enter Tryz.func118, Tryz.ntmps118
    go_wp2_with (first
      | (go_at_call 122; refine hact.out.mono ?_; rw [hz.out]; rintro e w2 ⟨rfl, t2⟩)
      | fail)
    go_ret
    exact ⟨hz.out ▸ rfl, t2⟩
set_option maxRecDepth 100000 in
set_option maxHeartbeats 1000000 in
theorem ggive_any (t : PG w W L K v P G.m (withLeaf G.m G.c) G.root G.walks) (hI : GInv P G E) (n : Int) :
    Calls Tryz.prog 92 #[.pointer (some ⟨K.g, 0, none⟩), .int .i64 n] W (ActPost w L K (gact G (mgive P G.m n))) := by
  have c1 := t.c1
  have lg := t.glt
  have hact := Lib.hid (gchange_give t hI n (mgive P G.m n) (mact_give P G.m n) ((give_any _ L P K.mb 65 G.m t.rp t.m n).mono (by rintro e w2 ⟨rfl, r2, q2, u2⟩; exact ⟨rfl, t.mapP r2 q2 u2⟩)))
  generalize mgive P G.m n = y at hact ⊢
  go_enter Tryz.func92, Tryz.ntmps92
  go_wp2_with (go_at_call 118; refine hact.out.mono ?_; rintro e w2 ⟨rfl, t2⟩)
  go_ret
  exact ⟨rfl, v, t2⟩

set_option maxRecDepth 100000 in
set_option maxHeartbeats 1000000 in
theorem gchange_back (t : PG w W L K v P G.m (withLeaf G.m G.c) G.root G.walks) (hI : GInv P G E) (n : Int) (y : PoolM × MapM × Nat) (hy : MAct P G.m n y)
    (hact : Calls Tryz.prog 123 #[.pointer (some ⟨K.mb, 0, none⟩), .int .i64 n] W fun e w' => e = .returned (errv y.2.2) ∧ PG w w' L K v y.1 y.2.1 (withLeaf G.m G.c) G.root G.walks) :
    Calls Tryz.prog 118 #[.pointer (some ⟨K.g, 0, none⟩), .int .i64 n, .func (.func 123) #[.pointer (some ⟨K.mb, 0, none⟩)] #[]] W fun e w' =>
      e = .returned (errv y.2.2) ∧ PG w w' L K v y.1 y.2.1 (withLeaf y.2.1 G.c) G.root G.walks := by
  have hlen : ∀ M : MapM, (withLeaf M G.c).length ≤ 100 := fun M => by rw [withLeaf_length]; have := hI.c.len; omega
  have hto : ∀ e ∈ G.c, 0 ≤ e.to := fun e he => (hI.c.ent e he).1
  have hact := Lib.hid hact
  obtain ⟨P1, M1, er⟩ := y
  dsimp only at hact
  by_cases he : er = 0
  · subst he
    obtain ⟨ho, hl⟩ := hy.yes rfl
    have hg := Lib.hid (gpt_with hto ho hl)
    dsimp only at hg
    clear hy ho hl
    go_enter Tryz.func118, Tryz.ntmps118
    go_wp2_with (first
      | (go_at_call 123; refine hact.out.mono ?_; rintro e w2 ⟨rfl, t2⟩; unfold errv)
      | (go_at_call 146; refine (gpoint_any t2 (hlen _) n).mono ?_; rw [hg.out]; rintro e w3 ⟨rfl, t3⟩)
      | fail)
    go_ret
    exact ⟨rfl, t3⟩
  · obtain ⟨rfl, rfl⟩ := hy.no he
    have hz := Lib.hid (errv_ne he)
    clear he hy
    go_enter Tryz.func118, Tryz.ntmps118
    go_wp2_with (first
      | (go_at_call 123; refine hact.out.mono ?_; rw [hz.out]; rintro e w2 ⟨rfl, t2⟩)
      | fail)
    go_ret
    exact ⟨hz.out ▸ rfl, t2⟩
set_option maxRecDepth 100000 in
set_option maxHeartbeats 1000000 in
theorem gback_any (t : PG w W L K v P G.m (withLeaf G.m G.c) G.root G.walks) (hI : GInv P G E) (n : Int) :
    Calls Tryz.prog 93 #[.pointer (some ⟨K.g, 0, none⟩), .int .i64 n] W (ActPost w L K (gact G ((P, (mback G.m n).1, (mback G.m n).2)))) := by
  have c1 := t.c1
  have lg := t.glt
  have hact := Lib.hid (gchange_back t hI n ((P, (mback G.m n).1, (mback G.m n).2)) (mact_back P G.m n) ((back_any _ K.mb 65 L.p G.m t.m n).mono (by rintro e w2 ⟨rfl, q2, u2⟩; exact ⟨rfl, t.map q2 u2⟩)))
  generalize (P, (mback G.m n).1, (mback G.m n).2) = y at hact ⊢
  go_enter Tryz.func93, Tryz.ntmps93
  go_wp2_with (go_at_call 118; refine hact.out.mono ?_; rintro e w2 ⟨rfl, t2⟩)
  go_ret
  exact ⟨rfl, v, t2⟩

set_option maxRecDepth 100000 in
set_option maxHeartbeats 1000000 in
theorem gchange_seal (t : PG w W L K v P G.m (withLeaf G.m G.c) G.root G.walks) (hI : GInv P G E) (n : Int) (y : PoolM × MapM × Nat) (hy : MAct P G.m n y)
    (hact : Calls Tryz.prog 156 #[.pointer (some ⟨K.mb, 0, none⟩), .int .i64 n] W fun e w' => e = .returned (errv y.2.2) ∧ PG w w' L K v y.1 y.2.1 (withLeaf G.m G.c) G.root G.walks) :
    Calls Tryz.prog 118 #[.pointer (some ⟨K.g, 0, none⟩), .int .i64 n, .func (.func 156) #[.pointer (some ⟨K.mb, 0, none⟩)] #[]] W fun e w' =>
      e = .returned (errv y.2.2) ∧ PG w w' L K v y.1 y.2.1 (withLeaf y.2.1 G.c) G.root G.walks := by
  have hlen : ∀ M : MapM, (withLeaf M G.c).length ≤ 100 := fun M => by rw [withLeaf_length]; have := hI.c.len; omega
  have hto : ∀ e ∈ G.c, 0 ≤ e.to := fun e he => (hI.c.ent e he).1
  have hact := Lib.hid hact
  obtain ⟨P1, M1, er⟩ := y
  dsimp only at hact
  by_cases he : er = 0
  · subst he
    obtain ⟨ho, hl⟩ := hy.yes rfl
    have hg := Lib.hid (gpt_with hto ho hl)
    dsimp only at hg
    clear hy ho hl
    go_enter Tryz.func118, Tryz.ntmps118
    go_wp2_with (first
      | (go_at_call 156; refine hact.out.mono ?_; rintro e w2 ⟨rfl, t2⟩; unfold errv)
      | (go_at_call 146; refine (gpoint_any t2 (hlen _) n).mono ?_; rw [hg.out]; rintro e w3 ⟨rfl, t3⟩)
      | fail)
    go_ret
    exact ⟨rfl, t3⟩
  · obtain ⟨rfl, rfl⟩ := hy.no he
    have hz := Lib.hid (errv_ne he)
    clear he hy
    go_enter Tryz.func118, Tryz.ntmps118
    go_wp2_with (first
      | (go_at_call 156; refine hact.out.mono ?_; rw [hz.out]; rintro e w2 ⟨rfl, t2⟩)
      | fail)
    go_ret
    exact ⟨hz.out ▸ rfl, t2⟩
set_option maxRecDepth 100000 in
set_option maxHeartbeats 1000000 in
theorem gseal_any (t : PG w W L K v P G.m (withLeaf G.m G.c) G.root G.walks) (hI : GInv P G E) (n : Int) :
    Calls Tryz.prog 131 #[.pointer (some ⟨K.g, 0, none⟩), .int .i64 n] W (ActPost w L K (gact G ((P, (mseal G.m n).1, (mseal G.m n).2)))) := by
  have c1 := t.c1
  have lg := t.glt
  have hact := Lib.hid (gchange_seal t hI n ((P, (mseal G.m n).1, (mseal G.m n).2)) (mact_seal P G.m n) ((mseal_any _ K.mb 65 L.p G.m t.m n).mono (by rintro e w2 ⟨rfl, q2, u2⟩; exact ⟨rfl, t.map q2 u2⟩)))
  generalize (P, (mseal G.m n).1, (mseal G.m n).2) = y at hact ⊢
  go_enter Tryz.func131, Tryz.ntmps131
  go_wp2_with (go_at_call 118; refine hact.out.mono ?_; rintro e w2 ⟨rfl, t2⟩)
  go_ret
  exact ⟨rfl, v, t2⟩

set_option maxRecDepth 100000 in
set_option maxHeartbeats 1000000 in
theorem gchange_join (t : PG w W L K v P G.m (withLeaf G.m G.c) G.root G.walks) (hI : GInv P G E) (n : Int) (b1 b2 : Nat) (y : PoolM × MapM × Nat) (hy : MAct P G.m n y)
    (hact : Calls Tryz.prog 157 #[.int .i64 n, .pointer (some ⟨b1, 0, none⟩), .pointer (some ⟨b2, 0, none⟩)] W fun e w' => e = .returned (errv y.2.2) ∧ PG w w' L K v y.1 y.2.1 (withLeaf G.m G.c) G.root G.walks) :
    Calls Tryz.prog 118 #[.pointer (some ⟨K.g, 0, none⟩), .int .i64 n, .func (.func 157) #[] #[.pointer (some ⟨b1, 0, none⟩), .pointer (some ⟨b2, 0, none⟩)]] W fun e w' =>
      e = .returned (errv y.2.2) ∧ PG w w' L K v y.1 y.2.1 (withLeaf y.2.1 G.c) G.root G.walks := by
  have hlen : ∀ M : MapM, (withLeaf M G.c).length ≤ 100 := fun M => by rw [withLeaf_length]; have := hI.c.len; omega
  have hto : ∀ e ∈ G.c, 0 ≤ e.to := fun e he => (hI.c.ent e he).1
  have hact := Lib.hid hact
  obtain ⟨P1, M1, er⟩ := y
  dsimp only at hact
  by_cases he : er = 0
  · subst he
    obtain ⟨ho, hl⟩ := hy.yes rfl
    have hg := Lib.hid (gpt_with hto ho hl)
    dsimp only at hg
    clear hy ho hl
    go_enter Tryz.func118, Tryz.ntmps118
    go_wp2_with (first
      | (go_at_call 157; refine hact.out.mono ?_; rintro e w2 ⟨rfl, t2⟩; unfold errv)
      | (go_at_call 146; refine (gpoint_any t2 (hlen _) n).mono ?_; rw [hg.out]; rintro e w3 ⟨rfl, t3⟩)
      | fail)
    go_ret
    exact ⟨rfl, t3⟩
  · obtain ⟨rfl, rfl⟩ := hy.no he
    have hz := Lib.hid (errv_ne he)
    clear he hy
    go_enter Tryz.func118, Tryz.ntmps118
    go_wp2_with (first
      | (go_at_call 157; refine hact.out.mono ?_; rw [hz.out]; rintro e w2 ⟨rfl, t2⟩)
      | fail)
    go_ret
    exact ⟨hz.out ▸ rfl, t2⟩

set_option maxRecDepth 100000 in
set_option maxHeartbeats 1000000 in
theorem gjoin1_any (t : PG w W L K v P G.m (withLeaf G.m G.c) G.root G.walks) (n fr : Int) {b1 b2 : Nat} (h1 : W.cell? ⟨b1, 0, none⟩ = some (.pointer (some ⟨K.g, 0, none⟩))) (h2 : W.cell? ⟨b2, 0, none⟩ = some (.int .i64 fr)) :
    Calls Tryz.prog 157 #[.int .i64 n, .pointer (some ⟨b1, 0, none⟩), .pointer (some ⟨b2, 0, none⟩)] W fun e w' =>
      e = .returned (errv (mjoin P G.m n fr).2.2) ∧ PG w w' L K v (mjoin P G.m n fr).1 (mjoin P G.m n fr).2.1 (withLeaf G.m G.c) G.root G.walks := by
  have c1 := t.c1
  have lg := t.glt
  have hj : Hid (∀ W', PG w W' L K v P G.m (withLeaf G.m G.c) G.root G.walks → Calls Tryz.prog 158 #[.pointer (some ⟨K.mb, 0, none⟩), .int .i64 n, .int .i64 fr] W' fun e w' =>
      e = .returned (errv (mjoin P G.m n fr).2.2) ∧ PG w w' L K v (mjoin P G.m n fr).1 (mjoin P G.m n fr).2.1 (withLeaf G.m G.c) G.root G.walks) := fun W' t' =>
    (join_any W' L P K.mb 65 G.m t'.rp t'.m n fr).mono (by rintro e w2 ⟨rfl, r2, q2, u2⟩; exact ⟨rfl, t'.mapP r2 q2 u2⟩)
  generalize mjoin P G.m n fr = y at hj ⊢
  go_enter Tryz.func157, Tryz.ntmps157
  go_wp2_with fail
  go_region_with (go_at_call 158; refine (hj.out _ (by repeat (first | assumption | apply PG.alloc | apply PG.drew | apply PG.drewN))).mono ?_; rintro e w2 ⟨rfl, t2⟩)
  all_goals go_wp2_with fail
  all_goals go_ret
  all_goals exact ⟨rfl, (by repeat (first | assumption | apply PG.alloc | apply PG.drew | apply PG.drewN))⟩
set_option maxRecDepth 100000 in
set_option maxHeartbeats 1000000 in
theorem gjoin_any (t : PG w W L K v P G.m (withLeaf G.m G.c) G.root G.walks) (hI : GInv P G E) (n fr : Int) :
    Calls Tryz.prog 132 #[.pointer (some ⟨K.g, 0, none⟩), .int .i64 n, .int .i64 fr] W (ActPost w L K (gact G (mjoin P G.m n fr))) := by
  have lg := t.glt
  have tb := (t.alloc (.cells #[.pointer (some ⟨K.g, 0, none⟩)] 77)).alloc (.cells #[.int .i64 fr] 3)
  have r1 := (row_one W 77 (.pointer (some ⟨K.g, 0, none⟩))).alloc (.cells #[.int .i64 fr] 3)
  have r2 := row_one (W.alloc (.cells #[.pointer (some ⟨K.g, 0, none⟩)] 77)) 3 (.int .i64 fr)
  rw [World.size_alloc] at r2
  have hact := Lib.hid (gchange_join tb hI n W.heap.size (W.heap.size + 1) (mjoin P G.m n fr) (mact_join P G.m n fr) (gjoin1_any tb n fr (r1.cell (i := 0) (by omega)) (r2.cell (i := 0) (by omega))))
  clear r1 r2 tb
  generalize mjoin P G.m n fr = y at hact ⊢
  go_enter Tryz.func132, Tryz.ntmps132
  go_wp2_with (go_at_call 118; refine hact.out.mono ?_; rintro e w2 ⟨rfl, t2⟩)
  go_ret
  exact ⟨rfl, v, t2⟩
end

end U
end Go.Proofs.YtnhplapcdgnaaaaGreatDoor
