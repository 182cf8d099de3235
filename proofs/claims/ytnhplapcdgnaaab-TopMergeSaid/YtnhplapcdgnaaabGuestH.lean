import Derived.Test.YtnhplapcdgnaaabGuestG
set_option linter.unusedVariables false
set_option linter.unusedSimpArgs false
namespace Go.Proofs.Ytnhplapcdgnaaab
open Go.RowKit
namespace U

/-! The program's guest: loads, stores, what it forgets, its map's acts. -/
section
variable {w W : World} {L : PoolAt} {K : GAt} {v : Value} {P : PoolM} {E : Nat → Nat} {G : GuestM}

def LoadPost (w : World) (L : PoolAt) (K : GAt) (x : PoolM × GuestM × UInt8 × Nat) (e : Ending) (w' : World) : Prop :=
  e = .returned (.tuple #[.int .u8 x.2.2.1.toNat, errv x.2.2.2]) ∧ ∃ v', PG w w' L K v' x.1 x.2.1.m (withLeaf x.2.1.m x.2.1.c) x.2.1.root x.2.1.walks
/-- What an act leaves: its error, the guest. -/
def ActPost (w : World) (L : PoolAt) (K : GAt) (x : PoolM × GuestM × Nat) (e : Ending) (w' : World) : Prop :=
  e = .returned (errv x.2.2) ∧ ∃ v', PG w w' L K v' x.1 x.2.1.m (withLeaf x.2.1.m x.2.1.c) x.2.1.root x.2.1.walks

theorem Upd.box3 {a w : World} {b : Nat} (u : Upd Non a w) (hb : a.heap.size ≤ b) (v0 v1 v2 : Value) :
    Upd Non a (((w.setCell ⟨b, 0, none⟩ v0).setCell ⟨b, 1, none⟩ v1).setCell ⟨b, 2, none⟩ v2) := by
  have h : ∀ i, (⟨b, i, none⟩ : Addr).block < a.heap.size → Non (⟨b, i, none⟩ : Addr).block := fun i h => absurd h (by show ¬ b < _; omega)
  exact (((u.setCell (h 0) v0).setCell (h 1) v1).setCell (h 2) v2)
theorem gframe_range {addr : Int} {wr : Bool} (h : (gframe P G addr wr).2.2.2 = 0) : 0 ≤ addr ∧ addr ≤ 255 := by
  by_cases ha : addr < 0 ∨ 255 < addr
  · unfold gframe at h; rw [if_pos ha] at h; simp at h
  · omega

set_option maxRecDepth 100000 in
set_option maxHeartbeats 1000000 in
theorem gload_any (t : PG w W L K v P G.m (withLeaf G.m G.c) G.root G.walks) (hI : GInv P G E) (addr : Int) :
    Calls Try.prog 42 #[.pointer (some ⟨K.g, 0, none⟩), .int .i64 addr] W (LoadPost w L K (gload P G addr)) := by
  have hframe := Lib.hid (gframe_any t hI addr false)
  have hF : Hid (gload P G addr = if (gframe P G addr false).2.2.2 ≠ 0 then ((gframe P G addr false).1, (gframe P G addr false).2.1, 0, (gframe P G addr false).2.2.2) else ((gframe P G addr false).1, (gframe P G addr false).2.1, gbyte (gframe P G addr false).1 (gframe P G addr false).2.2.1 (addr % 16), 0)) := rfl
  by_cases he : (gframe P G addr false).2.2.2 = 0
  · have hu := hI.frame_used he
    obtain ⟨h0, h1⟩ := gframe_range he
    have hget : Hid ((gframe P G addr false).1.get (gframe P G addr false).2.2.1 (addr % 16) = (gbyte (gframe P G addr false).1 (gframe P G addr false).2.2.1 (addr % 16), 0)) := by
      show _ = _
      unfold PoolM.get gbyte
      rw [if_neg (by omega), if_pos hu]
    rw [if_neg (by simpa using he)] at hF
    clear hu
    generalize gbyte (gframe P G addr false).1 (gframe P G addr false).2.2.1 (addr % 16) = b at hget hF
    generalize gframe P G addr false = X at hframe hF hget he
    obtain ⟨P1, G1, f, er⟩ := X
    dsimp only at he hF hget
    subst he
    go_enter Try.func42, Try.ntmps42
    go_wp2_with (first
      | (go_at_call 62; refine hframe.out.mono ?_; unfold FramePost; dsimp only; rintro e w2 ⟨rfl, v2, t2⟩; unfold errv; have d0 := t2.c0; have lg2 := t2.glt)
      | (go_at_call 63; refine (get_any _ L P1 t2.rp f (addr % 16)).mono ?_; rw [hget.out]; rintro e w3 ⟨rfl, rfl⟩; unfold errv)
      | fail)
    go_ret2
    exact ⟨by rw [hF.out]; rfl, v2, by rw [hF.out]; exact t2⟩
  · rw [if_pos he] at hF
    generalize gframe P G addr false = X at hframe hF he
    obtain ⟨P1, G1, f, er⟩ := X
    dsimp only at he hF
    have hz := Lib.hid (errv_ne he)
    clear he
    go_enter Try.func42, Try.ntmps42
    go_wp2_with (first
      | (go_at_call 62; refine hframe.out.mono ?_; unfold FramePost; dsimp only; rw [hz.out]; rintro e w2 ⟨rfl, v2, t2⟩)
      | fail)
    go_ret2
    exact ⟨by rw [hF.out]; show _ = Ending.returned (.tuple #[.int .u8 0, errv er]); rw [hz.out]; rfl, v2, by rw [hF.out]; exact t2⟩

set_option maxRecDepth 100000 in
set_option maxHeartbeats 1000000 in
theorem gstore_any (t : PG w W L K v P G.m (withLeaf G.m G.c) G.root G.walks) (hI : GInv P G E) (addr : Int) (b : UInt8) :
    Calls Try.prog 43 #[.pointer (some ⟨K.g, 0, none⟩), .int .i64 addr, .int .u8 b.toNat] W (ActPost w L K (gstore P G addr b)) := by
  have hframe := Lib.hid (gframe_any t hI addr true)
  have hF : Hid (gstore P G addr b = if (gframe P G addr true).2.2.2 ≠ 0 then ((gframe P G addr true).1, (gframe P G addr true).2.1, (gframe P G addr true).2.2.2) else (((gframe P G addr true).1.set (gframe P G addr true).2.2.1 (addr % 16) b).1, (gframe P G addr true).2.1, ((gframe P G addr true).1.set (gframe P G addr true).2.2.1 (addr % 16) b).2)) := rfl
  by_cases he : (gframe P G addr true).2.2.2 = 0
  · obtain ⟨h0, h1⟩ := gframe_range he
    rw [if_neg (by simpa using he)] at hF
    generalize gframe P G addr true = X at hframe hF he
    obtain ⟨P1, G1, f, er⟩ := X
    dsimp only at he hF
    subst he
    go_enter Try.func43, Try.ntmps43
    go_wp2_with (first
      | (go_at_call 62; refine hframe.out.mono ?_; unfold FramePost; dsimp only; rintro e w2 ⟨rfl, v2, t2⟩; unfold errv; have d0 := t2.c0; have lg2 := t2.glt)
      | (go_at_call 64; refine (set_any _ L P1 t2.rp f (addr % 16) b).mono ?_; rintro e w3 ⟨rfl, r3, u3⟩; have t3 := t2.pool r3 u3)
      | fail)
    go_ret
    exact ⟨by rw [hF.out]; rfl, v2, by rw [hF.out]; exact t3⟩
  · rw [if_pos he] at hF
    generalize gframe P G addr true = X at hframe hF he
    obtain ⟨P1, G1, f, er⟩ := X
    dsimp only at he hF
    have hz := Lib.hid (errv_ne he)
    clear he
    go_enter Try.func43, Try.ntmps43
    go_wp2_with (first
      | (go_at_call 62; refine hframe.out.mono ?_; unfold FramePost; dsimp only; rw [hz.out]; rintro e w2 ⟨rfl, v2, t2⟩)
      | fail)
    go_ret
    exact ⟨by rw [hF.out]; show _ = Ending.returned (errv er); rw [hz.out]; rfl, v2, by rw [hF.out]; exact t2⟩

set_option maxRecDepth 100000 in
set_option maxHeartbeats 400000 in
theorem gsetRoot_any (t : PG w W L K v P G.m (withLeaf G.m G.c) G.root G.walks) (n : Int) :
    Calls Try.prog 44 #[.pointer (some ⟨K.g, 0, none⟩), .int .i64 n] W (ActPost w L K (P, groot G n)) := by
  have c3 := t.c3
  have f3 := t.fr 3
  have lg := t.glt
  by_cases h : n < -1 ∨ 15 < n
  · have hF : Hid (groot G n = (G, 1)) := by show _ = _; unfold groot; rw [if_pos h]
    go_enter Try.func44, Try.ntmps44
    go_wp2_with fail
    all_goals first | (exfalso; simp_all; omega) | go_ret
    all_goals exact ⟨by rw [hF.out]; rfl, v, by rw [hF.out]; exact t⟩
  · have hF : Hid (groot G n = ({ G with root := n }, 0)) := by show _ = _; unfold groot; rw [if_neg h]
    have h0 : -1 ≤ n := by omega
    have h1 : n < 16 := by omega
    clear h
    go_enter Try.func44, Try.ntmps44
    go_wp2_with fail
    all_goals first | (exfalso; simp_all; omega) | go_ret
    all_goals exact ⟨by rw [hF.out]; rfl, v, by rw [hF.out]; exact t.setRoot n⟩

set_option maxRecDepth 100000 in
set_option maxHeartbeats 1000000 in
theorem gforget_any (t : PG w W L K v P G.m (withLeaf G.m G.c) G.root G.walks) (hI : GInv P G E) (addr : Int) :
    Calls Try.prog 45 #[.pointer (some ⟨K.g, 0, none⟩), .int .i64 addr] W (ActPost w L K (P, gforget G addr)) := by
  have c2 := t.c2
  have c3 := t.c3
  have lg := t.glt
  have hlen : (withLeaf G.m G.c).length ≤ 100 := by rw [withLeaf_length]; have := hI.c.len; omega
  by_cases h : addr < 0 ∨ 255 < addr
  · have hF : Hid (gforget G addr = (G, 1)) := by show _ = _; unfold gforget; rw [if_pos h]
    go_enter Try.func45, Try.ntmps45
    go_wp2_with fail
    all_goals first | (exfalso; simp_all; done) | go_ret
    all_goals exact ⟨by rw [hF.out]; rfl, v, by rw [hF.out]; exact t⟩
  · have hF : Hid (gforget G addr = ({ G with c := keep2 G.root (addr / 16) G.c }, 0)) := by show _ = _; unfold gforget; rw [if_neg h]
    have hk := Lib.hid (withLeaf_keep2 G.m G.c G.root (addr / 16))
    have h0 : 0 ≤ addr := by omega
    have h1 : addr ≤ 255 := by omega
    clear h hI
    go_enter Try.func45, Try.ntmps45
    go_wp2_with fail
    go_still_tail 10, (by kernel_rfl)
    have td := t.drew
    change wpList _ _ _ _ _ W.drew
    clear c2 c3 lg
    generalize W.drew = wd at td ⊢
    go_wp2_with (first
      | (go_at_call 65; refine (cDrop_any _ K.cb v (withLeaf G.m G.c) td.cr td.ev hlen G.root (addr / 16)).mono ?_; rw [hk.out]; rintro e w3 ⟨v', rfl, r3, e3, k3, u3⟩; have t3 := td.cput r3 e3 k3 u3)
      | fail)
    go_ret
    exact ⟨by rw [hF.out]; rfl, _, by rw [hF.out]; exact t3⟩

set_option maxRecDepth 100000 in
set_option maxHeartbeats 1000000 in
theorem gforgetAll_any (t : PG w W L K v P G.m (withLeaf G.m G.c) G.root G.walks) (hI : GInv P G E) (n : Int) :
    Calls Try.prog 46 #[.pointer (some ⟨K.g, 0, none⟩), .int .i64 n] W (ActPost w L K (P, gforgetAll G n)) := by
  have c2 := t.c2
  have lg := t.glt
  have hlen : (withLeaf G.m G.c).length ≤ 100 := by rw [withLeaf_length]; have := hI.c.len; omega
  by_cases h : onB n = true
  · have hF : Hid (gforgetAll G n = ({ G with c := keep1 n G.c }, 0)) := by show _ = _; unfold gforgetAll; rw [if_pos h]
    have hk := Lib.hid (withLeaf_keep1 G.m G.c n)
    obtain ⟨h0, h1⟩ := onB_iff.1 h
    clear h hI
    go_enter Try.func46, Try.ntmps46
    go_wp2_with (first
      | (go_at_call 66; refine (cForget_any _ K.cb v (withLeaf G.m G.c) t.cr t.ev hlen n).mono ?_; rw [hk.out]; rintro e w3 ⟨v', rfl, r3, e3, k3, u3⟩; have t3 := t.cput r3 e3 k3 u3)
      | fail)
    all_goals first | (exfalso; simp_all; omega) | go_ret
    all_goals exact ⟨by rw [hF.out]; rfl, _, by rw [hF.out]; exact t3⟩
  · have hF : Hid (gforgetAll G n = (G, 1)) := by show _ = _; unfold gforgetAll; rw [if_neg h]
    have h2 : n < 0 ∨ 15 < n := by
      by_cases a : n < 0
      · exact .inl a
      · exact .inr (by apply Classical.byContradiction; intro b; exact h (onB_iff.2 ⟨by omega, by omega⟩))
    clear h hI
    go_enter Try.func46, Try.ntmps46
    go_wp2_with fail
    all_goals first | (exfalso; simp_all; omega) | go_ret
    all_goals exact ⟨by rw [hF.out]; rfl, v, by rw [hF.out]; exact t⟩

set_option maxRecDepth 100000 in
theorem gstate_any (t : PG w W L K v P G.m (withLeaf G.m G.c) G.root G.walks) (n : Int) :
    Calls Try.prog 37 #[.pointer (some ⟨K.g, 0, none⟩), .int .i64 n] W fun e w' => e = .returned (.tuple #[.int .i64 (mstate G.m n).1, errv (mstate G.m n).2]) ∧ W = w' := by
  have c1 := t.c1
  have lg := t.glt
  go_enter Try.func37, Try.ntmps37
  go_wp2_with (go_at_call 58; refine (mstate_any _ K.mb 65 L.p G.m t.m n).mono ?_; rintro e w2 ⟨rfl, rfl⟩)
  go_ret2
  exact ⟨rfl, rfl⟩
set_option maxRecDepth 100000 in
theorem gleaf_any (t : PG w W L K v P G.m (withLeaf G.m G.c) G.root G.walks) (n : Int) :
    Calls Try.prog 29 #[.pointer (some ⟨K.g, 0, none⟩), .int .i64 n] W fun e w' => e = .returned (.tuple #[(mleaf G.m n).1.val, errv (mleaf G.m n).2]) ∧ Upd Non W w' := by
  have c1 := t.c1
  have lg := t.glt
  generalize hm : mleaf G.m n = y
  have hm := Lib.hid hm
  obtain ⟨⟨there, write, fr⟩, er⟩ := y
  go_enter Try.func29, Try.ntmps29
  go_wp2_with (go_at_call 49; refine (mleaf_any _ K.mb 65 L.p G.m (t.alloc _).m n).mono ?_; rw [hm.out]; rintro e w2 ⟨rfl, u2⟩; unfold LeafM.val; obtain ⟨hcc, hff⟩ := u2.cells; have hz := u2.size; simp at hz)
  exact bodyPost_ret (v := .tuple #[LeafM.val ⟨there, write, fr⟩, errv er]) (by simp [results, Try.results29, go_sem, hcc, LeafM.val]) rfl ⟨rfl, Upd.box3 (((Upd.refl _ _).alloc _).trans u2) (Nat.le_refl _) _ _ _⟩
end

end U
end Go.Proofs.Ytnhplapcdgnaaab
