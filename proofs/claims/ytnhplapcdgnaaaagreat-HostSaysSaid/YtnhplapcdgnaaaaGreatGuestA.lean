import Derived.Test.YtnhplapcdgnaaaaGreatMapHX
import Derived.Test.YtnhplapcdgnaaaaGreatCacheL
set_option linter.unusedVariables false
set_option linter.unusedSimpArgs false
namespace Go.Proofs.YtnhplapcdgnaaaaGreat
open Go.RowKit
namespace U

/-! Plain laws of a guest. -/
/-- What Touch tells. -/
theorem mtouch_cases (P : PoolM) (M : MapM) (n : Int) (wr : Bool) :
    ((mtouch P M n wr).2.2.2.2 ≠ 0 ∧ (mtouch P M n wr).1 = P ∧ (mtouch P M n wr).2.1 = M ∧ (mtouch P M n wr).2.2.1 = 0 ∧ (mtouch P M n wr).2.2.2.1 = false) ∨
    ((mtouch P M n wr).2.2.2.2 = 0 ∧ onB n = true ∧ ((mtouch P M n wr).2.1.leaf n.toNat).there = true ∧ (mtouch P M n wr).2.2.1 = ((mtouch P M n wr).2.1.leaf n.toNat).frame ∧
      (wr = true → ((mtouch P M n wr).2.1.leaf n.toNat).write = true)) := by
  unfold mtouch
  by_cases ho : onB n = true
  · rw [if_pos ho]
    by_cases s0 : M.state n.toNat = 0
    · rw [if_pos s0]; exact .inl ⟨by simp, rfl, rfl, rfl, rfl⟩
    · rw [if_neg s0]
      by_cases s2 : M.state n.toNat = 2
      · rw [if_pos s2]; exact .inl ⟨by simp, rfl, rfl, rfl, rfl⟩
      · rw [if_neg s2]
        split
        · rename_i hx
          refine .inr ⟨rfl, ho, ?_, rfl, fun hw => ?_⟩
          · simp at hx; exact hx.1
          · simp at hx; rcases hx.2 with h | h
            · exact h
            · rw [hw] at h; cases h
        · split
          · rename_i hx
            have ht : (M.leaf n.toNat).there = true := by simp at hx; exact hx.1
            exact .inr ⟨rfl, ho, by unfold MapM.setLeaf; simp [ht], by unfold MapM.setLeaf; simp, fun _ => by unfold MapM.setLeaf; simp⟩
          · cases P.free with
            | none => exact .inl ⟨by simp, rfl, rfl, rfl, rfl⟩
            | some f => exact .inr ⟨rfl, ho, by unfold MapM.setLeaf; simp, by unfold MapM.setLeaf; simp, fun _ => by unfold MapM.setLeaf; simp⟩
  · rw [if_neg ho]; exact .inl ⟨by simp, rfl, rfl, rfl, rfl⟩
theorem mtouch_state (P : PoolM) (M : MapM) (n : Int) (wr : Bool) : (mtouch P M n wr).2.1.state = M.state := by
  unfold mtouch
  repeat' split
  all_goals rfl
theorem mtouch_leaf (P : PoolM) (M : MapM) (n : Int) (wr : Bool) (i : Nat) (h : (i : Int) ≠ n) : (mtouch P M n wr).2.1.leaf i = M.leaf i := by
  unfold mtouch
  by_cases ho : onB n = true
  · have hn := onB_iff.1 ho
    have e : i ≠ n.toNat := by omega
    repeat' split
    all_goals first | rfl | (unfold MapM.setLeaf; simp [e])
  · rw [if_neg ho]

structure GuestM where
  m : MapM
  c : List EntryM
  root : Int
  walks : Int
def GuestM.fresh : GuestM := ⟨MapM.fresh, [], -1, 0⟩
def gtouch (P : PoolM) (G : GuestM) (n : Int) (wr : Bool) : PoolM × GuestM × Int × Nat :=
  ((mtouch P G.m n wr).1, { G with m := (mtouch P G.m n wr).2.1 }, (mtouch P G.m n wr).2.2.1, (mtouch P G.m n wr).2.2.2.2)
/-- The table's byte of a page. -/
def gbyte (P : PoolM) (f page : Int) : UInt8 := P.b f.toNat page.toNat
/-- A walk of the table: where the page leads to, whether it may be written. -/
def gwalk (P : PoolM) (G : GuestM) (page : Int) : PoolM × GuestM × Int × Bool × Nat :=
  let t := gtouch P G G.root false
  if t.2.2.2 ≠ 0 then (t.1, t.2.1, 0, false, t.2.2.2)
  else
    let b := gbyte t.1 t.2.2.1 page
    let G2 := { t.2.1 with walks := wrap64 (t.2.1.walks + 1) }
    if b.toNat < 128 then (t.1, G2, 0, false, 5) else (t.1, G2, (b.toNat % 16 : Nat), b.toNat / 64 % 2 == 1, 0)
def EntryM.of (root page to : Int) (may : Bool) : EntryM := ⟨root, page, to, may, LeafM.none⟩
/-- The frame of an address. -/
def gframe (P : PoolM) (G : GuestM) (addr : Int) (wr : Bool) : PoolM × GuestM × Int × Nat :=
  if addr < 0 ∨ 255 < addr then (P, G, 0, 1) else
  if G.root < 0 then gtouch P G (addr / 16) wr else
  match cacheAt G.c G.root (addr / 16) with
  | some i => if wr && !(G.c[i]?.getD EntryM.zero).may then (P, G, 0, 5) else gtouch P G (G.c[i]?.getD EntryM.zero).to wr
  | none =>
    let s := gwalk P G (addr / 16)
    if s.2.2.2.2 ≠ 0 then (s.1, s.2.1, 0, s.2.2.2.2) else
    if wr && !s.2.2.2.1 then (s.1, s.2.1, 0, 5) else
    let t := gtouch s.1 s.2.1 s.2.2.1 wr
    if t.2.2.2 ≠ 0 then t else (t.1, { t.2.1 with c := cput (EntryM.of G.root (addr / 16) s.2.2.1 s.2.2.2.1) t.2.1.c }, t.2.2.1, 0)
def gload (P : PoolM) (G : GuestM) (addr : Int) : PoolM × GuestM × UInt8 × Nat :=
  let t := gframe P G addr false
  if t.2.2.2 ≠ 0 then (t.1, t.2.1, 0, t.2.2.2) else (t.1, t.2.1, gbyte t.1 t.2.2.1 (addr % 16), 0)
def gstore (P : PoolM) (G : GuestM) (addr : Int) (v : UInt8) : PoolM × GuestM × Nat :=
  let t := gframe P G addr true
  if t.2.2.2 ≠ 0 then (t.1, t.2.1, t.2.2.2) else ((t.1.set t.2.2.1 (addr % 16) v).1, t.2.1, (t.1.set t.2.2.1 (addr % 16) v).2)
def groot (G : GuestM) (n : Int) : GuestM × Nat := if n < -1 ∨ 15 < n then (G, 1) else ({ G with root := n }, 0)
def gforget (G : GuestM) (addr : Int) : GuestM × Nat := if addr < 0 ∨ 255 < addr then (G, 1) else ({ G with c := keep2 G.root (addr / 16) G.c }, 0)
def gforgetAll (G : GuestM) (root : Int) : GuestM × Nat := if onB root then ({ G with c := keep1 root G.c }, 0) else (G, 1)

/-- A cache that is in order: keys once, few, of pages. -/
structure CInv (L : List EntryM) : Prop where
  keys : Keys L
  len : L.length ≤ 4
  ent : ∀ e ∈ L, 0 ≤ e.to ∧ e.to < 16 ∧ e.leaf = LeafM.none
structure GInv (P : PoolM) (G : GuestM) (E : Nat → Nat) : Prop where
  m : MInv P G.m E
  c : CInv G.c
  r0 : -1 ≤ G.root
  r1 : G.root ≤ 15
structure GStep (P : PoolM) (E : Nat → Nat) (P' : PoolM) (G' : GuestM) : Prop where
  n : P'.n = P.n
  inv : GInv P' G' E
  keep : ∀ f, f < P.n → 0 < E f → P'.b f = P.b f
theorem CInv.nil : CInv [] := ⟨List.Pairwise.nil, by simp, by simp⟩
theorem CInv.sub {L M : List EntryM} (h : CInv L) (s : M.Sublist L) : CInv M :=
  ⟨List.Pairwise.sublist s h.keys, Nat.le_trans s.length_le h.len, fun e he => h.ent e (s.subset he)⟩
theorem CInv.put {L : List EntryM} (h : CInv L) {e : EntryM} (he : 0 ≤ e.to ∧ e.to < 16 ∧ e.leaf = LeafM.none) : CInv (cput e L) := by
  refine ⟨h.keys.put e, cput_length h.len e, fun x hx => ?_⟩
  have hs : x ∈ keep2 e.root e.page L ++ [e] := by
    unfold cput at hx
    simp only [] at hx
    split at hx
    · exact List.mem_of_mem_drop hx
    · exact hx
  rcases List.mem_append.1 hs with h1 | h1
  · exact h.ent x (List.mem_filter.1 h1).1
  · have : x = e := by simpa using h1
    subst this; exact he

section
variable {P : PoolM} {G : GuestM} {E : Nat → Nat}
theorem GInv.stay (h : GInv P G E) : GStep P E P G := ⟨rfl, h, fun _ _ _ => rfl⟩
theorem GStep.trans {P' P'' : PoolM} {G' G'' : GuestM} (h : GStep P E P' G') (k : GStep P' E P'' G'') : GStep P E P'' G'' :=
  ⟨k.n.trans h.n, k.inv, fun f hf he => (k.keep f (by rw [h.n]; exact hf) he).trans (h.keep f hf he)⟩
theorem GInv.touch (h : GInv P G E) (n : Int) (wr : Bool) : GStep P E (gtouch P G n wr).1 (gtouch P G n wr).2.1 := by
  have k := (h.m.touch n wr).1
  exact ⟨k.n, ⟨k.inv, h.c, h.r0, h.r1⟩, k.keep⟩
theorem GInv.walk (h : GInv P G E) (page : Int) : GStep P E (gwalk P G page).1 (gwalk P G page).2.1 ∧ 0 ≤ (gwalk P G page).2.2.1 ∧ (gwalk P G page).2.2.1 < 16 := by
  have k := h.touch G.root false
  have kw : GStep P E (gtouch P G G.root false).1 { (gtouch P G G.root false).2.1 with walks := wrap64 ((gtouch P G G.root false).2.1.walks + 1) } := ⟨k.n, ⟨k.inv.m, k.inv.c, k.inv.r0, k.inv.r1⟩, k.keep⟩
  unfold gwalk
  simp only []
  split
  · exact ⟨k, by dsimp only; omega, by dsimp only; omega⟩
  · split
    · exact ⟨kw, by dsimp only; omega, by dsimp only; omega⟩
    · exact ⟨kw, by dsimp only; omega, by dsimp only; omega⟩
theorem GInv.frame (h : GInv P G E) (addr : Int) (wr : Bool) : GStep P E (gframe P G addr wr).1 (gframe P G addr wr).2.1 := by
  unfold gframe
  split
  · exact h.stay
  · split
    · exact h.touch _ _
    · cases hc : cacheAt G.c G.root (addr / 16) with
      | some i =>
        simp only []
        split
        · exact h.stay
        · exact h.touch _ _
      | none =>
        simp only []
        have hw := h.walk (addr / 16)
        split
        · exact hw.1
        · split
          · exact hw.1
          · have ht := hw.1.inv.touch (gwalk P G (addr / 16)).2.2.1 wr
            split
            · exact hw.1.trans ht
            · have k := hw.1.trans ht
              exact ⟨k.n, ⟨k.inv.m, k.inv.c.put ⟨hw.2.1, hw.2.2, rfl⟩, k.inv.r0, k.inv.r1⟩, k.keep⟩
/-- Where an address leads to a frame, one of the guest's pages is in it; if it is to be written, that page may be. -/
theorem gtouch_frame {n : Int} {wr : Bool} (he : (gtouch P G n wr).2.2.2 = 0) :
    ∃ k, k < 16 ∧ (((gtouch P G n wr).2.1.m.leaf k).there = true ∧ (gtouch P G n wr).2.2.1 = ((gtouch P G n wr).2.1.m.leaf k).frame ∧ (wr = true → ((gtouch P G n wr).2.1.m.leaf k).write = true)) := by
  rcases mtouch_cases P G.m n wr with h | ⟨h1, h2, h3, h4, h5⟩
  · exact absurd he h.1
  · have := onB_iff.1 h2
    exact ⟨n.toNat, by omega, h3, h4, h5⟩
theorem gframe_frame {addr : Int} {wr : Bool} (he : (gframe P G addr wr).2.2.2 = 0) :
    ∃ k, k < 16 ∧ (((gframe P G addr wr).2.1.m.leaf k).there = true ∧ (gframe P G addr wr).2.2.1 = ((gframe P G addr wr).2.1.m.leaf k).frame ∧ (wr = true → ((gframe P G addr wr).2.1.m.leaf k).write = true)) := by
  unfold gframe at he ⊢
  by_cases ha : addr < 0 ∨ 255 < addr
  · rw [if_pos ha] at he; simp at he
  · rw [if_neg ha] at he ⊢
    by_cases hr : G.root < 0
    · rw [if_pos hr] at he ⊢; exact gtouch_frame he
    · rw [if_neg hr] at he ⊢
      cases hc : cacheAt G.c G.root (addr / 16) with
      | some i =>
        rw [hc] at he
        simp only [] at he ⊢
        split at he
        · simp at he
        · rename_i hx; rw [if_neg hx]; exact gtouch_frame he
      | none =>
        rw [hc] at he
        simp only [] at he ⊢
        split at he
        · rename_i hx; exact absurd he hx
        · rename_i hx
          rw [if_neg hx]
          split at he
          · simp at he
          · rename_i hy
            rw [if_neg hy]
            split at he
            · rename_i hz; exact absurd he hz
            · rename_i hz
              rw [if_neg hz]
              have hz' : (gtouch (gwalk P G (addr / 16)).1 (gwalk P G (addr / 16)).2.1 (gwalk P G (addr / 16)).2.2.1 wr).2.2.2 = 0 := by simpa using hz
              exact gtouch_frame hz'
theorem GInv.frame_used (h : GInv P G E) {addr : Int} {wr : Bool} (he : (gframe P G addr wr).2.2.2 = 0) : (gframe P G addr wr).1.used (gframe P G addr wr).2.2.1 = true := by
  obtain ⟨k, hk, h1, h2, _⟩ := gframe_frame he
  rw [h2]
  exact (h.frame addr wr).inv.m.used hk h1
theorem GInv.load (h : GInv P G E) (addr : Int) : GStep P E (gload P G addr).1 (gload P G addr).2.1 := by
  unfold gload
  simp only []
  split <;> exact h.frame addr false
/-- A byte that is set in a frame of a page. -/
theorem MInv.set {M : MapM} (h : MInv P M E) {k : Nat} (hk : k < 16) (ht : (M.leaf k).there = true) (at_ : Int) (v : UInt8) :
    MStep P E (P.set (M.leaf k).frame at_ v).1 M := by
  have e : (P.set (M.leaf k).frame at_ v).1 = P ∨ ((P.set (M.leaf k).frame at_ v).1 = P.setByte (M.leaf k).frame.toNat at_.toNat v ∧ P.refs (M.leaf k).frame.toNat ≤ 1) := by
    unfold PoolM.set
    repeat' split
    all_goals first | exact .inl rfl | exact .inr ⟨rfl, by omega⟩
  rcases e with e | ⟨e, h1⟩
  · rw [e]; exact h.stay
  · rw [e]
    obtain ⟨_, f0, f1⟩ := h.here k hk ht
    have hp := mcnt_pos hk ht f0
    have hc := h.cnt (M.leaf k).frame.toNat (by omega)
    refine ⟨rfl, ⟨h.st, h.here, h.none, h.cnt, h.small⟩, fun f hf he => ?_⟩
    unfold PoolM.setByte PoolM.setRow
    funext j
    simp only []
    rw [if_neg]
    rintro rfl
    omega
theorem GInv.store (h : GInv P G E) (addr : Int) (v : UInt8) : GStep P E (gstore P G addr v).1 (gstore P G addr v).2.1 := by
  unfold gstore
  simp only []
  split
  · exact h.frame addr true
  · rename_i he
    have he' : (gframe P G addr true).2.2.2 = 0 := by simpa using he
    obtain ⟨k, hk, h1, h2, _⟩ := gframe_frame he'
    have s := h.frame addr true
    have t := s.inv.m.set hk h1 (addr % 16) v
    rw [← h2] at t
    exact s.trans ⟨t.n, ⟨t.inv, s.inv.c, s.inv.r0, s.inv.r1⟩, t.keep⟩
theorem GInv.setRoot (h : GInv P G E) (n : Int) : GInv P (groot G n).1 E := by
  unfold groot
  split
  · exact h
  · exact ⟨h.m, h.c, by show -1 ≤ n; omega, by show n ≤ 15; omega⟩
theorem GInv.forget (h : GInv P G E) (a : Int) : GInv P (gforget G a).1 E := by
  unfold gforget
  split
  · exact h
  · exact ⟨h.m, h.c.sub (List.filter_sublist), h.r0, h.r1⟩
theorem GInv.forgetAll (h : GInv P G E) (a : Int) : GInv P (gforgetAll G a).1 E := by
  unfold gforgetAll
  split
  · exact ⟨h.m, h.c.sub (List.filter_sublist), h.r0, h.r1⟩
  · exact h
/-- An act on the map alone. -/
theorem GInv.map (h : GInv P G E) {P' : PoolM} {M' : MapM} (k : MStep P E P' M') : GStep P E P' { G with m := M' } := ⟨k.n, ⟨k.inv, h.c, h.r0, h.r1⟩, k.keep⟩
end

/-- What is remembered, with the leaves of the pages. -/
def withLeaf (M : MapM) (L : List EntryM) : List EntryM := L.map fun e => { e with leaf := M.leaf e.to.toNat }
theorem withLeaf_length (M : MapM) (L : List EntryM) : (withLeaf M L).length = L.length := by simp [withLeaf]
theorem withLeaf_congr {M M' : MapM} {L : List EntryM} (h : ∀ e ∈ L, M.leaf e.to.toNat = M'.leaf e.to.toNat) : withLeaf M L = withLeaf M' L := by
  unfold withLeaf
  exact List.map_congr_left fun e he => by rw [h e he]
theorem withLeaf_keep2 (M : MapM) (L : List EntryM) (r p : Int) : keep2 r p (withLeaf M L) = withLeaf M (keep2 r p L) := by
  unfold keep2 withLeaf
  rw [List.filter_map]
  rfl
theorem withLeaf_keep1 (M : MapM) (L : List EntryM) (r : Int) : keep1 r (withLeaf M L) = withLeaf M (keep1 r L) := by
  unfold keep1 withLeaf
  rw [List.filter_map]
  rfl
theorem withLeaf_put (M : MapM) (L : List EntryM) (e : EntryM) : cput { e with leaf := M.leaf e.to.toNat } (withLeaf M L) = withLeaf M (cput e L) := by
  have h : keep2 e.root e.page (withLeaf M L) ++ [{ e with leaf := M.leaf e.to.toNat }] = withLeaf M (keep2 e.root e.page L ++ [e]) := by
    rw [withLeaf_keep2]; unfold withLeaf; rw [List.map_append]; rfl
  unfold cput
  simp only []
  rw [h, withLeaf_length]
  split
  · unfold withLeaf; rw [List.map_drop]
  · rfl
/-- A page's entries are pointed to where it is now. -/
theorem withLeaf_point {M M' : MapM} {L : List EntryM} {n : Int} (h : ∀ e ∈ L, 0 ≤ e.to) (hn : 0 ≤ n) (hM : ∀ i : Nat, (i : Int) ≠ n → M'.leaf i = M.leaf i) : (withLeaf M L).map (ptE n (M'.leaf n.toNat)) = withLeaf M' L := by
  unfold withLeaf
  rw [List.map_map]
  refine List.map_congr_left fun e he => ?_
  have h0 := h e he
  unfold ptE
  simp only [Function.comp]
  by_cases e1 : e.to = n
  · rw [if_pos e1, e1]
  · rw [if_neg e1, hM _ (by omega)]
theorem withLeaf_at (M : MapM) (L : List EntryM) (r p : Int) : cacheAt (withLeaf M L) r p = cacheAt L r p := by
  unfold cacheAt withLeaf
  rw [List.findIdx?_map]
  rfl

end U
end Go.Proofs.YtnhplapcdgnaaaaGreat
