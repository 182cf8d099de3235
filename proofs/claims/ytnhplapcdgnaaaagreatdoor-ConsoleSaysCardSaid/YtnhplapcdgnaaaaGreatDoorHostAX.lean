import Derived.Test.YtnhplapcdgnaaaaGreatDoorGuestHX
import Derived.Test.YtnhplapcdgnaaaaGreatDoorMapLawX
import Derived.Test.YtnhplapcdgnaaaaGreatDoorTabs
set_option linter.unusedVariables false
set_option linter.unusedSimpArgs false
namespace Go.Proofs.YtnhplapcdgnaaaaGreatDoor
open Go.RowKit
namespace U

/-! Plain laws of a host. -/
structure HostM where
  p : PoolM
  g : Nat → Option GuestM
def HostM.put (H : HostM) (n : Nat) (P : PoolM) (o : Option GuestM) : HostM := ⟨P, fun i => if i = n then o else H.g i⟩
/-- How many pages of a guest are in a frame. -/
def ocnt (o : Option GuestM) (f : Nat) : Nat := match o with | some G => mcnt G.m f | none => 0
def hcnt (H : HostM) (f : Nat) : Nat := ocnt (H.g 0) f + ocnt (H.g 1) f + ocnt (H.g 2) f + ocnt (H.g 3) f
/-- .. of the others. -/
def hrest (H : HostM) (n f : Nat) : Nat := (if n = 0 then 0 else ocnt (H.g 0) f) + (if n = 1 then 0 else ocnt (H.g 1) f) + (if n = 2 then 0 else ocnt (H.g 2) f) + (if n = 3 then 0 else ocnt (H.g 3) f)
theorem ocnt_le (o : Option GuestM) (f : Nat) : ocnt o f ≤ 16 := by
  cases o with
  | none => exact Nat.zero_le _
  | some G => exact mcnt_le G.m f
theorem four {n : Nat} (hn : n < 4) : n = 0 ∨ n = 1 ∨ n = 2 ∨ n = 3 := by omega
theorem hcnt_split (H : HostM) {n : Nat} (hn : n < 4) (f : Nat) : hcnt H f = ocnt (H.g n) f + hrest H n f := by
  unfold hcnt hrest
  rcases four hn with rfl | rfl | rfl | rfl <;> simp <;> omega
theorem hrest_put (H : HostM) (n : Nat) (P : PoolM) (o : Option GuestM) (f : Nat) : hrest (H.put n P o) n f = hrest H n f := by
  unfold hrest HostM.put
  by_cases h0 : n = 0
  · subst h0; simp
  · by_cases h1 : n = 1
    · subst h1; simp
    · by_cases h2 : n = 2
      · subst h2; simp
      · by_cases h3 : n = 3
        · subst h3; simp
        · simp [h0, h1, h2, h3, Ne.symm h0, Ne.symm h1, Ne.symm h2, Ne.symm h3]
theorem hcnt_put (H : HostM) {n : Nat} (hn : n < 4) (P : PoolM) (o : Option GuestM) (f : Nat) : hcnt (H.put n P o) f = ocnt o f + hrest H n f := by
  rw [hcnt_split _ hn, hrest_put]
  unfold HostM.put
  simp
theorem hrest_le (H : HostM) (n f : Nat) : hrest H n f ≤ 64 := by
  unfold hrest
  have h0 := ocnt_le (H.g 0) f
  have h1 := ocnt_le (H.g 1) f
  have h2 := ocnt_le (H.g 2) f
  have h3 := ocnt_le (H.g 3) f
  split <;> split <;> split <;> split <;> omega

/-- A block's pages are plugged all or none. -/
def Blk (M : MapM) : Prop := ∀ b, b < 4 → ∀ k, k < 4 → (M.state (4 * b) = 0 ↔ M.state (4 * b + k) = 0)
theorem Blk.congr {M M' : MapM} (h : Blk M) (hs : ∀ i, i < 16 → (M'.state i = 0 ↔ M.state i = 0)) : Blk M' := fun b hb k hk => by
  rw [hs _ (by omega), hs _ (by omega)]; exact h b hb k hk
structure GOk (N : Nat) (G : GuestM) : Prop where
  st : ∀ i, i < 16 → G.m.state i = 0 ∨ G.m.state i = 1 ∨ G.m.state i = 2
  here : ∀ i, i < 16 → (G.m.leaf i).there = true → G.m.state i = 1 ∧ 0 ≤ (G.m.leaf i).frame ∧ (G.m.leaf i).frame < N
  none : ∀ i, i < 16 → (G.m.leaf i).there = false → G.m.leaf i = LeafM.none
  c : CInv G.c
  r0 : -1 ≤ G.root
  r1 : G.root ≤ 15
  blk : Blk G.m
structure HInv (H : HostM) : Prop where
  cnt : ∀ f, f < H.p.n → H.p.refs f = (hcnt H f : Nat)
  g : ∀ n, n < 4 → ∀ G, H.g n = some G → GOk H.p.n G
theorem HInv.gi {H : HostM} (h : HInv H) {n : Nat} (hn : n < 4) {G : GuestM} (hg : H.g n = some G) : GInv H.p G (hrest H n) := by
  have k := h.g n hn G hg
  refine ⟨⟨k.st, k.here, k.none, fun f hf => ?_, fun f => ?_⟩, k.c, k.r0, k.r1⟩
  · rw [h.cnt f hf, hcnt_split H hn f, hg]; rfl
  · have := hrest_le H n f; omega
theorem HInv.step {H : HostM} (h : HInv H) {n : Nat} (hn : n < 4) {P' : PoolM} {G' : GuestM} (s : GStep H.p (hrest H n) P' G') (hb : Blk G'.m) : HInv (H.put n P' (some G')) := by
  refine ⟨fun f hf => ?_, fun i hi G hg => ?_⟩
  · rw [hcnt_put H hn]
    exact s.inv.m.cnt f hf
  · unfold HostM.put at hg ⊢
    simp only [] at hg ⊢
    by_cases e : i = n
    · rw [if_pos e] at hg
      cases hg
      exact ⟨s.inv.m.st, s.inv.m.here, s.inv.m.none, s.inv.c, s.inv.r0, s.inv.r1, hb⟩
    · rw [if_neg e] at hg
      have k := h.g i hi G hg
      exact ⟨k.st, by rw [s.n]; exact k.here, k.none, k.c, k.r0, k.r1, k.blk⟩
theorem put_n (H : HostM) (n : Nat) (P : PoolM) (o : Option GuestM) : (H.put n P o).p = P := rfl
theorem put_same {H : HostM} {n : Nat} {P : PoolM} {o : Option GuestM} (h : H.g n = o) (hp : H.p = P) : H.put n P o = H := by
  subst h hp
  unfold HostM.put
  cases H with
  | mk p g =>
    simp only [HostM.mk.injEq, true_and]
    funext i
    by_cases e : i = n
    · subst e; simp
    · simp [e]

/-! Acts. -/
/-- An act on one guest. -/
def hon (H : HostM) (n : Int) (f : PoolM → GuestM → PoolM × GuestM × Nat) : HostM × Nat :=
  if n < 0 ∨ 3 < n then (H, 1) else
  match H.g n.toNat with
  | none => (H, 2)
  | some G => (H.put n.toNat (f H.p G).1 (some (f H.p G).2.1), (f H.p G).2.2)
def hload (H : HostM) (n addr : Int) : HostM × UInt8 × Nat :=
  if n < 0 ∨ 3 < n then (H, 0, 1) else
  match H.g n.toNat with
  | none => (H, 0, 2)
  | some G => (H.put n.toNat (gload H.p G addr).1 (some (gload H.p G addr).2.1), (gload H.p G addr).2.2)
/-- Which way a number goes. -/
theorem who_ways (H : HostM) (n : Int) : (n < 0 ∨ 3 < n) ∨ (∃ k : Nat, k < 4 ∧ n = k ∧ H.g k = none) ∨ (∃ (k : Nat) (G : GuestM), k < 4 ∧ n = k ∧ H.g k = some G) := by
  by_cases h : n < 0 ∨ 3 < n
  · exact .inl h
  · right
    have e : n = (n.toNat : Int) := by omega
    cases hg : H.g n.toNat with
    | none => exact .inl ⟨n.toNat, by omega, e, hg⟩
    | some G => exact .inr ⟨n.toNat, G, by omega, e, hg⟩
section
variable {H : HostM} {f : PoolM → GuestM → PoolM × GuestM × Nat} {n : Int} {k : Nat} {G : GuestM}
theorem hon_off (h : n < 0 ∨ 3 < n) : hon H n f = (H, 1) := by unfold hon; rw [if_pos h]
theorem hon_none (hk : k < 4) (h : H.g k = none) : hon H k f = (H, 2) := by
  unfold hon; rw [if_neg (by omega), Int.toNat_natCast, h]
theorem hon_some (hk : k < 4) (h : H.g k = some G) : hon H k f = (H.put k (f H.p G).1 (some (f H.p G).2.1), (f H.p G).2.2) := by
  unfold hon; rw [if_neg (by omega), Int.toNat_natCast, h]
theorem hload_off {a : Int} (h : n < 0 ∨ 3 < n) : hload H n a = (H, 0, 1) := by unfold hload; rw [if_pos h]
theorem hload_none {a : Int} (hk : k < 4) (h : H.g k = none) : hload H k a = (H, 0, 2) := by
  unfold hload; rw [if_neg (by omega), Int.toNat_natCast, h]
theorem hload_some {a : Int} (hk : k < 4) (h : H.g k = some G) : hload H k a = (H.put k (gload H.p G a).1 (some (gload H.p G a).2.1), (gload H.p G a).2.2) := by
  unfold hload; rw [if_neg (by omega), Int.toNat_natCast, h]
end
def hstore (H : HostM) (n addr : Int) (v : UInt8) := hon H n fun P G => gstore P G addr v
def hroot (H : HostM) (n a : Int) := hon H n fun P G => (P, groot G a)
def hforget (H : HostM) (n a : Int) := hon H n fun P G => (P, gforget G a)
def hforgetAll (H : HostM) (n a : Int) := hon H n fun P G => (P, gforgetAll G a)
def hgive (H : HostM) (n page : Int) := hon H n fun P G => gact G (mgive P G.m page)
/-- How many pages are plain. -/
def oprom (o : Option GuestM) : Nat := match o with | some G => (List.range 16).countP (fun i => G.m.state i == 1) | none => 0
def hpromN (H : HostM) : Nat → Nat
  | 0 => 0
  | i + 1 => hpromN H i + oprom (H.g i)
def hprom (H : HostM) : Nat := hpromN H 4
def hbackF (H : HostM) (page : Int) (P : PoolM) (G : GuestM) : PoolM × GuestM × Nat :=
  if onB page = true ∧ G.m.state page.toNat = 2 ∧ hprom H = H.p.n then (P, G, 7) else gact G (P, (mback G.m page).1, (mback G.m page).2)
def hback (H : HostM) (n page : Int) := hon H n (hbackF H page)
def plugN (M : MapM) (a : Nat) : Nat → MapM
  | 0 => M
  | k + 1 => (mplug (plugN M a k) ((a + k : Nat) : Int)).1
def unplugN (P : PoolM) (M : MapM) (a : Nat) : Nat → PoolM × MapM
  | 0 => (P, M)
  | k + 1 => ((munplug (unplugN P M a k).1 (unplugN P M a k).2 ((a + k : Nat) : Int)).1, (munplug (unplugN P M a k).1 (unplugN P M a k).2 ((a + k : Nat) : Int)).2.1)
def hplugF (H : HostM) (b : Int) (P : PoolM) (G : GuestM) : PoolM × GuestM × Nat :=
  if b < 0 ∨ 3 < b then (P, G, 1) else
  if G.m.state (4 * b.toNat) ≠ 0 then (P, G, 4) else
  if H.p.n < hprom H + 4 then (P, G, 7) else (P, { G with m := plugN G.m (4 * b.toNat) 4 }, 0)
def hplug (H : HostM) (n b : Int) := hon H n (hplugF H b)
def hunplugF (b : Int) (P : PoolM) (G : GuestM) : PoolM × GuestM × Nat :=
  if b < 0 ∨ 3 < b then (P, G, 1) else
  if G.m.state (4 * b.toNat) = 0 then (P, G, 2) else ((unplugN P G.m (4 * b.toNat) 4).1, { G with m := (unplugN P G.m (4 * b.toNat) 4).2 }, 0)
def hunplug (H : HostM) (n b : Int) := hon H n (hunplugF b)
def hremove (H : HostM) (n : Int) : HostM × Nat :=
  if n < 0 ∨ 3 < n then (H, 1) else
  match H.g n.toNat with
  | none => (H, 2)
  | some G => (H.put n.toNat (unplugN H.p G.m 0 16).1 none, 0)
def hadd (H : HostM) : HostM × Int × Nat :=
  match (List.range 4).find? fun n => (H.g n).isNone with
  | some n => (H.put n H.p (some GuestM.fresh), n, 0)
  | none => (H, 0, 4)

/-! What they keep. -/
theorem plugN_state (M : MapM) (a : Nat) : ∀ k, a + k ≤ 16 → ∀ i, (plugN M a k).state i = if a ≤ i ∧ i < a + k ∧ M.state i = 0 then 1 else M.state i := by
  intro j
  induction j with
  | zero => intro _ i; rw [if_neg (by omega)]; rfl
  | succ j ihj =>
    intro hj i
    have ihj := ihj (by omega)
    show (mplug (plugN M a j) ((a + j : Nat) : Int)).1.state i = _
    unfold mplug
    rw [if_pos (onB_iff.2 ⟨by omega, by omega⟩), Int.toNat_natCast]
    have e := ihj (a + j)
    rw [if_neg (by omega)] at e
    rw [e]
    by_cases hz : M.state (a + j) = 0
    · rw [if_pos hz]
      unfold MapM.setState
      simp only []
      by_cases ei : i = a + j
      · subst ei
        rw [if_pos rfl, if_pos ⟨by omega, by omega, hz⟩]
      · rw [if_neg ei, ihj i]
        by_cases hc : a ≤ i ∧ i < a + j ∧ M.state i = 0
        · rw [if_pos hc, if_pos ⟨hc.1, by omega, hc.2.2⟩]
        · rw [if_neg hc, if_neg]
          rintro ⟨h1, h2, h3⟩
          exact hc ⟨h1, by omega, h3⟩
    · rw [if_neg hz]
      show (plugN M a j).state i = _
      rw [ihj i]
      by_cases hc : a ≤ i ∧ i < a + j ∧ M.state i = 0
      · rw [if_pos hc, if_pos ⟨hc.1, by omega, hc.2.2⟩]
      · rw [if_neg hc, if_neg]
        rintro ⟨h1, h2, h3⟩
        refine hc ⟨h1, ?_, h3⟩
        have : i ≠ a + j := fun e => hz (by rw [← e]; exact h3)
        omega
theorem plugN_leaf (M : MapM) (a : Nat) (k : Nat) : (plugN M a k).leaf = M.leaf := by
  induction k with
  | zero => rfl
  | succ j ihj =>
    show (mplug (plugN M a j) ((a + j : Nat) : Int)).1.leaf = _
    rw [← ihj]
    unfold mplug
    repeat' split
    all_goals rfl
/-- Each page of the block can be plugged. -/
theorem plugN_ok {M : MapM} {a k : Nat} (hk : a + k < 16) (h : M.state (a + k) = 0) : mplug (plugN M a k) ((a + k : Nat) : Int) = (plugN M a (k + 1), 0) := by
  have e := plugN_state M a k (by omega) (a + k)
  rw [if_neg (by omega)] at e
  show _ = ((mplug (plugN M a k) ((a + k : Nat) : Int)).1, 0)
  unfold mplug
  rw [if_pos (onB_iff.2 ⟨by omega, by omega⟩), Int.toNat_natCast, e, if_pos h]
theorem MInv.plugN {P : PoolM} {M : MapM} {E : Nat → Nat} (h : MInv P M E) (a k : Nat) : MInv P (plugN M a k) E := by
  induction k with
  | zero => exact h
  | succ j ihj => exact ihj.plug _
theorem MInv.unplugN {P : PoolM} {M : MapM} {E : Nat → Nat} (h : MInv P M E) (a k : Nat) : MStep P E (unplugN P M a k).1 (unplugN P M a k).2 := by
  induction k with
  | zero => exact h.stay
  | succ j ihj => exact ihj.trans (ihj.inv.unplug _)
theorem munplug_state (P : PoolM) (M : MapM) {n : Nat} (hn : n < 16) (i : Nat) : (munplug P M (n : Int)).2.1.state i = if i = n then 0 else M.state i := by
  unfold munplug
  rw [if_pos (onB_iff.2 ⟨by omega, by omega⟩), Int.toNat_natCast]
  by_cases hz : M.state n = 0
  · rw [if_pos hz]
    by_cases e : i = n
    · subst e; rw [if_pos rfl]; exact hz
    · rw [if_neg e]
  · rw [if_neg hz]
    unfold MapM.setState MapM.setLeaf
    simp only []
theorem unplugN_state (P : PoolM) (M : MapM) (a : Nat) : ∀ k, a + k ≤ 16 → ∀ i, (unplugN P M a k).2.state i = if a ≤ i ∧ i < a + k then 0 else M.state i := by
  intro k
  induction k with
  | zero => intro _ i; rw [if_neg (by omega)]; rfl
  | succ j ihj =>
    intro hj i
    show (munplug (unplugN P M a j).1 (unplugN P M a j).2 ((a + j : Nat) : Int)).2.1.state i = _
    rw [munplug_state _ _ (by omega), ihj (by omega)]
    by_cases e : i = a + j
    · subst e; rw [if_pos rfl, if_pos (by omega)]
    · rw [if_neg e]
      by_cases hc : a ≤ i ∧ i < a + j
      · rw [if_pos hc, if_pos (by omega)]
      · rw [if_neg hc, if_neg (by omega)]
/-- Each page of the block can be unplugged. -/
theorem unplugN_ok {P : PoolM} {M : MapM} {a k : Nat} (hk : a + k < 16) (h : M.state (a + k) ≠ 0) : munplug (unplugN P M a k).1 (unplugN P M a k).2 ((a + k : Nat) : Int) = ((unplugN P M a (k + 1)).1, (unplugN P M a (k + 1)).2, 0) := by
  have e := unplugN_state P M a k (by omega) (a + k)
  rw [if_neg (by omega)] at e
  show _ = ((munplug (unplugN P M a k).1 (unplugN P M a k).2 ((a + k : Nat) : Int)).1, (munplug (unplugN P M a k).1 (unplugN P M a k).2 ((a + k : Nat) : Int)).2.1, 0)
  unfold munplug
  rw [if_pos (onB_iff.2 ⟨by omega, by omega⟩), Int.toNat_natCast, e, if_neg h]
theorem Blk.plugN {M : MapM} (h : Blk M) {b : Nat} (hb : b < 4) : Blk (plugN M (4 * b) 4) := fun c hc k hk => by
  rw [plugN_state _ _ _ (by omega), plugN_state _ _ _ (by omega)]
  have := h c hc k hk
  by_cases e : c = b
  · subst e
    by_cases hz : M.state (4 * c) = 0
    · rw [if_pos ⟨by omega, by omega, hz⟩, if_pos ⟨by omega, by omega, this.1 hz⟩]
    · rw [if_neg (fun h => hz h.2.2), if_neg (fun h => hz (this.2 h.2.2))]; exact this
  · rw [if_neg (by omega), if_neg (by omega)]; exact this
theorem Blk.unplugN {P : PoolM} {M : MapM} (h : Blk M) {b : Nat} (hb : b < 4) : Blk (unplugN P M (4 * b) 4).2 := fun c hc k hk => by
  rw [unplugN_state _ _ _ _ (by omega), unplugN_state _ _ _ _ (by omega)]
  by_cases e : c = b
  · subst e
    rw [if_pos (by omega), if_pos (by omega)]
  · rw [if_neg (by omega), if_neg (by omega)]; exact h c hc k hk
theorem gtouch_state (P : PoolM) (G : GuestM) (n : Int) (wr : Bool) : (gtouch P G n wr).2.1.m.state = G.m.state := mtouch_state P G.m n wr
theorem gwalk_state (P : PoolM) (G : GuestM) (n : Int) : (gwalk P G n).2.1.m.state = G.m.state := by
  unfold gwalk
  simp only []
  repeat' split
  all_goals exact gtouch_state _ _ _ _
theorem gframe_state (P : PoolM) (G : GuestM) (n : Int) (wr : Bool) : (gframe P G n wr).2.1.m.state = G.m.state := by
  unfold gframe
  split
  · rfl
  · split
    · exact gtouch_state _ _ _ _
    · split
      · split
        · rfl
        · exact gtouch_state _ _ _ _
      · simp only []
        split
        · exact gwalk_state _ _ _
        · split
          · exact gwalk_state _ _ _
          · split
            · exact (gtouch_state _ _ _ _).trans (gwalk_state _ _ _)
            · exact (gtouch_state _ _ _ _).trans (gwalk_state _ _ _)
theorem gload_state (P : PoolM) (G : GuestM) (n : Int) : (gload P G n).2.1.m.state = G.m.state := by
  unfold gload
  simp only []
  split <;> exact gframe_state _ _ _ _
theorem gstore_state (P : PoolM) (G : GuestM) (n : Int) (v : UInt8) : (gstore P G n v).2.1.m.state = G.m.state := by
  unfold gstore
  simp only []
  split <;> exact gframe_state _ _ _ _
theorem HInv.load {H : HostM} (h : HInv H) (n a : Int) : HInv (hload H n a).1 := by
  rcases who_ways H n with h0 | ⟨k, hk, rfl, hg⟩ | ⟨k, G, hk, rfl, hg⟩
  · rw [hload_off h0]; exact h
  · rw [hload_none hk hg]; exact h
  · rw [hload_some hk hg]
    exact h.step hk ((h.gi hk hg).load a) (by rw [Blk.eq_1, gload_state]; exact (h.g k hk G hg).blk)
theorem HInv.on {H : HostM} (h : HInv H) (n : Int) {f : PoolM → GuestM → PoolM × GuestM × Nat} (hf : ∀ k, k < 4 → ∀ G, H.g k = some G → GStep H.p (hrest H k) (f H.p G).1 (f H.p G).2.1 ∧ Blk (f H.p G).2.1.m) : HInv (hon H n f).1 := by
  rcases who_ways H n with h0 | ⟨k, hk, rfl, hg⟩ | ⟨k, G, hk, rfl, hg⟩
  · rw [hon_off h0]; exact h
  · rw [hon_none hk hg]; exact h
  · rw [hon_some hk hg]
    obtain ⟨s, b⟩ := hf k hk G hg
    exact h.step hk s b
theorem GInv.still {P : PoolM} {G G' : GuestM} {E : Nat → Nat} (h : GInv P G' E) : GStep P E P G' := ⟨rfl, h, fun _ _ _ => rfl⟩
theorem HInv.store {H : HostM} (h : HInv H) (n a : Int) (v : UInt8) : HInv (hstore H n a v).1 :=
  h.on n fun k hk G hg => ⟨(h.gi hk hg).store a v, by rw [Blk.eq_1, gstore_state]; exact (h.g k hk G hg).blk⟩
theorem HInv.root {H : HostM} (h : HInv H) (n a : Int) : HInv (hroot H n a).1 :=
  h.on n fun k hk G hg => ⟨GInv.still (G := G) ((h.gi hk hg).setRoot a), by
    show Blk (groot G a).1.m
    unfold groot
    split <;> exact (h.g k hk G hg).blk⟩
theorem HInv.forget {H : HostM} (h : HInv H) (n a : Int) : HInv (hforget H n a).1 :=
  h.on n fun k hk G hg => ⟨GInv.still (G := G) ((h.gi hk hg).forget a), by
    show Blk (gforget G a).1.m
    unfold gforget
    split <;> exact (h.g k hk G hg).blk⟩
theorem HInv.forgetAll {H : HostM} (h : HInv H) (n a : Int) : HInv (hforgetAll H n a).1 :=
  h.on n fun k hk G hg => ⟨GInv.still (G := G) ((h.gi hk hg).forgetAll a), by
    show Blk (gforgetAll G a).1.m
    unfold gforgetAll
    split <;> exact (h.g k hk G hg).blk⟩
theorem Blk.give {P : PoolM} {M : MapM} (h : Blk M) (n : Int) : Blk (mgive P M n).2.1 := by
  unfold mgive
  split
  · rename_i ho
    split
    · rename_i h1
      refine h.congr fun i hi => ?_
      unfold MapM.setState MapM.setLeaf
      simp only []
      by_cases e : i = n.toNat
      · subst e; rw [if_pos rfl, h1]; decide
      · rw [if_neg e]
    · exact h
  · exact h
theorem Blk.back {M : MapM} (h : Blk M) (n : Int) : Blk (mback M n).1 := by
  unfold mback
  split
  · split
    · rename_i h1
      refine h.congr fun i hi => ?_
      unfold MapM.setState
      simp only []
      by_cases e : i = n.toNat
      · subst e; rw [if_pos rfl, h1]; decide
      · rw [if_neg e]
    · exact h
  · exact h
theorem HInv.give {H : HostM} (h : HInv H) (n a : Int) : HInv (hgive H n a).1 :=
  h.on n fun k hk G hg => ⟨(h.gi hk hg).map ((h.gi hk hg).m.give a), (h.g k hk G hg).blk.give a⟩
theorem HInv.back {H : HostM} (h : HInv H) (n a : Int) : HInv (hback H n a).1 :=
  h.on n fun k hk G hg => by
    unfold hbackF
    split
    · exact ⟨(h.gi hk hg).stay, (h.g k hk G hg).blk⟩
    · exact ⟨(h.gi hk hg).map ⟨rfl, (h.gi hk hg).m.back a, fun _ _ _ => rfl⟩, (h.g k hk G hg).blk.back a⟩
theorem HInv.plug {H : HostM} (h : HInv H) (n b : Int) : HInv (hplug H n b).1 :=
  h.on n fun k hk G hg => by
    unfold hplugF
    split
    · exact ⟨(h.gi hk hg).stay, (h.g k hk G hg).blk⟩
    · split
      · exact ⟨(h.gi hk hg).stay, (h.g k hk G hg).blk⟩
      · split
        · exact ⟨(h.gi hk hg).stay, (h.g k hk G hg).blk⟩
        · exact ⟨(h.gi hk hg).map ⟨rfl, (h.gi hk hg).m.plugN _ _, fun _ _ _ => rfl⟩, (h.g k hk G hg).blk.plugN (by omega)⟩
theorem HInv.unplug {H : HostM} (h : HInv H) (n b : Int) : HInv (hunplug H n b).1 :=
  h.on n fun k hk G hg => by
    unfold hunplugF
    split
    · exact ⟨(h.gi hk hg).stay, (h.g k hk G hg).blk⟩
    · split
      · exact ⟨(h.gi hk hg).stay, (h.g k hk G hg).blk⟩
      · exact ⟨(h.gi hk hg).map ((h.gi hk hg).m.unplugN _ _), (h.g k hk G hg).blk.unplugN (by omega)⟩
theorem mcnt_none {M : MapM} {f : Nat} (h : ∀ i, i < 16 → (M.leaf i).there = false) : mcnt M f = 0 := by
  unfold mcnt
  rw [List.countP_eq_zero]
  intro i hi hx
  have := h i (List.mem_range.1 hi)
  unfold inF at hx
  rw [this] at hx
  cases hx
theorem unplugN_all {P : PoolM} {M : MapM} {E : Nat → Nat} (h : MInv P M E) : ∀ i, i < 16 → ((unplugN P M 0 16).2.leaf i).there = false := fun i hi => by
  have s := (h.unplugN 0 16).inv
  cases e : ((unplugN P M 0 16).2.leaf i).there with
  | false => rfl
  | true =>
    have := (s.here i hi e).1
    rw [unplugN_state _ _ _ _ (by omega), if_pos (by omega)] at this
    cases this
theorem HInv.remove {H : HostM} (h : HInv H) (n : Int) : HInv (hremove H n).1 := by
  unfold hremove
  split
  · exact h
  · rename_i hn
    split
    · exact h
    · rename_i G hg
      have hk : n.toNat < 4 := by omega
      have gi := h.gi hk hg
      have s := gi.m.unplugN 0 16
      refine ⟨fun f hf => ?_, fun i hi G2 hg2 => ?_⟩
      · rw [hcnt_put H hk]
        have := s.inv.cnt f hf
        rw [mcnt_none (unplugN_all gi.m)] at this
        exact this
      · unfold HostM.put at hg2 ⊢
        simp only [] at hg2 ⊢
        by_cases e : i = n.toNat
        · rw [if_pos e] at hg2; cases hg2
        · rw [if_neg e] at hg2
          have k := h.g i hi G2 hg2
          exact ⟨k.st, by rw [s.n]; exact k.here, k.none, k.c, k.r0, k.r1, k.blk⟩
theorem GOk.fresh (N : Nat) : GOk N GuestM.fresh :=
  ⟨fun i _ => .inl rfl, (fun i _ h => by cases h), fun i _ _ => rfl, CInv.nil, by decide, by decide, fun b _ k _ => by constructor <;> intro _ <;> rfl⟩
theorem find_mem {p : Nat → Bool} {l : List Nat} {n : Nat} (h : l.find? p = some n) : n ∈ l ∧ p n = true := ⟨List.mem_of_find?_eq_some h, List.find?_some h⟩
theorem HInv.add {H : HostM} (h : HInv H) : HInv (hadd H).1 := by
  unfold hadd
  split
  · rename_i n hf
    obtain ⟨h1, h2⟩ := find_mem hf
    have hn := List.mem_range.1 h1
    have h3 : H.g n = none := by simpa using h2
    refine ⟨fun f hff => ?_, fun i hi G2 hg2 => ?_⟩
    · rw [hcnt_put H hn]
      have := h.cnt f hff
      rw [hcnt_split H hn, h3] at this
      have e : ocnt (some GuestM.fresh) f = 0 := mcnt_none fun i _ => rfl
      rw [e]
      exact this
    · unfold HostM.put at hg2 ⊢
      simp only [] at hg2 ⊢
      by_cases e : i = n
      · rw [if_pos e] at hg2; cases hg2; exact GOk.fresh _
      · rw [if_neg e] at hg2; exact h.g i hi G2 hg2
  · exact h
def HostM.fresh (n : Nat) : HostM := ⟨PoolM.fresh n, fun _ => none⟩
theorem HInv.fresh (n : Nat) : HInv (HostM.fresh n) := ⟨fun f _ => rfl, fun i _ G h => by cases h⟩

end U
end Go.Proofs.YtnhplapcdgnaaaaGreatDoor

set_option linter.unusedVariables false
set_option linter.unusedSimpArgs false
namespace Go.Proofs.YtnhplapcdgnaaaaGreatDoor
open Go.RowKit
namespace U

/-! TopMap: plain laws. -/
/-- What may be written has one page in its frame. -/
def WI (M A B : MapM) : Prop := ∀ i, i < 16 → (M.leaf i).there = true → (M.leaf i).write = true → mcnt A (M.leaf i).frame.toNat + mcnt B (M.leaf i).frame.toNat = 1
theorem inF_self {M : MapM} {i : Nat} (ht : (M.leaf i).there = true) (h0 : 0 ≤ (M.leaf i).frame) : inF M (M.leaf i).frame.toNat i = true := by
  unfold inF; rw [ht, Int.toNat_of_nonneg h0]; simp
theorem countP_one {p : Nat → Bool} : ∀ {N i j : Nat}, (List.range N).countP p ≤ 1 → i < N → j < N → p i = true → p j = true → i = j
  | 0, i, j, _, hi, _, _, _ => by omega
  | N + 1, i, j, h, hi, hj, pi, pj => by
    rw [List.range_succ, List.countP_append, List.countP_singleton] at h
    by_cases e1 : i = N
    · by_cases e2 : j = N
      · omega
      · subst e1
        have : 0 < (List.range i).countP p := List.countP_pos_iff.2 ⟨j, List.mem_range.2 (by omega), pj⟩
        rw [if_pos pi] at h; omega
    · by_cases e2 : j = N
      · subst e2
        have : 0 < (List.range j).countP p := List.countP_pos_iff.2 ⟨i, List.mem_range.2 (by omega), pi⟩
        rw [if_pos pj] at h; omega
      · exact countP_one (N := N) (by omega) (by omega) (by omega) pi pj
/-- In a frame that has one page no other page of this map is, and none of the other map. -/
theorem alone {A B : MapM} {f i n : Nat} (h : mcnt A f + mcnt B f = 1) (hi : i < 16) (hn : n < 16) (pi : inF A f i = true) (hne : n ≠ i) : inF A f n = false := by
  cases e : inF A f n with
  | false => rfl
  | true =>
    have h1 : (List.range 16).countP (inF A f) ≤ 1 := by show mcnt A f ≤ 1; omega
    exact absurd (countP_one (N := 16) h1 hn hi e pi) hne
theorem alone' {A B : MapM} {f i n : Nat} (h : mcnt A f + mcnt B f = 1) (hi : i < 16) (hn : n < 16) (pi : inF B f i = true) : inF A f n = false := by
  cases e : inF A f n with
  | false => rfl
  | true =>
    have h1 : 0 < mcnt A f := List.countP_pos_iff.2 ⟨n, List.mem_range.2 hn, e⟩
    have h2 : 0 < mcnt B f := List.countP_pos_iff.2 ⟨i, List.mem_range.2 hi, pi⟩
    omega
/-- A page of A moves; those that may be written are not where it goes. -/
theorem WI.moved {M A B : MapM} (h : WI M A B) (hM : M = A ∨ M = B) {n : Nat} (hn : n < 16) {l : LeafM} (hf : 0 ≤ l.frame)
    (h0 : ∀ i, i < 16 → (M.leaf i).there = true → 0 ≤ (M.leaf i).frame) (far : ∀ i, i < 16 → (M = A → i ≠ n) → (M.leaf i).there = true → (M.leaf i).write = true → (M.leaf i).frame ≠ l.frame) :
    ∀ i, i < 16 → (M = A → i ≠ n) → (M.leaf i).there = true → (M.leaf i).write = true → mcnt (A.setLeaf n l) (M.leaf i).frame.toNat + mcnt B (M.leaf i).frame.toNat = 1 := by
  intro i hi hne ht hw
  have h1 := h i hi ht hw
  have hp := inF_self ht (h0 i hi ht)
  have hno : inF A (M.leaf i).frame.toNat n = false := by
    rcases hM with rfl | rfl
    · exact alone h1 hi hn hp (fun e => hne rfl e.symm)
    · exact alone' h1 hi hn hp
  have h2 := mcnt_set A n l (M.leaf i).frame.toNat hn
  rw [hno] at h2
  have hlf : (l.there && l.frame == (((M.leaf i).frame.toNat : Nat) : Int)) = false := by
    have := far i hi hne ht hw
    have e : l.frame ≠ (((M.leaf i).frame.toNat : Nat) : Int) := by rw [Int.toNat_of_nonneg (h0 i hi ht)]; exact fun e => this e.symm
    have e' : (l.frame == (((M.leaf i).frame.toNat : Nat) : Int)) = false := by simpa only [beq_eq_false_iff_ne, ne_eq] using e
    rw [e', Bool.and_false]
  rw [hlf] at h2
  simp only [Bool.false_eq_true, if_false, Nat.add_zero] at h2
  omega
section
variable {P : PoolM} {A B : MapM}
theorem MInv.frame0 {M : MapM} {E : Nat → Nat} (h : MInv P M E) : ∀ i, i < 16 → (M.leaf i).there = true → 0 ≤ (M.leaf i).frame := fun i hi ht => (h.here i hi ht).2.1
theorem setLeaf_at (M : MapM) (n : Nat) (l : LeafM) : (M.setLeaf n l).leaf n = l := by unfold MapM.setLeaf; simp
theorem setLeaf_ne (M : MapM) {n i : Nat} (l : LeafM) (h : i ≠ n) : (M.setLeaf n l).leaf i = M.leaf i := by unfold MapM.setLeaf; simp [h]
/-- Touch: what may be written stays alone. -/
theorem WI.touch (ha : MInv P A (mcnt B)) (hb : MInv P B (mcnt A)) (wa : WI A A B) (wb : WI B A B) (n : Int) (wr : Bool) :
    WI (mtouch P A n wr).2.1 (mtouch P A n wr).2.1 B ∧ WI B (mtouch P A n wr).2.1 B := by
  unfold mtouch
  by_cases ho : onB n = true
  · rw [if_pos ho]
    have hn := onB_iff.1 ho
    obtain ⟨k, rfl⟩ := Int.eq_ofNat_of_zero_le hn.1
    have hk : k < 16 := by omega
    rw [Int.toNat_natCast]
    by_cases s0 : A.state k = 0
    · rw [if_pos s0]; exact ⟨wa, wb⟩
    · rw [if_neg s0]
      by_cases s2 : A.state k = 2
      · rw [if_pos s2]; exact ⟨wa, wb⟩
      · rw [if_neg s2]
        split
        · exact ⟨wa, wb⟩
        · split
          · rename_i hx
            rw [Bool.and_eq_true] at hx
            have ht := hx.1
            have h1 := hx.2
            rw [one_is (ha.used hk ht)] at h1
            have hr := ha.here k hk ht
            have hc := ha.cnt (A.leaf k).frame.toNat (by omega)
            have hmc : ∀ g, mcnt (A.setLeaf k { A.leaf k with write := true }) g = mcnt A g := fun g => by
              have := mcnt_set A k { A.leaf k with write := true } g hk
              have e : inF A g k = ((A.leaf k).there && (A.leaf k).frame == (g : Int)) := rfl
              rw [e] at this
              exact Nat.add_right_cancel this
            refine ⟨fun i hi hti hwi => ?_, fun i hi hti hwi => by rw [hmc]; exact wb i hi hti hwi⟩
            rw [hmc]
            by_cases e : i = k
            · subst e
              rw [setLeaf_at]
              show mcnt A (A.leaf i).frame.toNat + mcnt B (A.leaf i).frame.toNat = 1
              have : P.refs (A.leaf i).frame.toNat = 1 := by simpa using h1
              omega
            · rw [setLeaf_ne A _ e] at hti hwi ⊢
              exact wa i hi hti hwi
          · cases hf : P.free with
            | none => exact ⟨wa, wb⟩
            | some f =>
              obtain ⟨f1, f2⟩ := free_is hf
              simp only []
              have hz : mcnt A f = 0 ∧ mcnt B f = 0 := by have := ha.cnt f f1; omega
              have fa : ∀ i, i < 16 → (A = A → i ≠ k) → (A.leaf i).there = true → (A.leaf i).write = true → (A.leaf i).frame ≠ (⟨true, true, (f : Int)⟩ : LeafM).frame := fun i hi _ ht _ => mcnt_zero hz.1 hi ht
              have fb : ∀ i, i < 16 → (B = A → i ≠ k) → (B.leaf i).there = true → (B.leaf i).write = true → (B.leaf i).frame ≠ (⟨true, true, (f : Int)⟩ : LeafM).frame := fun i hi _ ht _ => mcnt_zero hz.2 hi ht
              have m1 := wa.moved (.inl rfl) hk (l := ⟨true, true, f⟩) (by show (0 : Int) ≤ f; omega) ha.frame0 fa
              refine ⟨fun i hi hti hwi => ?_, fun i hi hti hwi => ?_⟩
              · by_cases e : i = k
                · subst e
                  rw [setLeaf_at]
                  show mcnt (A.setLeaf i ⟨true, true, f⟩) (f : Int).toNat + mcnt B (f : Int).toNat = 1
                  rw [Int.toNat_natCast]
                  have h2 := mcnt_set A i ⟨true, true, f⟩ f hk
                  have hno : inF A f i = false := by
                    cases e : inF A f i with
                    | false => rfl
                    | true => have : 0 < mcnt A f := List.countP_pos_iff.2 ⟨i, List.mem_range.2 hk, e⟩; omega
                  rw [hno] at h2
                  simp only [Bool.false_eq_true, if_false, Nat.add_zero, Bool.true_and, beq_self_eq_true, if_true] at h2
                  omega
                · rw [setLeaf_ne A _ e] at hti hwi ⊢
                  exact m1 i hi (fun _ => e) hti hwi
              · by_cases hAB : B = A
                · by_cases e : i = k
                  · subst e
                    have := wb.moved (.inr rfl) hk (l := ⟨true, true, f⟩) (by show (0 : Int) ≤ f; omega) hb.frame0
                    subst hAB
                    have h1 := wb i hi hti hwi
                    omega
                  · exact wb.moved (.inr rfl) hk (l := ⟨true, true, f⟩) (by show (0 : Int) ≤ f; omega) hb.frame0 fb i hi (fun _ => e) hti hwi
                · exact wb.moved (.inr rfl) hk (l := ⟨true, true, f⟩) (by show (0 : Int) ≤ f; omega) hb.frame0 fb i hi (fun e => absurd e hAB) hti hwi
  · rw [if_neg ho]; exact ⟨wa, wb⟩
/-- Join: the frame that is joined has no page that may be written. -/
theorem WI.join (ha : MInv P A (mcnt B)) (hb : MInv P B (mcnt A)) (wa : WI A A B) (wb : WI B A B) (n fr : Int)
    (na : ∀ i, i < 16 → (A.leaf i).there = true → (A.leaf i).frame = fr → (A.leaf i).write = false) (nb : ∀ i, i < 16 → (B.leaf i).there = true → (B.leaf i).frame = fr → (B.leaf i).write = false) :
    WI (mjoin P A n fr).2.1 (mjoin P A n fr).2.1 B ∧ WI B (mjoin P A n fr).2.1 B := by
  unfold mjoin
  by_cases ho : onB n = true
  · rw [if_pos ho]
    have hn := onB_iff.1 ho
    obtain ⟨k, rfl⟩ := Int.eq_ofNat_of_zero_le hn.1
    have hk : k < 16 := by omega
    rw [Int.toNat_natCast]
    by_cases hc : ((A.leaf k).there && ((A.leaf k).frame != fr && P.same (A.leaf k).frame fr)) = true
    · rw [if_pos hc]
      rw [Bool.and_eq_true, Bool.and_eq_true] at hc
      obtain ⟨ht, hne, hs⟩ := hc
      have v2 := used_cast.1 (same_used hs).2.1
      have fa : ∀ i, i < 16 → (A = A → i ≠ k) → (A.leaf i).there = true → (A.leaf i).write = true → (A.leaf i).frame ≠ (⟨true, false, fr⟩ : LeafM).frame := fun i hi _ ht hw e => by
        have := na i hi ht e; rw [hw] at this; cases this
      have fb : ∀ i, i < 16 → (B = A → i ≠ k) → (B.leaf i).there = true → (B.leaf i).write = true → (B.leaf i).frame ≠ (⟨true, false, fr⟩ : LeafM).frame := fun i hi _ ht hw e => by
        have := nb i hi ht e; rw [hw] at this; cases this
      have m1 := wa.moved (.inl rfl) hk (l := ⟨true, false, fr⟩) v2.1 ha.frame0 fa
      refine ⟨fun i hi hti hwi => ?_, fun i hi hti hwi => ?_⟩
      · by_cases e : i = k
        · subst e
          rw [setLeaf_at] at hwi
          cases hwi
        · rw [setLeaf_ne A _ e] at hti hwi ⊢
          exact m1 i hi (fun _ => e) hti hwi
      · by_cases hAB : B = A
        · by_cases e : i = k
          · subst e
            subst hAB
            have h1 := wb i hi hti hwi
            omega
          · exact wb.moved (.inr rfl) hk (l := ⟨true, false, fr⟩) v2.1 hb.frame0 fb i hi (fun _ => e) hti hwi
        · exact wb.moved (.inr rfl) hk (l := ⟨true, false, fr⟩) v2.1 hb.frame0 fb i hi (fun e => absurd e hAB) hti hwi
    · rw [if_neg hc]; exact ⟨wa, wb⟩
  · rw [if_neg ho]; exact ⟨wa, wb⟩
/-- The pages of the other map keep their bytes. -/
theorem mpage_other {P' : PoolM} {A' : MapM} (hb : MInv P B (mcnt A)) (st : MStep P (mcnt B) P' A') {i : Nat} (hi : i < 16) : mpage P' B i = mpage P B i := by
  unfold mpage
  cases ht : (B.leaf i).there with
  | false => rfl
  | true =>
    obtain ⟨_, f0, f1⟩ := hb.here i hi ht
    simp only [if_true]
    exact st.keep _ (by omega) (mcnt_pos hi ht f0)
end

/-- Pages in a frame are sealed. -/
def sealM (M : MapM) (fr : Int) (n : Nat) : MapM := { M with leaf := fun i => if i < n ∧ (M.leaf i).there = true ∧ (M.leaf i).frame = fr then { M.leaf i with write := false } else M.leaf i }
theorem sealM_zero (M : MapM) (fr : Int) : sealM M fr 0 = M := by unfold sealM; simp
theorem sealM_same (M : MapM) (fr : Int) (n i : Nat) : ((sealM M fr n).leaf i).there = (M.leaf i).there ∧ ((sealM M fr n).leaf i).frame = (M.leaf i).frame ∧ (((sealM M fr n).leaf i).write = true → (M.leaf i).write = true) := by
  unfold sealM
  simp only []
  split
  · exact ⟨rfl, rfl, fun h => by cases h⟩
  · exact ⟨rfl, rfl, fun h => h⟩
theorem sealM_succ_yes {M : MapM} {fr : Int} {n : Nat} (ht : (M.leaf n).there = true) (hf : (M.leaf n).frame = fr) : sealM M fr (n + 1) = (sealM M fr n).setLeaf n { (sealM M fr n).leaf n with write := false } := by
  unfold sealM MapM.setLeaf
  congr 1
  funext i
  simp only []
  by_cases e : i = n
  · subst e; simp [ht, hf]
  · by_cases h : i < n
    · simp [e, h, show i < n + 1 from by omega]
    · simp [e, h, show ¬ i < n + 1 from by omega]
theorem sealM_succ_no {M : MapM} {fr : Int} {n : Nat} (h : ¬ ((M.leaf n).there = true ∧ (M.leaf n).frame = fr)) : sealM M fr (n + 1) = sealM M fr n := by
  unfold sealM
  congr 1
  funext i
  by_cases e : i = n
  · subst e
    rw [if_neg (fun h' => h h'.2), if_neg (fun h' => h h'.2)]
  · by_cases hl : i < n
    · simp [hl, show i < n + 1 from by omega]
    · simp [hl, show ¬ i < n + 1 from by omega]
theorem mcnt_seal (M : MapM) (fr : Int) (n f : Nat) : mcnt (sealM M fr n) f = mcnt M f := by
  unfold mcnt
  congr 1
  funext i
  unfold inF
  rw [(sealM_same M fr n i).1, (sealM_same M fr n i).2.1]
theorem MInv.sealAll {P : PoolM} {M : MapM} {E : Nat → Nat} (h : MInv P M E) (fr : Int) (n : Nat) : MInv P (sealM M fr n) E := by
  refine ⟨h.st, fun i hi ht => ?_, fun i hi ht => ?_, fun f hf => by rw [mcnt_seal]; exact h.cnt f hf, h.small⟩
  · rw [(sealM_same M fr n i).1] at ht
    rw [(sealM_same M fr n i).2.1]
    exact h.here i hi ht
  · have ht' := ht
    rw [(sealM_same M fr n i).1] at ht'
    unfold sealM
    simp only []
    rw [if_neg (by rw [ht']; simp)]
    exact h.none i hi ht'
theorem mpage_seal (P : PoolM) (M : MapM) (fr : Int) (n i : Nat) : mpage P (sealM M fr n) i = mpage P M i := by
  unfold mpage
  rw [(sealM_same M fr n i).1, (sealM_same M fr n i).2.1]
theorem WI.sealed {M A B : MapM} (h : WI M A B) (fr fr1 fr2 : Int) (n n1 n2 : Nat) : WI (sealM M fr n) (sealM A fr1 n1) (sealM B fr2 n2) := fun i hi ht hw => by
  rw [mcnt_seal, mcnt_seal, (sealM_same M fr n i).2.1]
  rw [(sealM_same M fr n i).1] at ht
  exact h i hi ht ((sealM_same M fr n i).2.2 hw)
theorem sealM_off {M : MapM} {fr : Int} {i : Nat} (hi : i < 16) (ht : ((sealM M fr 16).leaf i).there = true) (hf : ((sealM M fr 16).leaf i).frame = fr) : ((sealM M fr 16).leaf i).write = false := by
  rw [(sealM_same M fr 16 i).1] at ht
  rw [(sealM_same M fr 16 i).2.1] at hf
  unfold sealM
  simp only []
  rw [if_pos ⟨hi, ht, hf⟩]

end U
end Go.Proofs.YtnhplapcdgnaaaaGreatDoor

set_option linter.unusedVariables false
set_option linter.unusedSimpArgs false
namespace Go.Proofs.YtnhplapcdgnaaaaGreatDoor
open Go.RowKit
namespace U

/-! Plain laws of a host: scans. -/
/-- Page k of the 64 of all guests. -/
def hleaf (H : HostM) (k : Nat) : LeafM := match H.g (k / 16) with | some G => G.m.leaf (k % 16) | none => LeafM.none
def hhit (H : HostM) (fr : Int) (k : Nat) : Bool := (hleaf H k).there && H.p.same (hleaf H k).frame fr
/-- The first page ahead of page N with the bytes of a frame. -/
def hfirst (H : HostM) (fr : Int) (N : Nat) : Option Nat := (List.range N).find? (hhit H fr)
def sealG (fr : Int) (k : Nat) (G : GuestM) : GuestM := { G with m := sealM G.m fr k }
def hsealN (H : HostM) (fr : Int) (N : Nat) : HostM := { H with g := fun i => (H.g i).map (sealG fr (min (N - 16 * i) 16)) }
def hjoin (H : HostM) (n : Nat) (G : GuestM) (page fr : Int) : HostM × Nat :=
  ((hsealN H fr 64).put n (gact (sealG fr 16 G) (mjoin H.p (sealM G.m fr 16) page fr)).1 (some (gact (sealG fr 16 G) (mjoin H.p (sealM G.m fr 16) page fr)).2.1), (gact (sealG fr 16 G) (mjoin H.p (sealM G.m fr 16) page fr)).2.2)
def hscanG (H : HostM) (n : Nat) (G : GuestM) (page : Int) : HostM × Bool × Nat :=
  if onB page then
    (if (G.m.leaf page.toNat).there then
      (match hfirst H (G.m.leaf page.toNat).frame (16 * n + page.toNat) with
      | none => (H, false, 0)
      | some k => if (hleaf H k).frame = (G.m.leaf page.toNat).frame then (H, false, 0) else ((hjoin H n G page (hleaf H k).frame).1, true, (hjoin H n G page (hleaf H k).frame).2))
    else (H, false, 0))
  else (H, false, 1)
def hscan (H : HostM) (n page : Int) : HostM × Bool × Nat :=
  if n < 0 ∨ 3 < n then (H, false, 1) else
  match H.g n.toNat with
  | none => (H, false, 2)
  | some G => hscanG H n.toNat G page
def hscanN (H : HostM) : Nat → HostM × Nat
  | 0 => (H, 0)
  | k + 1 => ((hscan (hscanN H k).1 ((k / 16 : Nat) : Int) ((k % 16 : Nat) : Int)).1, (hscanN H k).2 + (if (hscan (hscanN H k).1 ((k / 16 : Nat) : Int) ((k % 16 : Nat) : Int)).2.1 then 1 else 0))
def hscanAll (H : HostM) : HostM × Nat := hscanN H 64

section
variable {H : HostM} {n : Int} {k : Nat} {G : GuestM} {page : Int}
theorem hscan_off (h : n < 0 ∨ 3 < n) : hscan H n page = (H, false, 1) := by unfold hscan; rw [if_pos h]
theorem hscan_none (hk : k < 4) (h : H.g k = none) : hscan H k page = (H, false, 2) := by
  unfold hscan; rw [if_neg (by omega), Int.toNat_natCast, h]
theorem hscan_some (hk : k < 4) (h : H.g k = some G) : hscan H k page = hscanG H k G page := by
  unfold hscan; rw [if_neg (by omega), Int.toNat_natCast, h]
end
theorem ocnt_seal (o : Option GuestM) (fr : Int) (k f : Nat) : ocnt (o.map (sealG fr k)) f = ocnt o f := by
  cases o with
  | none => rfl
  | some G => exact mcnt_seal G.m fr k f
theorem hcnt_seal (H : HostM) (fr : Int) (N f : Nat) : hcnt (hsealN H fr N) f = hcnt H f := by
  unfold hcnt hsealN
  simp only [ocnt_seal]
theorem hrest_seal (H : HostM) (fr : Int) (N n f : Nat) : hrest (hsealN H fr N) n f = hrest H n f := by
  unfold hrest hsealN
  simp only [ocnt_seal]
theorem GOk.sealed {N : Nat} {G : GuestM} (h : GOk N G) (fr : Int) (k : Nat) : GOk N (sealG fr k G) := by
  have s := fun i => sealM_same G.m fr k i
  refine ⟨h.st, fun i hi ht => ?_, fun i hi ht => ?_, h.c, h.r0, h.r1, h.blk⟩
  · have e : (G.m.leaf i).there = true := by rw [← (s i).1]; exact ht
    have := h.here i hi e
    refine ⟨this.1, ?_, ?_⟩
    · show 0 ≤ ((sealM G.m fr k).leaf i).frame
      rw [(s i).2.1]; exact this.2.1
    · show ((sealM G.m fr k).leaf i).frame < N
      rw [(s i).2.1]; exact this.2.2
  · have e : (G.m.leaf i).there = false := by rw [← (s i).1]; exact ht
    have h2 := h.none i hi e
    show (sealM G.m fr k).leaf i = LeafM.none
    unfold sealM
    simp only []
    rw [if_neg]
    · exact h2
    · rintro ⟨_, h3, _⟩
      rw [e] at h3
      cases h3
theorem HInv.sealN {H : HostM} (h : HInv H) (fr : Int) (N : Nat) : HInv (hsealN H fr N) := by
  refine ⟨fun f hf => by rw [hcnt_seal]; exact h.cnt f hf, fun i hi G hg => ?_⟩
  unfold hsealN at hg
  simp only [] at hg
  cases e : H.g i with
  | none => rw [e] at hg; cases hg
  | some G0 =>
    rw [e] at hg
    cases hg
    exact (h.g i hi G0 e).sealed fr _
theorem mjoin_state (P : PoolM) (M : MapM) (n fr : Int) : (mjoin P M n fr).2.1.state = M.state := by
  unfold mjoin
  repeat' split
  all_goals rfl
theorem hsealN_at {H : HostM} {n : Nat} (hn : n < 4) {G : GuestM} (hg : H.g n = some G) (fr : Int) : (hsealN H fr 64).g n = some (sealG fr 16 G) := by
  unfold hsealN
  simp only [hg, Option.map_some]
  rw [show min (64 - 16 * n) 16 = 16 by omega]
theorem HInv.join {H : HostM} (h : HInv H) {n : Nat} (hn : n < 4) {G : GuestM} (hg : H.g n = some G) (page fr : Int) : HInv (hjoin H n G page fr).1 := by
  have hs := h.sealN fr 64
  have e := hsealN_at hn hg fr
  have gi := hs.gi hn e
  have j := (gi.m.join page fr).1
  exact hs.step hn (gi.map j) (by
    show Blk (mjoin H.p (sealM G.m fr 16) page fr).2.1
    rw [Blk.eq_1, mjoin_state]
    exact (h.g n hn G hg).blk)
theorem HInv.scan {H : HostM} (h : HInv H) (n page : Int) : HInv (hscan H n page).1 := by
  rcases who_ways H n with h0 | ⟨k, hk, rfl, hg⟩ | ⟨k, G, hk, rfl, hg⟩
  · rw [hscan_off h0]; exact h
  · rw [hscan_none hk hg]; exact h
  · rw [hscan_some hk hg]
    unfold hscanG
    split
    · split
      · split
        · exact h
        · split
          · exact h
          · exact h.join hk hg _ _
      · exact h
    · exact h
theorem HInv.scanN {H : HostM} (h : HInv H) (k : Nat) : HInv (hscanN H k).1 := by
  induction k with
  | zero => exact h
  | succ k ih => exact ih.scan _ _

/-! The steps of a seal. -/
theorem hsealN_zero (H : HostM) (fr : Int) : hsealN H fr 0 = H := by
  unfold hsealN sealG
  cases H with
  | mk p g =>
    simp only [Nat.zero_sub, Nat.zero_min, HostM.mk.injEq, true_and]
    funext i
    cases g i with
    | none => rfl
    | some G => simp only [Option.map_some, sealM_zero]
theorem hsealN_g (H : HostM) (fr : Int) (N i : Nat) : (hsealN H fr N).g i = (H.g i).map (sealG fr (min (N - 16 * i) 16)) := rfl
theorem hsealN_none {H : HostM} {fr : Int} {i j : Nat} (hi : H.g i = none) (hj : j ≤ 16) : hsealN H fr (16 * i + j) = hsealN H fr (16 * i) := by
  unfold hsealN
  simp only [HostM.mk.injEq, true_and]
  funext q
  by_cases e : q = i
  · subst e; rw [hi]; rfl
  · rw [show min (16 * i + j - 16 * q) 16 = min (16 * i - 16 * q) 16 by omega]
theorem hsealN_no {H : HostM} {fr : Int} {i j : Nat} {G : GuestM} (hi : H.g i = some G) (hj : j < 16) (h : ¬ ((G.m.leaf j).there = true ∧ (G.m.leaf j).frame = fr)) : hsealN H fr (16 * i + (j + 1)) = hsealN H fr (16 * i + j) := by
  unfold hsealN
  simp only [HostM.mk.injEq, true_and]
  funext q
  by_cases e : q = i
  · subst e
    rw [hi, show min (16 * q + (j + 1) - 16 * q) 16 = j + 1 by omega, show min (16 * q + j - 16 * q) 16 = j by omega]
    simp only [Option.map_some, sealG, sealM_succ_no h]
  · rw [show min (16 * i + (j + 1) - 16 * q) 16 = min (16 * i + j - 16 * q) 16 by omega]
theorem hsealN_yes {H : HostM} {fr : Int} {i j : Nat} {G : GuestM} (hi : H.g i = some G) (hj : j < 16) (ht : (G.m.leaf j).there = true) (hf : (G.m.leaf j).frame = fr) :
    mseal (sealM G.m fr j) j = (sealM G.m fr (j + 1), 0) ∧ hsealN H fr (16 * i + (j + 1)) = (hsealN H fr (16 * i + j)).put i H.p (some (sealG fr (j + 1) G)) := by
  constructor
  · unfold mseal
    have h1 := (sealM_same G.m fr j j).1
    rw [if_pos (onB_iff.2 ⟨by omega, by omega⟩), Int.toNat_natCast, if_pos (by rw [h1]; exact ht), sealM_succ_yes ht hf]
  · unfold hsealN HostM.put
    simp only [HostM.mk.injEq, true_and]
    funext q
    by_cases e : q = i
    · subst e
      rw [hi, if_pos rfl, show min (16 * q + (j + 1) - 16 * q) 16 = j + 1 by omega]
      rfl
    · rw [if_neg e, show min (16 * i + (j + 1) - 16 * q) 16 = min (16 * i + j - 16 * q) 16 by omega]
theorem hsealN_mid {H : HostM} {fr : Int} {i j : Nat} {G : GuestM} (hi : H.g i = some G) (hj : j ≤ 16) : (hsealN H fr (16 * i + j)).g i = some (sealG fr j G) := by
  rw [hsealN_g, hi, show min (16 * i + j - 16 * i) 16 = j by omega]
  rfl
theorem hsealN_end {H : HostM} {fr : Int} {N : Nat} (hN : 64 ≤ N) (h : ∀ i, 4 ≤ i → H.g i = none) : hsealN H fr N = hsealN H fr 64 := by
  unfold hsealN
  simp only [HostM.mk.injEq, true_and]
  funext q
  by_cases hq : q < 4
  · rw [show min (N - 16 * q) 16 = min (64 - 16 * q) 16 by omega]
  · rw [h q (by omega)]; rfl
theorem hfirst_zero (H : HostM) (fr : Int) : hfirst H fr 0 = none := rfl
theorem hfirst_succ (H : HostM) (fr : Int) (N : Nat) : hfirst H fr (N + 1) = (hfirst H fr N).or (if hhit H fr N then some N else none) := by
  unfold hfirst
  rw [List.range_succ, List.find?_append]
  cases h : hhit H fr N with
  | true => simp [List.find?, h]
  | false => simp [List.find?, h]
/-- The first one ahead of a page is the first one ahead of a later page. -/
theorem hfirst_more {H : HostM} {fr : Int} {k : Nat} (h : hfirst H fr k = none) (hh : hhit H fr k = true) : ∀ N, k < N → hfirst H fr N = some k := by
  intro N hN
  induction N with
  | zero => omega
  | succ N ih =>
    rw [hfirst_succ]
    by_cases e : k = N
    · subst e; rw [h, hh]; rfl
    · rw [ih (by omega)]; rfl

end U
end Go.Proofs.YtnhplapcdgnaaaaGreatDoor
