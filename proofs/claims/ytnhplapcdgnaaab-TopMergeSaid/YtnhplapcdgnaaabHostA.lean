import Derived.Test.YtnhplapcdgnaaabGuestI
set_option linter.unusedVariables false
set_option linter.unusedSimpArgs false
namespace Go.Proofs.Ytnhplapcdgnaaab
open Go.RowKit
namespace U

/-! Plain laws of a host. -/
structure HostM where
  p : PoolM
  g : Nat → Option GuestM
def HostM.put (H : HostM) (n : Nat) (P : PoolM) (o : Option GuestM) : HostM := ⟨P, fun i => if i = n then o else H.g i⟩
/-- How many pages of a guest are in a frame. -/
def ocnt (o : Option GuestM) (f : Nat) : Nat := match o with | some G => mcnt G.m f | none => 0
def hcnt (H : HostM) (f : Nat) : Nat := ocnt (H.g 0) f + ocnt (H.g 1) f + ocnt (H.g 2) f + ocnt (H.g 3) f
/-- .. of the others. -/
def hrest (H : HostM) (n f : Nat) : Nat := (if n = 0 then 0 else ocnt (H.g 0) f) + (if n = 1 then 0 else ocnt (H.g 1) f) + (if n = 2 then 0 else ocnt (H.g 2) f) + (if n = 3 then 0 else ocnt (H.g 3) f)
theorem ocnt_le (o : Option GuestM) (f : Nat) : ocnt o f ≤ 16 := by
  cases o with
  | none => exact Nat.zero_le _
  | some G => exact mcnt_le G.m f
theorem four {n : Nat} (hn : n < 4) : n = 0 ∨ n = 1 ∨ n = 2 ∨ n = 3 := by omega
theorem hcnt_split (H : HostM) {n : Nat} (hn : n < 4) (f : Nat) : hcnt H f = ocnt (H.g n) f + hrest H n f := by
  unfold hcnt hrest
  rcases four hn with rfl | rfl | rfl | rfl <;> simp <;> omega
theorem hrest_put (H : HostM) (n : Nat) (P : PoolM) (o : Option GuestM) (f : Nat) : hrest (H.put n P o) n f = hrest H n f := by
  unfold hrest HostM.put
  by_cases h0 : n = 0
  · subst h0; simp
  · by_cases h1 : n = 1
    · subst h1; simp
    · by_cases h2 : n = 2
      · subst h2; simp
      · by_cases h3 : n = 3
        · subst h3; simp
        · simp [h0, h1, h2, h3, Ne.symm h0, Ne.symm h1, Ne.symm h2, Ne.symm h3]
theorem hcnt_put (H : HostM) {n : Nat} (hn : n < 4) (P : PoolM) (o : Option GuestM) (f : Nat) : hcnt (H.put n P o) f = ocnt o f + hrest H n f := by
  rw [hcnt_split _ hn, hrest_put]
  unfold HostM.put
  simp
theorem hrest_le (H : HostM) (n f : Nat) : hrest H n f ≤ 64 := by
  unfold hrest
  have h0 := ocnt_le (H.g 0) f
  have h1 := ocnt_le (H.g 1) f
  have h2 := ocnt_le (H.g 2) f
  have h3 := ocnt_le (H.g 3) f
  split <;> split <;> split <;> split <;> omega

/-- A block's pages are plugged all or none. -/
def Blk (M : MapM) : Prop := ∀ b, b < 4 → ∀ k, k < 4 → (M.state (4 * b) = 0 ↔ M.state (4 * b + k) = 0)
theorem Blk.congr {M M' : MapM} (h : Blk M) (hs : ∀ i, i < 16 → (M'.state i = 0 ↔ M.state i = 0)) : Blk M' := fun b hb k hk => by
  rw [hs _ (by omega), hs _ (by omega)]; exact h b hb k hk
structure GOk (N : Nat) (G : GuestM) : Prop where
  st : ∀ i, i < 16 → G.m.state i = 0 ∨ G.m.state i = 1 ∨ G.m.state i = 2
  here : ∀ i, i < 16 → (G.m.leaf i).there = true → G.m.state i = 1 ∧ 0 ≤ (G.m.leaf i).frame ∧ (G.m.leaf i).frame < N
  none : ∀ i, i < 16 → (G.m.leaf i).there = false → G.m.leaf i = LeafM.none
  c : CInv G.c
  r0 : -1 ≤ G.root
  r1 : G.root ≤ 15
  blk : Blk G.m
structure HInv (H : HostM) : Prop where
  cnt : ∀ f, f < H.p.n → H.p.refs f = (hcnt H f : Nat)
  g : ∀ n, n < 4 → ∀ G, H.g n = some G → GOk H.p.n G
theorem HInv.gi {H : HostM} (h : HInv H) {n : Nat} (hn : n < 4) {G : GuestM} (hg : H.g n = some G) : GInv H.p G (hrest H n) := by
  have k := h.g n hn G hg
  refine ⟨⟨k.st, k.here, k.none, fun f hf => ?_, fun f => ?_⟩, k.c, k.r0, k.r1⟩
  · rw [h.cnt f hf, hcnt_split H hn f, hg]; rfl
  · have := hrest_le H n f; omega
theorem HInv.step {H : HostM} (h : HInv H) {n : Nat} (hn : n < 4) {P' : PoolM} {G' : GuestM} (s : GStep H.p (hrest H n) P' G') (hb : Blk G'.m) : HInv (H.put n P' (some G')) := by
  refine ⟨fun f hf => ?_, fun i hi G hg => ?_⟩
  · rw [hcnt_put H hn]
    exact s.inv.m.cnt f hf
  · unfold HostM.put at hg ⊢
    simp only [] at hg ⊢
    by_cases e : i = n
    · rw [if_pos e] at hg
      cases hg
      exact ⟨s.inv.m.st, s.inv.m.here, s.inv.m.none, s.inv.c, s.inv.r0, s.inv.r1, hb⟩
    · rw [if_neg e] at hg
      have k := h.g i hi G hg
      exact ⟨k.st, by rw [s.n]; exact k.here, k.none, k.c, k.r0, k.r1, k.blk⟩
theorem put_n (H : HostM) (n : Nat) (P : PoolM) (o : Option GuestM) : (H.put n P o).p = P := rfl
theorem put_same {H : HostM} {n : Nat} {P : PoolM} {o : Option GuestM} (h : H.g n = o) (hp : H.p = P) : H.put n P o = H := by
  subst h hp
  unfold HostM.put
  cases H with
  | mk p g =>
    simp only [HostM.mk.injEq, true_and]
    funext i
    by_cases e : i = n
    · subst e; simp
    · simp [e]

/-! Acts. -/
/-- An act on one guest. -/
def hon (H : HostM) (n : Int) (f : PoolM → GuestM → PoolM × GuestM × Nat) : HostM × Nat :=
  if n < 0 ∨ 3 < n then (H, 1) else
  match H.g n.toNat with
  | none => (H, 2)
  | some G => (H.put n.toNat (f H.p G).1 (some (f H.p G).2.1), (f H.p G).2.2)
def hload (H : HostM) (n addr : Int) : HostM × UInt8 × Nat :=
  if n < 0 ∨ 3 < n then (H, 0, 1) else
  match H.g n.toNat with
  | none => (H, 0, 2)
  | some G => (H.put n.toNat (gload H.p G addr).1 (some (gload H.p G addr).2.1), (gload H.p G addr).2.2)
/-- Which way a number goes. -/
theorem who_ways (H : HostM) (n : Int) : (n < 0 ∨ 3 < n) ∨ (∃ k : Nat, k < 4 ∧ n = k ∧ H.g k = none) ∨ (∃ (k : Nat) (G : GuestM), k < 4 ∧ n = k ∧ H.g k = some G) := by
  by_cases h : n < 0 ∨ 3 < n
  · exact .inl h
  · right
    have e : n = (n.toNat : Int) := by omega
    cases hg : H.g n.toNat with
    | none => exact .inl ⟨n.toNat, by omega, e, hg⟩
    | some G => exact .inr ⟨n.toNat, G, by omega, e, hg⟩
section
variable {H : HostM} {f : PoolM → GuestM → PoolM × GuestM × Nat} {n : Int} {k : Nat} {G : GuestM}
theorem hon_off (h : n < 0 ∨ 3 < n) : hon H n f = (H, 1) := by unfold hon; rw [if_pos h]
theorem hon_none (hk : k < 4) (h : H.g k = none) : hon H k f = (H, 2) := by
  unfold hon; rw [if_neg (by omega), Int.toNat_natCast, h]
theorem hon_some (hk : k < 4) (h : H.g k = some G) : hon H k f = (H.put k (f H.p G).1 (some (f H.p G).2.1), (f H.p G).2.2) := by
  unfold hon; rw [if_neg (by omega), Int.toNat_natCast, h]
theorem hload_off {a : Int} (h : n < 0 ∨ 3 < n) : hload H n a = (H, 0, 1) := by unfold hload; rw [if_pos h]
theorem hload_none {a : Int} (hk : k < 4) (h : H.g k = none) : hload H k a = (H, 0, 2) := by
  unfold hload; rw [if_neg (by omega), Int.toNat_natCast, h]
theorem hload_some {a : Int} (hk : k < 4) (h : H.g k = some G) : hload H k a = (H.put k (gload H.p G a).1 (some (gload H.p G a).2.1), (gload H.p G a).2.2) := by
  unfold hload; rw [if_neg (by omega), Int.toNat_natCast, h]
end
def hstore (H : HostM) (n addr : Int) (v : UInt8) := hon H n fun P G => gstore P G addr v
def hroot (H : HostM) (n a : Int) := hon H n fun P G => (P, groot G a)
def hforget (H : HostM) (n a : Int) := hon H n fun P G => (P, gforget G a)
def hforgetAll (H : HostM) (n a : Int) := hon H n fun P G => (P, gforgetAll G a)
def hgive (H : HostM) (n page : Int) := hon H n fun P G => gact G (mgive P G.m page)
/-- How many pages are plain. -/
def oprom (o : Option GuestM) : Nat := match o with | some G => (List.range 16).countP (fun i => G.m.state i == 1) | none => 0
def hpromN (H : HostM) : Nat → Nat
  | 0 => 0
  | i + 1 => hpromN H i + oprom (H.g i)
def hprom (H : HostM) : Nat := hpromN H 4
def hbackF (H : HostM) (page : Int) (P : PoolM) (G : GuestM) : PoolM × GuestM × Nat :=
  if onB page = true ∧ G.m.state page.toNat = 2 ∧ hprom H = H.p.n then (P, G, 7) else gact G (P, (mback G.m page).1, (mback G.m page).2)
def hback (H : HostM) (n page : Int) := hon H n (hbackF H page)
def plugN (M : MapM) (a : Nat) : Nat → MapM
  | 0 => M
  | k + 1 => (mplug (plugN M a k) ((a + k : Nat) : Int)).1
def unplugN (P : PoolM) (M : MapM) (a : Nat) : Nat → PoolM × MapM
  | 0 => (P, M)
  | k + 1 => ((munplug (unplugN P M a k).1 (unplugN P M a k).2 ((a + k : Nat) : Int)).1, (munplug (unplugN P M a k).1 (unplugN P M a k).2 ((a + k : Nat) : Int)).2.1)
def hplugF (H : HostM) (b : Int) (P : PoolM) (G : GuestM) : PoolM × GuestM × Nat :=
  if b < 0 ∨ 3 < b then (P, G, 1) else
  if G.m.state (4 * b.toNat) ≠ 0 then (P, G, 4) else
  if H.p.n < hprom H + 4 then (P, G, 7) else (P, { G with m := plugN G.m (4 * b.toNat) 4 }, 0)
def hplug (H : HostM) (n b : Int) := hon H n (hplugF H b)
def hunplugF (b : Int) (P : PoolM) (G : GuestM) : PoolM × GuestM × Nat :=
  if b < 0 ∨ 3 < b then (P, G, 1) else
  if G.m.state (4 * b.toNat) = 0 then (P, G, 2) else ((unplugN P G.m (4 * b.toNat) 4).1, { G with m := (unplugN P G.m (4 * b.toNat) 4).2 }, 0)
def hunplug (H : HostM) (n b : Int) := hon H n (hunplugF b)
def hremove (H : HostM) (n : Int) : HostM × Nat :=
  if n < 0 ∨ 3 < n then (H, 1) else
  match H.g n.toNat with
  | none => (H, 2)
  | some G => (H.put n.toNat (unplugN H.p G.m 0 16).1 none, 0)
def hadd (H : HostM) : HostM × Int × Nat :=
  match (List.range 4).find? fun n => (H.g n).isNone with
  | some n => (H.put n H.p (some GuestM.fresh), n, 0)
  | none => (H, 0, 4)

/-! What they keep. -/
theorem plugN_state (M : MapM) (a : Nat) : ∀ k, a + k ≤ 16 → ∀ i, (plugN M a k).state i = if a ≤ i ∧ i < a + k ∧ M.state i = 0 then 1 else M.state i := by
  intro j
  induction j with
  | zero => intro _ i; rw [if_neg (by omega)]; rfl
  | succ j ihj =>
    intro hj i
    have ihj := ihj (by omega)
    show (mplug (plugN M a j) ((a + j : Nat) : Int)).1.state i = _
    unfold mplug
    rw [if_pos (onB_iff.2 ⟨by omega, by omega⟩), Int.toNat_natCast]
    have e := ihj (a + j)
    rw [if_neg (by omega)] at e
    rw [e]
    by_cases hz : M.state (a + j) = 0
    · rw [if_pos hz]
      unfold MapM.setState
      simp only []
      by_cases ei : i = a + j
      · subst ei
        rw [if_pos rfl, if_pos ⟨by omega, by omega, hz⟩]
      · rw [if_neg ei, ihj i]
        by_cases hc : a ≤ i ∧ i < a + j ∧ M.state i = 0
        · rw [if_pos hc, if_pos ⟨hc.1, by omega, hc.2.2⟩]
        · rw [if_neg hc, if_neg]
          rintro ⟨h1, h2, h3⟩
          exact hc ⟨h1, by omega, h3⟩
    · rw [if_neg hz]
      show (plugN M a j).state i = _
      rw [ihj i]
      by_cases hc : a ≤ i ∧ i < a + j ∧ M.state i = 0
      · rw [if_pos hc, if_pos ⟨hc.1, by omega, hc.2.2⟩]
      · rw [if_neg hc, if_neg]
        rintro ⟨h1, h2, h3⟩
        refine hc ⟨h1, ?_, h3⟩
        have : i ≠ a + j := fun e => hz (by rw [← e]; exact h3)
        omega
theorem plugN_leaf (M : MapM) (a : Nat) (k : Nat) : (plugN M a k).leaf = M.leaf := by
  induction k with
  | zero => rfl
  | succ j ihj =>
    show (mplug (plugN M a j) ((a + j : Nat) : Int)).1.leaf = _
    rw [← ihj]
    unfold mplug
    repeat' split
    all_goals rfl
/-- Each page of the block can be plugged. -/
theorem plugN_ok {M : MapM} {a k : Nat} (hk : a + k < 16) (h : M.state (a + k) = 0) : mplug (plugN M a k) ((a + k : Nat) : Int) = (plugN M a (k + 1), 0) := by
  have e := plugN_state M a k (by omega) (a + k)
  rw [if_neg (by omega)] at e
  show _ = ((mplug (plugN M a k) ((a + k : Nat) : Int)).1, 0)
  unfold mplug
  rw [if_pos (onB_iff.2 ⟨by omega, by omega⟩), Int.toNat_natCast, e, if_pos h]
theorem MInv.plugN {P : PoolM} {M : MapM} {E : Nat → Nat} (h : MInv P M E) (a k : Nat) : MInv P (plugN M a k) E := by
  induction k with
  | zero => exact h
  | succ j ihj => exact ihj.plug _
theorem MInv.unplugN {P : PoolM} {M : MapM} {E : Nat → Nat} (h : MInv P M E) (a k : Nat) : MStep P E (unplugN P M a k).1 (unplugN P M a k).2 := by
  induction k with
  | zero => exact h.stay
  | succ j ihj => exact ihj.trans (ihj.inv.unplug _)
theorem munplug_state (P : PoolM) (M : MapM) {n : Nat} (hn : n < 16) (i : Nat) : (munplug P M (n : Int)).2.1.state i = if i = n then 0 else M.state i := by
  unfold munplug
  rw [if_pos (onB_iff.2 ⟨by omega, by omega⟩), Int.toNat_natCast]
  by_cases hz : M.state n = 0
  · rw [if_pos hz]
    by_cases e : i = n
    · subst e; rw [if_pos rfl]; exact hz
    · rw [if_neg e]
  · rw [if_neg hz]
    unfold MapM.setState MapM.setLeaf
    simp only []
theorem unplugN_state (P : PoolM) (M : MapM) (a : Nat) : ∀ k, a + k ≤ 16 → ∀ i, (unplugN P M a k).2.state i = if a ≤ i ∧ i < a + k then 0 else M.state i := by
  intro k
  induction k with
  | zero => intro _ i; rw [if_neg (by omega)]; rfl
  | succ j ihj =>
    intro hj i
    show (munplug (unplugN P M a j).1 (unplugN P M a j).2 ((a + j : Nat) : Int)).2.1.state i = _
    rw [munplug_state _ _ (by omega), ihj (by omega)]
    by_cases e : i = a + j
    · subst e; rw [if_pos rfl, if_pos (by omega)]
    · rw [if_neg e]
      by_cases hc : a ≤ i ∧ i < a + j
      · rw [if_pos hc, if_pos (by omega)]
      · rw [if_neg hc, if_neg (by omega)]
/-- Each page of the block can be unplugged. -/
theorem unplugN_ok {P : PoolM} {M : MapM} {a k : Nat} (hk : a + k < 16) (h : M.state (a + k) ≠ 0) : munplug (unplugN P M a k).1 (unplugN P M a k).2 ((a + k : Nat) : Int) = ((unplugN P M a (k + 1)).1, (unplugN P M a (k + 1)).2, 0) := by
  have e := unplugN_state P M a k (by omega) (a + k)
  rw [if_neg (by omega)] at e
  show _ = ((munplug (unplugN P M a k).1 (unplugN P M a k).2 ((a + k : Nat) : Int)).1, (munplug (unplugN P M a k).1 (unplugN P M a k).2 ((a + k : Nat) : Int)).2.1, 0)
  unfold munplug
  rw [if_pos (onB_iff.2 ⟨by omega, by omega⟩), Int.toNat_natCast, e, if_neg h]
theorem Blk.plugN {M : MapM} (h : Blk M) {b : Nat} (hb : b < 4) : Blk (plugN M (4 * b) 4) := fun c hc k hk => by
  rw [plugN_state _ _ _ (by omega), plugN_state _ _ _ (by omega)]
  have := h c hc k hk
  by_cases e : c = b
  · subst e
    by_cases hz : M.state (4 * c) = 0
    · rw [if_pos ⟨by omega, by omega, hz⟩, if_pos ⟨by omega, by omega, this.1 hz⟩]
    · rw [if_neg (fun h => hz h.2.2), if_neg (fun h => hz (this.2 h.2.2))]; exact this
  · rw [if_neg (by omega), if_neg (by omega)]; exact this
theorem Blk.unplugN {P : PoolM} {M : MapM} (h : Blk M) {b : Nat} (hb : b < 4) : Blk (unplugN P M (4 * b) 4).2 := fun c hc k hk => by
  rw [unplugN_state _ _ _ _ (by omega), unplugN_state _ _ _ _ (by omega)]
  by_cases e : c = b
  · subst e
    rw [if_pos (by omega), if_pos (by omega)]
  · rw [if_neg (by omega), if_neg (by omega)]; exact h c hc k hk
theorem gtouch_state (P : PoolM) (G : GuestM) (n : Int) (wr : Bool) : (gtouch P G n wr).2.1.m.state = G.m.state := mtouch_state P G.m n wr
theorem gwalk_state (P : PoolM) (G : GuestM) (n : Int) : (gwalk P G n).2.1.m.state = G.m.state := by
  unfold gwalk
  simp only []
  repeat' split
  all_goals exact gtouch_state _ _ _ _
theorem gframe_state (P : PoolM) (G : GuestM) (n : Int) (wr : Bool) : (gframe P G n wr).2.1.m.state = G.m.state := by
  unfold gframe
  split
  · rfl
  · split
    · exact gtouch_state _ _ _ _
    · split
      · split
        · rfl
        · exact gtouch_state _ _ _ _
      · simp only []
        split
        · exact gwalk_state _ _ _
        · split
          · exact gwalk_state _ _ _
          · split
            · exact (gtouch_state _ _ _ _).trans (gwalk_state _ _ _)
            · exact (gtouch_state _ _ _ _).trans (gwalk_state _ _ _)
theorem gload_state (P : PoolM) (G : GuestM) (n : Int) : (gload P G n).2.1.m.state = G.m.state := by
  unfold gload
  simp only []
  split <;> exact gframe_state _ _ _ _
theorem gstore_state (P : PoolM) (G : GuestM) (n : Int) (v : UInt8) : (gstore P G n v).2.1.m.state = G.m.state := by
  unfold gstore
  simp only []
  split <;> exact gframe_state _ _ _ _
theorem HInv.load {H : HostM} (h : HInv H) (n a : Int) : HInv (hload H n a).1 := by
  rcases who_ways H n with h0 | ⟨k, hk, rfl, hg⟩ | ⟨k, G, hk, rfl, hg⟩
  · rw [hload_off h0]; exact h
  · rw [hload_none hk hg]; exact h
  · rw [hload_some hk hg]
    exact h.step hk ((h.gi hk hg).load a) (by rw [Blk.eq_1, gload_state]; exact (h.g k hk G hg).blk)
theorem HInv.on {H : HostM} (h : HInv H) (n : Int) {f : PoolM → GuestM → PoolM × GuestM × Nat} (hf : ∀ k, k < 4 → ∀ G, H.g k = some G → GStep H.p (hrest H k) (f H.p G).1 (f H.p G).2.1 ∧ Blk (f H.p G).2.1.m) : HInv (hon H n f).1 := by
  rcases who_ways H n with h0 | ⟨k, hk, rfl, hg⟩ | ⟨k, G, hk, rfl, hg⟩
  · rw [hon_off h0]; exact h
  · rw [hon_none hk hg]; exact h
  · rw [hon_some hk hg]
    obtain ⟨s, b⟩ := hf k hk G hg
    exact h.step hk s b
theorem GInv.still {P : PoolM} {G G' : GuestM} {E : Nat → Nat} (h : GInv P G' E) : GStep P E P G' := ⟨rfl, h, fun _ _ _ => rfl⟩
theorem HInv.store {H : HostM} (h : HInv H) (n a : Int) (v : UInt8) : HInv (hstore H n a v).1 :=
  h.on n fun k hk G hg => ⟨(h.gi hk hg).store a v, by rw [Blk.eq_1, gstore_state]; exact (h.g k hk G hg).blk⟩
theorem HInv.root {H : HostM} (h : HInv H) (n a : Int) : HInv (hroot H n a).1 :=
  h.on n fun k hk G hg => ⟨GInv.still (G := G) ((h.gi hk hg).setRoot a), by
    show Blk (groot G a).1.m
    unfold groot
    split <;> exact (h.g k hk G hg).blk⟩
theorem HInv.forget {H : HostM} (h : HInv H) (n a : Int) : HInv (hforget H n a).1 :=
  h.on n fun k hk G hg => ⟨GInv.still (G := G) ((h.gi hk hg).forget a), by
    show Blk (gforget G a).1.m
    unfold gforget
    split <;> exact (h.g k hk G hg).blk⟩
theorem HInv.forgetAll {H : HostM} (h : HInv H) (n a : Int) : HInv (hforgetAll H n a).1 :=
  h.on n fun k hk G hg => ⟨GInv.still (G := G) ((h.gi hk hg).forgetAll a), by
    show Blk (gforgetAll G a).1.m
    unfold gforgetAll
    split <;> exact (h.g k hk G hg).blk⟩
theorem Blk.give {P : PoolM} {M : MapM} (h : Blk M) (n : Int) : Blk (mgive P M n).2.1 := by
  unfold mgive
  split
  · rename_i ho
    split
    · rename_i h1
      refine h.congr fun i hi => ?_
      unfold MapM.setState MapM.setLeaf
      simp only []
      by_cases e : i = n.toNat
      · subst e; rw [if_pos rfl, h1]; decide
      · rw [if_neg e]
    · exact h
  · exact h
theorem Blk.back {M : MapM} (h : Blk M) (n : Int) : Blk (mback M n).1 := by
  unfold mback
  split
  · split
    · rename_i h1
      refine h.congr fun i hi => ?_
      unfold MapM.setState
      simp only []
      by_cases e : i = n.toNat
      · subst e; rw [if_pos rfl, h1]; decide
      · rw [if_neg e]
    · exact h
  · exact h
theorem HInv.give {H : HostM} (h : HInv H) (n a : Int) : HInv (hgive H n a).1 :=
  h.on n fun k hk G hg => ⟨(h.gi hk hg).map ((h.gi hk hg).m.give a), (h.g k hk G hg).blk.give a⟩
theorem HInv.back {H : HostM} (h : HInv H) (n a : Int) : HInv (hback H n a).1 :=
  h.on n fun k hk G hg => by
    unfold hbackF
    split
    · exact ⟨(h.gi hk hg).stay, (h.g k hk G hg).blk⟩
    · exact ⟨(h.gi hk hg).map ⟨rfl, (h.gi hk hg).m.back a, fun _ _ _ => rfl⟩, (h.g k hk G hg).blk.back a⟩
theorem HInv.plug {H : HostM} (h : HInv H) (n b : Int) : HInv (hplug H n b).1 :=
  h.on n fun k hk G hg => by
    unfold hplugF
    split
    · exact ⟨(h.gi hk hg).stay, (h.g k hk G hg).blk⟩
    · split
      · exact ⟨(h.gi hk hg).stay, (h.g k hk G hg).blk⟩
      · split
        · exact ⟨(h.gi hk hg).stay, (h.g k hk G hg).blk⟩
        · exact ⟨(h.gi hk hg).map ⟨rfl, (h.gi hk hg).m.plugN _ _, fun _ _ _ => rfl⟩, (h.g k hk G hg).blk.plugN (by omega)⟩
theorem HInv.unplug {H : HostM} (h : HInv H) (n b : Int) : HInv (hunplug H n b).1 :=
  h.on n fun k hk G hg => by
    unfold hunplugF
    split
    · exact ⟨(h.gi hk hg).stay, (h.g k hk G hg).blk⟩
    · split
      · exact ⟨(h.gi hk hg).stay, (h.g k hk G hg).blk⟩
      · exact ⟨(h.gi hk hg).map ((h.gi hk hg).m.unplugN _ _), (h.g k hk G hg).blk.unplugN (by omega)⟩
theorem mcnt_none {M : MapM} {f : Nat} (h : ∀ i, i < 16 → (M.leaf i).there = false) : mcnt M f = 0 := by
  unfold mcnt
  rw [List.countP_eq_zero]
  intro i hi hx
  have := h i (List.mem_range.1 hi)
  unfold inF at hx
  rw [this] at hx
  cases hx
theorem unplugN_all {P : PoolM} {M : MapM} {E : Nat → Nat} (h : MInv P M E) : ∀ i, i < 16 → ((unplugN P M 0 16).2.leaf i).there = false := fun i hi => by
  have s := (h.unplugN 0 16).inv
  cases e : ((unplugN P M 0 16).2.leaf i).there with
  | false => rfl
  | true =>
    have := (s.here i hi e).1
    rw [unplugN_state _ _ _ _ (by omega), if_pos (by omega)] at this
    cases this
theorem HInv.remove {H : HostM} (h : HInv H) (n : Int) : HInv (hremove H n).1 := by
  unfold hremove
  split
  · exact h
  · rename_i hn
    split
    · exact h
    · rename_i G hg
      have hk : n.toNat < 4 := by omega
      have gi := h.gi hk hg
      have s := gi.m.unplugN 0 16
      refine ⟨fun f hf => ?_, fun i hi G2 hg2 => ?_⟩
      · rw [hcnt_put H hk]
        have := s.inv.cnt f hf
        rw [mcnt_none (unplugN_all gi.m)] at this
        exact this
      · unfold HostM.put at hg2 ⊢
        simp only [] at hg2 ⊢
        by_cases e : i = n.toNat
        · rw [if_pos e] at hg2; cases hg2
        · rw [if_neg e] at hg2
          have k := h.g i hi G2 hg2
          exact ⟨k.st, by rw [s.n]; exact k.here, k.none, k.c, k.r0, k.r1, k.blk⟩
theorem GOk.fresh (N : Nat) : GOk N GuestM.fresh :=
  ⟨fun i _ => .inl rfl, (fun i _ h => by cases h), fun i _ _ => rfl, CInv.nil, by decide, by decide, fun b _ k _ => by constructor <;> intro _ <;> rfl⟩
theorem find_mem {p : Nat → Bool} {l : List Nat} {n : Nat} (h : l.find? p = some n) : n ∈ l ∧ p n = true := ⟨List.mem_of_find?_eq_some h, List.find?_some h⟩
theorem HInv.add {H : HostM} (h : HInv H) : HInv (hadd H).1 := by
  unfold hadd
  split
  · rename_i n hf
    obtain ⟨h1, h2⟩ := find_mem hf
    have hn := List.mem_range.1 h1
    have h3 : H.g n = none := by simpa using h2
    refine ⟨fun f hff => ?_, fun i hi G2 hg2 => ?_⟩
    · rw [hcnt_put H hn]
      have := h.cnt f hff
      rw [hcnt_split H hn, h3] at this
      have e : ocnt (some GuestM.fresh) f = 0 := mcnt_none fun i _ => rfl
      rw [e]
      exact this
    · unfold HostM.put at hg2 ⊢
      simp only [] at hg2 ⊢
      by_cases e : i = n
      · rw [if_pos e] at hg2; cases hg2; exact GOk.fresh _
      · rw [if_neg e] at hg2; exact h.g i hi G2 hg2
  · exact h
def HostM.fresh (n : Nat) : HostM := ⟨PoolM.fresh n, fun _ => none⟩
theorem HInv.fresh (n : Nat) : HInv (HostM.fresh n) := ⟨fun f _ => rfl, fun i _ G h => by cases h⟩

end U
end Go.Proofs.Ytnhplapcdgnaaab
