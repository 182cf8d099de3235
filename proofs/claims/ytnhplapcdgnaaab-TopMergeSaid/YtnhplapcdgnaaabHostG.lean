import Derived.Test.YtnhplapcdgnaaabHostF
set_option linter.unusedVariables false
set_option linter.unusedSimpArgs false
namespace Go.Proofs.Ytnhplapcdgnaaab
open Go.RowKit
namespace U

theorem rowB_eq {R S : Nat → UInt8} (h : ∀ j, j < 16 → R j = S j) : (rowB R == rowB S) = true := by
  rw [beq_iff_eq]
  exact List.map_congr_left fun j hj => h j (by simpa using hj)

/-! Plain laws of a host: behind a scan of all pages, the same bytes are in one frame. -/
/-- The bytes of page k. -/
def hrow (H : HostM) (k : Nat) : Nat → UInt8 := match H.g (k / 16) with | some G => mpage H.p G.m (k % 16) | none => fun _ => 0
def RowEq (R S : Nat → UInt8) : Prop := ∀ j, j < 16 → R j = S j
theorem RowEq.trans {R S T : Nat → UInt8} (h : RowEq R S) (k : RowEq S T) : RowEq R T := fun j hj => (h j hj).trans (k j hj)
theorem RowEq.symm {R S : Nat → UInt8} (h : RowEq R S) : RowEq S R := fun j hj => (h j hj).symm
section
variable {H : HostM} {N n : Nat} {G : GuestM}
theorem hleaf_some {k : Nat} (h : (hleaf H k).there = true) : ∃ G, H.g (k / 16) = some G ∧ hleaf H k = G.m.leaf (k % 16) := by
  unfold hleaf at *
  cases e : H.g (k / 16) with
  | none => rw [e] at h; cases h
  | some G => exact ⟨G, rfl, rfl⟩
theorem hrow_there {k : Nat} (h : (hleaf H k).there = true) : hrow H k = H.p.b (hleaf H k).frame.toNat := by
  obtain ⟨G, hg, e⟩ := hleaf_some h
  rw [e] at h
  unfold hrow
  rw [hg, e]
  exact mpage_at h
theorem hleaf_used (hI : HInv H) {k : Nat} (hk : k < 64) (h : (hleaf H k).there = true) : H.p.used (hleaf H k).frame = true := by
  obtain ⟨G, hg, e⟩ := hleaf_some h
  rw [e] at h ⊢
  exact (hI.gi (n := k / 16) (by omega) hg).m.used (by omega) h
theorem hsame_row (hI : HInv H) {k k' : Nat} (hk : k < 64) (hk' : k' < 64) (h : (hleaf H k).there = true) (h' : (hleaf H k').there = true) (e : RowEq (hrow H k) (hrow H k')) : H.p.same (hleaf H k).frame (hleaf H k').frame = true := by
  rw [hrow_there h, hrow_there h'] at e
  unfold PoolM.same
  rw [hleaf_used hI hk h, hleaf_used hI hk' h', rowB_eq e]
  rfl
theorem same_row {k k' : Nat} (h : (hleaf H k).there = true) (h' : (hleaf H k').there = true) (e : H.p.same (hleaf H k).frame (hleaf H k').frame = true) : RowEq (hrow H k) (hrow H k') := by
  rw [hrow_there h, hrow_there h']
  exact (same_used e).2.2
/-- The first N pages: the same bytes are in one frame. -/
def Merged (H : HostM) (N : Nat) : Prop := ∀ k k', k < N → k' < N → (hleaf H k).there = true → (hleaf H k').there = true → RowEq (hrow H k) (hrow H k') → (hleaf H k).frame = (hleaf H k').frame
theorem hview (G : GuestM) (hg : H.g n = some G) : HSees H n ⟨G.m.state, mpage H.p G.m, G.root, G.c⟩ := ⟨G, hg, fun _ _ => rfl, fun _ _ _ _ => rfl, rfl, rfl⟩
theorem hscan_row (hI : HInv H) (m page : Int) {k : Nat} (hk : k < 64) : RowEq (hrow (hscan H m page).1 k) (hrow H k) := fun j hj => by
  unfold hrow
  cases e : H.g (k / 16) with
  | none =>
    have := hscan_some_iff H m page (k / 16)
    rw [e] at this
    cases e2 : (hscan H m page).1.g (k / 16) with
    | none => rfl
    | some G => rw [e2] at this; cases this
  | some G =>
    obtain ⟨G', hg', t⟩ := (hview G e).scan hI (by omega) m page
    rw [hg']
    exact (t.b (k % 16) (by omega) j hj).symm
theorem hjoin_leaf (hI : HInv H) (hn : n < 4) (hg : H.g n = some G) {p : Nat} (hp : p < 16) (ht : (G.m.leaf p).there = true) {fr : Int} (hne : (G.m.leaf p).frame ≠ fr) (hs : H.p.same (G.m.leaf p).frame fr = true) (k : Nat) :
    (hleaf (hjoin H n G (p : Int) fr).1 k).there = (hleaf H k).there ∧ (hleaf (hjoin H n G (p : Int) fr).1 k).frame = if k = 16 * n + p then fr else (hleaf H k).frame := by
  have s := sealM_same G.m fr 16
  have ej : (mjoin H.p (sealM G.m fr 16) (p : Int) fr).2.1 = (sealM G.m fr 16).setLeaf p ⟨true, false, fr⟩ := by
    unfold mjoin
    rw [if_pos (onB_iff.2 ⟨by omega, by omega⟩), Int.toNat_natCast, (s p).1, (s p).2.1, ht, hs, if_pos]
    simpa using hne
  by_cases ek : k / 16 = n
  · have e1 : hleaf (hjoin H n G (p : Int) fr).1 k = ((sealM G.m fr 16).setLeaf p ⟨true, false, fr⟩).leaf (k % 16) := by
      unfold hleaf hjoin
      dsimp only
      rw [ek, put_at]
      show (mjoin H.p (sealM G.m fr 16) (p : Int) fr).2.1.leaf (k % 16) = _
      rw [ej]
    have e2 : hleaf H k = G.m.leaf (k % 16) := by unfold hleaf; rw [ek, hg]
    rw [e1, e2]
    unfold MapM.setLeaf
    dsimp only
    by_cases ep : k % 16 = p
    · rw [if_pos ep, if_pos (by omega), ep, ht]; exact ⟨rfl, rfl⟩
    · rw [if_neg ep, if_neg (by omega)]; exact ⟨(s _).1, (s _).2.1⟩
  · have e1 : hleaf (hjoin H n G (p : Int) fr).1 k = hleaf (hsealN H fr 64) k := by
      unfold hleaf hjoin
      dsimp only
      rw [put_ne _ ek]
    rw [e1, if_neg (by omega)]
    unfold hleaf
    rw [hsealN_g]
    cases e : H.g (k / 16) with
    | none => exact ⟨rfl, rfl⟩
    | some J => exact ⟨(sealM_same J.m fr _ _).1, (sealM_same J.m fr _ _).2.1⟩
/-- What a scan of page N does: nothing, or the page joins one ahead of it. -/
theorem hscan_ways (hI : HInv H) (hN : N < 64) :
    (hscan H ((N / 16 : Nat) : Int) ((N % 16 : Nat) : Int)).1 = H ∧ (hscan H ((N / 16 : Nat) : Int) ((N % 16 : Nat) : Int)).2.1 = false ∧
      ((hleaf H N).there = true → ∀ k, k < N → (hleaf H k).there = true → RowEq (hrow H k) (hrow H N) → ∃ i, i < N ∧ (hleaf H i).there = true ∧ RowEq (hrow H i) (hrow H N) ∧ (hleaf H i).frame = (hleaf H N).frame) ∨
    (hleaf H N).there = true ∧ ∃ i, i < N ∧ (hleaf H i).there = true ∧ RowEq (hrow H i) (hrow H N) ∧ (hleaf H i).frame ≠ (hleaf H N).frame ∧
      ∀ k, (hleaf (hscan H ((N / 16 : Nat) : Int) ((N % 16 : Nat) : Int)).1 k).there = (hleaf H k).there ∧ (hleaf (hscan H ((N / 16 : Nat) : Int) ((N % 16 : Nat) : Int)).1 k).frame = if k = N then (hleaf H i).frame else (hleaf H k).frame := by
  have h4 : N / 16 < 4 := by omega
  have hp : N % 16 < 16 := by omega
  cases e : H.g (N / 16) with
  | none =>
    rw [hscan_none h4 e]
    refine .inl ⟨rfl, rfl, fun h => ?_⟩
    obtain ⟨G, hg, _⟩ := hleaf_some h
    rw [e] at hg; cases hg
  | some G =>
    have el : hleaf H N = G.m.leaf (N % 16) := by unfold hleaf; rw [e]
    rw [hscan_some h4 e]
    unfold hscanG
    rw [if_pos (onB_iff.2 ⟨by omega, by omega⟩), Int.toNat_natCast, ← el, show 16 * (N / 16) + N % 16 = N by omega]
    by_cases ht : (hleaf H N).there = true
    · rw [if_pos ht]
      cases hf : hfirst H (hleaf H N).frame N with
      | none =>
        refine .inl ⟨rfl, rfl, fun _ k hk htk hr => ?_⟩
        have := List.find?_eq_none.1 hf k (List.mem_range.2 hk)
        exfalso
        apply this
        unfold hhit
        rw [htk, hsame_row hI (by omega) hN htk ht hr]
        rfl
      | some i =>
        have m := find_mem hf
        have hi := List.mem_range.1 m.1
        have h2 : (hleaf H i).there = true ∧ H.p.same (hleaf H i).frame (hleaf H N).frame = true := by
          have := m.2
          unfold hhit at this
          simpa using this
        have hr := same_row h2.1 ht h2.2
        dsimp only
        by_cases ef : (hleaf H i).frame = (hleaf H N).frame
        · rw [if_pos ef]
          exact .inl ⟨rfl, rfl, fun _ k hk htk hr2 => ⟨i, hi, h2.1, hr, ef⟩⟩
        · rw [if_neg ef]
          refine .inr ⟨ht, i, hi, h2.1, hr, ef, fun k => ?_⟩
          have hs := hsame_row hI hN (by omega) ht h2.1 hr.symm
          have := hjoin_leaf hI h4 e hp (by rw [← el]; exact ht) (fr := (hleaf H i).frame) (by rw [← el]; exact Ne.symm ef) (by rw [← el]; exact hs) k
          rw [show 16 * (N / 16) + N % 16 = N by omega] at this
          exact this
    · rw [if_neg ht]
      exact .inl ⟨rfl, rfl, fun h => absurd h ht⟩
theorem Merged.step (hI : HInv H) (hN : N < 64) (m : Merged H N) : Merged (hscan H ((N / 16 : Nat) : Int) ((N % 16 : Nat) : Int)).1 (N + 1) := by
  rcases hscan_ways hI hN with ⟨e, _, hw⟩ | ⟨ht, i, hi, hti, hri, hne, hl⟩
  · rw [e]
    -- a page ahead of N with the bytes of N is in its frame
    have key : (hleaf H N).there = true → ∀ k, k < N → (hleaf H k).there = true → RowEq (hrow H k) (hrow H N) → (hleaf H k).frame = (hleaf H N).frame := fun ht k hk htk hr => by
      obtain ⟨i, hi, hti, hri, hfi⟩ := hw ht k hk htk hr
      rw [m k i hk hi htk hti (hr.trans hri.symm), hfi]
    intro k k' hk hk' htk htk' hr
    by_cases e1 : k = N
    · by_cases e2 : k' = N
      · rw [e1, e2]
      · subst e1
        exact (key htk k' (by omega) htk' hr.symm).symm
    · by_cases e2 : k' = N
      · subst e2
        exact key htk' k (by omega) htk hr
      · exact m k k' (by omega) (by omega) htk htk' hr
  · intro k k' hk hk' htk htk' hr
    have rk := hscan_row hI ((N / 16 : Nat) : Int) ((N % 16 : Nat) : Int) (k := k) (by omega)
    have rk' := hscan_row hI ((N / 16 : Nat) : Int) ((N % 16 : Nat) : Int) (k := k') (by omega)
    have hr2 := (rk.symm.trans hr).trans rk'
    rw [(hl k).1] at htk
    rw [(hl k').1] at htk'
    rw [(hl k).2, (hl k').2]
    by_cases e1 : k = N
    · by_cases e2 : k' = N
      · rw [if_pos e1, if_pos e2]
      · rw [if_pos e1, if_neg e2]
        subst e1
        exact m i k' hi (by omega) hti htk' (hri.trans hr2)
    · by_cases e2 : k' = N
      · rw [if_neg e1, if_pos e2]
        subst e2
        exact m k i (by omega) hi htk hti (hr2.trans hri.symm)
      · rw [if_neg e1, if_neg e2]
        exact m k k' (by omega) (by omega) htk htk' hr2
theorem Merged.all (hI : HInv H) : ∀ N, N ≤ 64 → Merged (hscanN H N).1 N := by
  intro N
  induction N with
  | zero => exact fun _ k k' hk => absurd hk (by omega)
  | succ N ih => exact fun hN => (ih (by omega)).step (hI.scanN N) (by omega)
theorem Merged.still (hI : HInv H) (m : Merged H 64) (hN : N < 64) : (hscan H ((N / 16 : Nat) : Int) ((N % 16 : Nat) : Int)).1 = H ∧ (hscan H ((N / 16 : Nat) : Int) ((N % 16 : Nat) : Int)).2.1 = false := by
  rcases hscan_ways hI hN with ⟨e, e2, _⟩ | ⟨ht, i, hi, hti, hri, hne, hl⟩
  · exact ⟨e, e2⟩
  · exact absurd (m i N (by omega) hN hti ht hri) hne
theorem Merged.stillN (hI : HInv H) (m : Merged H 64) : ∀ N, N ≤ 64 → hscanN H N = (H, 0) := by
  intro N
  induction N with
  | zero => exact fun _ => rfl
  | succ N ih =>
    intro hN
    have e := ih (by omega)
    have s := m.still hI (N := N) (by omega)
    show ((hscan (hscanN H N).1 ((N / 16 : Nat) : Int) ((N % 16 : Nat) : Int)).1, (hscanN H N).2 + (if (hscan (hscanN H N).1 ((N / 16 : Nat) : Int) ((N % 16 : Nat) : Int)).2.1 then 1 else 0)) = _
    rw [e]
    dsimp only
    rw [s.1, s.2]
    rfl
/-! Frames that are free stay free. -/
def NoLess (P P' : PoolM) : Prop := P'.n = P.n ∧ ∀ i, P.refs i = 0 → P'.refs i = 0
theorem NoLess.left {P P' : PoolM} (h : NoLess P P') : P.left ≤ P'.left := by
  unfold PoolM.left PoolM.leftTo
  rw [h.1]
  refine List.countP_mono_left fun i _ hi => ?_
  simp only [beq_iff_eq] at hi ⊢
  exact h.2 i hi
theorem NoLess.trans {P P' P'' : PoolM} (h : NoLess P P') (k : NoLess P' P'') : NoLess P P'' := ⟨k.1.trans h.1, fun i hi => k.2 i (h.2 i hi)⟩
theorem NoLess.refl (P : PoolM) : NoLess P P := ⟨rfl, fun _ h => h⟩
theorem NoLess.share (P : PoolM) (f k : Int) : NoLess P (P.share f k).1 := by
  unfold PoolM.share
  split
  · rename_i hu
    refine ⟨rfl, fun i hi => ?_⟩
    unfold PoolM.setRef
    dsimp only
    split
    · rename_i e
      have : 0 < P.refs f.toNat := by
        unfold PoolM.used at hu
        simp only [Bool.and_eq_true, decide_eq_true_eq] at hu
        exact hu.2.2
      rw [← e] at this
      omega
    · exact hi
  · exact .refl P
theorem NoLess.join (P : PoolM) (M : MapM) (n fr : Int) : NoLess P (mjoin P M n fr).1 := by
  unfold mjoin
  split
  · split
    · exact (NoLess.share P fr 1).trans (.share _ _ _)
    · exact .refl P
  · exact .refl P
theorem NoLess.scan (H : HostM) (n page : Int) : NoLess H.p (hscan H n page).1.p := by
  rcases who_ways H n with h0 | ⟨k, hk, rfl, hg⟩ | ⟨k, G, hk, rfl, hg⟩
  · rw [hscan_off h0]; exact .refl _
  · rw [hscan_none hk hg]; exact .refl _
  · rw [hscan_some hk hg]
    unfold hscanG
    split
    · split
      · split
        · exact .refl _
        · split
          · exact .refl _
          · exact .join H.p (sealM G.m _ 16) _ _
      · exact .refl _
    · exact .refl _
theorem NoLess.scanN (H : HostM) (k : Nat) : NoLess H.p (hscanN H k).1.p := by
  induction k with
  | zero => exact .refl _
  | succ k ih => exact ih.trans (.scan _ _ _)
/-- What the law finds behind a scan of all. -/
theorem merge_law (hF : HFine H) : Merged (hscanAll H).1 64 ∧ H.p.left ≤ (hscanAll H).1.p.left ∧ (hscanAll (hscanAll H).1) = ((hscanAll H).1, 0) := by
  have a := Merged.all hF.inv
  have b := fun N => (NoLess.scanN H N).left
  have c := fun N => (hF.inv.scanN N)
  have d : ∀ N, N ≤ 64 → N = 64 → hscanN (hscanN H N).1 N = ((hscanN H N).1, 0) := fun N hN e => (Merged.stillN (c N) (by subst e; exact a _ hN) N hN)
  unfold hscanAll
  generalize hN : 64 = N at *
  exact ⟨a N (Nat.le_refl _), b N, d N (Nat.le_refl _) rfl⟩
/-- A page that is there, told by its guest with its tables off. -/
theorem load_there (hI : HInv H) (hn : n < 4) (hg : H.g n = some G) (hr : G.root = -1) {p i : Nat} (hp : p < 16) (hi : i < 16) (ht : (G.m.leaf p).there = true) : hload H n ((16 * p + i : Nat) : Int) = (H, H.p.b (G.m.leaf p).frame.toNat i, 0) := by
  have gi := hI.gi hn hg
  have st := (gi.m.here p hp ht).1
  have et : mtouch H.p G.m ((p : Nat) : Int) false = (H.p, G.m, (G.m.leaf p).frame, false, 0) := by
    unfold mtouch
    rw [if_pos (onB_iff.2 ⟨by omega, by omega⟩), Int.toNat_natCast, st, if_neg (by omega), if_neg (by omega), if_pos (by rw [ht]; simp)]
  rw [hload_some hn hg]
  have ef : gframe H.p G ((16 * p + i : Nat) : Int) false = (H.p, G, (G.m.leaf p).frame, 0) := by
    unfold gframe
    rw [if_neg (by omega), if_pos (by omega), show ((16 * p + i : Nat) : Int) / 16 = ((p : Nat) : Int) by omega]
    unfold gtouch
    rw [et]
  have el : gload H.p G ((16 * p + i : Nat) : Int) = (H.p, G, H.p.b (G.m.leaf p).frame.toNat i, 0) := by
    unfold gload
    rw [ef]
    have : ((i : Int) % 16).toNat = i := by omega
    simp [this, gbyte]
  rw [el]
  dsimp only
  rw [put_same hg rfl]
end

end U
end Go.Proofs.Ytnhplapcdgnaaab
