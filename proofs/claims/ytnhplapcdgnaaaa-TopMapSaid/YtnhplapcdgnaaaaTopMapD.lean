import Derived.Test.YtnhplapcdgnaaaaTopMapC
set_option linter.unusedVariables false
set_option linter.unusedSimpArgs false
namespace Go.Proofs.Ytnhplapcdgnaaaa
open Go.RowKit
namespace U

/-! TopMap: plain steps. -/
/-- Two maps on a pool, each page with its bytes. -/
structure HeldG (P : PoolM) (A B : MapM) (fa fb : Nat → Nat → UInt8) : Prop where
  a : MInv P A (mcnt B)
  b : MInv P B (mcnt A)
  wa : WI A A B
  wb : WI B A B
  pa : ∀ i, i < 16 → ∀ j, j < 16 → mpage P A i j = fa i j
  pb : ∀ i, i < 16 → ∀ j, j < 16 → mpage P B i j = fb i j
section
variable {P P' : PoolM} {A B : MapM} {fa fb : Nat → Nat → UInt8} {f : Nat → Nat → UInt8}
theorem WI.swap {M A B : MapM} (h : WI M A B) : WI M B A := fun i hi ht hw => by rw [Nat.add_comm]; exact h i hi ht hw
theorem HeldG.swap (h : HeldG P A B fa fb) : HeldG P B A fb fa := ⟨h.b, h.a, h.wb.swap, h.wa.swap, h.pb, h.pa⟩
theorem HeldI.toG (h : HeldI P A B f) : HeldG P A B f (fun i => f (16 + i)) := ⟨h.a, h.b, h.wa, h.wb, h.pa, h.pb⟩
theorem HeldG.toI (h : HeldG P A B f (fun i => f (16 + i))) : HeldI P A B f := ⟨h.a, h.b, h.wa, h.wb, h.pa, h.pb⟩
theorem HeldG.touch (h : HeldG P A B fa fb) (n : Int) (wr : Bool) : HeldG (mtouch P A n wr).1 (mtouch P A n wr).2.1 B fa fb ∧ (mtouch P A n wr).1.n = P.n := by
  obtain ⟨s, hp⟩ := h.a.touch n wr
  obtain ⟨w1, w2⟩ := WI.touch h.a h.b h.wa h.wb n wr
  exact ⟨⟨s.inv, h.b.other s.inv s.n, w1, w2, fun i hi j hj => by rw [hp i hi]; exact h.pa i hi j hj, fun i hi j hj => by rw [mpage_other h.b s hi]; exact h.pb i hi j hj⟩, s.n⟩
theorem HeldG.join (h : HeldG P A B fa fb) (n fr : Int) (na : ∀ i, i < 16 → (A.leaf i).there = true → (A.leaf i).frame = fr → (A.leaf i).write = false) (nb : ∀ i, i < 16 → (B.leaf i).there = true → (B.leaf i).frame = fr → (B.leaf i).write = false) :
    HeldG (mjoin P A n fr).1 (mjoin P A n fr).2.1 B fa fb ∧ (mjoin P A n fr).1.n = P.n := by
  obtain ⟨s, hp⟩ := h.a.join n fr
  obtain ⟨w1, w2⟩ := WI.join h.a h.b h.wa h.wb n fr na nb
  exact ⟨⟨s.inv, h.b.other s.inv s.n, w1, w2, fun i hi j hj => by rw [hp i hi j hj]; exact h.pa i hi j hj, fun i hi j hj => by rw [mpage_other h.b s hi]; exact h.pb i hi j hj⟩, s.n⟩
theorem HeldG.sealAll (h : HeldG P A B fa fb) (fr : Int) : HeldG P (sealM A fr 16) (sealM B fr 16) fa fb := by
  refine ⟨?_, ?_, h.wa.sealed fr fr fr 16 16 16, h.wb.sealed fr fr fr 16 16 16, fun i hi j hj => by rw [mpage_seal]; exact h.pa i hi j hj, fun i hi j hj => by rw [mpage_seal]; exact h.pb i hi j hj⟩
  · have := h.a.sealAll fr 16
    rw [show mcnt (sealM B fr 16) = mcnt B from funext fun f => mcnt_seal B fr 16 f]
    exact this
  · have := h.b.sealAll fr 16
    rw [show mcnt (sealM A fr 16) = mcnt A from funext fun f => mcnt_seal A fr 16 f]
    exact this
/-- One page sealed. -/
theorem mseal_is {A : MapM} {n : Int} : (mseal A n).1 = A ∨ ∃ k, k < 16 ∧ (A.leaf k).there = true ∧ (mseal A n).1 = A.setLeaf k { A.leaf k with write := false } := by
  unfold mseal
  by_cases ho : onB n = true
  · rw [if_pos ho]
    have hn := onB_iff.1 ho
    by_cases ht : (A.leaf n.toNat).there = true
    · rw [if_pos ht]; exact .inr ⟨n.toNat, by omega, ht, rfl⟩
    · rw [if_neg ht]; exact .inl rfl
  · rw [if_neg ho]; exact .inl rfl
theorem HeldG.seal1 (h : HeldG P A B fa fb) (n : Int) : HeldG P (mseal A n).1 B fa fb := by
  rcases mseal_is (A := A) (n := n) with e | ⟨k, hk, ht, e⟩
  · rw [e]; exact h
  · have hs : ∀ i, ((A.setLeaf k { A.leaf k with write := false }).leaf i).there = (A.leaf i).there ∧ ((A.setLeaf k { A.leaf k with write := false }).leaf i).frame = (A.leaf i).frame ∧ (((A.setLeaf k { A.leaf k with write := false }).leaf i).write = true → (A.leaf i).write = true) := fun i => by
      unfold MapM.setLeaf
      by_cases e : i = k
      · subst e; simp
      · simp [e]
    have hc : mcnt (mseal A n).1 = mcnt A := by
      rw [e]
      funext f
      unfold mcnt
      congr 1
      funext i
      unfold inF
      rw [(hs i).1, (hs i).2.1]
    refine ⟨h.a.sealed n, by rw [hc]; exact h.b, fun i hi hti hwi => ?_, fun i hi hti hwi => by rw [hc]; exact h.wb i hi hti hwi, fun i hi j hj => ?_, h.pb⟩
    · rw [hc]
      rw [e] at hti hwi ⊢
      rw [(hs i).2.1]
      rw [(hs i).1] at hti
      exact h.wa i hi hti ((hs i).2.2 hwi)
    · rw [← h.pa i hi j hj]
      unfold mpage
      rw [e, (hs i).1, (hs i).2.1]
/-- A byte that is set where the page may be written. -/
theorem HeldG.set_ (h : HeldG P A B fa fb) {k : Nat} (hk : k < 16) (ht : (A.leaf k).there = true) (hw : (A.leaf k).write = true) {a : Int} (h0 : 0 ≤ a) (h1 : a < 16) (v : UInt8) :
    P.set (A.leaf k).frame a v = (P.setByte (A.leaf k).frame.toNat a.toNat v, 0) ∧ HeldG (P.setByte (A.leaf k).frame.toNat a.toNat v) A B (bset fa k a.toNat v) fb := by
  have hu := h.a.used hk ht
  have hu2 := used_cast.1 hu
  have h2 := h.wa k hk ht hw
  have hc := h.a.cnt (A.leaf k).frame.toNat hu2.2.1
  have hr : P.refs (A.leaf k).frame.toNat = 1 := by omega
  have hs : P.set (A.leaf k).frame a v = (P.setByte (A.leaf k).frame.toNat a.toNat v, 0) := by
    unfold PoolM.set
    rw [if_neg (by omega), if_pos hu, if_neg (by omega)]
  have st := h.a.set hk ht a v
  rw [hs] at st
  have stb : MInv (P.setByte (A.leaf k).frame.toNat a.toNat v) B (mcnt A) := ⟨h.b.st, h.b.here, h.b.none, h.b.cnt, h.b.small⟩
  refine ⟨hs, st.inv, stb, h.wa, h.wb, fun i hi j hj => ?_, fun i hi j hj => ?_⟩
  · have hp := h.pa i hi j hj
    unfold bset
    by_cases e : i = k
    · subst e
      unfold mpage at hp ⊢
      rw [ht] at hp ⊢
      simp only [if_true] at hp ⊢
      unfold PoolM.setByte PoolM.setRow
      simp only [if_true]
      by_cases e2 : j = a.toNat
      · rw [if_pos e2, if_pos e2]
      · rw [if_neg e2, if_neg e2]; exact hp
    · rw [if_neg e, ← hp]
      unfold mpage
      cases hti : (A.leaf i).there with
      | false => rfl
      | true =>
        have hf0 := (h.a.here i hi hti).2.1
        have hne : (A.leaf i).frame.toNat ≠ (A.leaf k).frame.toNat := fun e3 => by
          have := alone (A := A) (B := B) (f := (A.leaf k).frame.toNat) h2 hk hi (inF_self ht (h.a.here k hk ht).2.1) e
          have h5 := inF_self hti hf0
          rw [e3, this] at h5
          cases h5
        simp only [if_true]
        unfold PoolM.setByte PoolM.setRow
        simp only []
        rw [if_neg hne]
  · rw [← h.pb i hi j hj]
    unfold mpage
    cases hti : (B.leaf i).there with
    | false => rfl
    | true =>
      have hf0 := (h.b.here i hi hti).2.1
      have hne : (B.leaf i).frame.toNat ≠ (A.leaf k).frame.toNat := fun e3 => by
        have h5 := alone' (A := B) (B := A) (f := (A.leaf k).frame.toNat) (by omega) hk hi (inF_self ht (h.a.here k hk ht).2.1)
        have h6 := inF_self hti hf0
        rw [e3, h5] at h6
        cases h6
      simp only [if_true]
      unfold PoolM.setByte PoolM.setRow
      simp only []
      rw [if_neg hne]
end

end U
end Go.Proofs.Ytnhplapcdgnaaaa
