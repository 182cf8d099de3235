import Derived.Test.YtnhplapcdgnaaabMapL
import Derived.Test.YtnhplapcdgnaaabTabs
set_option linter.unusedVariables false
set_option linter.unusedSimpArgs false
namespace Go.Proofs.Ytnhplapcdgnaaab
open Go.RowKit
namespace U

/-! TopMap: plain laws. -/
theorem one_is {P : PoolM} {f : Int} (h : P.used f = true) : P.one f = (P.refs f.toNat == 1) := by
  have h1 := used_cast.1 h
  unfold PoolM.one PoolM.of
  rw [if_neg (by omega)]
  simp

/-- What may be written has one page in its frame. -/
def WI (M A B : MapM) : Prop := ∀ i, i < 16 → (M.leaf i).there = true → (M.leaf i).write = true → mcnt A (M.leaf i).frame.toNat + mcnt B (M.leaf i).frame.toNat = 1
theorem inF_self {M : MapM} {i : Nat} (ht : (M.leaf i).there = true) (h0 : 0 ≤ (M.leaf i).frame) : inF M (M.leaf i).frame.toNat i = true := by
  unfold inF; rw [ht, Int.toNat_of_nonneg h0]; simp
theorem countP_one {p : Nat → Bool} : ∀ {N i j : Nat}, (List.range N).countP p ≤ 1 → i < N → j < N → p i = true → p j = true → i = j
  | 0, i, j, _, hi, _, _, _ => by omega
  | N + 1, i, j, h, hi, hj, pi, pj => by
    rw [List.range_succ, List.countP_append, List.countP_singleton] at h
    by_cases e1 : i = N
    · by_cases e2 : j = N
      · omega
      · subst e1
        have : 0 < (List.range i).countP p := List.countP_pos_iff.2 ⟨j, List.mem_range.2 (by omega), pj⟩
        rw [if_pos pi] at h; omega
    · by_cases e2 : j = N
      · subst e2
        have : 0 < (List.range j).countP p := List.countP_pos_iff.2 ⟨i, List.mem_range.2 (by omega), pi⟩
        rw [if_pos pj] at h; omega
      · exact countP_one (N := N) (by omega) (by omega) (by omega) pi pj
/-- In a frame that has one page no other page of this map is, and none of the other map. -/
theorem alone {A B : MapM} {f i n : Nat} (h : mcnt A f + mcnt B f = 1) (hi : i < 16) (hn : n < 16) (pi : inF A f i = true) (hne : n ≠ i) : inF A f n = false := by
  cases e : inF A f n with
  | false => rfl
  | true =>
    have h1 : (List.range 16).countP (inF A f) ≤ 1 := by show mcnt A f ≤ 1; omega
    exact absurd (countP_one (N := 16) h1 hn hi e pi) hne
theorem alone' {A B : MapM} {f i n : Nat} (h : mcnt A f + mcnt B f = 1) (hi : i < 16) (hn : n < 16) (pi : inF B f i = true) : inF A f n = false := by
  cases e : inF A f n with
  | false => rfl
  | true =>
    have h1 : 0 < mcnt A f := List.countP_pos_iff.2 ⟨n, List.mem_range.2 hn, e⟩
    have h2 : 0 < mcnt B f := List.countP_pos_iff.2 ⟨i, List.mem_range.2 hi, pi⟩
    omega
/-- A page of A moves; those that may be written are not where it goes. -/
theorem WI.moved {M A B : MapM} (h : WI M A B) (hM : M = A ∨ M = B) {n : Nat} (hn : n < 16) {l : LeafM} (hf : 0 ≤ l.frame)
    (h0 : ∀ i, i < 16 → (M.leaf i).there = true → 0 ≤ (M.leaf i).frame) (far : ∀ i, i < 16 → (M = A → i ≠ n) → (M.leaf i).there = true → (M.leaf i).write = true → (M.leaf i).frame ≠ l.frame) :
    ∀ i, i < 16 → (M = A → i ≠ n) → (M.leaf i).there = true → (M.leaf i).write = true → mcnt (A.setLeaf n l) (M.leaf i).frame.toNat + mcnt B (M.leaf i).frame.toNat = 1 := by
  intro i hi hne ht hw
  have h1 := h i hi ht hw
  have hp := inF_self ht (h0 i hi ht)
  have hno : inF A (M.leaf i).frame.toNat n = false := by
    rcases hM with rfl | rfl
    · exact alone h1 hi hn hp (fun e => hne rfl e.symm)
    · exact alone' h1 hi hn hp
  have h2 := mcnt_set A n l (M.leaf i).frame.toNat hn
  rw [hno] at h2
  have hlf : (l.there && l.frame == (((M.leaf i).frame.toNat : Nat) : Int)) = false := by
    have := far i hi hne ht hw
    have e : l.frame ≠ (((M.leaf i).frame.toNat : Nat) : Int) := by rw [Int.toNat_of_nonneg (h0 i hi ht)]; exact fun e => this e.symm
    have e' : (l.frame == (((M.leaf i).frame.toNat : Nat) : Int)) = false := by simpa only [beq_eq_false_iff_ne, ne_eq] using e
    rw [e', Bool.and_false]
  rw [hlf] at h2
  simp only [Bool.false_eq_true, if_false, Nat.add_zero] at h2
  omega
section
variable {P : PoolM} {A B : MapM}
theorem MInv.frame0 {M : MapM} {E : Nat → Nat} (h : MInv P M E) : ∀ i, i < 16 → (M.leaf i).there = true → 0 ≤ (M.leaf i).frame := fun i hi ht => (h.here i hi ht).2.1
theorem setLeaf_at (M : MapM) (n : Nat) (l : LeafM) : (M.setLeaf n l).leaf n = l := by unfold MapM.setLeaf; simp
theorem setLeaf_ne (M : MapM) {n i : Nat} (l : LeafM) (h : i ≠ n) : (M.setLeaf n l).leaf i = M.leaf i := by unfold MapM.setLeaf; simp [h]
/-- Touch: what may be written stays alone. -/
theorem WI.touch (ha : MInv P A (mcnt B)) (hb : MInv P B (mcnt A)) (wa : WI A A B) (wb : WI B A B) (n : Int) (wr : Bool) :
    WI (mtouch P A n wr).2.1 (mtouch P A n wr).2.1 B ∧ WI B (mtouch P A n wr).2.1 B := by
  unfold mtouch
  by_cases ho : onB n = true
  · rw [if_pos ho]
    have hn := onB_iff.1 ho
    obtain ⟨k, rfl⟩ := Int.eq_ofNat_of_zero_le hn.1
    have hk : k < 16 := by omega
    rw [Int.toNat_natCast]
    by_cases s0 : A.state k = 0
    · rw [if_pos s0]; exact ⟨wa, wb⟩
    · rw [if_neg s0]
      by_cases s2 : A.state k = 2
      · rw [if_pos s2]; exact ⟨wa, wb⟩
      · rw [if_neg s2]
        split
        · exact ⟨wa, wb⟩
        · split
          · rename_i hx
            rw [Bool.and_eq_true] at hx
            have ht := hx.1
            have h1 := hx.2
            rw [one_is (ha.used hk ht)] at h1
            have hr := ha.here k hk ht
            have hc := ha.cnt (A.leaf k).frame.toNat (by omega)
            have hmc : ∀ g, mcnt (A.setLeaf k { A.leaf k with write := true }) g = mcnt A g := fun g => by
              have := mcnt_set A k { A.leaf k with write := true } g hk
              have e : inF A g k = ((A.leaf k).there && (A.leaf k).frame == (g : Int)) := rfl
              rw [e] at this
              exact Nat.add_right_cancel this
            refine ⟨fun i hi hti hwi => ?_, fun i hi hti hwi => by rw [hmc]; exact wb i hi hti hwi⟩
            rw [hmc]
            by_cases e : i = k
            · subst e
              rw [setLeaf_at]
              show mcnt A (A.leaf i).frame.toNat + mcnt B (A.leaf i).frame.toNat = 1
              have : P.refs (A.leaf i).frame.toNat = 1 := by simpa using h1
              omega
            · rw [setLeaf_ne A _ e] at hti hwi ⊢
              exact wa i hi hti hwi
          · cases hf : P.free with
            | none => exact ⟨wa, wb⟩
            | some f =>
              obtain ⟨f1, f2⟩ := free_is hf
              simp only []
              have hz : mcnt A f = 0 ∧ mcnt B f = 0 := by have := ha.cnt f f1; omega
              have fa : ∀ i, i < 16 → (A = A → i ≠ k) → (A.leaf i).there = true → (A.leaf i).write = true → (A.leaf i).frame ≠ (⟨true, true, (f : Int)⟩ : LeafM).frame := fun i hi _ ht _ => mcnt_zero hz.1 hi ht
              have fb : ∀ i, i < 16 → (B = A → i ≠ k) → (B.leaf i).there = true → (B.leaf i).write = true → (B.leaf i).frame ≠ (⟨true, true, (f : Int)⟩ : LeafM).frame := fun i hi _ ht _ => mcnt_zero hz.2 hi ht
              have m1 := wa.moved (.inl rfl) hk (l := ⟨true, true, f⟩) (by show (0 : Int) ≤ f; omega) ha.frame0 fa
              refine ⟨fun i hi hti hwi => ?_, fun i hi hti hwi => ?_⟩
              · by_cases e : i = k
                · subst e
                  rw [setLeaf_at]
                  show mcnt (A.setLeaf i ⟨true, true, f⟩) (f : Int).toNat + mcnt B (f : Int).toNat = 1
                  rw [Int.toNat_natCast]
                  have h2 := mcnt_set A i ⟨true, true, f⟩ f hk
                  have hno : inF A f i = false := by
                    cases e : inF A f i with
                    | false => rfl
                    | true => have : 0 < mcnt A f := List.countP_pos_iff.2 ⟨i, List.mem_range.2 hk, e⟩; omega
                  rw [hno] at h2
                  simp only [Bool.false_eq_true, if_false, Nat.add_zero, Bool.true_and, beq_self_eq_true, if_true] at h2
                  omega
                · rw [setLeaf_ne A _ e] at hti hwi ⊢
                  exact m1 i hi (fun _ => e) hti hwi
              · by_cases hAB : B = A
                · by_cases e : i = k
                  · subst e
                    have := wb.moved (.inr rfl) hk (l := ⟨true, true, f⟩) (by show (0 : Int) ≤ f; omega) hb.frame0
                    subst hAB
                    have h1 := wb i hi hti hwi
                    omega
                  · exact wb.moved (.inr rfl) hk (l := ⟨true, true, f⟩) (by show (0 : Int) ≤ f; omega) hb.frame0 fb i hi (fun _ => e) hti hwi
                · exact wb.moved (.inr rfl) hk (l := ⟨true, true, f⟩) (by show (0 : Int) ≤ f; omega) hb.frame0 fb i hi (fun e => absurd e hAB) hti hwi
  · rw [if_neg ho]; exact ⟨wa, wb⟩
/-- Join: the frame that is joined has no page that may be written. -/
theorem WI.join (ha : MInv P A (mcnt B)) (hb : MInv P B (mcnt A)) (wa : WI A A B) (wb : WI B A B) (n fr : Int)
    (na : ∀ i, i < 16 → (A.leaf i).there = true → (A.leaf i).frame = fr → (A.leaf i).write = false) (nb : ∀ i, i < 16 → (B.leaf i).there = true → (B.leaf i).frame = fr → (B.leaf i).write = false) :
    WI (mjoin P A n fr).2.1 (mjoin P A n fr).2.1 B ∧ WI B (mjoin P A n fr).2.1 B := by
  unfold mjoin
  by_cases ho : onB n = true
  · rw [if_pos ho]
    have hn := onB_iff.1 ho
    obtain ⟨k, rfl⟩ := Int.eq_ofNat_of_zero_le hn.1
    have hk : k < 16 := by omega
    rw [Int.toNat_natCast]
    by_cases hc : ((A.leaf k).there && ((A.leaf k).frame != fr && P.same (A.leaf k).frame fr)) = true
    · rw [if_pos hc]
      rw [Bool.and_eq_true, Bool.and_eq_true] at hc
      obtain ⟨ht, hne, hs⟩ := hc
      have v2 := used_cast.1 (same_used hs).2.1
      have fa : ∀ i, i < 16 → (A = A → i ≠ k) → (A.leaf i).there = true → (A.leaf i).write = true → (A.leaf i).frame ≠ (⟨true, false, fr⟩ : LeafM).frame := fun i hi _ ht hw e => by
        have := na i hi ht e; rw [hw] at this; cases this
      have fb : ∀ i, i < 16 → (B = A → i ≠ k) → (B.leaf i).there = true → (B.leaf i).write = true → (B.leaf i).frame ≠ (⟨true, false, fr⟩ : LeafM).frame := fun i hi _ ht hw e => by
        have := nb i hi ht e; rw [hw] at this; cases this
      have m1 := wa.moved (.inl rfl) hk (l := ⟨true, false, fr⟩) v2.1 ha.frame0 fa
      refine ⟨fun i hi hti hwi => ?_, fun i hi hti hwi => ?_⟩
      · by_cases e : i = k
        · subst e
          rw [setLeaf_at] at hwi
          cases hwi
        · rw [setLeaf_ne A _ e] at hti hwi ⊢
          exact m1 i hi (fun _ => e) hti hwi
      · by_cases hAB : B = A
        · by_cases e : i = k
          · subst e
            subst hAB
            have h1 := wb i hi hti hwi
            omega
          · exact wb.moved (.inr rfl) hk (l := ⟨true, false, fr⟩) v2.1 hb.frame0 fb i hi (fun _ => e) hti hwi
        · exact wb.moved (.inr rfl) hk (l := ⟨true, false, fr⟩) v2.1 hb.frame0 fb i hi (fun e => absurd e hAB) hti hwi
    · rw [if_neg hc]; exact ⟨wa, wb⟩
  · rw [if_neg ho]; exact ⟨wa, wb⟩
/-- The pages of the other map keep their bytes. -/
theorem mpage_other {P' : PoolM} {A' : MapM} (hb : MInv P B (mcnt A)) (st : MStep P (mcnt B) P' A') {i : Nat} (hi : i < 16) : mpage P' B i = mpage P B i := by
  unfold mpage
  cases ht : (B.leaf i).there with
  | false => rfl
  | true =>
    obtain ⟨_, f0, f1⟩ := hb.here i hi ht
    simp only [if_true]
    exact st.keep _ (by omega) (mcnt_pos hi ht f0)
end

/-- Pages in a frame are sealed. -/
def sealM (M : MapM) (fr : Int) (n : Nat) : MapM := { M with leaf := fun i => if i < n ∧ (M.leaf i).there = true ∧ (M.leaf i).frame = fr then { M.leaf i with write := false } else M.leaf i }
theorem sealM_zero (M : MapM) (fr : Int) : sealM M fr 0 = M := by unfold sealM; simp
theorem sealM_same (M : MapM) (fr : Int) (n i : Nat) : ((sealM M fr n).leaf i).there = (M.leaf i).there ∧ ((sealM M fr n).leaf i).frame = (M.leaf i).frame ∧ (((sealM M fr n).leaf i).write = true → (M.leaf i).write = true) := by
  unfold sealM
  simp only []
  split
  · exact ⟨rfl, rfl, fun h => by cases h⟩
  · exact ⟨rfl, rfl, fun h => h⟩
theorem sealM_succ_yes {M : MapM} {fr : Int} {n : Nat} (ht : (M.leaf n).there = true) (hf : (M.leaf n).frame = fr) : sealM M fr (n + 1) = (sealM M fr n).setLeaf n { (sealM M fr n).leaf n with write := false } := by
  unfold sealM MapM.setLeaf
  congr 1
  funext i
  simp only []
  by_cases e : i = n
  · subst e; simp [ht, hf]
  · by_cases h : i < n
    · simp [e, h, show i < n + 1 from by omega]
    · simp [e, h, show ¬ i < n + 1 from by omega]
theorem sealM_succ_no {M : MapM} {fr : Int} {n : Nat} (h : ¬ ((M.leaf n).there = true ∧ (M.leaf n).frame = fr)) : sealM M fr (n + 1) = sealM M fr n := by
  unfold sealM
  congr 1
  funext i
  by_cases e : i = n
  · subst e
    rw [if_neg (fun h' => h h'.2), if_neg (fun h' => h h'.2)]
  · by_cases hl : i < n
    · simp [hl, show i < n + 1 from by omega]
    · simp [hl, show ¬ i < n + 1 from by omega]
theorem mcnt_seal (M : MapM) (fr : Int) (n f : Nat) : mcnt (sealM M fr n) f = mcnt M f := by
  unfold mcnt
  congr 1
  funext i
  unfold inF
  rw [(sealM_same M fr n i).1, (sealM_same M fr n i).2.1]
theorem MInv.sealAll {P : PoolM} {M : MapM} {E : Nat → Nat} (h : MInv P M E) (fr : Int) (n : Nat) : MInv P (sealM M fr n) E := by
  refine ⟨h.st, fun i hi ht => ?_, fun i hi ht => ?_, fun f hf => by rw [mcnt_seal]; exact h.cnt f hf, h.small⟩
  · rw [(sealM_same M fr n i).1] at ht
    rw [(sealM_same M fr n i).2.1]
    exact h.here i hi ht
  · have ht' := ht
    rw [(sealM_same M fr n i).1] at ht'
    unfold sealM
    simp only []
    rw [if_neg (by rw [ht']; simp)]
    exact h.none i hi ht'
theorem mpage_seal (P : PoolM) (M : MapM) (fr : Int) (n i : Nat) : mpage P (sealM M fr n) i = mpage P M i := by
  unfold mpage
  rw [(sealM_same M fr n i).1, (sealM_same M fr n i).2.1]
theorem WI.sealed {M A B : MapM} (h : WI M A B) (fr fr1 fr2 : Int) (n n1 n2 : Nat) : WI (sealM M fr n) (sealM A fr1 n1) (sealM B fr2 n2) := fun i hi ht hw => by
  rw [mcnt_seal, mcnt_seal, (sealM_same M fr n i).2.1]
  rw [(sealM_same M fr n i).1] at ht
  exact h i hi ht ((sealM_same M fr n i).2.2 hw)
theorem sealM_off {M : MapM} {fr : Int} {i : Nat} (hi : i < 16) (ht : ((sealM M fr 16).leaf i).there = true) (hf : ((sealM M fr 16).leaf i).frame = fr) : ((sealM M fr 16).leaf i).write = false := by
  rw [(sealM_same M fr 16 i).1] at ht
  rw [(sealM_same M fr 16 i).2.1] at hf
  unfold sealM
  simp only []
  rw [if_pos ⟨hi, ht, hf⟩]

end U
end Go.Proofs.Ytnhplapcdgnaaab
