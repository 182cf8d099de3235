import Derived.Test.YtnhplapcdgnaaaaGreatMapHX
set_option linter.unusedVariables false
set_option linter.unusedSimpArgs false
namespace Go.Proofs.YtnhplapcdgnaaaaGreat
open Go.RowKit
namespace U

/-! Plain laws of a map on a pool. -/
def inF (M : MapM) (f : Nat) (i : Nat) : Bool := (M.leaf i).there && (M.leaf i).frame == (f : Int)
/-- How many pages of a map are in a frame. -/
def mcnt (M : MapM) (f : Nat) : Nat := (List.range 16).countP (inF M f)
theorem countP_upd {p q : Nat → Bool} {n : Nat} (h : ∀ i, i ≠ n → q i = p i) : ∀ N, (List.range N).countP q + (if n < N ∧ p n = true then 1 else 0) = (List.range N).countP p + (if n < N ∧ q n = true then 1 else 0)
  | 0 => by simp
  | N + 1 => by
    have ih := countP_upd h N
    rw [List.range_succ, List.countP_append, List.countP_append, List.countP_singleton, List.countP_singleton]
    by_cases e : N = n
    · subst e
      simp only [Nat.lt_irrefl, false_and, if_false, Nat.lt_succ_self, true_and, Nat.add_zero] at ih ⊢
      omega
    · rw [h N e]
      have h1 : n < N + 1 ↔ n < N := by omega
      simp only [h1]
      omega
theorem mcnt_set (M : MapM) (n : Nat) (l : LeafM) (f : Nat) (hn : n < 16) : mcnt (M.setLeaf n l) f + (if inF M f n = true then 1 else 0) = mcnt M f + (if (l.there && l.frame == (f : Int)) = true then 1 else 0) := by
  have := countP_upd (p := inF M f) (q := inF (M.setLeaf n l) f) (n := n) (fun i hi => by unfold inF MapM.setLeaf; simp [hi]) 16
  simp only [hn, true_and] at this
  have e : inF (M.setLeaf n l) f n = (l.there && l.frame == (f : Int)) := by unfold inF MapM.setLeaf; simp
  rw [e] at this
  exact this
theorem mcnt_state (M : MapM) (n : Nat) (s : Int) (f : Nat) : mcnt (M.setState n s) f = mcnt M f := rfl
theorem mcnt_le (M : MapM) (f : Nat) : mcnt M f ≤ 16 := by
  have := List.countP_le_length (p := inF M f) (l := List.range 16)
  simpa [mcnt] using this
theorem mcnt_pos {M : MapM} {n : Nat} (hn : n < 16) (ht : (M.leaf n).there = true) (h0 : 0 ≤ (M.leaf n).frame) : 1 ≤ mcnt M (M.leaf n).frame.toNat := by
  unfold mcnt
  rw [Nat.succ_le_iff, List.countP_pos_iff]
  refine ⟨n, List.mem_range.2 hn, ?_⟩
  unfold inF
  rw [ht, Int.toNat_of_nonneg h0]; simp
theorem mcnt_zero {M : MapM} {f : Nat} (h : mcnt M f = 0) {i : Nat} (hi : i < 16) (ht : (M.leaf i).there = true) : (M.leaf i).frame ≠ f := by
  intro e
  have := mcnt_pos hi ht (by omega)
  rw [e, Int.toNat_natCast] at this
  omega

/-- A map that is in order, on a pool in whose frames E other pages are. -/
structure MInv (P : PoolM) (M : MapM) (E : Nat → Nat) : Prop where
  st : ∀ i, i < 16 → M.state i = 0 ∨ M.state i = 1 ∨ M.state i = 2
  here : ∀ i, i < 16 → (M.leaf i).there = true → M.state i = 1 ∧ 0 ≤ (M.leaf i).frame ∧ (M.leaf i).frame < P.n
  none : ∀ i, i < 16 → (M.leaf i).there = false → M.leaf i = LeafM.none
  cnt : ∀ f, f < P.n → P.refs f = (mcnt M f + E f : Nat)
  small : ∀ f, E f ≤ 1000000
/-- What a page holds. -/
def mpage (P : PoolM) (M : MapM) (i : Nat) : Nat → UInt8 := if (M.leaf i).there then P.b (M.leaf i).frame.toNat else fun _ => 0

theorem free_is {P : PoolM} {f : Nat} (h : P.free = some f) : f < P.n ∧ P.refs f = 0 := by
  unfold PoolM.free at h
  have h1 := List.find?_some h
  have h2 := List.mem_of_find?_eq_some h
  exact ⟨List.mem_range.1 h2, by simpa using h1⟩
theorem take_is {P : PoolM} {f : Nat} (h : P.free = some f) : P.take.1 = (P.setRef f 1).setRow f fun _ => 0 := by unfold PoolM.take; rw [h]
theorem used_iff {P : PoolM} {f : Nat} : P.used f = true ↔ f < P.n ∧ 0 < P.refs f := by
  unfold PoolM.used; simp
theorem used_cast {P : PoolM} {f : Int} : P.used f = true ↔ 0 ≤ f ∧ f.toNat < P.n ∧ 0 < P.refs f.toNat := by
  unfold PoolM.used; simp; omega

section
variable {P : PoolM} {M : MapM} {E : Nat → Nat}
theorem MInv.used (h : MInv P M E) {n : Nat} (hn : n < 16) (ht : (M.leaf n).there = true) : P.used (M.leaf n).frame = true := by
  obtain ⟨_, h0, h1⟩ := h.here n hn ht
  rw [used_cast]
  have hc := h.cnt (M.leaf n).frame.toNat (by omega)
  have := mcnt_pos hn ht h0
  exact ⟨h0, by omega, by omega⟩
theorem MInv.bound (h : MInv P M E) {f : Nat} (hf : f < P.n) : 0 ≤ P.refs f ∧ P.refs f ≤ 1000016 := by
  have := h.cnt f hf
  have := h.small f
  have := mcnt_le M f
  omega
theorem share_dec (h : MInv P M E) {f : Int} (hu : P.used f = true) : (P.share f (-1)).1 = P.setRef f.toNat (P.refs f.toNat - 1) := by
  unfold PoolM.share
  rw [if_pos hu]
  rw [used_cast] at hu
  have := h.bound hu.2.1
  rw [show wrap64 (P.refs f.toNat + -1) = P.refs f.toNat - 1 from by rw [IntWalk.wrap64_in _ ⟨by omega, by omega⟩]; omega]
theorem share_inc (h : MInv P M E) {f : Int} (hu : P.used f = true) : (P.share f 1).1 = P.setRef f.toNat (P.refs f.toNat + 1) := by
  unfold PoolM.share
  rw [if_pos hu]
  rw [used_cast] at hu
  have := h.bound hu.2.1
  rw [show wrap64 (P.refs f.toNat + 1) = P.refs f.toNat + 1 from by rw [IntWalk.wrap64_in _ ⟨by omega, by omega⟩]]

/-- A step: the pool keeps its size; what other pages are in keeps its bytes. -/
structure MStep (P : PoolM) (E : Nat → Nat) (P' : PoolM) (M' : MapM) : Prop where
  n : P'.n = P.n
  inv : MInv P' M' E
  keep : ∀ f, f < P.n → 0 < E f → P'.b f = P.b f
theorem MInv.stay (h : MInv P M E) : MStep P E P M := ⟨rfl, h, fun _ _ _ => rfl⟩
theorem MStep.trans {P' P'' : PoolM} {M' M'' : MapM} (h : MStep P E P' M') (k : MStep P' E P'' M'') : MStep P E P'' M'' :=
  ⟨k.n.trans h.n, k.inv, fun f hf he => (k.keep f (by rw [h.n]; exact hf) he).trans (h.keep f hf he)⟩

/-- The state of a page that is nowhere. -/
theorem MInv.setState (h : MInv P M E) {n : Nat} {s : Int} (hs : s = 0 ∨ s = 1 ∨ s = 2) (hn : (M.leaf n).there = false) : MInv P (M.setState n s) E := by
  refine ⟨fun i hi => ?_, fun i hi ht => ?_, h.none, h.cnt, h.small⟩
  · unfold MapM.setState
    by_cases e : i = n
    · simp [e, hs]
    · simpa [e] using h.st i hi
  · have h1 := h.here i hi ht
    have e : i ≠ n := by rintro rfl; have : (M.leaf i).there = true := ht; simp [hn] at this
    unfold MapM.setState
    simpa [e] using h1
theorem MInv.seal (h : MInv P M E) {n : Nat} (hn : n < 16) (ht : (M.leaf n).there = true) (b : Bool) : MInv P (M.setLeaf n { M.leaf n with write := b }) E := by
  refine ⟨h.st, fun i hi hti => ?_, fun i hi hti => ?_, fun f hf => ?_, h.small⟩
  · unfold MapM.setLeaf at hti ⊢
    by_cases e : i = n
    · subst e; simp only [if_true] at hti ⊢; exact h.here i hi ht
    · simp only [e, if_false] at hti ⊢; exact h.here i hi hti
  · unfold MapM.setLeaf at hti ⊢
    by_cases e : i = n
    · subst e; simp only [if_true] at hti; rw [ht] at hti; cases hti
    · simp only [e, if_false] at hti ⊢; exact h.none i hi hti
  · have := mcnt_set M n ⟨(M.leaf n).there, b, (M.leaf n).frame⟩ f hn
    have e : inF M f n = ((M.leaf n).there && (M.leaf n).frame == (f : Int)) := rfl
    rw [e] at this
    have h1 := h.cnt f hf
    show P.refs f = (mcnt (M.setLeaf n ⟨(M.leaf n).there, b, (M.leaf n).frame⟩) f + E f : Nat)
    rw [h1, Nat.add_right_cancel this]
theorem letP_eq (h : MInv P M E) {n : Nat} (hn : n < 16) (ht : (M.leaf n).there = true) : letP P M n = P.setRef (M.leaf n).frame.toNat (P.refs (M.leaf n).frame.toNat - 1) := by
  unfold letP
  rw [if_pos ht, share_dec h (h.used hn ht)]
/-- A page's frame is let go. -/
theorem MInv.let_ (h : MInv P M E) {n : Nat} (hn : n < 16) : MStep P E (letP P M n) (M.setLeaf n LeafM.none) := by
  cases ht : (M.leaf n).there with
  | false =>
    have hl := h.none n hn ht
    have e : M.setLeaf n LeafM.none = M := by
      unfold MapM.setLeaf
      have : (fun i => if i = n then LeafM.none else M.leaf i) = M.leaf := by funext i; by_cases e : i = n <;> simp [e, hl]
      rw [this]
    have e2 : letP P M n = P := by unfold letP; rw [ht]; rfl
    rw [e, e2]
    exact h.stay
  | true =>
    obtain ⟨_, f0, f1⟩ := h.here n hn ht
    rw [letP_eq h hn ht]
    refine ⟨rfl, ⟨h.st, fun i hi hti => ?_, fun i hi hti => ?_, fun f hf => ?_, h.small⟩, fun _ _ _ => rfl⟩
    · unfold MapM.setLeaf at hti ⊢
      by_cases e : i = n
      · subst e; simp [LeafM.none] at hti
      · simp only [e, if_false] at hti ⊢; exact h.here i hi hti
    · unfold MapM.setLeaf at hti ⊢
      by_cases e : i = n
      · simp [e]
      · simp only [e, if_false] at hti ⊢; exact h.none i hi hti
    · have h1 := mcnt_set M n LeafM.none f hn
      have h2 := h.cnt f hf
      have e : inF M f n = ((M.leaf n).frame == (f : Int)) := by unfold inF; rw [ht]; rfl
      rw [e] at h1
      simp only [LeafM.none, Bool.false_and, Bool.false_eq_true, if_false, beq_iff_eq] at h1
      show (if f = (M.leaf n).frame.toNat then P.refs (M.leaf n).frame.toNat - 1 else P.refs f) = _
      by_cases e2 : (M.leaf n).frame = f
      · rw [if_pos e2] at h1
        rw [if_pos (by omega), show (M.leaf n).frame.toNat = f by omega, h2]
        have : mcnt (M.setLeaf n LeafM.none) f + 1 = mcnt M f := by simpa [LeafM.none] using h1
        omega
      · rw [if_neg e2] at h1
        rw [if_neg (by omega), h2]
        have : mcnt (M.setLeaf n LeafM.none) f = mcnt M f := by simpa [LeafM.none] using h1
        omega
end
theorem setLeaf_none (M : MapM) (n : Nat) : ((M.setLeaf n LeafM.none).leaf n).there = false := by unfold MapM.setLeaf; simp [LeafM.none]

section
variable {P : PoolM} {M : MapM} {E : Nat → Nat}
theorem MInv.plug (h : MInv P M E) (n : Int) : MInv P (mplug M n).1 E := by
  unfold mplug
  by_cases ho : onB n = true
  · rw [if_pos ho]
    have hn := onB_iff.1 ho
    by_cases h0 : M.state n.toNat = 0
    · rw [if_pos h0]
      refine h.setState (.inr (.inl rfl)) ?_
      cases ht : (M.leaf n.toNat).there with
      | false => rfl
      | true => have := (h.here _ (by omega) ht).1; omega
    · rw [if_neg h0]; exact h
  · rw [if_neg ho]; exact h
theorem MInv.back (h : MInv P M E) (n : Int) : MInv P (mback M n).1 E := by
  unfold mback
  by_cases ho : onB n = true
  · rw [if_pos ho]
    have hn := onB_iff.1 ho
    by_cases h0 : M.state n.toNat = 2
    · rw [if_pos h0]
      refine h.setState (.inr (.inl rfl)) ?_
      cases ht : (M.leaf n.toNat).there with
      | false => rfl
      | true => have := (h.here _ (by omega) ht).1; omega
    · rw [if_neg h0]; exact h
  · rw [if_neg ho]; exact h
theorem MInv.sealed (h : MInv P M E) (n : Int) : MInv P (mseal M n).1 E := by
  unfold mseal
  by_cases ho : onB n = true
  · rw [if_pos ho]
    have hn := onB_iff.1 ho
    by_cases h0 : (M.leaf n.toNat).there = true
    · rw [if_pos h0]; exact h.seal (by omega) h0 false
    · rw [if_neg h0]; exact h
  · rw [if_neg ho]; exact h
theorem MInv.unplug (h : MInv P M E) (n : Int) : MStep P E (munplug P M n).1 (munplug P M n).2.1 := by
  unfold munplug
  by_cases ho : onB n = true
  · rw [if_pos ho]
    have hn := onB_iff.1 ho
    by_cases h0 : M.state n.toNat = 0
    · rw [if_pos h0]; exact h.stay
    · rw [if_neg h0]
      have k := h.let_ (n := n.toNat) (by omega)
      exact ⟨k.n, k.inv.setState (.inl rfl) (setLeaf_none _ _), k.keep⟩
  · rw [if_neg ho]; exact h.stay
theorem MInv.give (h : MInv P M E) (n : Int) : MStep P E (mgive P M n).1 (mgive P M n).2.1 := by
  unfold mgive
  by_cases ho : onB n = true
  · rw [if_pos ho]
    have hn := onB_iff.1 ho
    by_cases h0 : M.state n.toNat = 1
    · rw [if_pos h0]
      have k := h.let_ (n := n.toNat) (by omega)
      exact ⟨k.n, k.inv.setState (.inr (.inr rfl)) (setLeaf_none _ _), k.keep⟩
    · rw [if_neg h0]; exact h.stay
  · rw [if_neg ho]; exact h.stay

/-- What a move makes of the counts and the bytes. -/
theorem move_eq (h : MInv P M E) {n : Nat} (hn : n < 16) (ht : (M.leaf n).there = true) {f : Nat} (hf : P.free = some f) :
    P.move (M.leaf n) f = (((P.setRef f 1).setRow f fun _ => 0).setRow f (P.b (M.leaf n).frame.toNat)).setRef (M.leaf n).frame.toNat (P.refs (M.leaf n).frame.toNat - 1) ∧ (M.leaf n).frame.toNat ≠ f := by
  obtain ⟨f1, f2⟩ := free_is hf
  have hu := h.used hn ht
  have hu' := used_cast.1 hu
  have hne : (M.leaf n).frame.toNat ≠ f := by rintro e; rw [e] at hu'; omega
  refine ⟨?_, hne⟩
  unfold PoolM.move
  rw [if_pos ht, take_is hf]
  have u1 : PoolM.used ((P.setRef f 1).setRow f fun _ => 0) f = true := by
    rw [used_iff]; unfold PoolM.setRef PoolM.setRow; simp [f1]
  have u2 : PoolM.used ((P.setRef f 1).setRow f fun _ => 0) (M.leaf n).frame = true := by
    rw [used_cast]; unfold PoolM.setRef PoolM.setRow; simp only [hne, if_false]; exact hu'
  have hb := h.bound hu'.2.1
  have r1 : (((P.setRef f 1).setRow f fun _ => 0).refs (f : Int).toNat) = 1 := by unfold PoolM.setRef PoolM.setRow; simp
  have fl : (((P.setRef f 1).setRow f fun _ => 0).fill f (M.leaf n).frame).1 = ((P.setRef f 1).setRow f fun _ => 0).setRow f (P.b (M.leaf n).frame.toNat) := by
    unfold PoolM.fill
    rw [u1, u2]
    simp only [Bool.and_self, if_true]
    rw [r1, if_neg (by omega)]
    show PoolM.setRow _ _ _ = _
    rw [Int.toNat_natCast]
    congr 1
    unfold PoolM.setRef PoolM.setRow
    simp [hne]
  rw [fl]
  unfold PoolM.share
  have u3 : PoolM.used (((P.setRef f 1).setRow f fun _ => 0).setRow f (P.b (M.leaf n).frame.toNat)) (M.leaf n).frame = true := u2
  rw [if_pos u3]
  have r2 : ((((P.setRef f 1).setRow f fun _ => 0).setRow f (P.b (M.leaf n).frame.toNat)).refs (M.leaf n).frame.toNat) = P.refs (M.leaf n).frame.toNat := by
    unfold PoolM.setRef PoolM.setRow; simp [hne]
  rw [r2]
  rw [show wrap64 (P.refs (M.leaf n).frame.toNat + -1) = P.refs (M.leaf n).frame.toNat - 1 from by rw [IntWalk.wrap64_in _ ⟨by omega, by omega⟩]; omega]
/-- Touch keeps all in order; no page's bytes change. -/
theorem MInv.touch (h : MInv P M E) (n : Int) (wr : Bool) : MStep P E (mtouch P M n wr).1 (mtouch P M n wr).2.1 ∧ ∀ i, i < 16 → mpage (mtouch P M n wr).1 (mtouch P M n wr).2.1 i = mpage P M i := by
  unfold mtouch
  by_cases ho : onB n = true
  · rw [if_pos ho]
    have hn := onB_iff.1 ho
    obtain ⟨k, rfl⟩ := Int.eq_ofNat_of_zero_le hn.1
    have hk : k < 16 := by omega
    rw [Int.toNat_natCast]
    by_cases s0 : M.state k = 0
    · rw [if_pos s0]; exact ⟨h.stay, fun _ _ => rfl⟩
    · rw [if_neg s0]
      by_cases s2 : M.state k = 2
      · rw [if_pos s2]; exact ⟨h.stay, fun _ _ => rfl⟩
      · rw [if_neg s2]
        have s1 : M.state k = 1 := by rcases h.st k hk with e | e | e <;> simp_all
        split
        · exact ⟨h.stay, fun _ _ => rfl⟩
        · split
          · rename_i hx
            have ht : (M.leaf k).there = true := by simp at hx; exact hx.1
            refine ⟨⟨rfl, h.seal hk ht true, fun _ _ _ => rfl⟩, fun i hi => ?_⟩
            unfold mpage MapM.setLeaf
            by_cases e : i = k
            · subst e; simp
            · simp [e]
          · cases hf : P.free with
            | none => exact ⟨h.stay, fun _ _ => rfl⟩
            | some f =>
              obtain ⟨f1, f2⟩ := free_is hf
              have hz : mcnt M f = 0 ∧ E f = 0 := by have := h.cnt f f1; omega
              simp only []
              cases ht : (M.leaf k).there with
              | false =>
                have hmv : P.move (M.leaf k) f = (P.setRef f 1).setRow f fun _ => 0 := by unfold PoolM.move; rw [ht, if_neg (by simp), take_is hf]
                rw [hmv]
                refine ⟨⟨rfl, ⟨h.st, fun i hi hti => ?_, fun i hi hti => ?_, fun g hg => ?_, h.small⟩, fun g hg he => ?_⟩, fun i hi => ?_⟩
                · unfold MapM.setLeaf at hti ⊢
                  by_cases e : i = k
                  · subst e; simp only [if_true] at hti ⊢; exact ⟨s1, by omega, by show (f : Int) < P.n; omega⟩
                  · simp only [e, if_false] at hti ⊢; exact h.here i hi hti
                · unfold MapM.setLeaf at hti ⊢
                  by_cases e : i = k
                  · subst e; simp at hti
                  · simp only [e, if_false] at hti ⊢; exact h.none i hi hti
                · have h1 := mcnt_set M k ⟨true, true, f⟩ g hk
                  have h2 := h.cnt g hg
                  have e : inF M g k = false := by unfold inF; rw [ht]; rfl
                  rw [e] at h1
                  simp only [Bool.false_eq_true, if_false, Bool.true_and, beq_iff_eq] at h1
                  show (if g = f then (1 : Int) else P.refs g) = _
                  by_cases e2 : g = f
                  · subst e2; rw [if_pos rfl] at h1 ⊢; omega
                  · rw [if_neg (by omega)] at h1; rw [if_neg e2, h2]; omega
                · funext j
                  show (if g = f then (0 : UInt8) else P.b g j) = _
                  rw [if_neg (by rintro rfl; omega)]
                · unfold mpage MapM.setLeaf
                  by_cases e : i = k
                  · subst e; simp [ht, PoolM.setRow]
                  · simp only [e, if_false]
                    cases hti : (M.leaf i).there with
                    | false => rfl
                    | true =>
                      simp only [if_true]
                      have h3 := h.here i hi hti
                      have h4 := mcnt_zero hz.1 hi hti
                      unfold PoolM.setRow PoolM.setRef
                      funext j
                      simp only []
                      rw [if_neg (by omega)]
              | true =>
                obtain ⟨hmv, hne⟩ := move_eq h hk ht hf
                obtain ⟨_, l0, l1⟩ := h.here k hk ht
                have hup := used_cast.1 (h.used hk ht)
                rw [hmv]
                refine ⟨⟨rfl, ⟨h.st, fun i hi hti => ?_, fun i hi hti => ?_, fun g hg => ?_, h.small⟩, fun g hg he => ?_⟩, fun i hi => ?_⟩
                · unfold MapM.setLeaf at hti ⊢
                  by_cases e : i = k
                  · subst e; simp only [if_true] at hti ⊢; exact ⟨s1, by omega, by show (f : Int) < P.n; omega⟩
                  · simp only [e, if_false] at hti ⊢; exact h.here i hi hti
                · unfold MapM.setLeaf at hti ⊢
                  by_cases e : i = k
                  · subst e; simp at hti
                  · simp only [e, if_false] at hti ⊢; exact h.none i hi hti
                · have h1 := mcnt_set M k ⟨true, true, f⟩ g hk
                  have h2 := h.cnt g hg
                  have e : inF M g k = ((M.leaf k).frame == (g : Int)) := by unfold inF; rw [ht]; rfl
                  rw [e] at h1
                  simp only [Bool.true_and, beq_iff_eq] at h1
                  show (if g = (M.leaf k).frame.toNat then P.refs (M.leaf k).frame.toNat - 1 else if g = f then (1 : Int) else P.refs g) = _
                  by_cases e2 : (M.leaf k).frame = g
                  · rw [if_pos e2, if_neg (by omega)] at h1
                    rw [if_pos (by omega), show (M.leaf k).frame.toNat = g by omega, h2]; omega
                  · rw [if_neg e2] at h1
                    rw [if_neg (by omega)]
                    by_cases e3 : g = f
                    · subst e3; rw [if_pos rfl] at h1 ⊢; omega
                    · rw [if_neg (by omega)] at h1; rw [if_neg e3, h2]; omega
                · funext j
                  show (if g = f then P.b (M.leaf k).frame.toNat j else if g = f then (0 : UInt8) else P.b g j) = _
                  rw [if_neg (by rintro rfl; omega), if_neg (by rintro rfl; omega)]
                · unfold mpage MapM.setLeaf
                  by_cases e : i = k
                  · subst e; simp [ht, PoolM.setRow, PoolM.setRef]
                  · simp only [e, if_false]
                    cases hti : (M.leaf i).there with
                    | false => rfl
                    | true =>
                      simp only [if_true]
                      have h3 := h.here i hi hti
                      have h4 := mcnt_zero hz.1 hi hti
                      unfold PoolM.setRow PoolM.setRef
                      funext j
                      simp only []
                      rw [if_neg (by omega), if_neg (by omega)]
  · rw [if_neg ho]; exact ⟨h.stay, fun _ _ => rfl⟩
end

theorem rowB_at {R S : Nat → UInt8} (h : (rowB R == rowB S) = true) {j : Nat} (hj : j < 16) : R j = S j := by
  have h1 : rowB R = rowB S := by simpa using h
  have h2 := congrArg (fun l => l[j]?) h1
  simpa [rowB, hj] using h2
theorem same_used {P : PoolM} {f g : Int} (h : P.same f g = true) : P.used f = true ∧ P.used g = true ∧ ∀ j, j < 16 → P.b f.toNat j = P.b g.toNat j := by
  unfold PoolM.same at h
  rw [Bool.and_eq_true, Bool.and_eq_true] at h
  exact ⟨h.1, h.2.1, fun j hj => rowB_at h.2.2 hj⟩
section
variable {P : PoolM} {M : MapM} {E : Nat → Nat}
theorem join_eq (h : MInv P M E) {n : Nat} (hn : n < 16) (ht : (M.leaf n).there = true) {fr : Int} (hne : (M.leaf n).frame ≠ fr) (hs : P.same (M.leaf n).frame fr = true) :
    ((P.share fr 1).1.share (M.leaf n).frame (-1)).1 = (P.setRef fr.toNat (P.refs fr.toNat + 1)).setRef (M.leaf n).frame.toNat (P.refs (M.leaf n).frame.toNat - 1) := by
  obtain ⟨u1, u2, _⟩ := same_used hs
  have v1 := used_cast.1 u1
  have v2 := used_cast.1 u2
  have hn' : (M.leaf n).frame.toNat ≠ fr.toNat := by omega
  rw [share_inc h u2]
  unfold PoolM.share
  have u3 : PoolM.used (P.setRef fr.toNat (P.refs fr.toNat + 1)) (M.leaf n).frame = true := by
    rw [used_cast]; unfold PoolM.setRef; simp only [hn', if_false]; exact v1
  rw [if_pos u3]
  have r2 : (P.setRef fr.toNat (P.refs fr.toNat + 1)).refs (M.leaf n).frame.toNat = P.refs (M.leaf n).frame.toNat := by unfold PoolM.setRef; simp [hn']
  have hb := h.bound v1.2.1
  rw [r2, show wrap64 (P.refs (M.leaf n).frame.toNat + -1) = P.refs (M.leaf n).frame.toNat - 1 from by rw [IntWalk.wrap64_in _ ⟨by omega, by omega⟩]; omega]
/-- A page joins another frame with the same bytes. -/
theorem MInv.join (h : MInv P M E) (n fr : Int) : MStep P E (mjoin P M n fr).1 (mjoin P M n fr).2.1 ∧ ∀ i, i < 16 → ∀ j, j < 16 → mpage (mjoin P M n fr).1 (mjoin P M n fr).2.1 i j = mpage P M i j := by
  unfold mjoin
  by_cases ho : onB n = true
  · rw [if_pos ho]
    have hn := onB_iff.1 ho
    obtain ⟨k, rfl⟩ := Int.eq_ofNat_of_zero_le hn.1
    have hk : k < 16 := by omega
    rw [Int.toNat_natCast]
    by_cases hc : ((M.leaf k).there && ((M.leaf k).frame != fr && P.same (M.leaf k).frame fr)) = true
    · rw [if_pos hc]
      rw [Bool.and_eq_true, Bool.and_eq_true] at hc
      obtain ⟨ht, hne, hs⟩ := hc
      have hne : (M.leaf k).frame ≠ fr := by simpa using hne
      obtain ⟨u1, u2, hb⟩ := same_used hs
      have v1 := used_cast.1 u1
      have v2 := used_cast.1 u2
      have s1 := (h.here k hk ht).1
      rw [join_eq h hk ht hne hs]
      refine ⟨⟨rfl, ⟨h.st, fun i hi hti => ?_, fun i hi hti => ?_, fun g hg => ?_, h.small⟩, fun _ _ _ => rfl⟩, fun i hi j hj => ?_⟩
      · unfold MapM.setLeaf at hti ⊢
        by_cases e : i = k
        · subst e; simp only [if_true] at hti ⊢; exact ⟨s1, v2.1, by show fr < P.n; omega⟩
        · simp only [e, if_false] at hti ⊢; exact h.here i hi hti
      · unfold MapM.setLeaf at hti ⊢
        by_cases e : i = k
        · subst e; simp at hti
        · simp only [e, if_false] at hti ⊢; exact h.none i hi hti
      · have h1 := mcnt_set M k ⟨true, false, fr⟩ g hk
        have h2 := h.cnt g hg
        have e : inF M g k = ((M.leaf k).frame == (g : Int)) := by unfold inF; rw [ht]; rfl
        rw [e] at h1
        simp only [Bool.true_and, beq_iff_eq] at h1
        show (if g = (M.leaf k).frame.toNat then P.refs (M.leaf k).frame.toNat - 1 else if g = fr.toNat then P.refs fr.toNat + 1 else P.refs g) = (mcnt (M.setLeaf k ⟨true, false, fr⟩) g + E g : Nat)
        by_cases e2 : (M.leaf k).frame = g
        · rw [if_pos e2, if_neg (by omega)] at h1
          rw [if_pos (by omega), show (M.leaf k).frame.toNat = g by omega, h2]; omega
        · rw [if_neg e2] at h1
          rw [if_neg (by omega)]
          by_cases e3 : fr = g
          · rw [if_pos e3] at h1
            rw [if_pos (by omega), show fr.toNat = g by omega, h2]; omega
          · rw [if_neg e3] at h1; rw [if_neg (by omega), h2]; omega
      · unfold mpage MapM.setLeaf
        by_cases e : i = k
        · subst e; simp only [if_true, ht]; exact (hb j hj).symm
        · simp only [e, if_false]; rfl
    · rw [if_neg hc]; exact ⟨h.stay, fun _ _ _ _ => rfl⟩
  · rw [if_neg ho]; exact ⟨h.stay, fun _ _ _ _ => rfl⟩
end

end U
end Go.Proofs.YtnhplapcdgnaaaaGreat
