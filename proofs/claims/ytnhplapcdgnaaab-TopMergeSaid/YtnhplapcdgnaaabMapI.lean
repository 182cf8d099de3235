import Derived.Test.YtnhplapcdgnaaabMapH
set_option linter.unusedVariables false
set_option linter.unusedSimpArgs false
namespace Go.Proofs.Ytnhplapcdgnaaab
open Go.RowKit
namespace U

/-- Touch, whatever the page: where a page is there, its frame is one of the pool's. -/
theorem touch_any (w : World) (L : PoolAt) (P : PoolM) (g N : Nat) (M : MapM) (rp : PoolRep w L P) (r : MRep w g 107 N L.p M) (n : Int) (wr : Bool)
    (hfr : ∀ k, k < 16 → (M.leaf k).there = true → 0 ≤ (M.leaf k).frame ∧ (M.leaf k).frame < P.n) :
    Calls Try.prog 89 #[.pointer (some ⟨g, 0, none⟩), .int .i64 n, .bool wr] w (TouchPost w L g N (mtouch P M n wr)) := by
  by_cases ho : onB n = true
  · have hn := onB_iff.1 ho
    obtain ⟨k, rfl⟩ := Int.eq_ofNat_of_zero_le hn.1
    have hk : k < 16 := by omega
    have ho : onB (k : Int) = true := ho
    unfold mtouch
    rw [if_pos ho, Int.toNat_natCast]
    by_cases s0 : M.state k = 0
    · rw [if_pos s0]; exact touch_absent w L P g N M rp r k hk wr s0
    · rw [if_neg s0]
      by_cases s2 : M.state k = 2
      · rw [if_pos s2]; exact touch_given w L P g N M rp r k hk wr s2
      · rw [if_neg s2]
        cases ht : (M.leaf k).there with
        | false =>
          simp only [Bool.false_and, Bool.false_eq_true, if_false]
          cases hf : P.free with
          | none => exact touch_new_full w L P g N M rp r k hk wr s0 s2 ht hf
          | some f => have := touch_new w L P g N M rp r k hk wr f s0 s2 ht hf; rw [ht] at this; exact this
        | true =>
          by_cases hw : (M.leaf k).write = true ∨ wr = false
          · rw [if_pos (by rcases hw with h | h <;> simp [h])]
            exact touch_stay w L P g N M rp r k hk wr s0 s2 ht hw
          · have hw1 : (M.leaf k).write = false := by cases h : (M.leaf k).write <;> simp_all
            have hw2 : wr = true := by cases h : wr <;> simp_all
            subst hw2
            rw [if_neg (by simp [hw1])]
            by_cases h1 : P.one (M.leaf k).frame = true
            · rw [if_pos (by simp [h1])]
              exact touch_one w L P g N M rp r k hk s0 s2 ht hw1 h1
            · rw [if_neg (by simp [h1])]
              have hr := hfr k hk ht
              have h2 : (P.of (M.leaf k).frame).2.2 = 0 := by unfold PoolM.of; rw [if_neg (by omega)]
              have h3 : (P.of (M.leaf k).frame).2.1 ≠ 1 := fun e => h1 (by unfold PoolM.one; rw [h2, e]; rfl)
              cases hf : P.free with
              | none => exact touch_move_full w L P g N M rp r k hk s0 s2 ht hw1 h2 h3 hf
              | some f => have := touch_move w L P g N M rp r k hk s0 s2 ht hw1 h2 h3 f hf; rw [ht] at this; exact this
  · have ho' : onB n = false := by simpa using ho
    unfold mtouch
    rw [if_neg ho]
    exact touch_off w L P g N M rp r n wr ho'

end U
end Go.Proofs.Ytnhplapcdgnaaab
