import Derived.Test.YtnhplapcdgnaaabHostG
set_option linter.unusedVariables false
set_option linter.unusedSimpArgs false
namespace Go.Proofs.Ytnhplapcdgnaaab
open Go.RowKit
namespace U

/-! Plain laws of a host: counts. -/
/-- The guests that are there. -/
def gl (H : HostM) : List Nat := (List.range 4).filter fun n => (H.g n).isSome
def glSum (H : HostM) (f : Option GuestM → Nat) (l : List Nat) : Nat := (l.map fun n => f (H.g n)).sum
theorem gl_mem {H : HostM} {n : Nat} (h : n ∈ gl H) : n < 4 ∧ ∃ G, H.g n = some G := by
  unfold gl at h
  have := List.mem_filter.1 h
  exact ⟨List.mem_range.1 this.1, Option.isSome_iff_exists.1 this.2⟩
theorem gl_sum (H : HostM) (f : Option GuestM → Nat) (hf : f none = 0) : glSum H f (gl H) = f (H.g 0) + f (H.g 1) + f (H.g 2) + f (H.g 3) := by
  unfold glSum gl
  rw [show List.range 4 = [0, 1, 2, 3] from rfl]
  cases e0 : H.g 0 <;> cases e1 : H.g 1 <;> cases e2 : H.g 2 <;> cases e3 : H.g 3 <;> simp [List.filter, e0, e1, e2, e3, hf] <;> omega
theorem gl_cnt (H : HostM) (f : Nat) : glSum H (fun o => ocnt o f) (gl H) = hcnt H f := gl_sum H _ rfl
theorem gl_prom (H : HostM) : glSum H oprom (gl H) = hprom H := (gl_sum H _ rfl).trans (hprom_eq H).symm
theorem glSum_snoc (H : HostM) (f : Option GuestM → Nat) (l : List Nat) (n : Nat) : glSum H f (l ++ [n]) = glSum H f l + f (H.g n) := by
  unfold glSum
  simp
/-- Counts of the first k pages. -/
def cntK (M : MapM) (k f : Nat) : Nat := (List.range k).countP (inF M f)
def plainK (M : MapM) (k : Nat) : Nat := (List.range k).countP (fun i => M.state i == 1)
theorem cntK_16 (M : MapM) (f : Nat) : cntK M 16 f = mcnt M f := rfl
theorem plainK_16 (M : MapM) : plainK M 16 = plainN M := rfl
theorem cntK_succ (M : MapM) (k f : Nat) : cntK M (k + 1) f = cntK M k f + if inF M f k then 1 else 0 := by
  unfold cntK
  rw [List.range_succ, List.countP_append, List.countP_singleton]
theorem plainK_succ (M : MapM) (k : Nat) : plainK M (k + 1) = plainK M k + if M.state k = 1 then 1 else 0 := by
  unfold plainK
  rw [List.range_succ, List.countP_append, List.countP_singleton]
  simp
def usedN (H : HostM) (n : Nat) : Nat := (List.range n).countP fun f => decide (0 < hcnt H f)
theorem usedN_succ (H : HostM) (n : Nat) : usedN H (n + 1) = usedN H n + if 0 < hcnt H n then 1 else 0 := by
  unfold usedN
  rw [List.range_succ, List.countP_append, List.countP_singleton]
  simp
section
variable {H : HostM}
theorem used_left (h : HInv H) : usedN H H.p.n + H.p.left = H.p.n := by
  have : ∀ n, n ≤ H.p.n → usedN H n + H.p.leftTo n = n := by
    intro n
    induction n with
    | zero => intro _; rfl
    | succ n ih =>
      intro hn
      have := ih (by omega)
      rw [usedN_succ]
      have e : H.p.leftTo (n + 1) = H.p.leftTo n + if H.p.refs n = 0 then 1 else 0 := by
        unfold PoolM.leftTo
        rw [List.range_succ, List.countP_append, List.countP_singleton]
        simp
      rw [e, h.cnt n (by omega)]
      by_cases hz : hcnt H n = 0
      · rw [hz]; simp; omega
      · rw [if_pos (by omega), if_neg (by omega)]; omega
  exact this _ (Nat.le_refl _)
theorem usedN_sum (H : HostM) (n : Nat) : usedN H n ≤ nSum n (hcnt H) := by
  induction n with
  | zero => exact Nat.zero_le _
  | succ n ih =>
    rw [usedN_succ]
    show _ ≤ nSum n (hcnt H) + hcnt H n
    split <;> omega
theorem used_prom (h : HInv H) : usedN H H.p.n ≤ hprom H := by
  have one : ∀ i, i < 4 → nSum H.p.n (fun f => ocnt (H.g i) f) ≤ oprom (H.g i) := fun i hi => by
    cases e : H.g i with
    | none =>
      show nSum H.p.n (fun _ => 0) ≤ oprom none
      rw [nSum_zero]; exact Nat.zero_le _
    | some G =>
      have m := (h.gi hi e).m
      have a := sum_mcnt m
      have b := here_le m
      show nSum H.p.n (mcnt G.m) ≤ plainN G.m
      omega
  have a := usedN_sum H H.p.n
  have e : nSum H.p.n (hcnt H) = nSum H.p.n (fun f => ocnt (H.g 0) f) + nSum H.p.n (fun f => ocnt (H.g 1) f) + nSum H.p.n (fun f => ocnt (H.g 2) f) + nSum H.p.n (fun f => ocnt (H.g 3) f) := by
    rw [← nSum_add, ← nSum_add, ← nSum_add]
    rfl
  have h0 := one 0 (by omega)
  have h1 := one 1 (by omega)
  have h2 := one 2 (by omega)
  have h3 := one 3 (by omega)
  rw [hprom_eq]
  omega
/-- A page's leaf, in bounds. -/
theorem leaf_in (h : HInv H) {n : Nat} (hn : n < 4) {G : GuestM} (hg : H.g n = some G) {k : Nat} (hk : k < 16) (h64 : H.p.n ≤ 64) : 0 ≤ (G.m.leaf k).frame ∧ (G.m.leaf k).frame ≤ 63 ∧ ((G.m.leaf k).there = true → G.m.state k = 1) := by
  have o := h.g n hn G hg
  cases ht : (G.m.leaf k).there with
  | true => have := o.here k hk ht; exact ⟨this.2.1, by omega, fun _ => this.1⟩
  | false => rw [o.none k hk ht]; exact ⟨by decide, by decide, fun h => by cases h⟩
theorem write_one (h : HFine H) {n : Nat} (hn : n < 4) {G : GuestM} (hg : H.g n = some G) {k : Nat} (hk : k < 16) (hw : (G.m.leaf k).write = true) : hcnt H (G.m.leaf k).frame.toNat = 1 := by
  have o := h.inv.g n hn G hg
  cases ht : (G.m.leaf k).there with
  | true =>
    have := h.al n hn G hg k hk ht hw
    rw [hcnt_split H hn, hg]
    exact this
  | false => rw [o.none k hk ht] at hw; cases hw
theorem hcnt_small (H : HostM) (f : Nat) : hcnt H f ≤ 64 := by
  unfold hcnt
  have h0 := ocnt_le (H.g 0) f
  have h1 := ocnt_le (H.g 1) f
  have h2 := ocnt_le (H.g 2) f
  have h3 := ocnt_le (H.g 3) f
  omega
end

end U
end Go.Proofs.Ytnhplapcdgnaaab
