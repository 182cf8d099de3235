import Derived.Test.YtnhplapcdgnaaabHostA
import Derived.Test.YtnhplapcdgnaaabTopMapL
set_option linter.unusedVariables false
set_option linter.unusedSimpArgs false
namespace Go.Proofs.Ytnhplapcdgnaaab
open Go.RowKit
namespace U

/-! Plain laws of a host: scans. -/
/-- Page k of the 64 of all guests. -/
def hleaf (H : HostM) (k : Nat) : LeafM := match H.g (k / 16) with | some G => G.m.leaf (k % 16) | none => LeafM.none
def hhit (H : HostM) (fr : Int) (k : Nat) : Bool := (hleaf H k).there && H.p.same (hleaf H k).frame fr
/-- The first page ahead of page N with the bytes of a frame. -/
def hfirst (H : HostM) (fr : Int) (N : Nat) : Option Nat := (List.range N).find? (hhit H fr)
def sealG (fr : Int) (k : Nat) (G : GuestM) : GuestM := { G with m := sealM G.m fr k }
def hsealN (H : HostM) (fr : Int) (N : Nat) : HostM := { H with g := fun i => (H.g i).map (sealG fr (min (N - 16 * i) 16)) }
def hjoin (H : HostM) (n : Nat) (G : GuestM) (page fr : Int) : HostM × Nat :=
  ((hsealN H fr 64).put n (gact (sealG fr 16 G) (mjoin H.p (sealM G.m fr 16) page fr)).1 (some (gact (sealG fr 16 G) (mjoin H.p (sealM G.m fr 16) page fr)).2.1), (gact (sealG fr 16 G) (mjoin H.p (sealM G.m fr 16) page fr)).2.2)
def hscanG (H : HostM) (n : Nat) (G : GuestM) (page : Int) : HostM × Bool × Nat :=
  if onB page then
    (if (G.m.leaf page.toNat).there then
      (match hfirst H (G.m.leaf page.toNat).frame (16 * n + page.toNat) with
      | none => (H, false, 0)
      | some k => if (hleaf H k).frame = (G.m.leaf page.toNat).frame then (H, false, 0) else ((hjoin H n G page (hleaf H k).frame).1, true, (hjoin H n G page (hleaf H k).frame).2))
    else (H, false, 0))
  else (H, false, 1)
def hscan (H : HostM) (n page : Int) : HostM × Bool × Nat :=
  if n < 0 ∨ 3 < n then (H, false, 1) else
  match H.g n.toNat with
  | none => (H, false, 2)
  | some G => hscanG H n.toNat G page
def hscanN (H : HostM) : Nat → HostM × Nat
  | 0 => (H, 0)
  | k + 1 => ((hscan (hscanN H k).1 ((k / 16 : Nat) : Int) ((k % 16 : Nat) : Int)).1, (hscanN H k).2 + (if (hscan (hscanN H k).1 ((k / 16 : Nat) : Int) ((k % 16 : Nat) : Int)).2.1 then 1 else 0))
def hscanAll (H : HostM) : HostM × Nat := hscanN H 64

section
variable {H : HostM} {n : Int} {k : Nat} {G : GuestM} {page : Int}
theorem hscan_off (h : n < 0 ∨ 3 < n) : hscan H n page = (H, false, 1) := by unfold hscan; rw [if_pos h]
theorem hscan_none (hk : k < 4) (h : H.g k = none) : hscan H k page = (H, false, 2) := by
  unfold hscan; rw [if_neg (by omega), Int.toNat_natCast, h]
theorem hscan_some (hk : k < 4) (h : H.g k = some G) : hscan H k page = hscanG H k G page := by
  unfold hscan; rw [if_neg (by omega), Int.toNat_natCast, h]
end
theorem ocnt_seal (o : Option GuestM) (fr : Int) (k f : Nat) : ocnt (o.map (sealG fr k)) f = ocnt o f := by
  cases o with
  | none => rfl
  | some G => exact mcnt_seal G.m fr k f
theorem hcnt_seal (H : HostM) (fr : Int) (N f : Nat) : hcnt (hsealN H fr N) f = hcnt H f := by
  unfold hcnt hsealN
  simp only [ocnt_seal]
theorem hrest_seal (H : HostM) (fr : Int) (N n f : Nat) : hrest (hsealN H fr N) n f = hrest H n f := by
  unfold hrest hsealN
  simp only [ocnt_seal]
theorem GOk.sealed {N : Nat} {G : GuestM} (h : GOk N G) (fr : Int) (k : Nat) : GOk N (sealG fr k G) := by
  have s := fun i => sealM_same G.m fr k i
  refine ⟨h.st, fun i hi ht => ?_, fun i hi ht => ?_, h.c, h.r0, h.r1, h.blk⟩
  · have e : (G.m.leaf i).there = true := by rw [← (s i).1]; exact ht
    have := h.here i hi e
    refine ⟨this.1, ?_, ?_⟩
    · show 0 ≤ ((sealM G.m fr k).leaf i).frame
      rw [(s i).2.1]; exact this.2.1
    · show ((sealM G.m fr k).leaf i).frame < N
      rw [(s i).2.1]; exact this.2.2
  · have e : (G.m.leaf i).there = false := by rw [← (s i).1]; exact ht
    have h2 := h.none i hi e
    show (sealM G.m fr k).leaf i = LeafM.none
    unfold sealM
    simp only []
    rw [if_neg]
    · exact h2
    · rintro ⟨_, h3, _⟩
      rw [e] at h3
      cases h3
theorem HInv.sealN {H : HostM} (h : HInv H) (fr : Int) (N : Nat) : HInv (hsealN H fr N) := by
  refine ⟨fun f hf => by rw [hcnt_seal]; exact h.cnt f hf, fun i hi G hg => ?_⟩
  unfold hsealN at hg
  simp only [] at hg
  cases e : H.g i with
  | none => rw [e] at hg; cases hg
  | some G0 =>
    rw [e] at hg
    cases hg
    exact (h.g i hi G0 e).sealed fr _
theorem mjoin_state (P : PoolM) (M : MapM) (n fr : Int) : (mjoin P M n fr).2.1.state = M.state := by
  unfold mjoin
  repeat' split
  all_goals rfl
theorem hsealN_at {H : HostM} {n : Nat} (hn : n < 4) {G : GuestM} (hg : H.g n = some G) (fr : Int) : (hsealN H fr 64).g n = some (sealG fr 16 G) := by
  unfold hsealN
  simp only [hg, Option.map_some]
  rw [show min (64 - 16 * n) 16 = 16 by omega]
theorem HInv.join {H : HostM} (h : HInv H) {n : Nat} (hn : n < 4) {G : GuestM} (hg : H.g n = some G) (page fr : Int) : HInv (hjoin H n G page fr).1 := by
  have hs := h.sealN fr 64
  have e := hsealN_at hn hg fr
  have gi := hs.gi hn e
  have j := (gi.m.join page fr).1
  exact hs.step hn (gi.map j) (by
    show Blk (mjoin H.p (sealM G.m fr 16) page fr).2.1
    rw [Blk.eq_1, mjoin_state]
    exact (h.g n hn G hg).blk)
theorem HInv.scan {H : HostM} (h : HInv H) (n page : Int) : HInv (hscan H n page).1 := by
  rcases who_ways H n with h0 | ⟨k, hk, rfl, hg⟩ | ⟨k, G, hk, rfl, hg⟩
  · rw [hscan_off h0]; exact h
  · rw [hscan_none hk hg]; exact h
  · rw [hscan_some hk hg]
    unfold hscanG
    split
    · split
      · split
        · exact h
        · split
          · exact h
          · exact h.join hk hg _ _
      · exact h
    · exact h
theorem HInv.scanN {H : HostM} (h : HInv H) (k : Nat) : HInv (hscanN H k).1 := by
  induction k with
  | zero => exact h
  | succ k ih => exact ih.scan _ _

/-! The steps of a seal. -/
theorem hsealN_zero (H : HostM) (fr : Int) : hsealN H fr 0 = H := by
  unfold hsealN sealG
  cases H with
  | mk p g =>
    simp only [Nat.zero_sub, Nat.zero_min, HostM.mk.injEq, true_and]
    funext i
    cases g i with
    | none => rfl
    | some G => simp only [Option.map_some, sealM_zero]
theorem hsealN_g (H : HostM) (fr : Int) (N i : Nat) : (hsealN H fr N).g i = (H.g i).map (sealG fr (min (N - 16 * i) 16)) := rfl
theorem hsealN_none {H : HostM} {fr : Int} {i j : Nat} (hi : H.g i = none) (hj : j ≤ 16) : hsealN H fr (16 * i + j) = hsealN H fr (16 * i) := by
  unfold hsealN
  simp only [HostM.mk.injEq, true_and]
  funext q
  by_cases e : q = i
  · subst e; rw [hi]; rfl
  · rw [show min (16 * i + j - 16 * q) 16 = min (16 * i - 16 * q) 16 by omega]
theorem hsealN_no {H : HostM} {fr : Int} {i j : Nat} {G : GuestM} (hi : H.g i = some G) (hj : j < 16) (h : ¬ ((G.m.leaf j).there = true ∧ (G.m.leaf j).frame = fr)) : hsealN H fr (16 * i + (j + 1)) = hsealN H fr (16 * i + j) := by
  unfold hsealN
  simp only [HostM.mk.injEq, true_and]
  funext q
  by_cases e : q = i
  · subst e
    rw [hi, show min (16 * q + (j + 1) - 16 * q) 16 = j + 1 by omega, show min (16 * q + j - 16 * q) 16 = j by omega]
    simp only [Option.map_some, sealG, sealM_succ_no h]
  · rw [show min (16 * i + (j + 1) - 16 * q) 16 = min (16 * i + j - 16 * q) 16 by omega]
theorem hsealN_yes {H : HostM} {fr : Int} {i j : Nat} {G : GuestM} (hi : H.g i = some G) (hj : j < 16) (ht : (G.m.leaf j).there = true) (hf : (G.m.leaf j).frame = fr) :
    mseal (sealM G.m fr j) j = (sealM G.m fr (j + 1), 0) ∧ hsealN H fr (16 * i + (j + 1)) = (hsealN H fr (16 * i + j)).put i H.p (some (sealG fr (j + 1) G)) := by
  constructor
  · unfold mseal
    have h1 := (sealM_same G.m fr j j).1
    rw [if_pos (onB_iff.2 ⟨by omega, by omega⟩), Int.toNat_natCast, if_pos (by rw [h1]; exact ht), sealM_succ_yes ht hf]
  · unfold hsealN HostM.put
    simp only [HostM.mk.injEq, true_and]
    funext q
    by_cases e : q = i
    · subst e
      rw [hi, if_pos rfl, show min (16 * q + (j + 1) - 16 * q) 16 = j + 1 by omega]
      rfl
    · rw [if_neg e, show min (16 * i + (j + 1) - 16 * q) 16 = min (16 * i + j - 16 * q) 16 by omega]
theorem hsealN_mid {H : HostM} {fr : Int} {i j : Nat} {G : GuestM} (hi : H.g i = some G) (hj : j ≤ 16) : (hsealN H fr (16 * i + j)).g i = some (sealG fr j G) := by
  rw [hsealN_g, hi, show min (16 * i + j - 16 * i) 16 = j by omega]
  rfl
theorem hsealN_end {H : HostM} {fr : Int} {N : Nat} (hN : 64 ≤ N) (h : ∀ i, 4 ≤ i → H.g i = none) : hsealN H fr N = hsealN H fr 64 := by
  unfold hsealN
  simp only [HostM.mk.injEq, true_and]
  funext q
  by_cases hq : q < 4
  · rw [show min (N - 16 * q) 16 = min (64 - 16 * q) 16 by omega]
  · rw [h q (by omega)]; rfl
theorem hfirst_zero (H : HostM) (fr : Int) : hfirst H fr 0 = none := rfl
theorem hfirst_succ (H : HostM) (fr : Int) (N : Nat) : hfirst H fr (N + 1) = (hfirst H fr N).or (if hhit H fr N then some N else none) := by
  unfold hfirst
  rw [List.range_succ, List.find?_append]
  cases h : hhit H fr N with
  | true => simp [List.find?, h]
  | false => simp [List.find?, h]
/-- The first one ahead of a page is the first one ahead of a later page. -/
theorem hfirst_more {H : HostM} {fr : Int} {k : Nat} (h : hfirst H fr k = none) (hh : hhit H fr k = true) : ∀ N, k < N → hfirst H fr N = some k := by
  intro N hN
  induction N with
  | zero => omega
  | succ N ih =>
    rw [hfirst_succ]
    by_cases e : k = N
    · subst e; rw [h, hh]; rfl
    · rw [ih (by omega)]; rfl

end U
end Go.Proofs.Ytnhplapcdgnaaab
