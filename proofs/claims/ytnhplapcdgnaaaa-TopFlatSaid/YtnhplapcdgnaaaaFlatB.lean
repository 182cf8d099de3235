import Derived.Test.YtnhplapcdgnaaaaFlatA
import Derived.Test.YtnhplapcdgnaaaaHostF
import Derived.Test.YtnhplapcdgnaaaaGuestF
set_option linter.unusedVariables false
set_option linter.unusedSimpArgs false
namespace Go.Proofs.Ytnhplapcdgnaaaa
open Go.RowKit
namespace U

/-! The reference's flat memory of a guest: what is forgotten. -/
def fkeep (r p : Int) (L : List EntryM) : List EntryM := L.filter fun e => !(e.root == r) || (decide (0 ≤ p) && !(e.page == p))
theorem fkeep_two {r p : Int} (h : 0 ≤ p) (L : List EntryM) : fkeep r p L = keep2 r p L := by
  unfold fkeep keep2
  refine List.filter_congr fun e _ => ?_
  rw [show decide (0 ≤ p) = true by simpa using h]
  cases (e.root == r) <;> cases (e.page == p) <;> rfl
theorem fkeep_one {r p : Int} (h : p < 0) (L : List EntryM) : fkeep r p L = keep1 r L := by
  unfold fkeep keep1
  refine List.filter_congr fun e _ => ?_
  rw [show decide (0 ≤ p) = false by simpa using h]
  cases (e.root == r) <;> rfl
theorem fkeep_length (r p : Int) (L : List EntryM) : (fkeep r p L).length ≤ L.length := List.length_filter_le _ _
theorem fkeep_take {r p : Int} {L : List EntryM} {k : Nat} (h : k < L.length) : fkeep r p (L.take (k + 1)) = if (!(L[k].root == r) || (decide (0 ≤ p) && !(L[k].page == p))) = true then fkeep r p (L.take k) ++ [L[k]] else fkeep r p (L.take k) := by
  rw [show L.take (k + 1) = L.take k ++ [L[k]] by rw [List.take_succ_eq_append_getElem h]]
  unfold fkeep
  rw [List.filter_append, List.filter_cons]
  split
  · rfl
  · rw [List.filter_nil, List.append_nil]
theorem flat_ways (wr may : Bool) : (wr = true ∧ may = false) ∨ (wr = false ∨ (wr = true ∧ may = true)) := by cases wr <;> cases may <;> simp
theorem Upd.cells7 {S : Nat → Prop} {a w : World} {b : Nat} (u : Upd S a w) (hb : S b) (v0 v1 v2 v3 v4 v5 v6 : Value) :
    Upd S a (((((((w.setCell ⟨b, 0, none⟩ v0).setCell ⟨b, 1, none⟩ v1).setCell ⟨b, 2, none⟩ v2).setCell ⟨b, 3, none⟩ v3).setCell ⟨b, 4, none⟩ v4).setCell ⟨b, 5, none⟩ v5).setCell ⟨b, 6, none⟩ v6) := by
  have h : ∀ i, (⟨b, i, none⟩ : Addr).block < a.heap.size → S (⟨b, i, none⟩ : Addr).block := fun i _ => hb
  exact (((((((u.setCell (h 0) v0).setCell (h 1) v1).setCell (h 2) v2).setCell (h 3) v3).setCell (h 4) v4).setCell (h 5) v5).setCell (h 6) v6)
theorem cacheAt_iff {L : List EntryM} (hK : Keys L) {r p : Int} {k : Nat} (hk : k < L.length) : (L[k].root == r && L[k].page == p) = true ↔ cacheAt L r p = some k := by
  constructor
  · intro h
    refine cacheAt_some hk h fun j hj hjk => ?_
    by_cases e : (L[j].root == r && L[j].page == p) = true
    · have := List.pairwise_iff_getElem.1 hK j k hj hk hjk
      simp only [Bool.and_eq_true, beq_iff_eq] at h e
      exact absurd ⟨e.1.trans h.1.symm, e.2.trans h.2.symm⟩ this
    · simpa using e
  · intro h
    unfold cacheAt at h
    rw [List.findIdx?_eq_some_iff_getElem] at h
    exact h.2.1
/-- What the box holds behind k entries. -/
def fbox0 : EntryM := ⟨0, 0, -1, false, LeafM.none⟩
def fbox (L : List EntryM) (o : Option Nat) (k : Nat) : EntryM := match o with | some i => if i < k then L[i]?.getD EntryM.zero else fbox0 | none => fbox0
theorem fbox_zero (L : List EntryM) (o : Option Nat) : fbox L o 0 = fbox0 := by
  unfold fbox; split
  · rw [if_neg (by omega)]
  · rfl
theorem fbox_hit {L : List EntryM} {o : Option Nat} {k : Nat} (h : o = some k) (hk : k < L.length) : fbox L o (k + 1) = L[k] := by
  subst h; unfold fbox; dsimp only; rw [if_pos (by omega), List.getElem?_eq_getElem hk]; rfl
theorem fbox_miss {L : List EntryM} {o : Option Nat} {k : Nat} (h : o ≠ some k) : fbox L o (k + 1) = fbox L o k := by
  unfold fbox
  cases o with
  | none => rfl
  | some i =>
    have : i ≠ k := fun e => h (by rw [e])
    dsimp only
    by_cases hi : i < k
    · rw [if_pos hi, if_pos (by omega)]
    · rw [if_neg hi, if_neg (by omega)]
theorem keep2_none {L : List EntryM} {r p : Int} (h : cacheAt L r p = none) : keep2 r p L = L := by
  unfold keep2
  rw [List.filter_eq_self]
  intro e he
  unfold cacheAt at h
  rw [List.findIdx?_eq_none_iff] at h
  rw [h e he]; rfl
section
variable {w w' W W' : World} {f : Nat} {v v' v0 : Value} {V V' : ViewM} {S : Nat → Prop}
theorem FRep.drewN (r : FRep w f v V) (n : Nat) : FRep (w.drewN n) f v V := r.non ((Upd.refl _ _).drewN n)
set_option maxRecDepth 100000 in
set_option maxHeartbeats 1000000 in
theorem fforget_any (t : FM w W f v0 v V) (hl : V.c.length ≤ 100) (r p : Int) :
    Calls Try.prog 130 #[.pointer (some ⟨f, 0, none⟩), .int .i64 r, .int .i64 p] W fun e w' => e = .returned (.tuple #[]) ∧ ∃ v', FM w w' f v0 v' { V with c := fkeep r p V.c } := by
  obtain ⟨L, hL⟩ : ∃ L, V.c = L := ⟨_, rfl⟩
  have hE0 : ERow W v L := hL ▸ t.r.e
  obtain ⟨A, cap, rfl⟩ := hE0.form
  clear hE0
  have lz := t.r.lt
  have hR : Hid (FM w W f v0 (.slice A L.length cap) V) := t
  have HL := Lib.hid hL
  have hr := t.r
  rw [hL] at hl
  go_enter Try.func130, Try.ntmps130
  go_wp2_with fail
  go_loopw [6, 7] (fun l i wr => ∃ (k : Nat) (v' : Value), k ≤ L.length ∧ i = .int .i64 k ∧ l = v' ∧ Hid (ERow wr v' (fkeep r p (L.take k)) ∧ Fresh W v' ∧ Upd Non W wr)) (fun _ i _ => L.length - (intOf i).toNat)
  case atStart => exact ⟨0, _, Nat.zero_le _, rfl, rfl, by rw [List.take_zero]; exact ERow.nil, (fun g hg => by cases hg), Upd.refl _ _⟩
  case round =>
    obtain ⟨k, v', hk, rfl, rfl, hI⟩ := hrel
    have rj := hr.non hI.out.2.2
    have cc := rj.cc
    have lj := rj.lt
    have fj := rj.fr 273
    by_cases hlt : k < L.length
    · obtain ⟨g, o, cap', hv, hg, hE⟩ := (HL.out ▸ rj.e : ERow _ (.slice A L.length cap) L).at_ hlt
      obtain ⟨rfl, rfl⟩ : A = some ⟨g, o, none⟩ ∧ cap = cap' := by simpa using hv
      have hsn := fkeep_take (r := r) (p := p) hlt
      have hlen : Hid ((fkeep r p (L.take k)).length ≤ 100000) := by
        show _ ≤ _
        have h1 := fkeep_length r p (L.take k)
        have := List.length_take_le k L
        omega
      obtain ⟨x, hx⟩ : ∃ x, L[k] = x := ⟨_, rfl⟩
      rw [hx] at hE hsn
      clear hx hv
      obtain ⟨e0, e1, e2, e3, e4, e5, e6⟩ := hE
      have hways : (x.root ≠ r) ∨ (x.root = r ∧ 0 ≤ p ∧ x.page ≠ p) ∨ (x.root = r ∧ p < 0) ∨ (x.root = r ∧ 0 ≤ p ∧ x.page = p) := by omega
      rcases hways with h1 | ⟨h1, h2, h3⟩ | ⟨h1, h2⟩ | ⟨h1, h2, h3⟩
      · have q1 : (x.root != r) = true := by simpa using h1
        rw [if_pos (by simp [h1])] at hsn
        have hfin := Lib.hid hsn
        clear hsn h1
        go_wp2_with (first | (at_builtin; refine wpl_append_e rfl _ _ rfl _ _ rfl rfl _ x (hI.out.1.alloc _) hlen.out (ebox _ x) ?_; intro v2 w3 hv2 u3 hb2) | fail)
        go_roundw
        case rel => exact ⟨k + 1, _, by omega, by go_num, rfl, by rw [hfin.out]; exact hv2, fresh_of (hI.out.2.2.alloc _) hI.out.2.1 hb2, ((hI.out.2.2.alloc _).over u3 hI.out.2.1)⟩
        case measure => simp [intOf]; omega
      · have q1 : (x.root != r) = false := by simpa using h1
        have q3 : (x.page != p) = true := by simpa using h3
        rw [if_pos (by simp [h2, h3])] at hsn
        have hfin := Lib.hid hsn
        clear hsn h1 h3
        go_wp2_with (first | (at_builtin; refine wpl_append_e rfl _ _ rfl _ _ rfl rfl _ x (hI.out.1.alloc _) hlen.out (ebox _ x) ?_; intro v2 w3 hv2 u3 hb2) | fail)
        go_roundw
        case rel => exact ⟨k + 1, _, by omega, by go_num, rfl, by rw [hfin.out]; exact hv2, fresh_of (hI.out.2.2.alloc _) hI.out.2.1 hb2, ((hI.out.2.2.alloc _).over u3 hI.out.2.1)⟩
        case measure => simp [intOf]; omega
      · have q1 : (x.root != r) = false := by simpa using h1
        have q2 : ¬ 0 ≤ p := by omega
        rw [if_neg (by simp [h1]; omega)] at hsn
        have hfin := Lib.hid hsn
        clear hsn h1 h2
        go_wp2_with fail
        go_roundw
        case rel => exact ⟨k + 1, _, by omega, by go_num, rfl, by rw [hfin.out]; exact hI.out⟩
        case measure => simp [intOf]; omega
      · have q1 : (x.root != r) = false := by simpa using h1
        have q3 : (x.page != p) = false := by simpa using h3
        rw [if_neg (by simp [h1, h3])] at hsn
        have hfin := Lib.hid hsn
        clear hsn h1 h3
        go_wp2_with fail
        go_roundw
        case rel => exact ⟨k + 1, _, by omega, by go_num, rfl, by rw [hfin.out]; exact hI.out⟩
        case measure => simp [intOf]; omega
    · obtain rfl : k = L.length := by omega
      have hI' := hI.out
      rw [List.take_length] at hI'
      obtain ⟨A2, cap2, rfl⟩ := hI'.1.form
      have hX := Lib.hid hI'
      clear hI' hI
      have hR2 : FM w wr f v0 (.slice A L.length cap) V := hR.out.non hX.out.2.2
      have hfin := Lib.hid (hR2.setC hX.out.1 (.inr fun g hg => Nat.le_trans hR.out.up.size (hX.out.2.1 g hg)))
      clear hR2
      go_wp2_with fail
      go_end0
      rw [HL.out]
      exact ⟨rfl, _, hfin.out⟩
end

end U
end Go.Proofs.Ytnhplapcdgnaaaa
