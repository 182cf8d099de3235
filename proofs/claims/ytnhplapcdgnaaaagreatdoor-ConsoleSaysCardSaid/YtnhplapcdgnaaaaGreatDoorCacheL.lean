import Derived.Test.YtnhplapcdgnaaaaGreatDoorCacheX
set_option linter.unusedVariables false
set_option linter.unusedSimpArgs false
namespace Go.Proofs.YtnhplapcdgnaaaaGreatDoor
open Go.RowKit
namespace U

/-- No two entries of the same root and page. -/
def Keys (L : List EntryM) : Prop := L.Pairwise fun a b => ¬ (a.root = b.root ∧ a.page = b.page)
def rwithout (L : List EntryM) (k : Int) : List EntryM := if k < 0 then L else L.eraseIdx k.toNat
def rput (e : EntryM) (L : List EntryM) : List EntryM :=
  let l := rwithout L (idxI (cacheAt L e.root e.page)) ++ [e]
  if 4 < l.length then l.eraseIdx 0 else l

theorem rwithout_nil (k : Int) : rwithout [] k = [] := by unfold rwithout; split <;> rfl
theorem rwithout_snoc (L : List EntryM) (a : Int) (i : Nat) (hi : i < L.length) : rwithout (L.take (i + 1)) a = if (i : Int) = a then rwithout (L.take i) a else rwithout (L.take i) a ++ [L[i]] := by
  have ht : L.take (i + 1) = L.take i ++ [L[i]] := by rw [List.take_succ_eq_append_getElem hi]
  have hl : (L.take i).length = i := by rw [List.length_take]; omega
  unfold rwithout
  by_cases h0 : a < 0
  · rw [if_pos h0, if_pos h0, if_neg (by omega), ht]
  · rw [if_neg h0, if_neg h0, ht]
    by_cases h1 : (i : Int) = a
    · rw [if_pos h1, List.eraseIdx_append_of_length_le (by omega)]
      have : a.toNat - (L.take i).length = 0 := by omega
      rw [this, List.eraseIdx_of_length_le (by omega : (L.take i).length ≤ a.toNat)]
      simp
    · rw [if_neg h1]
      by_cases h2 : a.toNat < i
      · rw [List.eraseIdx_append_of_lt_length (by omega)]
      · rw [List.eraseIdx_append_of_length_le (by omega), List.eraseIdx_of_length_le (by omega : (L.take i).length ≤ a.toNat)]
        congr 1
        apply List.eraseIdx_of_length_le
        simp; omega
theorem idxI_map (x : Option Nat) : idxI (x.map (· + 1)) = if x.isSome then idxI x + 1 else -1 := by cases x <;> simp [idxI]
theorem cacheAt_cons (a : EntryM) (L : List EntryM) (r p : Int) : cacheAt (a :: L) r p = if (a.root == r && a.page == p) then some 0 else (cacheAt L r p).map (· + 1) := by
  unfold cacheAt; rw [List.findIdx?_cons]
theorem keep2_cons (a : EntryM) (L : List EntryM) (r p : Int) : keep2 r p (a :: L) = if (a.root == r && a.page == p) then keep2 r p L else a :: keep2 r p L := by
  unfold keep2; rw [List.filter_cons]; cases (a.root == r && a.page == p) <;> simp
theorem rwithout_find : ∀ (L : List EntryM) (r p : Int), Keys L → rwithout L (idxI (cacheAt L r p)) = keep2 r p L
  | [], r, p, _ => by rw [rwithout_nil]; rfl
  | a :: L, r, p, h => by
    have hk := (List.pairwise_cons.1 h)
    have ih := rwithout_find L r p hk.2
    rw [cacheAt_cons, keep2_cons]
    by_cases hm : (a.root == r && a.page == p) = true
    · rw [if_pos hm, if_pos hm]
      unfold rwithout idxI
      simp only [Int.natCast_zero, Int.lt_irrefl, if_false, Int.toNat_zero, List.eraseIdx_zero, List.tail_cons]
      unfold keep2
      rw [eq_comm, List.filter_eq_self]
      intro b hb
      have hn := hk.1 b hb
      simp only [Bool.and_eq_true, beq_iff_eq] at hm
      simp only [Bool.not_eq_true', Bool.and_eq_false_iff, beq_eq_false_iff_ne, ne_eq]
      rcases hm with ⟨rfl, rfl⟩
      by_cases h1 : b.root = a.root
      · right; intro h2; exact hn ⟨h1.symm, h2.symm⟩
      · exact .inl h1
    · rw [if_neg hm, if_neg hm, ← ih]
      cases hc : cacheAt L r p with
      | none => simp [rwithout, idxI]
      | some i =>
        unfold rwithout idxI
        simp only [Option.map_some]
        rw [if_neg (by omega), if_neg (by omega), show (((i + 1 : Nat) : Int)).toNat = i + 1 by omega, List.eraseIdx_cons_succ, Int.toNat_natCast]
theorem Keys.filter {L : List EntryM} (h : Keys L) (p : EntryM → Bool) : Keys (L.filter p) := List.Pairwise.filter p h
theorem Keys.put {L : List EntryM} (h : Keys L) (e : EntryM) : Keys (cput e L) := by
  have h1 : Keys (keep2 e.root e.page L ++ [e]) := by
    unfold Keys
    rw [List.pairwise_append]
    refine ⟨Keys.filter h _, List.pairwise_singleton _ _, fun a ha b hb => ?_⟩
    have : b = e := by simpa using hb
    subst this
    unfold keep2 at ha
    rw [List.mem_filter] at ha
    rintro ⟨e1, e2⟩
    simp [e1, e2] at ha
  unfold cput
  simp only []
  split
  · exact List.Pairwise.drop h1
  · exact h1
theorem Keys.point {L : List EntryM} (h : Keys L) (to : Int) (l : LeafM) : Keys (L.map (ptE to l)) := by
  unfold Keys
  rw [List.pairwise_map]
  refine List.Pairwise.imp (fun {a b} hab => ?_) h
  have : ∀ x : EntryM, (ptE to l x).root = x.root ∧ (ptE to l x).page = x.page := fun x => by unfold ptE; split <;> exact ⟨rfl, rfl⟩
  rw [(this a).1, (this a).2, (this b).1, (this b).2]
  exact hab
theorem rput_eq {L : List EntryM} (h : Keys L) (e : EntryM) : rput e L = cput e L := by
  unfold rput cput
  simp only []
  rw [rwithout_find L _ _ h, List.eraseIdx_zero, List.drop_one]
theorem cput_length {L : List EntryM} (h : L.length ≤ 4) (e : EntryM) : (cput e L).length ≤ 4 := by
  have : (keep2 e.root e.page L).length ≤ L.length := List.length_filter_le _ _
  unfold cput
  simp only []
  split
  · simp; omega
  · omega
theorem keep2_length {L : List EntryM} (r p : Int) : (keep2 r p L).length ≤ L.length := List.length_filter_le _ _
theorem keep1_length {L : List EntryM} (r : Int) : (keep1 r L).length ≤ L.length := List.length_filter_le _ _
/-- Was an entry dropped? -/
theorem drop_told {L : List EntryM} (h : Keys L) (r p : Int) : decide ((keep2 r p L).length < L.length) = decide (0 ≤ idxI (cacheAt L r p)) := by
  rw [decide_eq_decide]
  unfold keep2
  cases hc : cacheAt L r p with
  | none =>
    unfold cacheAt at hc
    rw [List.findIdx?_eq_none_iff] at hc
    have : L.filter (fun e => !(e.root == r && e.page == p)) = L := by
      rw [List.filter_eq_self]; intro a ha; simp [hc a ha]
    rw [this]; simp [idxI]
  | some i =>
    unfold cacheAt at hc
    rw [List.findIdx?_eq_some_iff_getElem] at hc
    obtain ⟨hi, hp, _⟩ := hc
    constructor
    · intro _; simp [idxI]
    · intro _
      refine List.length_filter_lt_length_iff_exists.2 ⟨L[i], List.getElem_mem hi, ?_⟩
      simp [hp]

theorem cacheAt_mem {L : List EntryM} {r p : Int} {i : Nat} (h : cacheAt L r p = some i) : i < L.length ∧ L[i]?.getD EntryM.zero ∈ L := by
  unfold cacheAt at h
  rw [List.findIdx?_eq_some_iff_getElem] at h
  obtain ⟨hi, _⟩ := h
  refine ⟨hi, ?_⟩
  rw [List.getElem?_eq_getElem hi]
  exact List.getElem_mem hi

end U
end Go.Proofs.YtnhplapcdgnaaaaGreatDoor
