import Derived.Test.YtnhplapcdgnaaabAlike
set_option linter.unusedVariables false
set_option linter.unusedSimpArgs false
namespace Go.Proofs.Ytnhplapcdgnaaab
open Go.RowKit
namespace U

/-! Plain laws of the table that TopMerge fills. -/
theorem toList_go (bs : ByteArray) : ∀ (n i : Nat) (r : List UInt8), bs.size - i = n → ByteArray.toList.loop bs i r = r.reverse ++ bs.data.toList.drop i := by
  intro n
  induction n with
  | zero =>
    intro i r h
    unfold ByteArray.toList.loop
    rw [if_neg (by omega), List.drop_eq_nil_of_le (by simp; show bs.size ≤ i; omega), List.append_nil]
  | succ n ih =>
    intro i r h
    have hi : i < bs.size := by omega
    unfold ByteArray.toList.loop
    rw [if_pos hi, ih (i + 1) _ (by omega)]
    have hl : i < bs.data.toList.length := by simpa using hi
    rw [List.drop_eq_getElem_cons hl]
    have hd : i < bs.data.size := hi
    simp [ByteArray.get!]
    exact getElem!_pos bs.data i hd
theorem toList_data (bs : ByteArray) : bs.toList = bs.data.toList := by
  unfold ByteArray.toList
  rw [toList_go bs _ 0 [] rfl]
  simp
theorem rowStr_list (R : Nat → UInt8) : (rowStr R).toList = rowB16 R 16 := by rw [toList_data]; rfl
theorem rowStr_eq {R R' : Nat → UInt8} (h : (rowStr R).toList = (rowStr R').toList) : RowEq R R' := by
  rw [rowStr_list, rowStr_list] at h
  intro j hj
  unfold rowB16 at h
  have := congrArg (fun l => l[j]?) h
  simpa [hj] using this
theorem rowStr_of {R R' : Nat → UInt8} (h : RowEq R R') : rowStr R = rowStr R' := by
  unfold rowStr rowB16
  congr 2
  exact List.map_congr_left fun j hj => h j (List.mem_range.1 hj)
theorem rowStr_full (R : Nat → UInt8) : (rowStr R).toList.isEmpty = false := by
  rw [rowStr_list]
  rfl
/-- What the table holds are pages' bytes. -/
def TI (H : HostM) (S : Nat → ByteArray) : Prop := ∀ f, f < 64 → (S f).toList.isEmpty = false → ∃ k, k < 64 ∧ (hleaf H k).there = true ∧ (hleaf H k).frame = (f : Int) ∧ S f = rowStr (hrow H k)
section
variable {H : HostM} {S : Nat → ByteArray}
theorem TI.nil (H : HostM) : TI H (fun _ => ⟨#[]⟩) := fun f _ h => by
  rw [toList_data] at h
  cases h
theorem TI.told (t : TI H S) {k : Nat} (hk : k < 64) (ht : (hleaf H k).there = true) {f : Nat} (hf : (hleaf H k).frame = (f : Int)) (f64 : f < 64) :
    ((if (S f).toList.isEmpty then rowStr (hrow H k) else S f).toList == (rowStr (hrow H k)).toList) = true ∧ TI H (sset S f (if (S f).toList.isEmpty then rowStr (hrow H k) else S f)) := by
  have hx : (if (S f).toList.isEmpty then rowStr (hrow H k) else S f) = rowStr (hrow H k) := by
    cases hS : (S f).toList.isEmpty with
    | true => rfl
    | false =>
      obtain ⟨k', hk', ht', hf', e⟩ := t f f64 hS
      show S f = _
      rw [e]
      refine rowStr_of fun j hj => ?_
      rw [hrow_there ht', hrow_there ht, hf', hf]
  rw [hx]
  refine ⟨by simp, fun g hg h => ?_⟩
  by_cases e : g = f
  · subst e
    exact ⟨k, hk, ht, hf, by unfold sset; rw [if_pos rfl]⟩
  · unfold sset at h ⊢
    rw [if_neg e] at h ⊢
    exact t g hg h
theorem TI.apart (t : TI H S) (m : Merged H 64) {f g : Nat} (hf : f < 64) (hg : g < f) (h : (S f).toList.isEmpty = false) : ((S f).toList == (S g).toList) = false := by
  cases e : ((S f).toList == (S g).toList) with
  | false => rfl
  | true =>
    have e : (S f).toList = (S g).toList := by simpa using e
    obtain ⟨k, hk, ht, hkf, es⟩ := t f hf h
    obtain ⟨k', hk', ht', hkg, es'⟩ := t g (by omega) (by rw [← e]; exact h)
    rw [es, es'] at e
    have := m k k' hk hk' ht ht' (rowStr_eq e)
    omega
end

end U
end Go.Proofs.Ytnhplapcdgnaaab
