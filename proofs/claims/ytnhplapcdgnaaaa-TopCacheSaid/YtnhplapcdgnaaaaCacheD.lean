import Derived.Test.YtnhplapcdgnaaaaCacheC
set_option linter.unusedVariables false
set_option linter.unusedSimpArgs false
namespace Go.Proofs.Ytnhplapcdgnaaaa
open Go.RowKit
namespace U

theorem Upd.box7 {a w : World} {b : Nat} (u : Upd Non a w) (hb : a.heap.size ≤ b) (v0 v1 v2 v3 v4 v5 v6 : Value) :
    Upd Non a (((((((w.setCell ⟨b, 0, none⟩ v0).setCell ⟨b, 1, none⟩ v1).setCell ⟨b, 2, none⟩ v2).setCell ⟨b, 3, none⟩ v3).setCell ⟨b, 4, none⟩ v4).setCell ⟨b, 5, none⟩ v5).setCell ⟨b, 6, none⟩ v6) := by
  have h : ∀ i, (⟨b, i, none⟩ : Addr).block < a.heap.size → Non (⟨b, i, none⟩ : Addr).block := fun i h => absurd h (by show ¬ b < _; omega)
  exact (((((((u.setCell (h 0) v0).setCell (h 1) v1).setCell (h 2) v2).setCell (h 3) v3).setCell (h 4) v4).setCell (h 5) v5).setCell (h 6) v6)
def EntryM.zero : EntryM := ⟨0, 0, 0, false, LeafM.none⟩
/-- The entry found, or zero. -/
def cfind (L : List EntryM) (r p : Int) : EntryM × Bool := match cacheAt L r p with | some i => (L[i]?.getD EntryM.zero, true) | none => (EntryM.zero, false)

set_option maxRecDepth 100000 in
set_option maxHeartbeats 400000 in
theorem cFind_any (w : World) (c : Nat) (v : Value) (L : List EntryM) (hc : Row w c 28 1 (fun _ => v)) (h : ERow w v L) (hl : L.length ≤ 100) (r p : Int) :
    Calls Try.prog 16 #[.pointer (some ⟨c, 0, none⟩), .int .i64 r, .int .i64 p] w fun e w' => e = .returned (.tuple #[(cfind L r p).1.val, .bool (cfind L r p).2]) ∧ Upd Non w w' := by
  have lc := hc.lt
  cases hcat : cacheAt L r p with
  | none =>
    have F := Lib.hid (show cfind L r p = (EntryM.zero, false) by unfold cfind; rw [hcat])
    have G : Hid (idxI (cacheAt L r p) = -1) := by rw [hcat]; rfl
    clear hcat
    go_enter Try.func16, Try.ntmps16
    go_wp2_with (go_at_call 73; refine (cat_any _ c _ L ((hc.alloc _).cell (i := 0) (by omega)) (h.alloc _) hl r p).mono ?_; rw [G.out]; rintro e w2 ⟨rfl, u2⟩; obtain ⟨hcc, hff⟩ := u2.cells; have hz := u2.size; simp at hz)
    exact bodyPost_ret (v := .tuple #[EntryM.zero.val, .bool false]) (by simp [results, Try.results16, go_sem, hcc, EntryM.val, EntryM.cells, EntryM.zero, LeafM.none]) rfl ⟨by rw [F.out], Upd.box7 ((Upd.alloc (Upd.refl _ _) _).trans u2) (Nat.le_refl _) _ _ _ _ _ _ _⟩
  | some i =>
    have hi : i < L.length := by
      unfold cacheAt at hcat
      rw [List.findIdx?_eq_some_iff_getElem] at hcat
      exact hcat.1
    obtain ⟨x, hx⟩ : ∃ x, L[i] = x := ⟨_, rfl⟩
    have F := Lib.hid (show cfind L r p = (x, true) by unfold cfind; rw [hcat]; simp only []; rw [List.getElem?_eq_getElem hi, hx]; rfl)
    have G : Hid (idxI (cacheAt L r p) = (i : Int)) := by rw [hcat]; rfl
    have X := Lib.hid hx
    clear hcat
    have hc0 := hc.cell (i := 0) (by omega)
    obtain ⟨g, o, cap, rfl, hg, hE⟩ := h.at_ hi
    rw [hx] at hE
    clear hx
    obtain ⟨e0, e1, e2, e3, e4, e5, e6⟩ := hE
    go_enter Try.func16, Try.ntmps16
    go_wp2_with (go_at_call 73; refine (cat_any _ c _ L ((hc.alloc _).cell (i := 0) (by omega)) (h.alloc _) hl r p).mono ?_; rw [G.out]; rintro e w2 ⟨rfl, u2⟩; obtain ⟨hcc, hff⟩ := u2.cells; have hz := u2.size; simp at hz)
    exact bodyPost_ret (v := .tuple #[x.val, .bool true]) (by simp [results, Try.results16, go_sem, hcc, EntryM.val, EntryM.cells]) rfl ⟨by rw [F.out], Upd.box7 ((Upd.alloc (Upd.refl _ _) _).trans u2) (Nat.le_refl _) _ _ _ _ _ _ _⟩

end U
end Go.Proofs.Ytnhplapcdgnaaaa
