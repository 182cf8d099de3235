import Derived.Test.YtnhplapcdgnaaaaGreatDoorConsoleSays
import Derived.Deep.Strs
import Derived.ProofKit
import Derived.Test.YtnhplapcdgnaaaaGreatDoorRows
import Derived.Shelf.Vars
import Derived.Lib.LaidTab
import Derived.Handed
import Derived.SizedLaws
import Derived.Lib.LaidU8
import Derived.LaidSub
set_option linter.unusedVariables false
set_option linter.unusedSimpArgs false
namespace Go.Proofs.YtnhplapcdgnaaaaGreatDoor
open Go.RowKit Go.Deep
namespace U

/-! A slice of strings that came in. -/
theorem texts_of {H : Type} {enc : TypeId × Value → H} {W : World} {A : Option Addr} {len cap : Nat} {d : DataW H} {p : List MemPlace}
    (h : DataW.Trod enc Tryz.prog W 0 (fun _ => true) true 22 (.slice A len cap) d p) : ∃ l : List ByteArray, l.length = len ∧ TAt W A l := by
  obtain ⟨fuel, hf⟩ := h
  rcases open_strs (P := Tryz.prog) Tryz.underlying22 Tryz.underlying9 (by kernel_rfl) hf with ⟨hcs, _⟩ | ⟨a, l', c', m, Sx, hcs, _, hl, hm, hmm, hx, hi⟩
  · simp [Value.cells] at hcs
    obtain ⟨rfl, rfl, rfl⟩ := hcs
    exact ⟨[], rfl, .inl rfl⟩
  · simp [Value.cells] at hcs
    obtain ⟨rfl, rfl, rfl⟩ := hcs
    simp at hmm
    subst hmm
    rcases Nat.eq_zero_or_pos len with h0 | h0
    · subst h0
      exact ⟨[], rfl, .inl rfl⟩
    · obtain ⟨c0, _⟩ := hi 0 (by omega)
      obtain ⟨b, off, spot⟩ := a
      have hspot : spot = none := by simpa [Addr.add] using World.cell?_spot c0
      subst hspot
      have hb : b < W.heap.size := by
        have := block_lt_of_cell c0
        simpa [Addr.add] using this
      refine ⟨(List.range len).map Sx, by simp, .inr ⟨b, off, rfl, hb, ?_⟩⟩
      intro i x hx
      have hlt : i < len := by have := (List.getElem?_eq_some_iff.1 hx).1; simpa using this
      rw [List.getElem?_map, List.getElem?_range hlt] at hx
      simp only [Option.map_some, Option.some.injEq] at hx
      subst hx
      have := (hi i (by omega)).1
      rw [Addr.add_mid] at this
      exact this

end U
end Go.Proofs.YtnhplapcdgnaaaaGreatDoor

set_option linter.unusedVariables false
set_option linter.unusedSimpArgs false
namespace Go.Proofs.YtnhplapcdgnaaaaGreatDoor
open Go.ChangeShapes Go.WideShapes Go.ChangeAt Go.RowKit
namespace U

/-! What the row's first world lays beside its list. -/
theorem ml_of {W : World} (h : W.ShapedOpen Tryz.prog) : ∃ m : Int, W.cell? ⟨0, 0, none⟩ = some (.int .i64 m) :=
  cell_of_shapedOpen_int (t := 3) (zero := #[.int .i64 0]) h (of_decide_eq_true (by kernel_rfl)) (by kernel_rfl) rfl (by kernel_rfl) (by kernel_rfl) Tryz.underlying3

end U
end Go.Proofs.YtnhplapcdgnaaaaGreatDoor

set_option linter.unusedVariables false
set_option linter.unusedSimpArgs false
namespace Go.Proofs.YtnhplapcdgnaaaaGreatDoor
open Go.ChangeShapes Go.WideShapes Go.ChangeAt Go.RowKit
namespace U

/-! The table of powers, laid. -/
theorem pow_laid : (Tryz.powName, (Lib.tabData .u64 Lib.pow10Tab : DataW Unit)) ∈ (Rows.consoleSaysRow.laid.filter fun x => x.2.handleName?.isNone) := by
  refine List.mem_filter.2 ⟨List.mem_of_getElem? (i := 2) ?_, rfl⟩
  rfl
theorem tab_of {W : World} (h : laidMetH Tryz.prog Rows.consoleSaysRow.laid W) : Lib.TabIs Tryz.prog W Tryz.powName .u64 Lib.pow10Tab := by
  obtain ⟨g, t, cs, fuel, p, hg, ht, hv, hd⟩ := Lib.laidMet.reads (laidMetH_iff.1 h).1 pow_laid
  have e : (Tryz.prog.globalNamed Tryz.powName).bind (fun g => (Tryz.prog.globals[g]?).map (·.type)) = some 192 := by kernel_rfl
  rw [hg] at e
  have e : (Tryz.prog.globals[g]?).map (·.type) = some 192 := e
  obtain rfl := Option.some.inj (ht.symm.trans e)
  unfold Lib.TabIs
  rw [hv, ← Lib.cells_of_tab Tryz.underlying192 Tryz.underlying169 (by kernel_rfl) (by kernel_rfl) hd]
theorem lw_of {W : World} (h1 : W.ShapedOpen Tryz.prog) (h2 : laidMetH Tryz.prog Rows.consoleSaysRow.laid W) : LW W := ⟨ml_of h1, tab_of h2⟩

end U
end Go.Proofs.YtnhplapcdgnaaaaGreatDoor
