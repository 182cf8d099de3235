/- The frame of a law over a number and a slice of acts. -/
import Derived.Test.YtnhplapcdgnaaaaGreatRows
import Derived.Test.YtnhplapcdgnaaaaGreatLawX
import Derived.WalkKit
import Derived.ProofKit
import Derived.OpenShut
import Derived.ShutString
import Derived.ChangeOld
import Derived.Below
import Derived.Deep.Slices
import Derived.Deep.Fields
import Derived.ChangeSame
set_option linter.unusedVariables false
namespace Go.Proofs.YtnhplapcdgnaaaaGreat
open Go.ChangeShapes Go.WideShapes Go.ChangeAt Go.RowKit Go.Deep
open Go.ChangeMaps (open_string shut_string)
namespace U

theorem own : ownKnob Tryz.prog.godebug = none := by kernel_rfl
theorem laidOut : laidOutB Tryz.prog = true := by kernel_rfl

section
variable {H : Type} {enc : TypeId × Value → H} {P : Program} {w : World} {base : Nat} {spare : Nat → Bool} {held : Bool}
theorem open_slice_fields {t e : TypeId} {fs : Array Field} {fuel : Nat} {cs : List Value} {x : DataW H × List MemPlace} (ht : P.underlying t = some (.slice e)) (he : P.underlying e = some (.struct fs))
    (hone : oneCellFields P fs = true) (hC : P.cellsOf e = fs.size) (h : DataW.trod enc P w base spare held fuel t cs = some x) :
    (cs = [.slice none 0 0] ∧ x = (.nil, [])) ∨
    ∃ (a : Addr) (len cap m : Nat) (D : Nat → DataW H) (Pl : Nat → List MemPlace), cs = [.slice (some a) len cap] ∧ base ≤ a.block ∧ len ≤ cap ∧ cap ≤ maxLen ∧ m = (if spare a.block then cap else len) ∧
      x = (.slice ((List.range len).map D) ((List.range (m - len)).map fun j => D (len + j)), MemPlace.row a (m * fs.size) ++ (List.range m).flatMap Pl) ∧
      ∀ i, i < m → ∃ (ys : List (DataW H × List MemPlace)) (n : Nat), D i = .agg (ys.map (·.1)) ∧ Pl i = ys.flatMap (·.2) ∧ ys.length = fs.size ∧
        ∀ (j : Nat) (f : Field), fs[j]? = some f → ∃ (v : Value) (y : DataW H × List MemPlace), w.cell? (a.add (i * fs.size + j)) = some v ∧ ys[j]? = some y ∧ DataW.trod enc P w base spare held n f.type [v] = some y := by
  rcases open_slice ht h with h0 | ⟨a, len, cap, m, n, D, Pl, hcs, hb, hl, hm, hmm, hx, hi⟩
  · exact .inl h0
  · refine .inr ⟨a, len, cap, m, D, Pl, hcs, hb, hl, hm, hmm, by rw [hC] at hx; exact hx, fun i him => ?_⟩
    obtain ⟨cs', hc, ht'⟩ := hi i him
    rw [hC] at hc
    obtain ⟨ys, n', hn', hy, hlen, hyl, hf⟩ := DataW.trod_struct he ht'
    obtain ⟨_, hcl, hat⟩ := World.cells?_some hc
    simp only [Prod.mk.injEq] at hy
    refine ⟨ys, n', hy.1, hy.2, hyl, fun j f hj => ?_⟩
    obtain ⟨ho, hk⟩ := hone_of hone j f hj
    have hjl : j < fs.size := (Array.getElem?_eq_some_iff.1 hj).1
    have hcell := hat j hjl
    have hv : cs'[j]? = some (cs'[j]'(by omega)) := List.getElem?_eq_getElem (by omega)
    have h1 := hf j f hj
    rw [ho, hk] at h1
    have hone' : (cs'.drop j).take 1 = [cs'[j]'(by omega)] := by
      rw [List.drop_eq_getElem_cons (by omega)]
      rfl
    rw [hone'] at h1
    have hys : ys[j]? = some (ys[j]'(by omega)) := List.getElem?_eq_getElem (by omega)
    refine ⟨_, _, ?_, hys, h1.trans hys⟩
    rw [← Go.Deep.add_add, hcell, hv]
end

theorem u8_of {v : Value} {n : Int} (h : v = .int .u8 n) (hw : (Lit.int .u8 n).wf = true) : ∃ u : UInt8, v = .int .u8 u.toNat := by
  have := bounds_u8 hw
  refine ⟨UInt8.ofNat n.toNat, ?_⟩
  rw [h]
  congr 1
  rw [UInt8.toNat_ofNat']
  omega

/-- A slice of acts that came in. -/
theorem acts_of {H : Type} {enc : TypeId × Value → H} {W : World} {A : Option Addr} {len cap : Nat} {d : DataW H} {p : List MemPlace}
    (h : DataW.Trod enc Tryz.prog W 0 (fun _ => true) true 22 (.slice A len cap) d p) : ∃ l : List ActM, l.length = len ∧ ActsAt W A l := by
  obtain ⟨fuel, hf⟩ := h
  rcases open_slice_fields (P := Tryz.prog) Tryz.underlying22 Tryz.underlying34 (by kernel_rfl) (by kernel_rfl) hf with ⟨hcs, _⟩ | ⟨a, l', c', m, D, Pl, hcs, _, hl, hm, hmm, hx, hi⟩
  · simp [Value.cells] at hcs
    obtain ⟨rfl, rfl, rfl⟩ := hcs
    exact ⟨[], rfl, .inl rfl⟩
  · simp [Value.cells] at hcs
    obtain ⟨rfl, rfl, rfl⟩ := hcs
    simp at hmm
    subst hmm
    have cell : ∀ i, i < len → ∃ x : ActM, ∀ (b o : Nat), a = ⟨b, o, none⟩ → ActAt W b (o + i * 6) x := by
      intro i hlt
      obtain ⟨ys, n, _, _, hyl, hq⟩ := hi i (by omega)
      obtain ⟨v0, y0, h0, _, t0⟩ := hq 0 _ rfl
      obtain ⟨v1, y1, h1, _, t1⟩ := hq 1 _ rfl
      obtain ⟨v2, y2, h2, _, t2⟩ := hq 2 _ rfl
      obtain ⟨v3, y3, h3, _, t3⟩ := hq 3 _ rfl
      obtain ⟨v4, y4, h4, _, t4⟩ := hq 4 _ rfl
      obtain ⟨v5, y5, h5, _, t5⟩ := hq 5 _ rfl
      obtain ⟨z0, e0, _⟩ := DataW.trod_string Tryz.underlying9 t0
      obtain ⟨z1, e1, _⟩ := DataW.trod_int Tryz.underlying3 t1
      obtain ⟨z2, e2, _⟩ := DataW.trod_int Tryz.underlying3 t2
      obtain ⟨z3, e3, _⟩ := DataW.trod_int Tryz.underlying3 t3
      obtain ⟨z4, e4, _, w4⟩ := DataW.trod_int Tryz.underlying5 t4
      obtain ⟨z5, e5, _⟩ := DataW.trod_bool Tryz.underlying4 t5
      simp only [List.cons.injEq, and_true] at e0 e1 e2 e3 e4 e5
      obtain ⟨u, hu⟩ := u8_of e4 w4
      subst e0 e1 e2 e3 e5
      rw [hu] at h4
      refine ⟨⟨z0, z1, z2, z3, u, z5⟩, ?_⟩
      rintro b o rfl
      have ad : ∀ j, (⟨b, o, none⟩ : Addr).add (i * 6 + j) = ⟨b, o + i * 6 + j, none⟩ := fun j => by rw [Addr.add_mid, Nat.add_assoc]
      have h0' := h0
      have h1' := h1
      have h2' := h2
      have h3' := h3
      have h4' := h4
      have h5' := h5
      simp only [List.size_toArray, List.length_cons, List.length_nil, Nat.reduceAdd, ad] at h0' h1' h2' h3' h4' h5'
      exact ⟨h0', h1', h2', h3', h4', h5'⟩
    rcases Nat.eq_zero_or_pos len with h0 | h0
    · subst h0
      exact ⟨[], rfl, .inl rfl⟩
    · obtain ⟨ys, n, _, _, hyl, hq⟩ := hi 0 (by omega)
      obtain ⟨v0, y0, c0, _, t0⟩ := hq 0 _ rfl
      obtain ⟨b, off, spot⟩ := a
      have hspot : spot = none := by simpa [Addr.add] using World.cell?_spot c0
      subst hspot
      have hb : b < W.heap.size := by
        have := block_lt_of_cell c0
        simpa [Addr.add] using this
      have hf : ∃ f : Nat → ActM, ∀ i, i < len → ActAt W b (off + i * 6) (f i) := by
        refine ⟨fun i => if h : i < len then (cell i h).choose else ⟨default, 0, 0, 0, 0, false⟩, fun i h => ?_⟩
        have := (cell i h).choose_spec b off rfl
        simp only [dif_pos h]
        exact this
      obtain ⟨f, hf⟩ := hf
      refine ⟨(List.range len).map f, by simp, .inr ⟨b, off, rfl, hb, ?_⟩⟩
      intro i x hx
      have hlt : i < len := by have := (List.getElem?_eq_some_iff.1 hx).1; simpa using this
      rw [List.getElem?_map, List.getElem?_range hlt] at hx
      simp only [Option.map_some, Option.some.injEq] at hx
      subst hx
      exact hf i hlt

end U
end Go.Proofs.YtnhplapcdgnaaaaGreat
