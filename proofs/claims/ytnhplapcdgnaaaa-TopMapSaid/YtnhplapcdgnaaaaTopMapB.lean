import Derived.Test.YtnhplapcdgnaaaaTopMapA
import Derived.Deep.Cut
import Derived.Deep.CutRange
set_option linter.unusedVariables false
set_option linter.unusedSimpArgs false
namespace Go.Proofs.Ytnhplapcdgnaaaa
open Go.RowKit
namespace U

/-! TopMap: held. -/
def pmap (A B : MapM) (k : Nat) : LeafM := if k < 16 then A.leaf k else B.leaf (k - 16)
def pin (A B : MapM) (f k : Nat) : Bool := (pmap A B k).there && (pmap A B k).frame == (f : Int)
def pcnt (A B : MapM) (f n : Nat) : Nat := (List.range n).countP (pin A B f)
theorem pcnt_zero (A B : MapM) (f : Nat) : pcnt A B f 0 = 0 := rfl
theorem pcnt_succ (A B : MapM) (f n : Nat) : pcnt A B f (n + 1) = pcnt A B f n + (if pin A B f n then 1 else 0) := by
  unfold pcnt
  rw [List.range_succ, List.countP_append, List.countP_singleton]
theorem pcnt_le (A B : MapM) (f n : Nat) : pcnt A B f n ≤ n := by
  have := List.countP_le_length (p := pin A B f) (l := List.range n)
  simpa [pcnt] using this
theorem pcnt_all (A B : MapM) (f : Nat) : pcnt A B f 32 = mcnt A f + mcnt B f := by
  have e : List.range 32 = List.range 16 ++ (List.range 16).map (16 + ·) := by rw [show 32 = 16 + 16 from rfl, List.range_add]
  unfold pcnt mcnt
  rw [e, List.countP_append, List.countP_map]
  have h1 : (List.range 16).countP (pin A B f) = (List.range 16).countP (inF A f) := by
    apply List.countP_congr
    intro i hi
    have := List.mem_range.1 hi
    unfold pin pmap inF
    rw [if_pos this]
  have h2 : (List.range 16).countP (pin A B f ∘ (16 + ·)) = (List.range 16).countP (inF B f) := by
    apply List.countP_congr
    intro i hi
    have := List.mem_range.1 hi
    unfold pin pmap inF
    simp only [Function.comp]
    rw [if_neg (by omega), show 16 + i - 16 = i by omega]
  rw [h1, h2]
/-- What stands while 'held' goes on. -/
structure HL (w W : World) (L : PoolAt) (g0 g1 mb bb rb : Nat) (P : PoolM) (A B : MapM) (f : Nat → Nat → UInt8) (r : Nat → Int) : Prop where
  rp : PoolRep W L P
  a : MRep W g0 146 65 L.p A
  b : MRep W g1 146 65 L.p B
  mr : Row W mb 87 2 (fun i => if i = 0 then .pointer (some ⟨g0, 0, none⟩) else .pointer (some ⟨g1, 0, none⟩))
  bt : BTab W bb 99 512 0 32 f
  rt : Row W rb 61 64 (ints r)
  up : Upd Non w W
  lr : w.heap.size ≤ rb
section
variable {w W W' : World} {L : PoolAt} {g0 g1 mb bb rb : Nat} {P : PoolM} {A B : MapM} {f : Nat → Nat → UInt8} {r : Nat → Int}
theorem HL.non (t : HL w W L g0 g1 mb bb rb P A B f r) (u : Upd Non W W') : HL w W' L g0 g1 mb bb rb P A B f r :=
  ⟨t.rp.upd_ u (fun h => h) (fun h => h) (fun h => h), t.a.upd_ u (fun h => h), t.b.upd_ u (fun h => h), t.mr.upd_ u (fun h => h), t.bt.upd_ u (fun h => h), t.rt.upd_ u (fun h => h), t.up.trans u, t.lr⟩
theorem HL.setI (t : HL w W L g0 g1 mb bb rb P A B f r) {i : Nat} (v : Int) : HL w (W.setCell ⟨rb, i, none⟩ (.int .i64 v)) L g0 g1 mb bb rb P A B f (fset r i v) := by
  have u : Upd (at1 rb) W (W.setCell ⟨rb, i, none⟩ (.int .i64 v)) := (Upd.refl _ _).setCell (p := ⟨rb, i, none⟩) (fun _ => at1_self) _
  obtain ⟨_, _, hB, _⟩ := t.rp.bytes
  obtain ⟨_, _, hR, _⟩ := t.rp.counts
  obtain ⟨_, ha, _⟩ := t.a.row
  obtain ⟨_, hb, _⟩ := t.b.row
  obtain ⟨_, hf, _⟩ := t.bt.ex
  exact ⟨t.rp.upd_ u (fun h => t.rt.ne_ t.rp.st (by decide) h.symm) (fun h => t.rt.ne_ hB (by decide) h.symm) (fun h => t.rt.ne_ hR (by decide) h.symm), t.a.upd_ u (fun h => t.rt.ne_ ha (by decide) h.symm), t.b.upd_ u (fun h => t.rt.ne_ hb (by decide) h.symm), t.mr.upd_ u (fun h => t.rt.ne_ t.mr (by decide) h.symm), t.bt.upd_ u (fun h => t.rt.ne_ hf (by decide) h.symm), ints_set t.rt v, t.up.over u (by rintro i rfl; exact t.lr), t.lr⟩
theorem HL.m0 (t : HL w W L g0 g1 mb bb rb P A B f r) : W.cell? ⟨mb, 0, none⟩ = some (.pointer (some ⟨g0, 0, none⟩)) := t.mr.cell (i := 0) (by omega)
theorem HL.m1 (t : HL w W L g0 g1 mb bb rb P A B f r) : W.cell? ⟨mb, 1, none⟩ = some (.pointer (some ⟨g1, 0, none⟩)) := t.mr.cell (i := 1) (by omega)
/-- Which map a page of 32 is in. -/
theorem HL.leaf (t : HL w W L g0 g1 mb bb rb P A B f r) {k : Nat} (hk : k < 32) : ∃ g, W.cell? ⟨mb, k / 16, none⟩ = some (.pointer (some ⟨g, 0, none⟩)) ∧
    Calls Try.prog 55 #[.pointer (some ⟨g, 0, none⟩), .int .i64 ((k % 16 : Nat) : Int)] W fun e w' => e = .returned (.tuple #[(pmap A B k).val, .nilIface]) ∧ Upd Non W w' := by
  by_cases h : k < 16
  · refine ⟨g0, by rw [show k / 16 = 0 by omega]; exact t.m0, ?_⟩
    have := mleaf_any W g0 65 L.p A t.a ((k % 16 : Nat) : Int)
    rw [mleaf_at (by omega), show k % 16 = k by omega] at this
    rw [show k % 16 = k by omega]
    unfold pmap
    rw [if_pos h]
    exact this
  · refine ⟨g1, by rw [show k / 16 = 1 by omega]; exact t.m1, ?_⟩
    have := mleaf_any W g1 65 L.p B t.b ((k % 16 : Nat) : Int)
    rw [mleaf_at (by omega), show k % 16 = k - 16 by omega] at this
    rw [show k % 16 = k - 16 by omega]
    unfold pmap
    rw [if_neg h]
    exact this
end
/-- Two maps on a pool whose pages hold f. -/
structure HeldI (P : PoolM) (A B : MapM) (f : Nat → Nat → UInt8) : Prop where
  a : MInv P A (mcnt B)
  b : MInv P B (mcnt A)
  wa : WI A A B
  wb : WI B A B
  pa : ∀ i, i < 16 → ∀ j, j < 16 → mpage P A i j = f i j
  pb : ∀ i, i < 16 → ∀ j, j < 16 → mpage P B i j = f (16 + i) j
section
variable {P : PoolM} {A B : MapM} {f : Nat → Nat → UInt8}
theorem HeldI.here (h : HeldI P A B f) {k : Nat} (hk : k < 32) (ht : (pmap A B k).there = true) : 0 ≤ (pmap A B k).frame ∧ (pmap A B k).frame < P.n ∧ P.used (pmap A B k).frame = true ∧ ∀ j, j < 16 → P.b (pmap A B k).frame.toNat j = f k j := by
  unfold pmap at ht ⊢
  by_cases hlt : k < 16
  · rw [if_pos hlt] at ht ⊢
    obtain ⟨_, h0, h1⟩ := h.a.here k hlt ht
    refine ⟨h0, h1, h.a.used hlt ht, fun j hj => ?_⟩
    rw [← h.pa k hlt j hj]; unfold mpage; rw [ht]; rfl
  · rw [if_neg hlt] at ht ⊢
    obtain ⟨_, h0, h1⟩ := h.b.here (k - 16) (by omega) ht
    refine ⟨h0, h1, h.b.used (by omega) ht, fun j hj => ?_⟩
    have := h.pb (k - 16) (by omega) j hj
    rw [show 16 + (k - 16) = k by omega] at this
    rw [← this]; unfold mpage; rw [ht]; rfl
theorem HeldI.gone (h : HeldI P A B f) {k : Nat} (hk : k < 32) (ht : (pmap A B k).there = false) : ∀ j, j < 16 → f k j = 0 := by
  intro j hj
  unfold pmap at ht
  by_cases hlt : k < 16
  · rw [if_pos hlt] at ht
    rw [← h.pa k hlt j hj]; unfold mpage; rw [ht]; rfl
  · rw [if_neg hlt] at ht
    have := h.pb (k - 16) (by omega) j hj
    rw [show 16 + (k - 16) = k by omega] at this
    rw [← this]; unfold mpage; rw [ht]; rfl
theorem HeldI.one (h : HeldI P A B f) {k : Nat} (hk : k < 32) (ht : (pmap A B k).there = true) (hw : (pmap A B k).write = true) : pcnt A B (pmap A B k).frame.toNat 32 = 1 := by
  rw [pcnt_all]
  unfold pmap at ht hw ⊢
  by_cases hlt : k < 16
  · rw [if_pos hlt] at ht hw ⊢
    exact h.wa k hlt ht hw
  · rw [if_neg hlt] at ht hw ⊢
    exact h.wb (k - 16) (by omega) ht hw
end

end U
end Go.Proofs.Ytnhplapcdgnaaaa
