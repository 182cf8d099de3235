import Derived.Test.YtnhplapcdgnaaaaGreatCacheL
import Derived.Test.YtnhplapcdgnaaaaGreatRange
import Derived.Shelf.Abstract
import Derived.OwnWalkIn
import Derived.TacticsInMore
import Derived.LoopNIn
import Derived.LoopIn
set_option linter.unusedVariables false
set_option linter.unusedSimpArgs false
namespace Go.Proofs.YtnhplapcdgnaaaaGreat
open Go.RowKit Go.Shelf
namespace U
attribute [local go_sem] Oper.semAt_some

/-- The first k places of a list. -/
def firstK (n k : Nat) : List (Fin n) := (List.finRange n).take k
theorem firstK_zero (n : Nat) : firstK n 0 = [] := by simp [firstK]
theorem firstK_succ (n k : Nat) (h : k < n) : firstK n (k + 1) = firstK n k ++ [⟨k, h⟩] := by
  unfold firstK
  rw [List.take_succ_eq_append_getElem (by simpa using h)]
  simp
theorem firstK_length (n k : Nat) (h : k ≤ n) : (firstK n k).length = k := by simp [firstK, h]
theorem firstK_all (n : Nat) : firstK n n = List.finRange n := by unfold firstK; rw [List.take_of_length_le (by simp)]
/-- What comes k-th is the place k. -/
theorem firstK_last {n k : Nat} {pre : List (Fin n)} {x : Fin n} (h : pre ++ [x] = firstK n k) : x.1 = pre.length := by
  have h1 : (pre ++ [x])[pre.length]? = some x := by simp
  rw [h] at h1
  unfold firstK at h1
  rw [List.getElem?_take] at h1
  split at h1
  · have hb : pre.length < n := by
      have := (List.getElem?_eq_some_iff.1 h1).1
      simpa using this
    rw [List.getElem?_eq_getElem (by simpa using hb)] at h1
    simp at h1
    rw [← h1]
  · cases h1
theorem finRange_entries (L : List EntryM) : (List.finRange L.length).map (fun i => L[i.1]'i.2) = L := by
  apply List.ext_getElem
  · simp
  · intro i h1 h2; simp
def encE (L : List EntryM) (x : Fin L.length) : Array Value := #[.int .i64 (x.1 : Int), (L[x.1]'x.2).val]

set_option maxRecDepth 100000 in
set_option maxHeartbeats 400000 in
theorem cAll_any (w : World) (c : Nat) (v : Value) (L : List EntryM) (hc : Row w c 128 1 (fun _ => v)) (h : ERow w v L) (hl : L.length ≤ 100) :
    Calls Tryz.prog 118 #[.pointer (some ⟨c, 0, none⟩)] w fun e w' => ∃ B v', e = .returned (.func (.func 130) #[] #[.pointer (some ⟨B, 0, none⟩)]) ∧
      Row w' B 96 1 (fun _ => v') ∧ ERow w' v' L ∧ Fresh w v' ∧ w.heap.size ≤ B ∧ Upd Non w w' := by
  have hc0 := hc.cell (i := 0) (by omega)
  go_enter Tryz.func118, Tryz.ntmps118
  go_wp2_with (at_builtin; go_must (refine wpl_append_all rfl _ rfl _ rfl L h (by omega) ?_); intro v' w1 hv hu hf; obtain ⟨A', cap', rfl⟩ := hv.form)
  go_ret
  exact ⟨w1.heap.size, _, rfl, row_one w1 _ _, hv.alloc _, hf, hu.size, hu.alloc _⟩

set_option maxRecDepth 100000 in
set_option maxHeartbeats 2000000 in
theorem all1_in (n : Nat) (hn : 1 ≤ n) (l B : Nat) (A : Option Addr) (cap : Nat) (L : List EntryM) (hl : L.length ≤ 100) (J Jx : List (Fin L.length) → World → Prop) (W : World) (hB : Row W B 96 1 (fun _ => .slice A L.length cap)) (h : ERow W (.slice A L.length cap) L)
    (hJ : AbidesFrom W.heap.size J)
    (hY : ∀ pre x W1, J pre W1 → pre.length < L.length → YieldAt Fence.wide (n - 1) Tryz.prog l (encE L x) W1 fun e W' =>
      (e = .returned (.bool true) ∧ J (pre ++ [x]) W' ∧ KpB (fun k => (Value.slice A L.length cap).ownBlock = some k) W1 W') ∨ (e = .returned (.bool false) ∧ Jx (pre ++ [x]) W'))
    (h0 : J [] W) :
    CallsIn Fence.wide n Tryz.prog 130 #[.func (.yield l) #[] #[], .pointer (some ⟨B, 0, none⟩)] W fun e W' => (∃ v, e = .returned v) ∧
      ((∃ ys, ys = List.finRange L.length ∧ J ys W') ∨ (∃ pre, (∃ k, k ≤ L.length ∧ pre = firstK L.length k) ∧ Jx pre W')) := by
  have hBs := hB.cell (i := 0) (by omega)
  refine callsIn_of_wp Tryz.func130 rfl trivial ?_ rfl
  simp only [Tryz.ntmps130, List.size_toArray, List.length_cons, List.length_nil, Nat.reduceAdd, Nat.reduceSub, Array.replicate_succ, Array.replicate_zero, List.push_toArray, List.append_toArray, List.nil_append, List.cons_append]
  gi_wp2
  gi_loopw [7] (fun i wr => ∃ k : Nat, k ≤ L.length ∧ i = .int .i64 k ∧ Hid (J (firstK L.length k) wr ∧ KpB (fun k => (Value.slice A L.length cap).ownBlock = some k) W wr))
    (fun i _ => L.length - (intOf i).toNat)
  case atStart => exact ⟨0, Nat.zero_le _, rfl, by rw [firstK_zero]; exact h0, KpB.refl _ _⟩
  case round =>
    obtain ⟨k, hk, rfl, hI⟩ := hrel
    by_cases hlt : k < L.length
    · obtain ⟨g, o, cap', hv, hg, hE⟩ := (h.keep fun g hg => hI.out.2.2 g hg (h.lt hg)).at_ hlt
      obtain ⟨rfl, rfl⟩ : A = some ⟨g, o, none⟩ ∧ cap = cap' := by simpa using hv
      obtain ⟨x, hx⟩ : ∃ x, L[k] = x := ⟨_, rfl⟩
      have HN := Lib.hid (firstK_succ L.length k hlt)
      rw [hx] at hE
      obtain ⟨e0, e1, e2, e3, e4, e5, e6⟩ := hE
      have hJ1 : J (firstK L.length k) (wr.alloc (.cells x.cells.toArray 138)) := hJ _ _ _ none hI.out.1 (World.grownBy_alloc _ _ none) (fun r e => by cases e)
      have hK1 : KpB (fun k => (Value.slice (some ⟨g, o, none⟩) L.length cap).ownBlock = some k) W (wr.alloc (.cells x.cells.toArray 138)) := hI.out.2.trans (KpB.of_upd (T := Non) ((Upd.refl _ _).alloc _) (fun _ _ h => h))
      obtain ⟨fn, tmps, assign, body, hy, hR⟩ := hY _ ⟨k, hlt⟩ (wr.alloc (.cells x.cells.toArray 138)) hJ1 (by rw [firstK_length _ _ hk]; exact hlt)
      dsimp only [encE] at hy hR
      rw [hx] at hy
      dsimp only [EntryM.val, EntryM.cells] at hy hR
      have HK := Lib.hid hK1
      clear hx hv hY hI hJ1 hK1 hJ
      gi_wp2
      refine hR.mono ?_
      rintro e W3 (⟨rfl, hJ3, hk3⟩ | ⟨rfl, hJx3⟩)
      · have V := Lib.hid (show J (firstK L.length (k + 1)) W3 ∧ _ from ⟨by rw [HN.out]; exact hJ3, HK.out.trans hk3⟩)
        clear hJ3 hk3
        gi_wp2
        go_roundw
        case rel => exact ⟨k + 1, by omega, by simp, V.out⟩
        case measure => simp [intOf]; omega
      · gi_wp2
        refine bodyPost_ret (results_none rfl _ _ _) rfl ?_
        exact ⟨⟨_, rfl⟩, .inr ⟨_, ⟨k + 1, by omega, HN.out.symm⟩, hJx3⟩⟩
    · obtain rfl : k = L.length := by omega
      gi_wp2
      go_end0
      exact ⟨⟨_, rfl⟩, .inl ⟨_, firstK_all _, hI.out.1⟩⟩

/-- All's value: all entries in their order with their places, or the first k of them. -/
theorem cAll_stops (n : Nat) (hn : 1 ≤ n) (B : Nat) (v : Value) (L : List EntryM) (w : World) (hB : Row w B 96 1 (fun _ => v)) (h : ERow w v L) (hl : L.length ≤ 100) :
    SeqStopsK Fence.wide n Tryz.prog 130 #[.pointer (some ⟨B, 0, none⟩)] (encE L) (KpB (fun k => v.ownBlock = some k)) (fun ys => ys = List.finRange L.length) (fun pre => ∃ k, k ≤ L.length ∧ pre = firstK L.length k) L.length w := by
  intro l J Jx W hW hJ hJx hY h0
  obtain ⟨A, cap, rfl⟩ := h.form
  exact all1_in n hn l B A cap L hl J Jx W (hB.keep (hW.block _ hB.lt)) (h.keep fun g hg => hW.block g (h.lt hg)) hJ hY h0

theorem ERow.on_cells {W : World} {v : Value} {L : List EntryM} {B : Nat} (h : ERow W v L) {g : Nat} (hg : v.ownBlock = some g) : ¬ OffCells B W g := by
  rcases h with ⟨rfl, _⟩ | ⟨g', o, cap, C, rfl, h1, h2, h3, h4, h5⟩
  · cases hg
  · have e : g' = g := by simpa [Value.ownBlock] using hg
    subst e
    rintro ⟨_, ob, ho, hc⟩
    rw [h3] at ho
    cases ho
    cases hc
theorem ERow.are_cells {W : World} {v : Value} {L : List EntryM} (h : ERow W v L) {g : Nat} (hg : v.ownBlock = some g) : ∀ o, W.heap[g]? = some o → o.isCells = true := by
  rcases h with ⟨rfl, _⟩ | ⟨g', o, cap, C, rfl, h1, h2, h3, h4, h5⟩
  · cases hg
  · have e : g' = g := by simpa [Value.ownBlock] using hg
    subst e
    intro ob ho
    rw [h3] at ho
    cases ho
    rfl
/-- An entry in a box. -/
theorem EAt.of_box {W : World} {B : Nat} {e : EntryM} (h : W.heap[B]? = some (.cells e.cells.toArray 138)) : EAt W B 0 e :=
  EAt.mk' fun j u hu => by
    rw [Nat.zero_add, cell_of_row _ B j _ _ (0, 0) h]
    simpa using hu

end U
end Go.Proofs.YtnhplapcdgnaaaaGreat
