import Derived.Test.YtnhplapcdgnaaaaGreatMem
import Derived.RangeFuncNested
import Derived.RangeFuncLeaves
import Derived.Lib.Hide
import Derived.Test.YtnhplapcdgnaaaaGreatCacheL
import Derived.Shelf.Abstract
import Derived.OwnWalkIn
import Derived.TacticsInMore
import Derived.LoopNIn
import Derived.LoopIn
import Derived.Sort.QuietIn
import Derived.RangeFuncCalls
set_option linter.unusedVariables false
set_option linter.unusedSimpArgs false
namespace Go.Proofs.YtnhplapcdgnaaaaGreat
open Go.RowKit
namespace U

/-! Ranges over a function, in a plain walk; the marks that they leave. -/
def marks (Ds : List Nat) : List Deferred := Ds.map fun D => { target := .collected D, args := #[] }
/-- Each mark's block lies as it was laid. -/
structure MarksAt (w : World) (Ds : List Nat) : Prop where
  held : ∀ D ∈ Ds, w.heap[D]? = some (.deferred (some []))
  nodup : Ds.Nodup
theorem MarksAt.nil (w : World) : MarksAt w [] := ⟨fun _ h => by simp at h, List.nodup_nil⟩
theorem MarksAt.drewN {w : World} {Ds : List Nat} (h : MarksAt w Ds) (n : Nat) : MarksAt (w.drewN n) Ds := ⟨h.held, h.nodup⟩
theorem MarksAt.alloc {w : World} {Ds : List Nat} (h : MarksAt w Ds) (o : Obj) : MarksAt (w.alloc o) Ds :=
  ⟨fun D hD => (Below.heap_alloc w o D (heap_lt (h.held D hD))).trans (h.held D hD), h.nodup⟩
theorem MarksAt.upd_ {S : Nat → Prop} {w w' : World} {Ds : List Nat} (h : MarksAt w Ds) (u : Upd S w w') (hS : ∀ D ∈ Ds, ¬ S D) : MarksAt w' Ds :=
  ⟨fun D hD => (u.block D (heap_lt (h.held D hD)) (hS D hD)).trans (h.held D hD), h.nodup⟩
theorem MarksAt.cons {w : World} {Ds : List Nat} (h : MarksAt w Ds) {D : Nat} (hD : w.heap[D]? = some (.deferred (some []))) (hn : D ∉ Ds) : MarksAt w (D :: Ds) :=
  ⟨fun X hX => by rcases List.mem_cons.1 hX with rfl | hX; exact hD; exact h.held X hX, List.nodup_cons.2 ⟨hn, h.nodup⟩⟩
/-- A mark is no row of cells. -/
theorem MarksAt.ne {w : World} {Ds : List Nat} (h : MarksAt w Ds) {g t N : Nat} {c : Nat → Value} (r : Row w g t N c) : g ∉ Ds := fun hg => by
  obtain ⟨C, h1, _⟩ := r
  rw [h.held g hg] at h1
  cases h1
theorem Upd.putObj {S : Nat → Prop} {a w : World} (u : Upd S a w) (D : Nat) (o : Obj) (hD : D < a.heap.size → S D) : Upd S a (w.putObj D o) :=
  ⟨u.os, u.tape, u.output, by rw [World.putObj_size]; exact u.size, fun k hk hn => (World.putObj_heap_other (by rintro rfl; exact hn (hD hk))).trans (u.block k hk hn)⟩

theorem leaves_marks {F : Fence} {n : Nat} {P : Program} {fn : Func} {tmps : Array Value} {R : Ending → World → Prop} : ∀ (Ds : List Nat) (w : World), MarksAt w Ds →
    (∀ w', Upd (fun k => k ∈ Ds) w w' → ∃ v, (results fn tmps).run P w' = .ok v w' ∧ R (.returned v) w') → LeavesInM F n P fn tmps R (marks Ds) .returning w
  | [], w, _, h => h w (Upd.refl _ _)
  | D :: Ds, w, hm, h => by
    refine ⟨by simp, .inl ⟨D, w.putObj D (.deferred none), rfl, run_takeDeferred (hm.held D (List.mem_cons_self ..)), ?_⟩⟩
    have hnd := List.nodup_cons.1 hm.nodup
    refine leaves_marks Ds _ ⟨fun X hX => (World.putObj_heap_other (by rintro rfl; exact hnd.1 hX)).trans (hm.held X (List.mem_cons_of_mem _ hX)), hnd.2⟩ fun w' u => h w' ?_
    have u0 : Upd (fun k => k ∈ D :: Ds) w (w.putObj D (.deferred none)) := (Upd.refl _ _).putObj D _ fun _ => List.mem_cons_self ..
    exact u0.trans (u.mono fun k _ hk => List.mem_cons_of_mem _ hk)

/-- A function whose body holds ranges over functions. -/
theorem calls_of_wp_marks {P : Program} {f : FuncId} {fn : Func} {c : Code} {args : Array Value} {w : World} {R : Ending → World → Prop} (hf : P.funcs[f]? = some fn) (hb : fn.body = some c)
    (h : c.wp P (bodyPostM Fence.wide 9 P fn R) { tmps := args ++ Array.replicate (fn.ntmps - args.size) undef, defers := [] } w) : Calls P f args w R :=
  callsIn_wide.1 (callsIn_of_wp_marks (F := Fence.wide) (n := 9) hf hb trivial (wpIn_wide.2 h))
/-- The end of such a body: a plain return with its marks. -/
theorem marked_ret {P : Program} {fn : Func} {R : Ending → World → Prop} {tmps : Array Value} {Ds : List Nat} {w : World} (hm : MarksAt w Ds)
    (h : ∀ w', Upd (fun k => k ∈ Ds) w w' → ∃ v, (results fn tmps).run P w' = .ok v w' ∧ R (.returned v) w') : bodyPostM Fence.wide 9 P fn R .ret { tmps := tmps, defers := marks Ds } w :=
  leaves_marks Ds w hm h

/-- A frame, slot by slot. -/
theorem arr_lit (T : Array Value) (n : Nat) (h : T.size = n) : T = ((List.range n).map fun i => T.getD i undef).toArray := by
  apply Array.ext
  · simp [h]
  · intro i h1 h2
    simp [h1]

/-- What a round keeps: the blocks of S. -/
def KpB (S : Nat → Prop) (W W' : World) : Prop := W.heap.size ≤ W'.heap.size ∧ ∀ k, S k → k < W.heap.size → W'.heap[k]? = W.heap[k]?
theorem KpB.refl (S : Nat → Prop) (W : World) : KpB S W W := ⟨Nat.le_refl _, fun _ _ _ => rfl⟩
theorem KpB.trans {S : Nat → Prop} {A B C : World} (h : KpB S A B) (k : KpB S B C) : KpB S A C :=
  ⟨Nat.le_trans h.1 k.1, fun i hi hl => (k.2 i hi (Nat.lt_of_lt_of_le hl h.1)).trans (h.2 i hi hl)⟩
theorem KpB.putObj {S : Nat → Prop} {w : World} (hS : ∀ k, S k → k < w.heap.size) (W : World) (l : Nat) (o o' : Obj) (hl : w.heap.size ≤ l) (h : W.heap[l]? = some o) (_ : o.isCells = false) (_ : o.isWalk = false) : KpB S W (W.putObj l o') :=
  ⟨by rw [World.putObj_size]; exact Nat.le_refl _, fun k hk _ => World.putObj_heap_other (by have := hS k hk; omega)⟩
theorem KpB.of_upd {S T : Nat → Prop} {W W' : World} (u : Upd T W W') (h : ∀ k, S k → ¬ T k) : KpB S W W' := ⟨u.size, fun k hk hl => u.block k hl (h k hk)⟩
theorem KeepsFrom.of_upd {B : Nat} {T : Nat → Prop} {W W' : World} (u : Upd T W W') (h : ∀ k, B ≤ k → T k → ∀ o, W.heap[k]? = some o → o.isCells = true) : KeepsFrom B W W' :=
  ⟨u.size, fun k o hB hk ho => by
    refine (u.block k (heap_lt hk) fun hT => ?_).trans hk
    have := h k hB hT o hk
    rw [ho] at this; cases this⟩
/-- What holds of a world from w on, whatever blocks of others turn. -/
theorem upd_of_grownBy {W W' : World} {row : Option Nat} (hg : W.grownBy W' row) : Upd (fun k => row = some k) W W' := ⟨hg.os, hg.tape, hg.output, hg.size, fun k hk hn => hg.block k hk fun e => hn e.symm⟩


/-- Blocks from B on that are no cells. -/
def OffCells (B : Nat) (W : World) : Nat → Prop := fun k => B ≤ k ∧ ∃ o : Obj, W.heap[k]? = some o ∧ o.isCells = false
/-- **A range over a function in a plain walk**, its element in a box that each round makes anew. I, Ix speak of blocks of cells, and of blocks that were there when the loop began. -/
theorem wp_range {α : Type} {P : Program} {g : Operand} {ps : Array Tmp} {assign body : Code} {Q : Exit → Act → World → Prop} {tmps : Array Value} {Ds : List Nat} {w : World} {gf : Nat} {lb : Array Value}
    (hg : (Act.mk tmps (marks Ds)).eval g = .func (.func gf) #[] lb) (eg : ∀ args w, (callFunc gf args).run P w = .ok (.enter gf args) w)
    {encs : α → Array Value} {Sb : Nat → Prop} {S Sp : List α → Prop} {N : Nat} (hseq : SeqStopsK Fence.wide 8 P gf lb encs (KpB Sb) S Sp N w) (hSb : ∀ k, Sb k → k < w.heap.size) (hps : ∀ x, (encs x).size = ps.size)
    (I : List α → World → Prop) (Ix : Code → List α → World → Prop)
    (hI : ∀ pre W W', I pre W → Upd (OffCells w.heap.size W) W W' → I pre W') (hIx : ∀ c pre W W', Ix c pre W → Upd (OffCells w.heap.size W) W W' → Ix c pre W') (h0 : I [] w)
    (hsz : ∀ pre W, I pre W → w.heap.size ≤ W.heap.size) (bx : α → Obj) (hbx : ∀ x, (bx x).isCells = true) (F : α → Nat → Array Value)
    (hassign : ∀ (l : Nat) (pre : List α) (x : α) (W : World) (K : Act → World → Prop), I pre W → K { tmps := F x W.heap.size, defers := [] } (W.alloc (bx x)) →
      assign.wpIn (Fence.wide.inRound l) 7 P (Exit.then K (fun _ _ _ => False)) { tmps := (ps.zip (encs x)).foldl (fun t (p, v) => t.setIfInBounds p v) tmps, defers := [] } W)
    (hbody : ∀ (l : Nat) (pre : List α) (x : α) (B : Nat) (W : World), I pre W → W.heap[B]? = some (bx x) → w.heap.size ≤ B → pre.length < N →
      body.wpIn (Fence.wide.inRound l) 7 P (ownPostG w.heap.size (KpB Sb) I Ix (pre ++ [x]) W) { tmps := F x B, defers := [] } W)
    (hdone : ∀ (D : Nat) (xs : List α) (W : World), w.heap.size ≤ D → S xs → I xs W → W.heap[D]? = some (.deferred (some [])) → Q .normal { tmps := tmps, defers := marks (D :: Ds) } W)
    (hstop : ∀ (D : Nat) (c : Code) (pre : List α) (W : World), w.heap.size ≤ D → Sp pre → Ix c pre W → W.heap[D]? = some (.deferred (some [])) → c.wp P Q { tmps := tmps, defers := marks (D :: Ds) } W) :
    (Code.rangeFunc g ps assign body).wp P Q { tmps := tmps, defers := marks Ds } w := by
  refine (wpIn_wide (n := 9)).1 ?_
  have own : ∀ {W W' : World} {row : Option Nat}, W.grownBy W' row → (∀ r, row = some r → w.heap.size ≤ r ∧ ∃ o : Obj, W.heap[r]? = some o ∧ o.isCells = false) → Upd (OffCells w.heap.size W) W W' :=
    fun hg hr => (upd_of_grownBy hg).mono fun k _ hk => hr k hk
  refine wpIn_rangeFunc_ownH (F := Fence.wide) rfl (by omega) hg trivial eg hseq (fun h k => KpB.trans h k) (KpB.putObj hSb) (Below.refl _ _) hps I Ix
    (fun s W W' row hs hg' hr => hI s W W' hs (own hg' hr)) (fun c s W W' row hs hg' hr => hIx c s W W' hs (own hg' hr)) h0
    (fun x a' W => ∃ B, W.heap[B]? = some (bx x) ∧ w.heap.size ≤ B ∧ a' = { tmps := F x B, defers := [] })
    (fun x a' s W W' row hs hg' hr => ?_) (fun l pre x W K hi hK => ?_) (fun l pre x a' W hl hr hi hax hlen => ?_) (fun D xs W hD hS hi hk => hdone D xs W hD hS hi hk) (fun D c pre W hD hS hi hk => wpIn_wide.2 (hstop D c pre W hD hS hi hk))
  · obtain ⟨B, hB, hwB, ha⟩ := hs
    refine ⟨B, (hg'.block B (heap_lt hB) fun e => ?_).trans hB, hwB, ha⟩
    obtain ⟨_, o, ho, hc⟩ := hr B e.symm
    rw [hB] at ho
    cases ho
    rw [hbx x] at hc
    cases hc
  · have u : Upd Non W (W.alloc (bx x)) := (Upd.refl _ _).alloc _
    refine hassign l pre x W K hi (hK _ _ (KeepsFrom.of_upd (T := Non) u (fun k _ h => h.elim)) (KpB.of_upd (T := Non) u (fun _ _ h => h)) (hI _ _ _ hi (u.mono fun _ _ h => h.elim)) ⟨W.heap.size, heap_alloc_new W _, hsz pre W hi, rfl⟩)
  · obtain ⟨B, hB, hwB, rfl⟩ := hax
    exact hbody l pre x B W hi hB hwB hlen
/-- How a round goes on. -/
theorem round_on {B : Nat} {Sb T : Nat → Prop} {X : Prop} {W W' : World} (u : Upd T W W') (hT : ∀ k, T k → k < B ∨ ∀ o, W.heap[k]? = some o → o.isCells = true) (hS : ∀ k, Sb k → ¬ T k) (hi : X) :
    KeepsFrom B W W' ∧ KpB Sb W W' ∧ X := ⟨KeepsFrom.of_upd u (fun k hk h => (hT k h).elim (fun h => absurd h (by omega)) (fun h => h)), KpB.of_upd u hS, hi⟩
theorem round_out {B : Nat} {T : Nat → Prop} {X : Prop} {W W' : World} (u : Upd T W W') (hT : ∀ k, T k → k < B ∨ ∀ o, W.heap[k]? = some o → o.isCells = true) (hi : X) : KeepsFrom B W W' ∧ X :=
  ⟨KeepsFrom.of_upd u (fun k hk h => (hT k h).elim (fun h => absurd h (by omega)) (fun h => h)), hi⟩
/-- A row of cells is none of those. -/
theorem Row.on_cells {W : World} {B g t N : Nat} {c : Nat → Value} (r : Row W g t N c) : ¬ OffCells B W g := by
  obtain ⟨C, h, _⟩ := r
  rintro ⟨_, o, ho, hc⟩
  rw [h] at ho
  cases ho
  cases hc

end U
end Go.Proofs.YtnhplapcdgnaaaaGreat

set_option linter.unusedVariables false
set_option linter.unusedSimpArgs false
namespace Go.Proofs.YtnhplapcdgnaaaaGreat
open Go.RowKit Go.Shelf
namespace U
attribute [local go_sem] Oper.semAt_some

/-- The first k places of a list. -/
def firstK (n k : Nat) : List (Fin n) := (List.finRange n).take k
theorem firstK_zero (n : Nat) : firstK n 0 = [] := by simp [firstK]
theorem firstK_succ (n k : Nat) (h : k < n) : firstK n (k + 1) = firstK n k ++ [⟨k, h⟩] := by
  unfold firstK
  rw [List.take_succ_eq_append_getElem (by simpa using h)]
  simp
theorem firstK_length (n k : Nat) (h : k ≤ n) : (firstK n k).length = k := by simp [firstK, h]
theorem firstK_all (n : Nat) : firstK n n = List.finRange n := by unfold firstK; rw [List.take_of_length_le (by simp)]
/-- What comes k-th is the place k. -/
theorem firstK_last {n k : Nat} {pre : List (Fin n)} {x : Fin n} (h : pre ++ [x] = firstK n k) : x.1 = pre.length := by
  have h1 : (pre ++ [x])[pre.length]? = some x := by simp
  rw [h] at h1
  unfold firstK at h1
  rw [List.getElem?_take] at h1
  split at h1
  · have hb : pre.length < n := by
      have := (List.getElem?_eq_some_iff.1 h1).1
      simpa using this
    rw [List.getElem?_eq_getElem (by simpa using hb)] at h1
    simp at h1
    rw [← h1]
  · cases h1
theorem finRange_entries (L : List EntryM) : (List.finRange L.length).map (fun i => L[i.1]'i.2) = L := by
  apply List.ext_getElem
  · simp
  · intro i h1 h2; simp
def encE (L : List EntryM) (x : Fin L.length) : Array Value := #[.int .i64 (x.1 : Int), (L[x.1]'x.2).val]

set_option maxRecDepth 100000 in
set_option maxHeartbeats 400000 in
theorem cAll_any (w : World) (c : Nat) (v : Value) (L : List EntryM) (hc : Row w c 128 1 (fun _ => v)) (h : ERow w v L) (hl : L.length ≤ 100) :
    Calls Tryz.prog 118 #[.pointer (some ⟨c, 0, none⟩)] w fun e w' => ∃ B v', e = .returned (.func (.func 130) #[] #[.pointer (some ⟨B, 0, none⟩)]) ∧
      Row w' B 96 1 (fun _ => v') ∧ ERow w' v' L ∧ Fresh w v' ∧ w.heap.size ≤ B ∧ Upd Non w w' := by
  have hc0 := hc.cell (i := 0) (by omega)
  go_enter Tryz.func118, Tryz.ntmps118
  go_wp2_with (at_builtin; go_must (refine wpl_append_all rfl _ rfl _ rfl L h (by omega) ?_); intro v' w1 hv hu hf; obtain ⟨A', cap', rfl⟩ := hv.form)
  go_ret
  exact ⟨w1.heap.size, _, rfl, row_one w1 _ _, hv.alloc _, hf, hu.size, hu.alloc _⟩

set_option maxRecDepth 100000 in
set_option maxHeartbeats 2000000 in
theorem all1_in (n : Nat) (hn : 1 ≤ n) (l B : Nat) (A : Option Addr) (cap : Nat) (L : List EntryM) (hl : L.length ≤ 100) (J Jx : List (Fin L.length) → World → Prop) (W : World) (hB : Row W B 96 1 (fun _ => .slice A L.length cap)) (h : ERow W (.slice A L.length cap) L)
    (hJ : AbidesFrom W.heap.size J)
    (hY : ∀ pre x W1, J pre W1 → pre.length < L.length → YieldAt Fence.wide (n - 1) Tryz.prog l (encE L x) W1 fun e W' =>
      (e = .returned (.bool true) ∧ J (pre ++ [x]) W' ∧ KpB (fun k => (Value.slice A L.length cap).ownBlock = some k) W1 W') ∨ (e = .returned (.bool false) ∧ Jx (pre ++ [x]) W'))
    (h0 : J [] W) :
    CallsIn Fence.wide n Tryz.prog 130 #[.func (.yield l) #[] #[], .pointer (some ⟨B, 0, none⟩)] W fun e W' => (∃ v, e = .returned v) ∧
      ((∃ ys, ys = List.finRange L.length ∧ J ys W') ∨ (∃ pre, (∃ k, k ≤ L.length ∧ pre = firstK L.length k) ∧ Jx pre W')) := by
  have hBs := hB.cell (i := 0) (by omega)
  refine callsIn_of_wp Tryz.func130 rfl trivial ?_ rfl
  simp only [Tryz.ntmps130, List.size_toArray, List.length_cons, List.length_nil, Nat.reduceAdd, Nat.reduceSub, Array.replicate_succ, Array.replicate_zero, List.push_toArray, List.append_toArray, List.nil_append, List.cons_append]
  gi_wp2
  gi_loopw [7] (fun i wr => ∃ k : Nat, k ≤ L.length ∧ i = .int .i64 k ∧ Hid (J (firstK L.length k) wr ∧ KpB (fun k => (Value.slice A L.length cap).ownBlock = some k) W wr))
    (fun i _ => L.length - (intOf i).toNat)
  case atStart => exact ⟨0, Nat.zero_le _, rfl, by rw [firstK_zero]; exact h0, KpB.refl _ _⟩
  case round =>
    obtain ⟨k, hk, rfl, hI⟩ := hrel
    by_cases hlt : k < L.length
    · obtain ⟨g, o, cap', hv, hg, hE⟩ := (h.keep fun g hg => hI.out.2.2 g hg (h.lt hg)).at_ hlt
      obtain ⟨rfl, rfl⟩ : A = some ⟨g, o, none⟩ ∧ cap = cap' := by simpa using hv
      obtain ⟨x, hx⟩ : ∃ x, L[k] = x := ⟨_, rfl⟩
      have HN := Lib.hid (firstK_succ L.length k hlt)
      rw [hx] at hE
      obtain ⟨e0, e1, e2, e3, e4, e5, e6⟩ := hE
      have hJ1 : J (firstK L.length k) (wr.alloc (.cells x.cells.toArray 138)) := hJ _ _ _ none hI.out.1 (World.grownBy_alloc _ _ none) (fun r e => by cases e)
      have hK1 : KpB (fun k => (Value.slice (some ⟨g, o, none⟩) L.length cap).ownBlock = some k) W (wr.alloc (.cells x.cells.toArray 138)) := hI.out.2.trans (KpB.of_upd (T := Non) ((Upd.refl _ _).alloc _) (fun _ _ h => h))
      obtain ⟨fn, tmps, assign, body, hy, hR⟩ := hY _ ⟨k, hlt⟩ (wr.alloc (.cells x.cells.toArray 138)) hJ1 (by rw [firstK_length _ _ hk]; exact hlt)
      dsimp only [encE] at hy hR
      rw [hx] at hy
      dsimp only [EntryM.val, EntryM.cells] at hy hR
      have HK := Lib.hid hK1
      clear hx hv hY hI hJ1 hK1 hJ
      gi_wp2
      refine hR.mono ?_
      rintro e W3 (⟨rfl, hJ3, hk3⟩ | ⟨rfl, hJx3⟩)
      · have V := Lib.hid (show J (firstK L.length (k + 1)) W3 ∧ _ from ⟨by rw [HN.out]; exact hJ3, HK.out.trans hk3⟩)
        clear hJ3 hk3
        gi_wp2
        go_roundw
        case rel => exact ⟨k + 1, by omega, by simp, V.out⟩
        case measure => simp [intOf]; omega
      · gi_wp2
        refine bodyPost_ret (results_none rfl _ _ _) rfl ?_
        exact ⟨⟨_, rfl⟩, .inr ⟨_, ⟨k + 1, by omega, HN.out.symm⟩, hJx3⟩⟩
    · obtain rfl : k = L.length := by omega
      gi_wp2
      go_end0
      exact ⟨⟨_, rfl⟩, .inl ⟨_, firstK_all _, hI.out.1⟩⟩

/-- All's value: all entries in their order with their places, or the first k of them. -/
theorem cAll_stops (n : Nat) (hn : 1 ≤ n) (B : Nat) (v : Value) (L : List EntryM) (w : World) (hB : Row w B 96 1 (fun _ => v)) (h : ERow w v L) (hl : L.length ≤ 100) :
    SeqStopsK Fence.wide n Tryz.prog 130 #[.pointer (some ⟨B, 0, none⟩)] (encE L) (KpB (fun k => v.ownBlock = some k)) (fun ys => ys = List.finRange L.length) (fun pre => ∃ k, k ≤ L.length ∧ pre = firstK L.length k) L.length w := by
  intro l J Jx W hW hJ hJx hY h0
  obtain ⟨A, cap, rfl⟩ := h.form
  exact all1_in n hn l B A cap L hl J Jx W (hB.keep (hW.block _ hB.lt)) (h.keep fun g hg => hW.block g (h.lt hg)) hJ hY h0

theorem ERow.on_cells {W : World} {v : Value} {L : List EntryM} {B : Nat} (h : ERow W v L) {g : Nat} (hg : v.ownBlock = some g) : ¬ OffCells B W g := by
  rcases h with ⟨rfl, _⟩ | ⟨g', o, cap, C, rfl, h1, h2, h3, h4, h5⟩
  · cases hg
  · have e : g' = g := by simpa [Value.ownBlock] using hg
    subst e
    rintro ⟨_, ob, ho, hc⟩
    rw [h3] at ho
    cases ho
    cases hc
theorem ERow.are_cells {W : World} {v : Value} {L : List EntryM} (h : ERow W v L) {g : Nat} (hg : v.ownBlock = some g) : ∀ o, W.heap[g]? = some o → o.isCells = true := by
  rcases h with ⟨rfl, _⟩ | ⟨g', o, cap, C, rfl, h1, h2, h3, h4, h5⟩
  · cases hg
  · have e : g' = g := by simpa [Value.ownBlock] using hg
    subst e
    intro ob ho
    rw [h3] at ho
    cases ho
    rfl
/-- An entry in a box. -/
theorem EAt.of_box {W : World} {B : Nat} {e : EntryM} (h : W.heap[B]? = some (.cells e.cells.toArray 138)) : EAt W B 0 e :=
  EAt.mk' fun j u hu => by
    rw [Nat.zero_add, cell_of_row _ B j _ _ (0, 0) h]
    simpa using hu

end U
end Go.Proofs.YtnhplapcdgnaaaaGreat

set_option linter.unusedVariables false
namespace Go.Proofs.YtnhplapcdgnaaaaGreat
open Go.RowKit
namespace U

/-! A region that draws its order and only reads, in a round of a range over a function. -/
theorem wpOp_round {F : Fence} {n : Nat} {P : Program} {ops : Array Oper} {Q : Exit → Act → World → Prop} (l : Nat) (hro : F.round = none) (hd : ∀ (i : Nat) (o : Oper), ops[i]? = some o → ∀ c, o.op ≠ Op.defer c) {i : Nat} {K K' : Act → World → Prop} (hK : ∀ a w, K a w → K' a w)
    {a : Act} {w : World} (h : wpOpIn F n P ops Q i K a w) : wpOpIn (F.inRound l) n P ops Q i K' a w := by
  have h := wpOpIn_mono hK h
  unfold wpOpIn at h ⊢
  cases ho : ops[i]? with
  | none => simpa [ho] using h
  | some o =>
    simp only [ho] at h ⊢
    split
    · rename_i hw
      simp only [hw, if_true] at h
      unfold Oper.wpIn at h ⊢
      refine ⟨h.1, ?_⟩
      have h2 := h.2
      rw [hro, Oper.semAt_none] at h2
      rw [Fence.inRound_round, Oper.semAt_some l _ _ (hd i o ho)]
      exact h2
    · rename_i hw
      simp only [hw] at h
      exact h
theorem wpAny_round {F : Fence} {n : Nat} {P : Program} {md : Region.Mode} {ops : Array Oper} {Q : Exit → Act → World → Prop} (l : Nat) (hro : F.round = none) (hd : ∀ (i : Nat) (o : Oper), ops[i]? = some o → ∀ c, o.op ≠ Op.defer c) :
    ∀ (fuel : Nat) (listed : Array Bool) (a : Act) (w : World), wpAnyIn F n P md ops Q fuel listed a w → wpAnyIn (F.inRound l) n P md ops Q fuel listed a w
  | 0, _, _, _, h => h
  | fuel + 1, _, _, _, h => ⟨h.1, fun i hi => wpOp_round l hro hd (fun a w k => wpAny_round l hro hd fuel _ a w k) (h.2 i hi)⟩
theorem quiet_round {P : Program} {n r id : Nat} {Q : Exit → Act → World → Prop} {a : Act} {w : World} {l : List Oper} (hm : P.follows .mixedOrders = true) (hB : Region.lexB .any l.toArray = true) (hd : ∀ (i : Nat) (o : Oper), l.toArray[i]? = some o → ∀ c, o.op ≠ Op.defer c)
    (h : wpQuietIn Fence.wide n P l.toArray (fun w' => ∃ n, w' = w.drewN n) (fun a' => ∀ w', (∃ n, w' = w.drewN n) → Q .normal a' w') l a) : (Code.region id l.toArray true).wpIn (Fence.wide.inRound r) n P Q a w := by
  simp only [Region.lexB, Bool.and_eq_true] at hB
  refine wpIn_region_any hm (wpAny_round r rfl hd _ _ _ _ (wpAnyIn_of_quiet (C := fun w' => ∃ n, w' = w.drewN n) (Q := fun a' => ∀ w', (∃ n, w' = w.drewN n) → Q .normal a' w') rfl (fun _ w' hw' h => h w' hw') _ _ _ _ ⟨1, rfl⟩ ?_))
  have := wpAnyQIn_lex (F := Fence.wide) (n := n) (C := fun w' => ∃ n, w' = w.drewN n) (md := .any) hB.1 l 0 (Array.replicate l.toArray.size false) a (by simp) (by simpa using hB.2) h
  simpa using this
/-- No defer among operations, as a test. -/
def noDefer (l : List Oper) : Bool := l.all fun o => match o.op with | .defer _ => false | _ => true
theorem noDefer_spec {l : List Oper} (h : noDefer l = true) : ∀ (i : Nat) (o : Oper), l.toArray[i]? = some o → ∀ c, o.op ≠ Op.defer c := by
  intro i o ho c e
  have hm : o ∈ l := by
    have : l[i]? = some o := by simpa using ho
    exact List.mem_of_getElem? this
  have := List.all_eq_true.1 h o hm
  rw [e] at this
  cases this

/-- In a round: 'append(l, e)'. -/
theorem wplIn_append_e {F : Fence} {n : Nat} {T : TypeId} (hT : Tryz.prog.underlying T = some (.slice 138)) {ops : Array Oper} {rest : List Oper} {o : Oper} {a : Act} {w : World} {Q : Exit → Act → World → Prop} (hg : o.guard = none) (s x : Operand)
    (ho : o.op = .call { callee := .builtin .append, args := #[s, x], argTypes := #[T, T] }) (v : Value) (B : Nat) (hs : a.eval s = v) (hx : a.eval x = .slice (some ⟨B, 0, none⟩) 1 1)
    (L : List EntryM) (e : EntryM) (h : ERow w v L) (hl : L.length ≤ 100000) (hB : EAt w B 0 e)
    (k : ∀ v' w', ERow w' v' (L ++ [e]) → Upd (fun k => v.ownBlock = some k) w w' → (v'.ownBlock = v.ownBlock ∨ v'.ownBlock = some w.heap.size) → wpListIn F n Tryz.prog ops Q rest (a.put o.dst v') w') :
    wpListIn F n Tryz.prog ops Q (o :: rest) a w := by
  obtain ⟨v', w', hrun, h1, h2, h3⟩ := run_append_eT hT h hl hB o.type
  refine wpListIn_plain hg fun K hK => ?_
  unfold Oper.wpIn
  refine ⟨?_, ?_⟩
  · simp [Oper.about, ho, resolve, Target.leads, Sem.run_pure]
  · rw [Oper.semAt_plain F _ _ (by rw [ho]; intro c hc'; cases hc')]
    simp [execOp, ho, resolve, invoke, builtin, hs, hx, hrun, Result.andThen]
    exact hK _ _ (k v' w' h1 h2 h3)

end U
end Go.Proofs.YtnhplapcdgnaaaaGreat
