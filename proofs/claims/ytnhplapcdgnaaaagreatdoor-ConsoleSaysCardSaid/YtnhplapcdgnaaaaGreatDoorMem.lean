/- Words for memory: rows of cells, what a call may have changed. -/
import Derived.Below
import Derived.Laws.OwnMore
import Derived.Deep.Draws
import Derived.Laws.Rows
import Derived.Deep.MidRow
import Derived.StillTailTactics
import Derived.Deep.QuietTactic
import Derived.BigQuiet
import Derived.Deep.RegionLaw
set_option linter.unusedVariables false
set_option linter.unusedSimpArgs false
namespace Go.Proofs.YtnhplapcdgnaaaaGreatDoor
open Go.RowKit
namespace U

structure LeafM where
  there : Bool
  write : Bool
  frame : Int
deriving DecidableEq
def LeafM.none : LeafM := ⟨false, false, 0⟩

/-- Block g is a row of N cells of element type t, none frozen; cell i holds c i. -/
def Row (w : World) (g : Nat) (t : TypeId) (N : Nat) (c : Nat → Value) : Prop :=
  ∃ C : Array Value, w.heap[g]? = some (.cells C t (0, 0)) ∧ C.size = N ∧ ∀ i, i < N → C[i]? = some (c i)

def upd (c : Nat → Value) (i : Nat) (v : Value) : Nat → Value := fun j => if j = i then v else c j
def updL (c : Nat → Value) (o : Nat) (vs : List Value) : Nat → Value := fun j => if o ≤ j ∧ j < o + vs.length then vs.getD (j - o) undef else c j
def seg (c : Nat → Value) (o n : Nat) : List Value := (List.range n).map fun k => c (o + k)

@[simp] theorem seg_length (c : Nat → Value) (o n : Nat) : (seg c o n).length = n := by simp [seg]
theorem seg_get {c : Nat → Value} {o n j : Nat} (h : j < n) : (seg c o n)[j]? = some (c (o + j)) := by simp [seg, h]
theorem seg_congr {c d : Nat → Value} {o p n : Nat} (h : ∀ j, j < n → c (o + j) = d (p + j)) : seg c o n = seg d p n := by
  apply List.ext_getElem? ; intro j
  by_cases hj : j < n
  · rw [seg_get hj, seg_get hj, h j hj]
  · rw [List.getElem?_eq_none (by simp; omega), List.getElem?_eq_none (by simp; omega)]

/-- Of the blocks that were there only those of S may have changed; the streams are as they were. -/
structure Upd (S : Nat → Prop) (w w' : World) : Prop where
  os : w'.os = w.os
  tape : w'.tape = w.tape
  output : w'.output = w.output
  size : w.heap.size ≤ w'.heap.size
  block : ∀ k, k < w.heap.size → ¬ S k → w'.heap[k]? = w.heap[k]?

section
variable {S T : Nat → Prop} {a b c w w' : World}
theorem Upd.refl (S : Nat → Prop) (w : World) : Upd S w w := ⟨rfl, rfl, rfl, Nat.le_refl _, fun _ _ _ => rfl⟩
theorem Upd.trans (h : Upd S a b) (k : Upd S b c) : Upd S a c :=
  ⟨k.os.trans h.os, k.tape.trans h.tape, k.output.trans h.output, Nat.le_trans h.size k.size, fun i hi hn => (k.block i (Nat.lt_of_lt_of_le hi h.size) hn).trans (h.block i hi hn)⟩
theorem Upd.mono (h : Upd S w w') (hs : ∀ k, k < w.heap.size → S k → T k) : Upd T w w' := ⟨h.os, h.tape, h.output, h.size, fun k hk hn => h.block k hk (fun hS => hn (hs k hk hS))⟩
theorem Upd.drewN (h : Upd S a w) (n : Nat) : Upd S a (w.drewN n) := ⟨h.os, h.tape, h.output, h.size, h.block⟩
theorem Upd.drew (h : Upd S a w) : Upd S a w.drew := ⟨h.os, h.tape, h.output, h.size, h.block⟩
theorem Upd.alloc (h : Upd S a w) (o : Obj) : Upd S a (w.alloc o) :=
  h.trans ⟨rfl, rfl, rfl, by simp, fun k hk _ => Below.heap_alloc _ _ _ hk⟩
theorem Upd.setCell (h : Upd S a w) {p : Addr} (hp : p.block < a.heap.size → S p.block) (u : Value) : Upd S a (w.setCell p u) :=
  ⟨h.os, h.tape, h.output, by simpa [World.setCell] using h.size, fun k hk hn => by
    by_cases hkp : k = p.block
    · subst hkp; exact absurd (hp hk) hn
    · exact (Below.heap_setCell _ _ _ _ hkp).trans (h.block k hk hn)⟩
theorem Upd.setCells {g : Nat} (hp : g < a.heap.size → S g) : ∀ (vs : List Value) (o : Nat) (w : World), Upd S a w → Upd S a (w.setCells g o vs)
  | [], _, _, h => h
  | v :: r, o, w, h => by
    rw [World.setCells]
    exact Upd.setCells hp r (o + 1) _ (h.setCell (p := ⟨g, o, none⟩) hp v)
theorem Upd.below {B : Nat} (h : Upd S w w') (hB : ∀ k, k < B → k < w.heap.size ∧ ¬ S k) : Below B w w' :=
  ⟨h.os, h.tape, h.output, h.size, fun k hk => h.block k (hB k hk).1 (hB k hk).2⟩
theorem Upd.cell (h : Upd S w w') {p : Addr} {v : Value} (hc : w.cell? p = some v) (hS : ¬ S p.block) : w'.cell? p = some v := by
  rw [← hc]; exact World.cell?_of_block (h.block p.block (block_lt_of_cell hc) hS)
end

section
variable {w w' : World} {g t N : Nat} {c d : Nat → Value}
theorem heap_lt {w : World} {g : Nat} {o : Obj} (h : w.heap[g]? = some o) : g < w.heap.size := by
  rcases Nat.lt_or_ge g w.heap.size with hlt | hge
  · exact hlt
  · rw [Array.getElem?_eq_none hge] at h; cases h
theorem Row.lt (h : Row w g t N c) : g < w.heap.size := by
  obtain ⟨C, h1, _⟩ := h
  exact heap_lt h1
theorem Row.cell (h : Row w g t N c) {i : Nat} (hi : i < N) : w.cell? ⟨g, i, none⟩ = some (c i) := by
  obtain ⟨C, h1, _, h3⟩ := h
  rw [cell_of_row w g i C t (0, 0) h1]; exact h3 i hi
theorem Row.frozen (h : Row w g t N c) (i : Nat) : w.frozen? ⟨g, i, none⟩ = false := by
  obtain ⟨C, h1, _⟩ := h
  simp [World.frozen?, h1]
theorem Row.congr (h : Row w g t N c) (e : ∀ i, i < N → c i = d i) : Row w g t N d := by
  obtain ⟨C, h1, h2, h3⟩ := h
  exact ⟨C, h1, h2, fun i hi => by rw [h3 i hi, e i hi]⟩
theorem Row.drewN (h : Row w g t N c) (n : Nat) : Row (w.drewN n) g t N c := h
theorem Row.drew (h : Row w g t N c) : Row w.drew g t N c := h
theorem Row.keep (h : Row w g t N c) (e : w'.heap[g]? = w.heap[g]?) : Row w' g t N c := by
  obtain ⟨C, h1, h2⟩ := h
  exact ⟨C, e.trans h1, h2⟩
theorem Row.alloc (h : Row w g t N c) (o : Obj) : Row (w.alloc o) g t N c := h.keep (Below.heap_alloc w o g h.lt)
theorem Row.set_ (h : Row w g t N c) {i : Nat} (v : Value) : Row (w.setCell ⟨g, i, none⟩ v) g t N (upd c i v) := by
  obtain ⟨C, h1, h2, h3⟩ := h
  refine ⟨C.setIfInBounds i v, heap_setCell_same w g i C t v h1, by simpa using h2, fun j hj => ?_⟩
  unfold upd
  by_cases hji : j = i
  · subst hji; simp [h2, hj]
  · rw [Array.getElem?_setIfInBounds_ne (Ne.symm hji), if_neg hji]; exact h3 j hj
theorem Row.far (h : Row w g t N c) {p : Addr} (hp : g ≠ p.block) (u : Value) : Row (w.setCell p u) g t N c := h.keep (Below.heap_setCell w p u g hp)
theorem heap_setCells (g k : Nat) (hk : k ≠ g) : ∀ (vs : List Value) (o : Nat) (w : World), (w.setCells g o vs).heap[k]? = w.heap[k]?
  | [], _, _ => rfl
  | v :: r, o, w => by rw [World.setCells, heap_setCells g k hk r (o + 1) _]; exact Below.heap_setCell w ⟨g, o, none⟩ v k hk
theorem Row.farCells (h : Row w g t N c) {g' : Nat} (hp : g ≠ g') (o : Nat) (vs : List Value) : Row (w.setCells g' o vs) g t N c := h.keep (heap_setCells g' g hp vs o w)
theorem Row.setCells : ∀ (vs : List Value) (o : Nat) (w : World) (c : Nat → Value), Row w g t N c → Row (w.setCells g o vs) g t N (updL c o vs)
  | [], o, w, c, h => h.congr fun i _ => by simp [updL]; omega
  | v :: r, o, w, c, h => by
    rw [World.setCells]
    refine (Row.setCells r (o + 1) _ _ (h.set_ (i := o) v)).congr fun i _ => ?_
    unfold updL upd
    by_cases h1 : o + 1 ≤ i ∧ i < o + 1 + r.length
    · rw [if_pos h1, if_pos (by simp; omega)]
      obtain ⟨q, rfl⟩ : ∃ q, i = o + 1 + q := ⟨i - (o + 1), by omega⟩
      rw [show o + 1 + q - (o + 1) = q from by omega, show o + 1 + q - o = q + 1 from by omega]
      simp
    · rw [if_neg h1]
      by_cases h2 : i = o
      · subst h2; simp
      · rw [if_neg h2, if_neg (by simp; omega)]
theorem Row.range (h : Row w g t N c) {o n : Nat} (hn : o + n ≤ N) : w.rangeAt g o (seg c o n) := fun j v hv => by
  have hj : j < n := by have := (List.getElem?_eq_some_iff.1 hv).1; simpa using this
  rw [seg_get hj] at hv
  rw [← hv]; exact h.cell (by omega)
theorem Row.there (h : Row w g t N c) {o n : Nat} (hn : o + n ≤ N) : w.there g o n := fun j hj => ⟨by rw [h.cell (by omega)]; rfl, h.frozen _⟩
theorem Row.upd_ {S : Nat → Prop} (h : Row w g t N c) (hu : Upd S w w') (hn : ¬ S g) : Row w' g t N c := h.keep (hu.block g h.lt hn)
theorem Row.ne_ {g' t' N' : Nat} (h : Row w g t N c) (h' : Row w g' t' N' d) (hne : t ≠ t') : g ≠ g' := by
  rintro rfl
  obtain ⟨C, h1, _⟩ := h
  obtain ⟨C', h1', _⟩ := h'
  rw [h1] at h1'
  injection h1' with h'
  injection h' with _ ht
  exact hne ht
theorem Row.new (w : World) (t : TypeId) (C : Array Value) : Row (w.alloc (.cells C t)) w.heap.size t C.size (fun i => C.getD i undef) :=
  ⟨C, heap_alloc_new w _, rfl, fun i hi => by simp [hi]⟩
end

/-- A row's cells read as an aggregate. -/
theorem load_row {P : Program} {w : World} {g t N : Nat} {c : Nat → Value} (h : Row w g t N c) (ty : TypeId) (o n : Nat) (d : TypeDesc) (hn : o + n ≤ N)
    (hu : P.underlying ty = some d) (hd : d.isRow = true) (hi : (P.info? ty).map (·.size) = some n) :
    (Instr.loadAt ty (.pointer (some ⟨g, o, none⟩))).run P w = .ok (.agg (seg c o n).toArray) w :=
  run_loadAt_mid w g o ty _ d (h.range hn) hu hd (by simpa using hi)
theorem store_row {P : Program} {w : World} {g t N : Nat} {c : Nat → Value} (h : Row w g t N c) (ty : TypeId) (o : Nat) (vs : List Value) (hn : o + vs.length ≤ N)
    (hi : (P.info? ty).map (·.size) = some vs.length) (h1 : ∀ v ∈ vs, v.oneCell' = true) :
    (Instr.storeAt ty (.pointer (some ⟨g, o, none⟩)) (.agg vs.toArray)).run P w = .ok () (w.setCells g o vs) := by
  have := run_storeAt_mid (P := P) w g o ty vs.toArray (by simpa using h.there hn) (by simpa using hi) (all_oneCell_toArray h1)
  simpa using this

/-- Inside a region that only reads: an aggregate is read by a known equation. -/
theorem still_load {P : Program} {ops : Array Oper} {rest : List Oper} {o : Oper} {a : Act} {w : World} {Q : Act → Prop} (hg : o.guard = none) (ty : TypeId) (x : Operand) (ho : o.op = .load ty x)
    (p v : Value) (hx : a.eval x = p) (hl : (Instr.loadAt ty p).run P w = .ok v w) (h : wpStill P ops w Q rest (a.put o.dst v)) : wpStill P ops w Q (o :: rest) a := by
  refine wpStill_step fun K hK => ?_
  have hw : Region.wanted o (yielded ops a.tmps) = true := by simp [Region.wanted, hg]
  rw [if_pos hw]
  unfold Oper.still execOp
  simp only [ho, hx, Sem.run_bind, hl, Result.andThen_ok, Sem.run_pure, Oper.stillUpon_value]
  exact hK _ h
/-- At the list of a region's operations: an aggregate is read, stored by a known equation. -/
theorem wpl_load {P : Program} {ops : Array Oper} {rest : List Oper} {o : Oper} {a : Act} {w : World} {Q : Exit → Act → World → Prop} (hg : o.guard = none) (ty : TypeId) (x : Operand) (ho : o.op = .load ty x)
    (p v : Value) (hx : a.eval x = p) (hl : (Instr.loadAt ty p).run P w = .ok v w) (h : wpList P ops Q rest (a.put o.dst v) w) : wpList P ops Q (o :: rest) a w := by
  refine wpList_plain hg fun K hK => ?_
  unfold Oper.wp execOp
  simp only [ho, hx, Sem.run_bind, hl, Result.andThen_ok, Sem.run_pure, Oper.upon_value]
  exact hK _ _ h
theorem wpl_store {P : Program} {ops : Array Oper} {rest : List Oper} {o : Oper} {a : Act} {w w' : World} {Q : Exit → Act → World → Prop} (hg : o.guard = none) (ty : TypeId) (x y : Operand) (ho : o.op = .store ty x y)
    (p v : Value) (hx : a.eval x = p) (hy : a.eval y = v) (hl : (Instr.storeAt ty p v).run P w = .ok () w') (h : wpList P ops Q rest (a.put o.dst undef) w') : wpList P ops Q (o :: rest) a w := by
  refine wpList_plain hg fun K hK => ?_
  unfold Oper.wp execOp
  simp only [ho, hx, hy, Sem.run_bind, hl, Result.andThen_ok, Sem.run_pure, Oper.upon_skip]
  exact hK _ _ h

/-- In a region whose operations only read (in whatever order): an aggregate is read by a known equation. -/
theorem quiet_load {P : Program} {o : Oper} {a : Act} {C : World → Prop} {K : Act → Prop} (ty : TypeId) (x : Operand) (ho : o.op = .load ty x)
    (p v : Value) (hx : a.eval x = p) (hl : ∀ w, C w → (Instr.loadAt ty p).run P w = .ok v w) (hk : K (a.put o.dst v)) : o.quiet P a C K :=
  ⟨v, fun w hC => by
    unfold Oper.quietAt execOp
    simp [ho, hx, Sem.run_bind, hl w hC, Result.andThen_ok, Sem.run_pure, Oper.quietUpon], hk⟩
/-- A callee that leaves the world alone. -/
theorem quiet_same {P : Program} {f : FuncId} {args : Array Value} {w : World} {n : Nat} {v : Value}
    (h : Calls P f args (w.drewN n) fun e w' => e = .returned v ∧ w.drewN n = w') : Calls P f args (w.drewN n) fun e w'' => e = .returned v ∧ ∃ m, w'' = w.drewN m :=
  h.mono fun _ _ ⟨he, hm⟩ => ⟨he, n, hm.symm⟩

/-- In a region that draws (go_region_law): an append by a known equation. -/
theorem step_append_eq {P : Program} {ops : Array Oper} {o : Oper} {a : Act} {w w' : World} {K : Act → World → Prop} {Q : Exit → Act → World → Prop} {E : Prop}
    (hg : o.guard = none) (s x : Operand) (t : TypeId) (hop : o.op = Op.call { callee := Callee.builtin Builtin.append, args := #[s, x], argTypes := #[t, t] })
    (v1 v2 v : Value) (hs : a.eval s = v1) (hx : a.eval x = v2) (hrun : (Builtin.append_ #[t, t] o.type #[v1, v2]).run P w = .ok v w') (hK : K (a.put o.dst v) w') :
    if Region.wanted o (yielded ops a.tmps) = true then Oper.wp P o a w K Q else E := by
  have hw : Region.wanted o (yielded ops a.tmps) = true := by simp [Region.wanted, hg]
  rw [if_pos hw]
  unfold Oper.wp
  simp [execOp, hop, resolve, invoke, builtin, hs, hx, hrun, Result.andThen]
  exact hK

/-- One block. -/
def at1 (m : Nat) : Nat → Prop := fun k => k = m
theorem at1_self {m : Nat} : at1 m m := rfl
/-- Nothing that was there has changed. -/
def Non : Nat → Prop := fun _ => False
theorem Upd.cells {w w' : World} (h : Upd Non w w') : (∀ b o, b < w.heap.size → w'.cell? ⟨b, o, none⟩ = w.cell? ⟨b, o, none⟩) ∧ (∀ b o, b < w.heap.size → w'.frozen? ⟨b, o, none⟩ = w.frozen? ⟨b, o, none⟩) :=
  ⟨fun b o hb => World.cell?_of_block (h.block b hb (fun h => h)), fun b o hb => World.frozen?_of_block (h.block b hb (fun h => h))⟩
theorem Upd.over {S : Nat → Prop} {w0 w w' : World} (h : Upd Non w0 w) (k : Upd S w w') (hs : ∀ i, S i → w0.heap.size ≤ i) : Upd Non w0 w' :=
  ⟨k.os.trans h.os, k.tape.trans h.tape, k.output.trans h.output, Nat.le_trans h.size k.size,
   fun i hi _ => (k.block i (Nat.lt_of_lt_of_le hi h.size) (fun hS => absurd (hs i hS) (by omega))).trans (h.block i hi (fun h => h))⟩
theorem Upd.over' {S T : Nat → Prop} {a b c : World} (h : Upd S a b) (k : Upd T b c) (hs : ∀ i, T i → S i ∨ a.heap.size ≤ i) : Upd S a c :=
  ⟨k.os.trans h.os, k.tape.trans h.tape, k.output.trans h.output, Nat.le_trans h.size k.size,
   fun i hi hn => (k.block i (Nat.lt_of_lt_of_le hi h.size) (fun hT => (hs i hT).elim hn (fun h => absurd h (by omega)))).trans (h.block i hi hn)⟩
theorem Upd.of_drawn {S : Nat → Prop} {w w' : World} (h : ∃ n, w' = w.drewN n) : Upd S w w' := by
  obtain ⟨n, rfl⟩ := h
  exact (Upd.refl S w).drewN n

theorem Upd.sc3 {S : Nat → Prop} {a w : World} {g : Nat} (u : Upd S a w) (hg : S g) (i j q : Nat) (x y z : Value) : Upd S a (((w.setCell ⟨g, i, none⟩ x).setCell ⟨g, j, none⟩ y).setCell ⟨g, q, none⟩ z) :=
  ((u.setCell (p := ⟨g, i, none⟩) (fun _ => hg) x).setCell (p := ⟨g, j, none⟩) (fun _ => hg) y).setCell (p := ⟨g, q, none⟩) (fun _ => hg) z

end U
end Go.Proofs.YtnhplapcdgnaaaaGreatDoor
