import Derived.Test.YtnhplapcdgnaaaaGreatDoorPoolX
import Derived.ArgAppend
import Derived.Deep.AppendLies
import Derived.Lib.Hide
import Derived.OwnWalk
set_option linter.unusedVariables false
set_option linter.unusedSimpArgs false
namespace Go.Proofs.YtnhplapcdgnaaaaGreatDoor
open Go.RowKit
namespace U

structure EntryM where
  root : Int
  page : Int
  to : Int
  may : Bool
  leaf : LeafM
deriving DecidableEq
def EntryM.cells (e : EntryM) : List Value := [.int .i64 e.root, .int .i64 e.page, .int .i64 e.to, .bool e.may, .bool e.leaf.there, .bool e.leaf.write, .int .i64 e.leaf.frame]
def EntryM.val (e : EntryM) : Value := .agg e.cells.toArray

/-- Entry e lies in block g from offset o on. -/
structure EAt (w : World) (g o : Nat) (e : EntryM) : Prop where
  c0 : w.cell? ⟨g, o, none⟩ = some (.int .i64 e.root)
  c1 : w.cell? ⟨g, o + 1, none⟩ = some (.int .i64 e.page)
  c2 : w.cell? ⟨g, o + 2, none⟩ = some (.int .i64 e.to)
  c3 : w.cell? ⟨g, o + 3, none⟩ = some (.bool e.may)
  c4 : w.cell? ⟨g, o + 4, none⟩ = some (.bool e.leaf.there)
  c5 : w.cell? ⟨g, o + 5, none⟩ = some (.bool e.leaf.write)
  c6 : w.cell? ⟨g, o + 6, none⟩ = some (.int .i64 e.leaf.frame)

/-- A slice of entries, in a block of entries that nothing else lies in. -/
def ERow (w : World) (v : Value) (L : List EntryM) : Prop :=
  (v = .slice none 0 0 ∧ L = []) ∨
  ∃ g o cap C, v = .slice (some ⟨g, o, none⟩) L.length cap ∧ L.length ≤ cap ∧ cap ≤ maxLen ∧ w.heap[g]? = some (.cells C 144 (0, 0)) ∧ o + cap * 7 ≤ C.size ∧ ∀ i e, L[i]? = some e → EAt w g (o + i * 7) e

section
variable {w w' : World} {g o : Nat} {v : Value} {L : List EntryM} {e : EntryM} {S : Nat → Prop}
theorem EAt.keep (h : EAt w g o e) (k : w'.heap[g]? = w.heap[g]?) : EAt w' g o e := by
  have c : ∀ i, w'.cell? ⟨g, i, none⟩ = w.cell? ⟨g, i, none⟩ := fun i => World.cell?_of_block (a := ⟨g, i, none⟩) k
  exact ⟨(c _).trans h.c0, (c _).trans h.c1, (c _).trans h.c2, (c _).trans h.c3, (c _).trans h.c4, (c _).trans h.c5, (c _).trans h.c6⟩
theorem EAt.get (h : EAt w g o e) {j : Nat} {u : Value} (hu : e.cells[j]? = some u) : w.cell? ⟨g, o + j, none⟩ = some u := by
  match j, hu with
  | 0, hu => cases hu; exact h.c0
  | 1, hu => cases hu; exact h.c1
  | 2, hu => cases hu; exact h.c2
  | 3, hu => cases hu; exact h.c3
  | 4, hu => cases hu; exact h.c4
  | 5, hu => cases hu; exact h.c5
  | 6, hu => cases hu; exact h.c6
  | n + 7, hu => simp [EntryM.cells] at hu
theorem EAt.mk' (h : ∀ j u, e.cells[j]? = some u → w.cell? ⟨g, o + j, none⟩ = some u) : EAt w g o e :=
  ⟨h 0 _ rfl, h 1 _ rfl, h 2 _ rfl, h 3 _ rfl, h 4 _ rfl, h 5 _ rfl, h 6 _ rfl⟩
theorem ERow.nil : ERow w (.slice none 0 0) [] := .inl ⟨rfl, rfl⟩
theorem ERow.keep (h : ERow w v L) (k : ∀ g, v.ownBlock = some g → w'.heap[g]? = w.heap[g]?) : ERow w' v L := by
  rcases h with h | ⟨g, o, cap, C, rfl, h1, h2, h3, h4, h5⟩
  · exact .inl h
  · have := k g rfl
    exact .inr ⟨g, o, cap, C, rfl, h1, h2, this.trans h3, h4, fun i e hi => (h5 i e hi).keep this⟩
theorem ERow.lt (h : ERow w v L) {g : Nat} (hg : v.ownBlock = some g) : g < w.heap.size := by
  rcases h with ⟨rfl, _⟩ | ⟨g', o, cap, C, rfl, h1, h2, h3, h4, h5⟩
  · cases hg
  · have : g' = g := by simpa [Value.ownBlock] using hg
    subst this; exact heap_lt h3
theorem ERow.drewN (h : ERow w v L) (n : Nat) : ERow (w.drewN n) v L := h.keep fun _ _ => rfl
theorem ERow.drew (h : ERow w v L) : ERow w.drew v L := h.keep fun _ _ => rfl
theorem ERow.alloc (h : ERow w v L) (ob : Obj) : ERow (w.alloc ob) v L := h.keep fun g hg => Below.heap_alloc w ob g (h.lt hg)
theorem ERow.upd_ (h : ERow w v L) (u : Upd S w w') (hS : ∀ g, v.ownBlock = some g → ¬ S g) : ERow w' v L := h.keep fun g hg => u.block g (h.lt hg) (hS g hg)
/-- The length, whatever it is. -/
theorem ERow.form (h : ERow w v L) : ∃ A cap, v = .slice A L.length cap := by
  rcases h with ⟨rfl, rfl⟩ | ⟨g, o, cap, C, rfl, _⟩
  · exact ⟨_, _, rfl⟩
  · exact ⟨_, _, rfl⟩
theorem ERow.at_ (h : ERow w v L) {i : Nat} (hi : i < L.length) : ∃ g o cap, v = .slice (some ⟨g, o, none⟩) L.length cap ∧ g < w.heap.size ∧ EAt w g (o + i * 7) L[i] := by
  rcases h with ⟨rfl, rfl⟩ | ⟨g, o, cap, C, rfl, h1, h2, h3, h4, h5⟩
  · simp at hi
  · exact ⟨g, o, cap, rfl, heap_lt h3, h5 i _ (List.getElem?_eq_getElem hi)⟩
end

theorem infoEnt : (Tryz.prog.info? 144).map (fun i => (i.zero, i.size, i.bytes)) = some (some (.agg #[.int .i64 0, .int .i64 0, .int .i64 0, .bool false, .bool false, .bool false, .int .i64 0]), 7, 48) := by kernel_rfl

/-- Entries as cells. -/
def flat (L : List EntryM) : List Value := L.flatMap EntryM.cells
theorem cells_length (e : EntryM) : e.cells.length = 7 := rfl
theorem flat_length (L : List EntryM) : (flat L).length = L.length * 7 := by
  induction L with
  | nil => rfl
  | cons e L ih => unfold flat at *; rw [List.flatMap_cons, List.length_append, ih, cells_length, List.length_cons]; omega
theorem flat_append (L M : List EntryM) : flat (L ++ M) = flat L ++ flat M := by simp [flat]
theorem flat_one (e : EntryM) : flat [e] = e.cells := by simp [flat]
theorem flat_get : ∀ (L : List EntryM) (i j : Nat), j < 7 → (flat L)[i * 7 + j]? = (L[i]?).bind fun e => e.cells[j]?
  | [], i, j, hj => by simp [flat]
  | e :: L, 0, j, hj => by
    unfold flat; rw [List.flatMap_cons, List.getElem?_append_left (by rw [cells_length]; omega)]; simp
  | e :: L, i + 1, j, hj => by
    unfold flat; rw [List.flatMap_cons, List.getElem?_append_right (by rw [cells_length]; omega), cells_length, show (i + 1) * 7 + j - 7 = i * 7 + j by omega]
    exact flat_get L i j hj
theorem flat_cell {w : World} {g o : Nat} {L : List EntryM} (h : ∀ i e, L[i]? = some e → EAt w g (o + i * 7) e) : ∀ j u, (flat L)[j]? = some u → w.cell? ⟨g, o + j, none⟩ = some u := fun j u hu => by
  have e1 : j = j / 7 * 7 + j % 7 := by omega
  rw [e1, flat_get L _ _ (Nat.mod_lt _ (by omega))] at hu
  cases hL : L[j / 7]? with
  | none => rw [hL] at hu; cases hu
  | some e =>
    rw [hL] at hu
    have := (h _ _ hL).get hu
    rw [Nat.add_assoc, ← e1] at this
    exact this
theorem flat_one_cell (L : List EntryM) : ∀ u ∈ flat L, u.oneCell' = true := by
  intro u hu
  simp only [flat, List.mem_flatMap, EntryM.cells] at hu
  obtain ⟨e, _, hu⟩ := hu
  simp only [List.mem_cons, List.not_mem_nil, or_false] at hu
  rcases hu with rfl | rfl | rfl | rfl | rfl | rfl | rfl <;> rfl
/-- A new block whose first cells are entries. -/
theorem ERow.fresh {w : World} {g : Nat} {L : List EntryM} {cap : Nat} {C : Array Value} (h : w.heap[g]? = some (.cells C 144 (0, 0))) (hc : L.length ≤ cap) (hm : cap ≤ maxLen) (hs : cap * 7 ≤ C.size)
    (hp : ∀ (j : Nat) (u : Value), (flat L)[j]? = some u → C[j]? = some u) : ERow w (.slice (some ⟨g, 0, none⟩) L.length cap) L :=
  .inr ⟨g, 0, cap, C, rfl, hc, hm, h, by omega, fun i e hi => EAt.mk' fun j u hu => by
    have hj : j < 7 := by have := (List.getElem?_eq_some_iff.1 hu).1; rwa [cells_length] at this
    rw [cell_of_row _ g _ _ _ (0, 0) h]
    refine hp _ _ ?_
    rw [show 0 + i * 7 + j = i * 7 + j by omega, flat_get L i j hj, hi]
    exact hu⟩

/-- 'append(l, e)', e in a block of its own. -/
theorem run_append_eT {T : TypeId} (hT : Tryz.prog.underlying T = some (.slice 144)) {w : World} {v : Value} {L : List EntryM} (h : ERow w v L) (hl : L.length ≤ 100000) {B : Nat} {e : EntryM} (hB : EAt w B 0 e) (ty : TypeId) : ∃ v' w',
    (Builtin.append_ #[T, T] ty #[v, .slice (some ⟨B, 0, none⟩) 1 1]).run Tryz.prog w = .ok v' w' ∧ ERow w' v' (L ++ [e]) ∧ Upd (fun k => v.ownBlock = some k) w w' ∧
      (v'.ownBlock = v.ownBlock ∨ v'.ownBlock = some w.heap.size) := by
  obtain ⟨i0, hi, hz0, hz1, hz2⟩ := info_parts infoEnt
  have news : ∀ j u, (flat [e])[j]? = some u → w.cell? ((⟨B, 0, none⟩ : Addr).add j) = some u := fun j u hu => by
    rw [Addr.add_mid]
    rw [flat_one] at hu
    have := hB.get hu
    rwa [Nat.zero_add] at this ⊢
  have nl : (flat [e]).length = 1 * i0.size := by rw [flat_length, hz1]; rfl
  have hnl : (L ++ [e]).length = L.length + 1 := by simp
  have take : ∀ (C : Array Value) (X : Array Value), C = (flat L).toArray ++ (flat [e]).toArray ++ X → ∀ j u, (flat (L ++ [e]))[j]? = some u → C[j]? = some u := fun C X hC j u hu => by
    have hj : j < ((flat L).toArray ++ (flat [e]).toArray).size := by
      have := (List.getElem?_eq_some_iff.1 hu).1
      rw [flat_append] at this
      simpa using this
    rw [hC, Array.getElem?_append_left hj]
    rw [flat_append] at hu
    simpa using hu
  rcases h with ⟨rfl, rfl⟩ | ⟨g, o, cap, C, rfl, h1, h2, h3, h4, h5⟩
  · have hr := run_append_nil (P := Tryz.prog) w T ty 144 i0 _ hT hi hz0 ⟨B, 0, none⟩ 1 1 (flat [e]) nl news (by omega) (by omega) (by rw [hz2]; omega)
    refine ⟨_, _, hr, ?_, ((Upd.refl _ _).drew).alloc _, .inr rfl⟩
    have hc := grownCap_ge w 1 0 144
    refine ERow.fresh (L := [e]) (heap_alloc_new w.drew _) hc (grownCap_le_maxLen w 1 0 _ (by unfold maxLen; omega)) ?_ (fun j u hu => ?_)
    · rw [Array.size_append, size_zeroCells, List.size_toArray, flat_length]; simp [Value.cells]; omega
    · rw [Array.getElem?_append_left (by have := (List.getElem?_eq_some_iff.1 hu).1; simpa using this)]; simpa using hu
  · by_cases hroom : L.length + 1 ≤ cap
    · have hr := run_append_room_cells (P := Tryz.prog) w T ty 144 i0 hT hi g o L.length cap ⟨B, 0, none⟩ 1 1 (flat [e]) nl news (flat_one_cell _) hroom
        (fun j hj => by rw [flat_length] at hj; simp at hj; rw [hz1, cell_of_row w g _ C _ (0, 0) h3, Array.getElem?_eq_getElem (by omega)]; rfl)
        (fun j hj => by simp [World.frozen?, h3])
      rw [hz1] at hr
      refine ⟨_, _, hr, ?_, Upd.setCells (S := fun k => (Value.slice (some ⟨g, o, none⟩) L.length cap).ownBlock = some k) (fun _ => rfl) _ _ _ (Upd.refl _ _), .inl rfl⟩
      have hrow : Row w g 144 C.size (fun i => C.getD i undef) := ⟨C, h3, rfl, fun i hi => by simp [hi]⟩
      have hrow2 := Row.setCells (flat [e]) (o + L.length * 7) w _ hrow
      obtain ⟨C2, k1, k2, k3⟩ := hrow2
      refine .inr ⟨g, o, cap, C2, by rw [hnl], by rw [hnl]; exact hroom, h2, k1, by omega, fun i x hx => EAt.mk' fun j u hu => ?_⟩
      have hj : j < 7 := by have := (List.getElem?_eq_some_iff.1 hu).1; rwa [cells_length] at this
      have hil : i < L.length + 1 := by have := (List.getElem?_eq_some_iff.1 hx).1; rwa [hnl] at this
      rw [cell_of_row _ g _ C2 _ (0, 0) k1, k3 _ (by omega)]
      unfold updL
      rw [flat_length]
      by_cases hlt : i < L.length
      · rw [if_neg (by simp; omega)]
        rw [List.getElem?_append_left hlt] at hx
        have := (h5 i x hx).get hu
        rw [cell_of_row w g _ C _ (0, 0) h3] at this
        simp [Array.getD_eq_getD_getElem?, this]
      · obtain rfl : i = L.length := by omega
        rw [if_pos (by simp; omega)]
        rw [List.getElem?_append_right (Nat.le_refl _), Nat.sub_self] at hx
        simp at hx
        subst hx
        rw [show o + L.length * 7 + j - (o + L.length * 7) = j by omega, flat_one]
        simp [List.getD, hu]
    · have hr := run_append_grow (P := Tryz.prog) w T ty 144 i0 _ hT hi hz0 ⟨g, o, none⟩ L.length cap (flat L) (by rw [flat_length, hz1])
        (fun j u hu => by rw [Addr.add_mid]; exact flat_cell h5 j u hu) ⟨B, 0, none⟩ 1 1 (flat [e]) nl news (by omega) (by omega) (growslice_fits (by omega) (by rw [hz2]; omega))
      refine ⟨_, _, hr, ?_, ((Upd.refl _ _).drew).alloc _, .inr rfl⟩
      have hc := grownCap_ge w (L.length + 1) cap 144
      have hcm := grownCap_le_maxLen w (L.length + 1) cap 144 (by unfold maxLen; omega)
      have := ERow.fresh (L := L ++ [e]) (heap_alloc_new w.drew (.cells ((flat L).toArray ++ (flat [e]).toArray ++ Builtin.zeroCells (Value.cells (.agg #[.int .i64 0, .int .i64 0, .int .i64 0, .bool false, .bool false, .bool false, .int .i64 0])) (grownCap w (L.length + 1) cap 144 - (L.length + 1))) 144))
        (cap := grownCap w (L.length + 1) cap 144) (by rw [hnl]; exact hc) hcm
        (by rw [Array.size_append, Array.size_append, size_zeroCells, List.size_toArray, List.size_toArray, flat_length, flat_length]; simp [Value.cells]; omega) (take _ _ rfl)
      rw [hnl] at this
      exact this

theorem run_append_e {w : World} {v : Value} {L : List EntryM} (h : ERow w v L) (hl : L.length ≤ 100000) {B : Nat} {e : EntryM} (hB : EAt w B 0 e) (ty : TypeId) : ∃ v' w',
    (Builtin.append_ #[92, 92] ty #[v, .slice (some ⟨B, 0, none⟩) 1 1]).run Tryz.prog w = .ok v' w' ∧ ERow w' v' (L ++ [e]) ∧ Upd (fun k => v.ownBlock = some k) w w' ∧
      (v'.ownBlock = v.ownBlock ∨ v'.ownBlock = some w.heap.size) := run_append_eT Tryz.underlying92 h hl hB ty

/-- 'append([]Entry(nil), l...)'. -/
theorem run_append_all {w : World} {v : Value} {L : List EntryM} (h : ERow w v L) (hl : L.length ≤ 100000) (ty : TypeId) : ∃ v' w',
    (Builtin.append_ #[92, 92] ty #[.slice none 0 0, v]).run Tryz.prog w = .ok v' w' ∧ ERow w' v' L ∧ Upd Non w w' ∧ (∀ g, v'.ownBlock = some g → w.heap.size ≤ g) := by
  obtain ⟨i0, hi, hz0, hz1, hz2⟩ := info_parts infoEnt
  rcases h with ⟨rfl, rfl⟩ | ⟨g, o, cap, C, rfl, h1, h2, h3, h4, h5⟩
  · refine ⟨.slice none 0 0, w, ?_, ERow.nil, Upd.refl _ _, fun g hg => by cases hg⟩
    simp [Builtin.append_, run_underlying Tryz.underlying92, sizeOf, typeInfo, hi, Builtin.lenOf, Builtin.firstCells]
  · by_cases h0 : L.length = 0
    · have : L = [] := List.eq_nil_of_length_eq_zero h0
      subst this
      refine ⟨.slice none 0 0, w, ?_, ERow.nil, Upd.refl _ _, fun g hg => by cases hg⟩
      simp [Builtin.append_, run_underlying Tryz.underlying92, sizeOf, typeInfo, hi, Builtin.lenOf, Builtin.firstCells, loadCells, loadCellsFrom]
    · have hr := run_append_nil (P := Tryz.prog) w 92 ty 144 i0 _ Tryz.underlying92 hi hz0 ⟨g, o, none⟩ L.length cap (flat L) (by rw [flat_length, hz1])
        (fun j u hu => by rw [Addr.add_mid]; exact flat_cell h5 j u hu) (by omega) (by omega) (by rw [hz2]; omega)
      refine ⟨_, _, hr, ?_, ((Upd.refl _ _).drew).alloc _, fun g hg => by simp [Value.ownBlock] at hg; omega⟩
      have hc := grownCap_ge w L.length 0 144
      refine ERow.fresh (heap_alloc_new w.drew _) hc (grownCap_le_maxLen w _ 0 _ (by unfold maxLen; omega)) ?_ (fun j u hu => ?_)
      · rw [Array.size_append, size_zeroCells, List.size_toArray, flat_length]; simp [Value.cells]; omega
      · rw [Array.getElem?_append_left (by have := (List.getElem?_eq_some_iff.1 hu).1; simpa using this)]; simpa using hu

/-- Which entry: its place; below 0: none. -/
def cacheAt (L : List EntryM) (r p : Int) : Option Nat := L.findIdx? fun e => e.root == r && e.page == p
def idxI (x : Option Nat) : Int := match x with | some i => i | none => -1

set_option maxRecDepth 100000 in
set_option maxHeartbeats 400000 in
theorem cat_any (w : World) (c : Nat) (v : Value) (L : List EntryM) (hc : w.cell? ⟨c, 0, none⟩ = some v) (h : ERow w v L) (hl : L.length ≤ 100) (r p : Int) :
    Calls Tryz.prog 171 #[.pointer (some ⟨c, 0, none⟩), .int .i64 r, .int .i64 p] w fun e w' => e = .returned (.int .i64 (idxI (cacheAt L r p))) ∧ Upd Non w w' := by
  obtain ⟨A, cap, rfl⟩ := h.form
  go_enter Tryz.func171, Tryz.ntmps171
  go_wp2
  go_loopw [14] (fun i wr => ∃ k : Nat, k ≤ L.length ∧ i = .int .i64 k ∧ Hid (Upd Non w wr) ∧ Hid (∀ j (hj : j < L.length), j < k → (L[j].root == r && L[j].page == p) = false)) (fun i _ => L.length - (intOf i).toNat)
  case atStart => exact ⟨0, Nat.zero_le _, rfl, Upd.refl _ _, fun j _ h => by omega⟩
  case round =>
    obtain ⟨k, hk, rfl, hU, hb⟩ := hrel
    by_cases hlt : k < L.length
    · obtain ⟨g, o, cap', hv, hg, hE⟩ := (h.upd_ hU.out (fun _ _ => (fun h => h))).at_ hlt
      obtain ⟨rfl, rfl⟩ : A = some ⟨g, o, none⟩ ∧ cap = cap' := by simpa using hv
      have heq : ∃ x, L[k] = x := ⟨_, rfl⟩
      obtain ⟨x, hx⟩ := heq
      rw [hx] at hE
      have X := Lib.hid hx
      clear hx hv
      obtain ⟨e0, e1, e2, e3, e4, e5, e6⟩ := hE
      by_cases t0 : x.root = r
      · by_cases t1 : x.page = p
        · have t0' : (x.root == r) = true := by simpa using t0
          have t1' : (x.page == p) = true := by simpa using t1
          have F : Hid (cacheAt L r p = some k) := by
            unfold cacheAt
            rw [List.findIdx?_eq_some_iff_getElem]
            refine ⟨hlt, by rw [X.out]; simp [t0, t1], fun j hj => ?_⟩
            have := hb.out j (by omega) hj
            simpa using this
          clear t0 t1
          go_wp2
          go_ret
          exact ⟨by rw [F.out]; rfl, by have := hU.out; exact Upd.alloc this _⟩
        · have t0' : (x.root == r) = true := by simpa using t0
          have t1' : (x.page == p) = false := by simpa using t1
          have hb' : Hid (∀ j (hj : j < L.length), j < k + 1 → (L[j].root == r && L[j].page == p) = false) := fun j hj hjk => by
            rcases Nat.lt_succ_iff_lt_or_eq.1 hjk with h' | rfl
            · exact hb.out j hj h'
            · rw [X.out]; simp [t1]
          clear t0 t1
          go_wp2
          go_roundw
          case rel => exact ⟨k + 1, by omega, by go_num, Upd.alloc hU.out _, hb'⟩
          case measure => simp [intOf]; omega
      · have t0' : (x.root == r) = false := by simpa using t0
        have hb' : Hid (∀ j (hj : j < L.length), j < k + 1 → (L[j].root == r && L[j].page == p) = false) := fun j hj hjk => by
          rcases Nat.lt_succ_iff_lt_or_eq.1 hjk with h' | rfl
          · exact hb.out j hj h'
          · rw [X.out]; simp [t0]
        clear t0
        go_wp2
        go_roundw
        case rel => exact ⟨k + 1, by omega, by go_num, Upd.alloc hU.out _, hb'⟩
        case measure => simp [intOf]; omega
    · have F : Hid (cacheAt L r p = none) := by
        unfold cacheAt
        rw [List.findIdx?_eq_none_iff]
        intro e he
        obtain ⟨j, hj, rfl⟩ := List.getElem_of_mem he
        exact hb.out j hj (by omega)
      go_wp2
      go_ret
      exact ⟨by rw [F.out]; rfl, hU.out⟩

/-! ### closures that tell whether an entry goes -/
theorem ebox (w : World) (e : EntryM) : EAt (w.alloc (.cells e.cells.toArray 144)) w.heap.size 0 e :=
  EAt.mk' fun j u hu => by
    rw [Nat.zero_add, cell_of_row _ w.heap.size j _ _ (0, 0) (heap_alloc_new w _)]
    simpa using hu

set_option maxRecDepth 100000 in
set_option maxHeartbeats 400000 in
theorem dropC_any (w : World) (b1 b2 : Nat) (r p : Int) (h1 : w.cell? ⟨b1, 0, none⟩ = some (.int .i64 r)) (h2 : w.cell? ⟨b2, 0, none⟩ = some (.int .i64 p)) (e : EntryM) :
    Calls Tryz.prog 154 #[.agg #[.int .i64 e.root, .int .i64 e.page, .int .i64 e.to, .bool e.may, .bool e.leaf.there, .bool e.leaf.write, .int .i64 e.leaf.frame], .pointer (some ⟨b1, 0, none⟩), .pointer (some ⟨b2, 0, none⟩)] w
      fun x w' => x = .returned (.bool (e.root == r && e.page == p)) ∧ Upd Non w w' := by
  have l1 := block_lt_of_cell h1
  have l2 := block_lt_of_cell h2
  by_cases t0 : e.root = r
  · have t0' : (e.root == r) = true := by simpa using t0
    have F := Lib.hid (show (e.root == r && e.page == p) = (e.page == p) by simp [t0])
    clear t0
    go_enter Tryz.func154, Tryz.ntmps154
    go_wp2
    go_ret
    exact ⟨rfl, (Upd.refl _ _).alloc _⟩
  · have t0' : (e.root == r) = false := by simpa using t0
    have F := Lib.hid (show (e.root == r && e.page == p) = false by simp [t0])
    clear t0
    go_enter Tryz.func154, Tryz.ntmps154
    go_wp2
    go_ret
    exact ⟨rfl, (Upd.refl _ _).alloc _⟩

set_option maxRecDepth 100000 in
set_option maxHeartbeats 400000 in
theorem forgetC_any (w : World) (b1 : Nat) (r : Int) (h1 : w.cell? ⟨b1, 0, none⟩ = some (.int .i64 r)) (e : EntryM) :
    Calls Tryz.prog 155 #[.agg #[.int .i64 e.root, .int .i64 e.page, .int .i64 e.to, .bool e.may, .bool e.leaf.there, .bool e.leaf.write, .int .i64 e.leaf.frame], .pointer (some ⟨b1, 0, none⟩)] w
      fun x w' => x = .returned (.bool (e.root == r)) ∧ Upd Non w w' := by
  have l1 := block_lt_of_cell h1
  go_enter Tryz.func155, Tryz.ntmps155
  go_wp2
  go_ret
  exact ⟨rfl, (Upd.refl _ _).alloc _⟩

end U
end Go.Proofs.YtnhplapcdgnaaaaGreatDoor

set_option linter.unusedVariables false
set_option linter.unusedSimpArgs false
namespace Go.Proofs.YtnhplapcdgnaaaaGreatDoor
open Go.RowKit
namespace U

set_option maxRecDepth 100000 in
theorem wpl_append_e {ops : Array Oper} {rest : List Oper} {o : Oper} {a : Act} {w : World} {Q : Exit → Act → World → Prop} (hg : o.guard = none) (s x : Operand)
    (ho : o.op = .call { callee := .builtin .append, args := #[s, x], argTypes := #[92, 92] }) (v : Value) (B : Nat) (hs : a.eval s = v) (hx : a.eval x = .slice (some ⟨B, 0, none⟩) 1 1)
    (L : List EntryM) (e : EntryM) (h : ERow w v L) (hl : L.length ≤ 100000) (hB : EAt w B 0 e)
    (k : ∀ v' w', ERow w' v' (L ++ [e]) → Upd (fun k => v.ownBlock = some k) w w' → (v'.ownBlock = v.ownBlock ∨ v'.ownBlock = some w.heap.size) → wpList Tryz.prog ops Q rest (a.put o.dst v') w') :
    wpList Tryz.prog ops Q (o :: rest) a w := by
  obtain ⟨v', w', hrun, h1, h2, h3⟩ := run_append_e h hl hB o.type
  refine wpList_plain hg fun K hK => ?_
  unfold Oper.wp
  simp [execOp, ho, resolve, invoke, builtin, hs, hx, hrun, Result.andThen]
  exact hK _ _ (k v' w' h1 h2 h3)
set_option maxRecDepth 100000 in
theorem wpl_append_eT {T : TypeId} (hT : Tryz.prog.underlying T = some (.slice 144)) {ops : Array Oper} {rest : List Oper} {o : Oper} {a : Act} {w : World} {Q : Exit → Act → World → Prop} (hg : o.guard = none) (s x : Operand)
    (ho : o.op = .call { callee := .builtin .append, args := #[s, x], argTypes := #[T, T] }) (v : Value) (B : Nat) (hs : a.eval s = v) (hx : a.eval x = .slice (some ⟨B, 0, none⟩) 1 1)
    (L : List EntryM) (e : EntryM) (h : ERow w v L) (hl : L.length ≤ 100000) (hB : EAt w B 0 e)
    (k : ∀ v' w', ERow w' v' (L ++ [e]) → Upd (fun k => v.ownBlock = some k) w w' → (v'.ownBlock = v.ownBlock ∨ v'.ownBlock = some w.heap.size) → wpList Tryz.prog ops Q rest (a.put o.dst v') w') :
    wpList Tryz.prog ops Q (o :: rest) a w := by
  obtain ⟨v', w', hrun, h1, h2, h3⟩ := run_append_eT hT h hl hB o.type
  refine wpList_plain hg fun K hK => ?_
  unfold Oper.wp
  simp [execOp, ho, resolve, invoke, builtin, hs, hx, hrun, Result.andThen]
  exact hK _ _ (k v' w' h1 h2 h3)
set_option maxRecDepth 100000 in
theorem wpl_append_all {ops : Array Oper} {rest : List Oper} {o : Oper} {a : Act} {w : World} {Q : Exit → Act → World → Prop} (hg : o.guard = none) (x : Operand)
    (ho : o.op = .call { callee := .builtin .append, args := #[.const (.slice none 0 0), x], argTypes := #[92, 92] }) (v : Value) (hx : a.eval x = v)
    (L : List EntryM) (h : ERow w v L) (hl : L.length ≤ 100000)
    (k : ∀ v' w', ERow w' v' L → Upd Non w w' → (∀ g, v'.ownBlock = some g → w.heap.size ≤ g) → wpList Tryz.prog ops Q rest (a.put o.dst v') w') :
    wpList Tryz.prog ops Q (o :: rest) a w := by
  obtain ⟨v', w', hrun, h1, h2, h3⟩ := run_append_all h hl o.type
  refine wpList_plain hg fun K hK => ?_
  unfold Oper.wp
  have hs : a.eval (.const (.slice none 0 0)) = .slice none 0 0 := rfl
  simp [execOp, ho, resolve, invoke, builtin, hs, hx, hrun, Result.andThen]
  exact hK _ _ (k v' w' h1 h2 h3)

theorem ERow.farRow {w : World} {v : Value} {L : List EntryM} {c t N i : Nat} {f : Nat → Value} (h : ERow w v L) (r : Row w c t N f) (ht : t ≠ 144) (u : Value) : ERow (w.setCell ⟨c, i, none⟩ u) v L := by
  refine h.keep fun g hg => Below.heap_setCell w ⟨c, i, none⟩ u g (fun e => ?_)
  rcases h with ⟨rfl, _⟩ | ⟨g', o, cap, C, rfl, h1, h2, h3, h4, h5⟩
  · cases hg
  · have e2 : g' = g := by simpa [Value.ownBlock] using hg
    obtain ⟨C', k1, _⟩ := r
    have e3 : g = c := e
    rw [e2, e3, k1] at h3
    simp at h3
    exact ht h3.2
/-- A slice that the call made itself: its block is no old one. -/
def Fresh (w : World) (v : Value) : Prop := ∀ g, v.ownBlock = some g → w.heap.size ≤ g

set_option maxRecDepth 100000 in
set_option maxHeartbeats 1000000 in
theorem cdrop_any (w : World) (c : Nat) (v : Value) (L : List EntryM) (hc : Row w c 156 1 (fun _ => v)) (h : ERow w v L) (hl : L.length ≤ 100) (F : FuncId) (b1 b2 : Nat) (p : EntryM → Bool) (M : List EntryM) (hM : Hid (L.filter (fun x => !p x) = M))
    (hF : Hid (∀ w1 x, Upd Non w w1 → Calls Tryz.prog 154 #[.agg #[.int .i64 x.root, .int .i64 x.page, .int .i64 x.to, .bool x.may, .bool x.leaf.there, .bool x.leaf.write, .int .i64 x.leaf.frame], .pointer (some ⟨b1, 0, none⟩), .pointer (some ⟨b2, 0, none⟩)] w1 fun y w2 => y = .returned (.bool (p x)) ∧ Upd Non w1 w2)) :
    Calls Tryz.prog 153 #[.pointer (some ⟨c, 0, none⟩), .func (.func 154) #[] #[.pointer (some ⟨b1, 0, none⟩), .pointer (some ⟨b2, 0, none⟩)]] w
      fun e w' => ∃ v', e = .returned (.int .i64 ((L.length : Int) - M.length)) ∧ Row w' c 156 1 (fun _ => v') ∧ ERow w' v' M ∧ Fresh w v' ∧ Upd (at1 c) w w' := by
  have hc0 := hc.cell (i := 0) (by omega)
  obtain ⟨A, cap, rfl⟩ := h.form
  go_enter Tryz.func153, Tryz.ntmps153
  go_wp2
  go_loopw [5, 14] (fun l i wr => ∃ (k : Nat) (v' : Value), k ≤ L.length ∧ i = .int .i64 k ∧ l = v' ∧ Hid (ERow wr v' ((L.take k).filter fun x => !p x) ∧ Fresh w v' ∧ Upd Non w wr)) (fun _ i _ => L.length - (intOf i).toNat)
  case atStart => exact ⟨0, _, Nat.zero_le _, rfl, rfl, ERow.nil, (fun g hg => by cases hg), Upd.refl _ _⟩
  case round =>
    obtain ⟨k, v', hk, rfl, rfl, hI⟩ := hrel
    by_cases hlt : k < L.length
    · obtain ⟨g, o, cap', hv, hg, hE⟩ := (h.upd_ hI.out.2.2 (fun _ _ => (fun h => h))).at_ hlt
      obtain ⟨rfl, rfl⟩ : A = some ⟨g, o, none⟩ ∧ cap = cap' := by simpa using hv
      have hts : Hid (L.take (k + 1) = L.take k ++ [L[k]]) := by rw [List.take_succ_eq_append_getElem hlt]; rfl
      have hlen : Hid (((L.take k).filter fun x => !p x).length ≤ 100000) := by
        have h1 := List.length_filter_le (fun x => !p x) (L.take k)
        have h2 := List.length_take_le k L
        show _ ≤ _
        omega
      have heq : ∃ x, L[k] = x := ⟨_, rfl⟩
      obtain ⟨x, hx⟩ := heq
      rw [hx] at hE hts
      clear hx hv
      obtain ⟨e0, e1, e2, e3, e4, e5, e6⟩ := hE
      by_cases hp : p x = true
      · have hfin : Hid ((L.take (k + 1)).filter (fun x => !p x) = (L.take k).filter fun x => !p x) := by show _ = _; rw [hts.out, List.filter_append]; simp [hp]
        go_wp2_with (go_at_call 154; refine (hF.out _ x (hI.out.2.2.alloc _)).mono ?_; rintro y w2 ⟨rfl, u2⟩)
        go_roundw
        case rel => exact ⟨k + 1, _, by omega, by go_num, rfl, by rw [hfin.out]; exact (hI.out.1.alloc _).upd_ u2 (fun _ _ => (fun h => h)), hI.out.2.1, (hI.out.2.2.alloc _).trans u2⟩
        case measure => simp [intOf]; omega
      · have hp' : p x = false := by simpa using hp
        have hfin : Hid ((L.take (k + 1)).filter (fun x => !p x) = ((L.take k).filter fun x => !p x) ++ [x]) := by show _ = _; rw [hts.out, List.filter_append]; simp [hp]
        clear hp
        go_wp2_with (first
          | (go_at_call 154; refine (hF.out _ x (hI.out.2.2.alloc _)).mono ?_; rintro y w2 ⟨rfl, u2⟩; have hM := (hI.out.1.alloc _).upd_ u2 (fun _ _ => (fun h => h)); obtain ⟨hcc, hff⟩ := u2.cells; have hz := u2.size; simp at hz)
          | (at_builtin; refine wpl_append_e rfl _ _ rfl _ _ rfl rfl _ x (by repeat (first | assumption | apply ERow.alloc | apply ERow.drew | apply ERow.drewN)) hlen.out (ebox _ x) ?_; intro v2 w3 hv2 u3 hb2))
        go_roundw
        case rel => exact ⟨k + 1, _, by omega, by go_num, rfl, by rw [hfin.out]; exact hv2, fun g hg => by
            rcases hb2 with hb2 | hb2
            · exact hI.out.2.1 g (hb2 ▸ hg)
            · have := hI.out.2.2.size
              rw [hb2] at hg
              simp at hg
              omega, ((((hI.out.2.2.alloc _).trans u2).alloc _).over u3 hI.out.2.1)⟩
        case measure => simp [intOf]; omega
    · obtain rfl : k = L.length := by omega
      have hI' := hI.out
      rw [List.take_length, hM.out] at hI'
      have hrow := hc.upd_ hI'.2.2 (fun h => h)
      have hcc := hrow.cell (i := 0) (by omega)
      have hff := hrow.frozen 0
      obtain ⟨A2, cap2, hv2⟩ := hI'.1.form
      have hle : M.length ≤ L.length := hM.out ▸ List.length_filter_le _ _
      have V := Lib.hid hI'
      rename_i v'
      subst hv2
      clear hI' hI
      go_wp2
      go_ret
      exact ⟨_, rfl, (hrow.set_ _).congr (fun i hi => by unfold upd; rw [if_pos (by omega)]), V.out.1.farRow hrow (by decide) _, V.out.2.1, (V.out.2.2.mono (fun _ _ h => h.elim)).setCell (S := at1 c) (fun _ => at1_self) _⟩

set_option maxRecDepth 100000 in
set_option maxHeartbeats 1000000 in
theorem cforget_any (w : World) (c : Nat) (v : Value) (L : List EntryM) (hc : Row w c 156 1 (fun _ => v)) (h : ERow w v L) (hl : L.length ≤ 100) (F : FuncId) (b1 : Nat) (p : EntryM → Bool) (M : List EntryM) (hM : Hid (L.filter (fun x => !p x) = M))
    (hF : Hid (∀ w1 x, Upd Non w w1 → Calls Tryz.prog 155 #[.agg #[.int .i64 x.root, .int .i64 x.page, .int .i64 x.to, .bool x.may, .bool x.leaf.there, .bool x.leaf.write, .int .i64 x.leaf.frame], .pointer (some ⟨b1, 0, none⟩)] w1 fun y w2 => y = .returned (.bool (p x)) ∧ Upd Non w1 w2)) :
    Calls Tryz.prog 153 #[.pointer (some ⟨c, 0, none⟩), .func (.func 155) #[] #[.pointer (some ⟨b1, 0, none⟩)]] w
      fun e w' => ∃ v', e = .returned (.int .i64 ((L.length : Int) - M.length)) ∧ Row w' c 156 1 (fun _ => v') ∧ ERow w' v' M ∧ Fresh w v' ∧ Upd (at1 c) w w' := by
  have hc0 := hc.cell (i := 0) (by omega)
  obtain ⟨A, cap, rfl⟩ := h.form
  go_enter Tryz.func153, Tryz.ntmps153
  go_wp2
  go_loopw [5, 14] (fun l i wr => ∃ (k : Nat) (v' : Value), k ≤ L.length ∧ i = .int .i64 k ∧ l = v' ∧ Hid (ERow wr v' ((L.take k).filter fun x => !p x) ∧ Fresh w v' ∧ Upd Non w wr)) (fun _ i _ => L.length - (intOf i).toNat)
  case atStart => exact ⟨0, _, Nat.zero_le _, rfl, rfl, ERow.nil, (fun g hg => by cases hg), Upd.refl _ _⟩
  case round =>
    obtain ⟨k, v', hk, rfl, rfl, hI⟩ := hrel
    by_cases hlt : k < L.length
    · obtain ⟨g, o, cap', hv, hg, hE⟩ := (h.upd_ hI.out.2.2 (fun _ _ => (fun h => h))).at_ hlt
      obtain ⟨rfl, rfl⟩ : A = some ⟨g, o, none⟩ ∧ cap = cap' := by simpa using hv
      have hts : Hid (L.take (k + 1) = L.take k ++ [L[k]]) := by rw [List.take_succ_eq_append_getElem hlt]; rfl
      have hlen : Hid (((L.take k).filter fun x => !p x).length ≤ 100000) := by
        have h1 := List.length_filter_le (fun x => !p x) (L.take k)
        have h2 := List.length_take_le k L
        show _ ≤ _
        omega
      have heq : ∃ x, L[k] = x := ⟨_, rfl⟩
      obtain ⟨x, hx⟩ := heq
      rw [hx] at hE hts
      clear hx hv
      obtain ⟨e0, e1, e2, e3, e4, e5, e6⟩ := hE
      by_cases hp : p x = true
      · have hfin : Hid ((L.take (k + 1)).filter (fun x => !p x) = (L.take k).filter fun x => !p x) := by show _ = _; rw [hts.out, List.filter_append]; simp [hp]
        go_wp2_with (go_at_call 155; refine (hF.out _ x (hI.out.2.2.alloc _)).mono ?_; rintro y w2 ⟨rfl, u2⟩)
        go_roundw
        case rel => exact ⟨k + 1, _, by omega, by go_num, rfl, by rw [hfin.out]; exact (hI.out.1.alloc _).upd_ u2 (fun _ _ => (fun h => h)), hI.out.2.1, (hI.out.2.2.alloc _).trans u2⟩
        case measure => simp [intOf]; omega
      · have hp' : p x = false := by simpa using hp
        have hfin : Hid ((L.take (k + 1)).filter (fun x => !p x) = ((L.take k).filter fun x => !p x) ++ [x]) := by show _ = _; rw [hts.out, List.filter_append]; simp [hp]
        clear hp
        go_wp2_with (first
          | (go_at_call 155; refine (hF.out _ x (hI.out.2.2.alloc _)).mono ?_; rintro y w2 ⟨rfl, u2⟩; have hM := (hI.out.1.alloc _).upd_ u2 (fun _ _ => (fun h => h)); obtain ⟨hcc, hff⟩ := u2.cells; have hz := u2.size; simp at hz)
          | (at_builtin; refine wpl_append_e rfl _ _ rfl _ _ rfl rfl _ x (by repeat (first | assumption | apply ERow.alloc | apply ERow.drew | apply ERow.drewN)) hlen.out (ebox _ x) ?_; intro v2 w3 hv2 u3 hb2))
        go_roundw
        case rel => exact ⟨k + 1, _, by omega, by go_num, rfl, by rw [hfin.out]; exact hv2, fun g hg => by
            rcases hb2 with hb2 | hb2
            · exact hI.out.2.1 g (hb2 ▸ hg)
            · have := hI.out.2.2.size
              rw [hb2] at hg
              simp at hg
              omega, ((((hI.out.2.2.alloc _).trans u2).alloc _).over u3 hI.out.2.1)⟩
        case measure => simp [intOf]; omega
    · obtain rfl : k = L.length := by omega
      have hI' := hI.out
      rw [List.take_length, hM.out] at hI'
      have hrow := hc.upd_ hI'.2.2 (fun h => h)
      have hcc := hrow.cell (i := 0) (by omega)
      have hff := hrow.frozen 0
      obtain ⟨A2, cap2, hv2⟩ := hI'.1.form
      have hle : M.length ≤ L.length := hM.out ▸ List.length_filter_le _ _
      have V := Lib.hid hI'
      rename_i v'
      subst hv2
      clear hI' hI
      go_wp2
      go_ret
      exact ⟨_, rfl, (hrow.set_ _).congr (fun i hi => by unfold upd; rw [if_pos (by omega)]), V.out.1.farRow hrow (by decide) _, V.out.2.1, (V.out.2.2.mono (fun _ _ h => h.elim)).setCell (S := at1 c) (fun _ => at1_self) _⟩


end U
end Go.Proofs.YtnhplapcdgnaaaaGreatDoor

set_option linter.unusedVariables false
set_option linter.unusedSimpArgs false
namespace Go.Proofs.YtnhplapcdgnaaaaGreatDoor
open Go.RowKit
namespace U

theorem row_one (w : World) (t : TypeId) (v : Value) : Row (w.alloc (.cells #[v] t)) w.heap.size t 1 (fun _ => v) :=
  ⟨#[v], heap_alloc_new w _, rfl, fun i hi => by have h0 : i = 0 := Nat.lt_one_iff.1 hi; subst h0; rfl⟩
theorem ret_bool' {a b : Bool} (h : a = b) : Ending.returned (.bool a) = .returned (.bool b) := by rw [h]

/-! ### what a cache is -/
def keep2 (r p : Int) (L : List EntryM) : List EntryM := L.filter fun e => !(e.root == r && e.page == p)
def keep1 (r : Int) (L : List EntryM) : List EntryM := L.filter fun e => !(e.root == r)

set_option maxRecDepth 100000 in
set_option maxHeartbeats 400000 in
theorem cDrop_any (w : World) (c : Nat) (v : Value) (L : List EntryM) (hc : Row w c 156 1 (fun _ => v)) (h : ERow w v L) (hl : L.length ≤ 100) (r p : Int) :
    Calls Tryz.prog 127 #[.pointer (some ⟨c, 0, none⟩), .int .i64 r, .int .i64 p] w
      fun e w' => ∃ v', e = .returned (.bool (decide ((keep2 r p L).length < L.length))) ∧ Row w' c 156 1 (fun _ => v') ∧ ERow w' v' (keep2 r p L) ∧ Fresh w v' ∧ Upd (at1 c) w w' := by
  have hF : Hid (∀ w1 (x : EntryM), Upd Non ((w.alloc (.cells #[.int .i64 r] 3)).alloc (.cells #[.int .i64 p] 3)) w1 → Calls Tryz.prog 154 #[.agg #[.int .i64 x.root, .int .i64 x.page, .int .i64 x.to, .bool x.may, .bool x.leaf.there, .bool x.leaf.write, .int .i64 x.leaf.frame], .pointer (some ⟨w.heap.size, 0, none⟩), .pointer (some ⟨w.heap.size + 1, 0, none⟩)] w1
      fun y w2 => y = .returned (.bool (x.root == r && x.page == p)) ∧ Upd Non w1 w2) := by
    intro w1 x hu
    refine dropC_any w1 _ _ r p (hu.cell ?_ (fun h => h)) (hu.cell ?_ (fun h => h)) x
    · rw [World.cell?_alloc_lt _ _ _ (by simp), cell_of_row _ w.heap.size 0 _ _ (0, 0) (heap_alloc_new w _)]; rfl
    · have := heap_alloc_new (w.alloc (.cells #[.int .i64 r] 3)) (.cells #[.int .i64 p] 3)
      simp only [World.size_alloc] at this
      rw [cell_of_row _ (w.heap.size + 1) 0 _ _ (0, 0) this]; rfl
  have hc' : Row ((w.alloc (.cells #[.int .i64 r] 3)).alloc (.cells #[.int .i64 p] 3)) c 156 1 (fun _ => v) := (hc.alloc _).alloc _
  have hx : ERow ((w.alloc (.cells #[.int .i64 r] 3)).alloc (.cells #[.int .i64 p] 3)) v L := (h.alloc _).alloc _
  have hle : (keep2 r p L).length ≤ L.length := List.length_filter_le _ _
  go_enter Tryz.func127, Tryz.ntmps127
  go_wp2_with (go_at_call 153; refine (cdrop_any _ c v L hc' hx hl 0 _ _ _ (keep2 r p L) rfl hF).mono ?_; rintro e w2 ⟨v', rfl, h1, h2, h3, h4⟩)
  go_ret
  refine ⟨v', ret_bool' ?_, h1, h2, fun g hg => ?_, (((Upd.refl _ w).alloc _).alloc _).trans h4⟩
  · show decide _ = _
    rw [decide_eq_decide]; try omega
  · have := h3 g hg
    simp at this
    omega

set_option maxRecDepth 100000 in
set_option maxHeartbeats 400000 in
theorem cForget_any (w : World) (c : Nat) (v : Value) (L : List EntryM) (hc : Row w c 156 1 (fun _ => v)) (h : ERow w v L) (hl : L.length ≤ 100) (r : Int) :
    Calls Tryz.prog 128 #[.pointer (some ⟨c, 0, none⟩), .int .i64 r] w
      fun e w' => ∃ v', e = .returned (.int .i64 ((L.length : Int) - (keep1 r L).length)) ∧ Row w' c 156 1 (fun _ => v') ∧ ERow w' v' (keep1 r L) ∧ Fresh w v' ∧ Upd (at1 c) w w' := by
  have hF : Hid (∀ w1 (x : EntryM), Upd Non (w.alloc (.cells #[.int .i64 r] 3)) w1 → Calls Tryz.prog 155 #[.agg #[.int .i64 x.root, .int .i64 x.page, .int .i64 x.to, .bool x.may, .bool x.leaf.there, .bool x.leaf.write, .int .i64 x.leaf.frame], .pointer (some ⟨w.heap.size, 0, none⟩)] w1
      fun y w2 => y = .returned (.bool (x.root == r)) ∧ Upd Non w1 w2) := by
    intro w1 x hu
    refine forgetC_any w1 _ r (hu.cell ?_ (fun h => h)) x
    rw [cell_of_row _ w.heap.size 0 _ _ (0, 0) (heap_alloc_new w _)]; rfl
  have hc' : Row (w.alloc (.cells #[.int .i64 r] 3)) c 156 1 (fun _ => v) := hc.alloc _
  have hx : ERow (w.alloc (.cells #[.int .i64 r] 3)) v L := h.alloc _
  have hle : (keep1 r L).length ≤ L.length := List.length_filter_le _ _
  go_enter Tryz.func128, Tryz.ntmps128
  go_wp2_with (go_at_call 153; refine (cforget_any _ c v L hc' hx hl 0 _ _ (keep1 r L) rfl hF).mono ?_; rintro e w2 ⟨v', rfl, h1, h2, h3, h4⟩)
  go_ret
  refine ⟨v', rfl, h1, h2, fun g hg => ?_, ((Upd.refl _ w).alloc _).trans h4⟩
  have := h3 g hg
  simp at this
  omega

def cput (e : EntryM) (L : List EntryM) : List EntryM :=
  let l := keep2 e.root e.page L ++ [e]
  if 4 < l.length then l.drop 1 else l

theorem EAt.drewN {w : World} {g o : Nat} {e : EntryM} (h : EAt w g o e) (n : Nat) : EAt (w.drewN n) g o e := h.keep rfl
theorem EAt.drew {w : World} {g o : Nat} {e : EntryM} (h : EAt w g o e) : EAt w.drew g o e := h.keep rfl
theorem ERow.ne_row {w : World} {v : Value} {L : List EntryM} {c t N : Nat} {f : Nat → Value} (h : ERow w v L) (r : Row w c t N f) (ht : t ≠ 144) : ¬ v.ownBlock = some c := by
  rcases h with ⟨rfl, _⟩ | ⟨g', o, cap, C, rfl, h1, h2, h3, h4, h5⟩
  · intro e; cases e
  · intro e
    have e2 : g' = c := by simpa [Value.ownBlock] using e
    obtain ⟨C', k1, _⟩ := r
    rw [e2, k1] at h3
    simp at h3
    exact ht h3.2
theorem step_append_e {ops : Array Oper} {o : Oper} {a : Act} {w : World} {K : Act → World → Prop} {Q : Exit → Act → World → Prop} {E : Prop}
    (hg : o.guard = none) (s x : Operand) (hop : o.op = Op.call { callee := Callee.builtin Builtin.append, args := #[s, x], argTypes := #[92, 92] })
    (v : Value) (B : Nat) (hs : a.eval s = v) (hx : a.eval x = .slice (some ⟨B, 0, none⟩) 1 1) (L : List EntryM) (e : EntryM) (h : ERow w v L) (hl : L.length ≤ 100000) (hB : EAt w B 0 e)
    (k : ∀ v' w', ERow w' v' (L ++ [e]) → Upd (fun k => v.ownBlock = some k) w w' → (v'.ownBlock = v.ownBlock ∨ v'.ownBlock = some w.heap.size) → K (a.put o.dst v') w') :
    if Region.wanted o (yielded ops a.tmps) = true then Oper.wp Tryz.prog o a w K Q else E := by
  obtain ⟨v', w', hrun, h1, h2, h3⟩ := run_append_e h hl hB o.type
  exact step_append_eq hg s x _ hop v _ v' hs hx hrun (k v' w' h1 h2 h3)
theorem ERow.cap_ge {w : World} {A : Option Addr} {n cap : Nat} {L : List EntryM} (h : ERow w (.slice A n cap) L) : n ≤ cap ∧ n = L.length := by
  rcases h with ⟨h, rfl⟩ | ⟨g, o, cap', C, hv, k1, k2, k3, k4, k5⟩
  · simp only [Value.slice.injEq] at h
    obtain ⟨_, rfl, rfl⟩ := h
    exact ⟨Nat.le_refl _, rfl⟩
  · simp only [Value.slice.injEq] at hv
    obtain ⟨_, rfl, rfl⟩ := hv
    exact ⟨k1, rfl⟩
/-- The entries from the second one on, as a slice. -/
theorem ERow.tail {w : World} {A : Option Addr} {n cap : Nat} {L : List EntryM} (h : ERow w (.slice A n cap) L) (h1 : 1 ≤ L.length) (h2 : ¬ cap = 1) :
    ∃ g o, A = some ⟨g, o, none⟩ ∧ n = L.length ∧ n ≤ cap ∧ ERow w (.slice (some ⟨g, o + 7, none⟩) (n - 1) (cap - 1)) (L.drop 1) := by
  rcases h with ⟨h, rfl⟩ | ⟨g, o, cap', C, hv, k1, k2, k3, k4, k5⟩
  · simp at h1
  · simp only [Value.slice.injEq] at hv
    obtain ⟨rfl, rfl, rfl⟩ := hv
    refine ⟨g, o, rfl, rfl, k1, .inr ⟨g, o + 7, cap - 1, C, by simp, by simp; omega, by omega, k3, by omega, fun i e hi => ?_⟩⟩
    rw [List.getElem?_drop] at hi
    have := k5 (1 + i) e hi
    rw [show o + (1 + i) * 7 = o + 7 + i * 7 by omega] at this
    exact this

set_option maxRecDepth 100000 in
set_option maxHeartbeats 1000000 in
theorem cPut_any (w : World) (c : Nat) (v : Value) (L : List EntryM) (hc : Row w c 156 1 (fun _ => v)) (h : ERow w v L) (hl : L.length ≤ 4) (e : EntryM) :
    Calls Tryz.prog 152 #[.pointer (some ⟨c, 0, none⟩), .agg #[.int .i64 e.root, .int .i64 e.page, .int .i64 e.to, .bool e.may, .bool e.leaf.there, .bool e.leaf.write, .int .i64 e.leaf.frame]] w
      fun x w' => ∃ v', x = .returned (.tuple #[]) ∧ Row w' c 156 1 (fun _ => v') ∧ ERow w' v' (cput e L) ∧ Fresh w v' ∧ Upd (at1 c) w w' := by
  have hle : (keep2 e.root e.page L).length ≤ L.length := List.length_filter_le _ _
  go_enter Tryz.func152, Tryz.ntmps152
  go_wp2_with (go_at_call 127; refine (cDrop_any _ c v L (hc.alloc _) (h.alloc _) (by omega) _ _).mono ?_; rintro y w2 ⟨v', rfl, h1, h2, h3, h4⟩)
  obtain ⟨A', cap', rfl⟩ := h2.form
  have b0 : EAt w2 w.heap.size 0 e := (ebox w e).keep (h4.block _ (by simp) (by have := hc.lt; unfold at1; omega))
  have l2 : w.heap.size < w2.heap.size := by have := h4.size; simp at this; omega
  obtain ⟨b0, b1, b2, b3, b4, b5, b6⟩ := b0
  have hcc := h1.cell (i := 0) (by omega)
  have h2' := h2.drew
  have lc := h1.lt
  have hU : Upd (at1 c) w (w2.alloc (.cells e.cells.toArray 144)) := (((Upd.refl _ w).alloc _).trans h4).alloc _
  have hs : Fresh w (.slice A' (keep2 e.root e.page L).length cap') := fun g hg => by
    have := h3 g hg
    simp at this
    omega
  have hlen : ((keep2 e.root e.page L) ++ [e]).length = (keep2 e.root e.page L).length + 1 := by simp
  have H := Lib.hid hlen
  clear hlen
  by_cases h5 : (keep2 e.root e.page L).length < 4
  · have F := Lib.hid (show cput e L = keep2 e.root e.page L ++ [e] by unfold cput; simp only []; rw [if_neg (by rw [H.out]; omega)])
    have h6 : ¬ 4 < (keep2 e.root e.page L ++ [e]).length := by rw [H.out]; omega
    go_region_law (first | (refine step_append_e rfl _ _ rfl _ _ rfl rfl _ e (by repeat (first | assumption | apply ERow.alloc | apply ERow.drew | apply ERow.drewN)) (by omega) (by repeat (first | exact ebox _ _ | apply EAt.drew | apply EAt.drewN)) ?_; intro v2 w3 hv2 u3 hb2; obtain ⟨A3, cap3, rfl⟩ := hv2.form; rw [H.out] at hv2 hb2; have hr3 := Row.upd_ (N := 1) (g := c) (by repeat (first | assumption | apply Row.alloc | apply Row.drew | apply Row.drewN)) u3 (ERow.ne_row (L := keep2 e.root e.page L) (by repeat (first | assumption | apply ERow.alloc | apply ERow.drew | apply ERow.drewN)) h1 (by decide)); have hr3c := hr3.cell (i := 0) (by omega); have hr3f := hr3.frozen 0))
    all_goals go_wp2
    all_goals go_end0
    all_goals refine ⟨_, rfl, (hr3.set_ _).congr (fun i hi => by unfold upd; rw [if_pos (by omega)]), by rw [F.out]; exact hv2.farRow hr3 (by decide) _, fun g hg => ?_, ?_⟩
    all_goals first
      | (rcases hb2 with hb2 | hb2
         · exact hs g (hb2 ▸ hg)
         · rw [hb2] at hg
           simp at hg
           omega)
      | exact ((Upd.over' (by first | exact hU | exact hU.drew | exact hU.drewN _) u3 (fun i hi => .inr (hs i hi))).setCell (S := at1 c) (fun _ => at1_self) _)
      | exact (((Upd.over' (by first | exact hU | exact hU.drew | exact hU.drewN _) u3 (fun i hi => .inr (hs i hi))).setCell (S := at1 c) (fun _ => at1_self) _).drew)
  · have h6 : 4 < (keep2 e.root e.page L ++ [e]).length := by rw [H.out]; omega
    have F := Lib.hid (show cput e L = (keep2 e.root e.page L ++ [e]).drop 1 by unfold cput; simp only []; rw [if_pos (by rw [H.out]; omega)])
    go_region_law (first | (refine step_append_e rfl _ _ rfl _ _ rfl rfl _ e (by repeat (first | assumption | apply ERow.alloc | apply ERow.drew | apply ERow.drewN)) (by omega) (by repeat (first | exact ebox _ _ | apply EAt.drew | apply EAt.drewN)) ?_; intro v2 w3 hv2 u3 hb2; obtain ⟨A3, cap3, rfl⟩ := hv2.form; rw [H.out] at hv2 hb2; have hcap := hv2.cap_ge.1; obtain ⟨g3, o3, rfl, hn3, hcap3, htail⟩ := hv2.tail (by rw [H.out]; omega) (by omega); clear hn3; have hr3 := Row.upd_ (N := 1) (g := c) (by repeat (first | assumption | apply Row.alloc | apply Row.drew | apply Row.drewN)) u3 (ERow.ne_row (L := keep2 e.root e.page L) (by repeat (first | assumption | apply ERow.alloc | apply ERow.drew | apply ERow.drewN)) h1 (by decide)); have hr3c := hr3.cell (i := 0) (by omega); have hr3f := hr3.frozen 0))
    all_goals go_wp2_with (at_builtin; refine wpl_append_all rfl _ rfl _ rfl ((keep2 e.root e.page L ++ [e]).drop 1) (htail.farRow hr3 (by decide) _) (by simp; omega) ?_; intro v4 w4 hv4 hu4 hf4; obtain ⟨A4, cap4, rfl⟩ := hv4.form; have hr4 := Row.upd_ (hr3.set_ (i := 0) _) hu4 (fun h => h); have hr4c := hr4.cell (i := 0) (by omega); have hr4f := hr4.frozen 0)
    all_goals go_end0
    all_goals have hW : Upd (at1 c) w w3 := Upd.over' (by first | exact hU | exact hU.drew | exact hU.drewN _) u3 (fun i hi => .inr (hs i hi))
    all_goals have hZ := hW.size
    all_goals refine ⟨_, rfl, (hr4.set_ _).congr (fun i hi => by unfold upd; rw [if_pos (by omega)]), by rw [F.out]; first | exact hv4.farRow hr4 (by decide) _ | (have := hv4.farRow hr4 (by decide) (i := 0) (.slice A4 (List.drop 1 (keep2 e.root e.page L ++ [e])).length cap4); simpa using this), fun g hg => ?_, ?_⟩
    all_goals first
      | (have := hf4 g (by simpa [Value.ownBlock] using hg); simp at this; omega)
      | exact ((hW.setCell (S := at1 c) (p := ⟨c, 0, none⟩) (fun _ => at1_self) _).trans (hu4.mono (fun _ _ h => h.elim))).setCell (S := at1 c) (p := ⟨c, 0, none⟩) (fun _ => at1_self) _

end U
end Go.Proofs.YtnhplapcdgnaaaaGreatDoor

set_option linter.unusedVariables false
set_option linter.unusedSimpArgs false
namespace Go.Proofs.YtnhplapcdgnaaaaGreatDoor
open Go.RowKit
namespace U

theorem Upd.box7 {a w : World} {b : Nat} (u : Upd Non a w) (hb : a.heap.size ≤ b) (v0 v1 v2 v3 v4 v5 v6 : Value) :
    Upd Non a (((((((w.setCell ⟨b, 0, none⟩ v0).setCell ⟨b, 1, none⟩ v1).setCell ⟨b, 2, none⟩ v2).setCell ⟨b, 3, none⟩ v3).setCell ⟨b, 4, none⟩ v4).setCell ⟨b, 5, none⟩ v5).setCell ⟨b, 6, none⟩ v6) := by
  have h : ∀ i, (⟨b, i, none⟩ : Addr).block < a.heap.size → Non (⟨b, i, none⟩ : Addr).block := fun i h => absurd h (by show ¬ b < _; omega)
  exact (((((((u.setCell (h 0) v0).setCell (h 1) v1).setCell (h 2) v2).setCell (h 3) v3).setCell (h 4) v4).setCell (h 5) v5).setCell (h 6) v6)
def EntryM.zero : EntryM := ⟨0, 0, 0, false, LeafM.none⟩
/-- The entry found, or zero. -/
def cfind (L : List EntryM) (r p : Int) : EntryM × Bool := match cacheAt L r p with | some i => (L[i]?.getD EntryM.zero, true) | none => (EntryM.zero, false)

set_option maxRecDepth 100000 in
set_option maxHeartbeats 400000 in
theorem cFind_any (w : World) (c : Nat) (v : Value) (L : List EntryM) (hc : Row w c 156 1 (fun _ => v)) (h : ERow w v L) (hl : L.length ≤ 100) (r p : Int) :
    Calls Tryz.prog 150 #[.pointer (some ⟨c, 0, none⟩), .int .i64 r, .int .i64 p] w fun e w' => e = .returned (.tuple #[(cfind L r p).1.val, .bool (cfind L r p).2]) ∧ Upd Non w w' := by
  have lc := hc.lt
  cases hcat : cacheAt L r p with
  | none =>
    have F := Lib.hid (show cfind L r p = (EntryM.zero, false) by unfold cfind; rw [hcat])
    have G : Hid (idxI (cacheAt L r p) = -1) := by rw [hcat]; rfl
    clear hcat
    go_enter Tryz.func150, Tryz.ntmps150
    go_wp2_with (go_at_call 171; refine (cat_any _ c _ L ((hc.alloc _).cell (i := 0) (by omega)) (h.alloc _) hl r p).mono ?_; rw [G.out]; rintro e w2 ⟨rfl, u2⟩; obtain ⟨hcc, hff⟩ := u2.cells; have hz := u2.size; simp at hz)
    exact bodyPost_ret (v := .tuple #[EntryM.zero.val, .bool false]) (by simp [results, Tryz.results150, go_sem, hcc, EntryM.val, EntryM.cells, EntryM.zero, LeafM.none]) rfl ⟨by rw [F.out], Upd.box7 ((Upd.alloc (Upd.refl _ _) _).trans u2) (Nat.le_refl _) _ _ _ _ _ _ _⟩
  | some i =>
    have hi : i < L.length := by
      unfold cacheAt at hcat
      rw [List.findIdx?_eq_some_iff_getElem] at hcat
      exact hcat.1
    obtain ⟨x, hx⟩ : ∃ x, L[i] = x := ⟨_, rfl⟩
    have F := Lib.hid (show cfind L r p = (x, true) by unfold cfind; rw [hcat]; simp only []; rw [List.getElem?_eq_getElem hi, hx]; rfl)
    have G : Hid (idxI (cacheAt L r p) = (i : Int)) := by rw [hcat]; rfl
    have X := Lib.hid hx
    clear hcat
    have hc0 := hc.cell (i := 0) (by omega)
    obtain ⟨g, o, cap, rfl, hg, hE⟩ := h.at_ hi
    rw [hx] at hE
    clear hx
    obtain ⟨e0, e1, e2, e3, e4, e5, e6⟩ := hE
    go_enter Tryz.func150, Tryz.ntmps150
    go_wp2_with (go_at_call 171; refine (cat_any _ c _ L ((hc.alloc _).cell (i := 0) (by omega)) (h.alloc _) hl r p).mono ?_; rw [G.out]; rintro e w2 ⟨rfl, u2⟩; obtain ⟨hcc, hff⟩ := u2.cells; have hz := u2.size; simp at hz)
    exact bodyPost_ret (v := .tuple #[x.val, .bool true]) (by simp [results, Tryz.results150, go_sem, hcc, EntryM.val, EntryM.cells]) rfl ⟨by rw [F.out], Upd.box7 ((Upd.alloc (Upd.refl _ _) _).trans u2) (Nat.le_refl _) _ _ _ _ _ _ _⟩

end U
end Go.Proofs.YtnhplapcdgnaaaaGreatDoor

set_option linter.unusedVariables false
set_option linter.unusedSimpArgs false
namespace Go.Proofs.YtnhplapcdgnaaaaGreatDoor
open Go.RowKit
namespace U

theorem Row.far3 {w : World} {c t N : Nat} {f : Nat → Value} {g : Nat} (r : Row w c t N f) (hg : c ≠ g) (i j q : Nat) (x y z : Value) : Row (((w.setCell ⟨g, i, none⟩ x).setCell ⟨g, j, none⟩ y).setCell ⟨g, q, none⟩ z) c t N f :=
  ((r.far (p := ⟨g, i, none⟩) hg x).far (p := ⟨g, j, none⟩) hg y).far (p := ⟨g, q, none⟩) hg z
def ptE (to : Int) (l : LeafM) (e : EntryM) : EntryM := if e.to = to then { e with leaf := l } else e
def ptL (to : Int) (l : LeafM) (L : List EntryM) (k : Nat) : List EntryM := (L.take k).map (ptE to l) ++ L.drop k
def ptN (to : Int) (L : List EntryM) : Nat := L.countP fun e => e.to == to
theorem ptL_length (to : Int) (l : LeafM) (L : List EntryM) (k : Nat) : (ptL to l L k).length = L.length := by
  unfold ptL; simp only [List.length_append, List.length_map, List.length_take, List.length_drop]; omega
theorem ptL_get (to : Int) (l : LeafM) (L : List EntryM) (k i : Nat) : (ptL to l L k)[i]? = if i < k then (L[i]?).map (ptE to l) else L[i]? := by
  unfold ptL
  by_cases h : i < k
  · rw [if_pos h]
    by_cases h2 : i < L.length
    · rw [List.getElem?_append_left (by simp; omega), List.getElem?_map, List.getElem?_take_of_lt h]
    · rw [List.getElem?_eq_none (by simp; omega), List.getElem?_eq_none (by omega)]; rfl
  · rw [if_neg h]
    by_cases h2 : k ≤ L.length
    · rw [List.getElem?_append_right (by simp; omega), List.getElem?_drop]
      congr 1; simp; omega
    · rw [List.getElem?_eq_none (by simp; omega), List.getElem?_eq_none (by omega)]
theorem ptL_set (to : Int) (l : LeafM) (L : List EntryM) (k : Nat) (hk : k < L.length) : ptL to l L (k + 1) = (ptL to l L k).set k (ptE to l L[k]) := by
  apply List.ext_getElem?
  intro i
  rw [List.getElem?_set, ptL_get, ptL_get, ptL_length]
  by_cases h : k = i
  · subst h; simp [hk]
  · rw [if_neg h]
    by_cases h2 : i < k
    · rw [if_pos (by omega), if_pos h2]
    · rw [if_neg (by omega), if_neg h2]
theorem ptL_all (to : Int) (l : LeafM) (L : List EntryM) : ptL to l L L.length = L.map (ptE to l) := by simp [ptL]

theorem ERow.setLeaf {w : World} {g o cap : Nat} {L : List EntryM} {n : Nat} (h : ERow w (.slice (some ⟨g, o, none⟩) n cap) L) {i : Nat} (hi : i < L.length) (l : LeafM) :
    ERow (((w.setCell ⟨g, o + i * 7 + 4, none⟩ (.bool l.there)).setCell ⟨g, o + i * 7 + 5, none⟩ (.bool l.write)).setCell ⟨g, o + i * 7 + 6, none⟩ (.int .i64 l.frame))
      (.slice (some ⟨g, o, none⟩) n cap) (L.set i { L[i] with leaf := l }) := by
  rcases h with ⟨h, rfl⟩ | ⟨g', o', cap', C, hv, k1, k2, k3, k4, k5⟩
  · simp at hi
  · simp only [Value.slice.injEq, Option.some.injEq, Addr.mk.injEq, and_true] at hv
    obtain ⟨⟨rfl, rfl⟩, rfl, rfl⟩ := hv
    have r0 : Row w g 144 C.size (fun j => C.getD j undef) := ⟨C, k3, rfl, fun j hj => by simp [hj]⟩
    obtain ⟨D, d1, d2, d3⟩ := ((r0.set_ (i := o + i * 7 + 4) (.bool l.there)).set_ (i := o + i * 7 + 5) (.bool l.write)).set_ (i := o + i * 7 + 6) (.int .i64 l.frame)
    refine .inr ⟨g, o, cap, D, by rw [List.length_set], by rw [List.length_set]; exact k1, k2, d1, by omega, fun j e hj => EAt.mk' fun q u hu => ?_⟩
    have hq : q < 7 := by have := (List.getElem?_eq_some_iff.1 hu).1; rwa [cells_length] at this
    have hjl : j < L.length := by have := (List.getElem?_eq_some_iff.1 hj).1; rwa [List.length_set] at this
    rw [cell_of_row _ g _ D _ (0, 0) d1, d3 _ (by omega)]
    have old : ∀ (x : EntryM) (y : Value), L[j]? = some x → x.cells[q]? = some y → C.getD (o + j * 7 + q) undef = y := fun x y hx hy => by
      have := (k5 j x hx).get hy
      rw [cell_of_row w g _ C _ (0, 0) k3] at this
      simp [Array.getD_eq_getD_getElem?, this]
    unfold upd
    rw [List.getElem?_set] at hj
    by_cases hij : i = j
    · subst hij
      simp only [if_true, hi] at hj
      simp only [Option.some.injEq] at hj
      subst hj
      have hx : L[i]? = some L[i] := List.getElem?_eq_getElem hi
      match q, hq, hu with
      | 0, _, hu => rw [if_neg (by omega), if_neg (by omega), if_neg (by omega)]; exact congrArg some (old _ u hx hu)
      | 1, _, hu => rw [if_neg (by omega), if_neg (by omega), if_neg (by omega)]; exact congrArg some (old _ u hx hu)
      | 2, _, hu => rw [if_neg (by omega), if_neg (by omega), if_neg (by omega)]; exact congrArg some (old _ u hx hu)
      | 3, _, hu => rw [if_neg (by omega), if_neg (by omega), if_neg (by omega)]; exact congrArg some (old _ u hx hu)
      | 4, _, hu => rw [if_neg (by omega), if_neg (by omega), if_pos rfl]; exact hu
      | 5, _, hu => rw [if_neg (by omega), if_pos rfl]; exact hu
      | 6, _, hu => rw [if_pos rfl]; exact hu
    · rw [if_neg hij] at hj
      rw [if_neg (by omega), if_neg (by omega), if_neg (by omega)]
      exact congrArg some (old e u hj hu)

set_option maxRecDepth 100000 in
set_option maxHeartbeats 1000000 in
theorem cPoint_any (w : World) (c : Nat) (v : Value) (L : List EntryM) (hc : Row w c 156 1 (fun _ => v)) (h : ERow w v L) (hl : L.length ≤ 100) (to : Int) (l : LeafM) :
    Calls Tryz.prog 168 #[.pointer (some ⟨c, 0, none⟩), .int .i64 to, .agg #[.bool l.there, .bool l.write, .int .i64 l.frame]] w
      fun e w' => e = .returned (.int .i64 (ptN to L)) ∧ Row w' c 156 1 (fun _ => v) ∧ ERow w' v (L.map (ptE to l)) ∧ Upd (fun k => v.ownBlock = some k) w w' := by
  have hc0 := (hc.alloc (.cells #[.bool l.there, .bool l.write, .int .i64 l.frame] 88)).cell (i := 0) (by omega)
  have lb := hc.lt
  have ll : ∀ g, v.ownBlock = some g → g < w.heap.size := fun g hg => h.lt hg
  have hL := Lib.hid ll
  clear ll
  obtain ⟨A, cap, rfl⟩ := h.form
  go_enter Tryz.func168, Tryz.ntmps168
  go_wp2
  go_loopw [7, 15] (fun n i wr => ∃ (k : Nat), k ≤ L.length ∧ i = .int .i64 k ∧ n = .int .i64 (ptN to (L.take k)) ∧
    Hid (Row wr c 156 1 (fun _ => .slice A L.length cap) ∧ ERow wr (.slice A L.length cap) (ptL to l L k) ∧ Upd (fun k => (Value.slice A L.length cap).ownBlock = some k) (w.alloc (.cells #[.bool l.there, .bool l.write, .int .i64 l.frame] 88)) wr)) (fun _ i _ => L.length - (intOf i).toNat)
  case atStart => exact ⟨0, Nat.zero_le _, rfl, rfl, hc.alloc _, h.alloc _, Upd.refl _ _⟩
  case round =>
    obtain ⟨k, hk, rfl, rfl, hI⟩ := hrel
    rename_i wr _
    by_cases hlt : k < L.length
    · obtain ⟨g, o, cap', hv, hg, hE⟩ := hI.out.2.1.at_ (i := k) (by rw [ptL_length]; exact hlt)
      obtain ⟨rfl, rfl⟩ : A = some ⟨g, o, none⟩ ∧ cap = cap' := by rw [ptL_length] at hv; simpa using hv
      have hx0 : (ptL to l L k)[k]'(by rw [ptL_length]; exact hlt) = L[k] := by
        have := ptL_get to l L k k
        rw [if_neg (by omega), List.getElem?_eq_getElem (by rw [ptL_length]; exact hlt), List.getElem?_eq_getElem hlt] at this
        simpa using this
      have hcc := hI.out.1.cell (i := 0) (by omega)
      have hub : (w.alloc (.cells #[.bool l.there, .bool l.write, .int .i64 l.frame] 88)).heap[w.heap.size]? = _ := heap_alloc_new w _
      have hgw : g < w.heap.size := hL.out g rfl
      have hb2 := (hI.out.2.2.block w.heap.size (by simp) (by simp [Value.ownBlock]; omega)).trans hub
      have b0 := cell_of_row wr w.heap.size 0 _ _ _ hb2
      have b1 := cell_of_row wr w.heap.size 1 _ _ _ hb2
      have b2 := cell_of_row wr w.heap.size 2 _ _ _ hb2
      simp at b0 b1 b2
      have fr : ∀ j, wr.frozen? ⟨g, j, none⟩ = false := by
        intro j
        rcases hI.out.2.1 with ⟨h0, _⟩ | ⟨g', o', c', C, hv', _, _, k3, _⟩
        · cases h0
        · simp only [Value.slice.injEq, Option.some.injEq, Addr.mk.injEq] at hv'
          obtain ⟨⟨rfl, _⟩, _⟩ := hv'
          simp [World.frozen?, k3]
      have f4 := fr (o + k * 7 + 4)
      have f5 := fr (o + k * 7 + 5)
      have f6 := fr (o + k * 7 + 6)
      rw [hx0] at hE
      obtain ⟨x, hx⟩ : ∃ x, L[k] = x := ⟨_, rfl⟩
      have X := Lib.hid hx
      have X0 := Lib.hid hx0
      rw [hx] at hE
      clear hx hx0 hv fr hub hb2
      have hcl : (ptN to (L.take k)) ≤ k := by
        have h1 := List.countP_le_length (p := fun e : EntryM => e.to == to) (l := L.take k)
        have h2 := List.length_take_le k L
        unfold ptN; omega
      obtain ⟨e0, e1, e2, e3, e4, e5, e6⟩ := hE
      by_cases ht : x.to = to
      · have ht' : (x.to == to) = true := by simpa using ht
        have hn : Hid (ptN to (L.take (k + 1)) = ptN to (L.take k) + 1) := by
          show _ = _
          unfold ptN
          rw [List.take_succ_eq_append_getElem hlt, List.countP_append, X.out]; simp [ht]
        have hs : Hid (ptL to l L (k + 1) = (ptL to l L k).set k { x with leaf := l }) := by
          show _ = _
          rw [ptL_set to l L k hlt, X.out]; unfold ptE; rw [if_pos ht]
        clear ht
        go_wp2
        go_roundw
        case rel =>
          have hne : c ≠ g := fun e => hI.out.2.1.ne_row hI.out.1 (by decide) (by rw [e]; rfl)
          have sl := ERow.setLeaf hI.out.2.1 (i := k) (by rw [ptL_length]; exact hlt) l
          rw [X0.out, X.out, ← hs.out] at sl
          exact ⟨k + 1, by omega, by go_num, by rw [hn.out]; go_num, hI.out.1.far3 hne _ _ _ _ _ _, sl, hI.out.2.2.sc3 rfl _ _ _ _ _ _⟩
        case measure => simp [intOf]; omega
      · have ht' : (x.to == to) = false := by simpa using ht
        have hn : Hid (ptN to (L.take (k + 1)) = ptN to (L.take k)) := by
          show _ = _
          unfold ptN
          rw [List.take_succ_eq_append_getElem hlt, List.countP_append, X.out]; simp [ht]
        have hs : Hid (ptL to l L (k + 1) = ptL to l L k) := by
          show _ = _
          rw [ptL_set to l L k hlt, X.out]; unfold ptE; rw [if_neg ht]
          apply List.ext_getElem?
          intro i
          rw [List.getElem?_set]
          by_cases hki : k = i
          · subst hki
            rw [if_pos rfl, if_pos (by rw [ptL_length]; exact hlt), List.getElem?_eq_getElem (by rw [ptL_length]; exact hlt), X0.out, X.out]
          · rw [if_neg hki]
        clear ht
        go_wp2
        go_roundw
        case rel => exact ⟨k + 1, by omega, by go_num, by rw [hn.out], by rw [hs.out]; exact hI.out⟩
        case measure => simp [intOf]; omega
    · obtain rfl : k = L.length := by omega
      have hI2 := hI.out
      rw [ptL_all] at hI2
      have V := Lib.hid hI2
      have T := Lib.hid (show L.take L.length = L from List.take_length)
      clear hI hI2
      go_wp2
      go_ret
      exact ⟨by rw [T.out]; rfl, V.out.1, V.out.2.1, ((Upd.refl _ w).alloc _).trans V.out.2.2⟩

end U
end Go.Proofs.YtnhplapcdgnaaaaGreatDoor
