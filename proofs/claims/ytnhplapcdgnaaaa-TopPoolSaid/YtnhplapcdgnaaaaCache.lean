import Derived.Test.YtnhplapcdgnaaaaPoolD
import Derived.ArgAppend
import Derived.Deep.AppendLies
import Derived.Lib.Hide
set_option linter.unusedVariables false
set_option linter.unusedSimpArgs false
namespace Go.Proofs.Ytnhplapcdgnaaaa
open Go.RowKit
namespace U

structure EntryM where
  root : Int
  page : Int
  to : Int
  may : Bool
  leaf : LeafM
deriving DecidableEq
def EntryM.cells (e : EntryM) : List Value := [.int .i64 e.root, .int .i64 e.page, .int .i64 e.to, .bool e.may, .bool e.leaf.there, .bool e.leaf.write, .int .i64 e.leaf.frame]
def EntryM.val (e : EntryM) : Value := .agg e.cells.toArray

/-- Entry e lies in block g from offset o on. -/
structure EAt (w : World) (g o : Nat) (e : EntryM) : Prop where
  c0 : w.cell? ⟨g, o, none⟩ = some (.int .i64 e.root)
  c1 : w.cell? ⟨g, o + 1, none⟩ = some (.int .i64 e.page)
  c2 : w.cell? ⟨g, o + 2, none⟩ = some (.int .i64 e.to)
  c3 : w.cell? ⟨g, o + 3, none⟩ = some (.bool e.may)
  c4 : w.cell? ⟨g, o + 4, none⟩ = some (.bool e.leaf.there)
  c5 : w.cell? ⟨g, o + 5, none⟩ = some (.bool e.leaf.write)
  c6 : w.cell? ⟨g, o + 6, none⟩ = some (.int .i64 e.leaf.frame)

/-- A slice of entries, in a block of entries that nothing else lies in. -/
def ERow (w : World) (v : Value) (L : List EntryM) : Prop :=
  (v = .slice none 0 0 ∧ L = []) ∨
  ∃ g o cap C, v = .slice (some ⟨g, o, none⟩) L.length cap ∧ L.length ≤ cap ∧ cap ≤ maxLen ∧ w.heap[g]? = some (.cells C 35 (0, 0)) ∧ o + cap * 7 ≤ C.size ∧ ∀ i e, L[i]? = some e → EAt w g (o + i * 7) e

section
variable {w w' : World} {g o : Nat} {v : Value} {L : List EntryM} {e : EntryM} {S : Nat → Prop}
theorem EAt.keep (h : EAt w g o e) (k : w'.heap[g]? = w.heap[g]?) : EAt w' g o e := by
  have c : ∀ i, w'.cell? ⟨g, i, none⟩ = w.cell? ⟨g, i, none⟩ := fun i => World.cell?_of_block (a := ⟨g, i, none⟩) k
  exact ⟨(c _).trans h.c0, (c _).trans h.c1, (c _).trans h.c2, (c _).trans h.c3, (c _).trans h.c4, (c _).trans h.c5, (c _).trans h.c6⟩
theorem EAt.get (h : EAt w g o e) {j : Nat} {u : Value} (hu : e.cells[j]? = some u) : w.cell? ⟨g, o + j, none⟩ = some u := by
  match j, hu with
  | 0, hu => cases hu; exact h.c0
  | 1, hu => cases hu; exact h.c1
  | 2, hu => cases hu; exact h.c2
  | 3, hu => cases hu; exact h.c3
  | 4, hu => cases hu; exact h.c4
  | 5, hu => cases hu; exact h.c5
  | 6, hu => cases hu; exact h.c6
  | n + 7, hu => simp [EntryM.cells] at hu
theorem EAt.mk' (h : ∀ j u, e.cells[j]? = some u → w.cell? ⟨g, o + j, none⟩ = some u) : EAt w g o e :=
  ⟨h 0 _ rfl, h 1 _ rfl, h 2 _ rfl, h 3 _ rfl, h 4 _ rfl, h 5 _ rfl, h 6 _ rfl⟩
theorem ERow.nil : ERow w (.slice none 0 0) [] := .inl ⟨rfl, rfl⟩
theorem ERow.keep (h : ERow w v L) (k : ∀ g, v.ownBlock = some g → w'.heap[g]? = w.heap[g]?) : ERow w' v L := by
  rcases h with h | ⟨g, o, cap, C, rfl, h1, h2, h3, h4, h5⟩
  · exact .inl h
  · have := k g rfl
    exact .inr ⟨g, o, cap, C, rfl, h1, h2, this.trans h3, h4, fun i e hi => (h5 i e hi).keep this⟩
theorem ERow.lt (h : ERow w v L) {g : Nat} (hg : v.ownBlock = some g) : g < w.heap.size := by
  rcases h with ⟨rfl, _⟩ | ⟨g', o, cap, C, rfl, h1, h2, h3, h4, h5⟩
  · cases hg
  · have : g' = g := by simpa [Value.ownBlock] using hg
    subst this; exact heap_lt h3
theorem ERow.drewN (h : ERow w v L) (n : Nat) : ERow (w.drewN n) v L := h.keep fun _ _ => rfl
theorem ERow.drew (h : ERow w v L) : ERow w.drew v L := h.keep fun _ _ => rfl
theorem ERow.alloc (h : ERow w v L) (ob : Obj) : ERow (w.alloc ob) v L := h.keep fun g hg => Below.heap_alloc w ob g (h.lt hg)
theorem ERow.upd_ (h : ERow w v L) (u : Upd S w w') (hS : ∀ g, v.ownBlock = some g → ¬ S g) : ERow w' v L := h.keep fun g hg => u.block g (h.lt hg) (hS g hg)
/-- The length, whatever it is. -/
theorem ERow.form (h : ERow w v L) : ∃ A cap, v = .slice A L.length cap := by
  rcases h with ⟨rfl, rfl⟩ | ⟨g, o, cap, C, rfl, _⟩
  · exact ⟨_, _, rfl⟩
  · exact ⟨_, _, rfl⟩
theorem ERow.at_ (h : ERow w v L) {i : Nat} (hi : i < L.length) : ∃ g o cap, v = .slice (some ⟨g, o, none⟩) L.length cap ∧ g < w.heap.size ∧ EAt w g (o + i * 7) L[i] := by
  rcases h with ⟨rfl, rfl⟩ | ⟨g, o, cap, C, rfl, h1, h2, h3, h4, h5⟩
  · simp at hi
  · exact ⟨g, o, cap, rfl, heap_lt h3, h5 i _ (List.getElem?_eq_getElem hi)⟩
end

theorem infoEnt : (Try.prog.info? 35).map (fun i => (i.zero, i.size, i.bytes)) = some (some (.agg #[.int .i64 0, .int .i64 0, .int .i64 0, .bool false, .bool false, .bool false, .int .i64 0]), 7, 48) := by kernel_rfl

/-- Entries as cells. -/
def flat (L : List EntryM) : List Value := L.flatMap EntryM.cells
theorem cells_length (e : EntryM) : e.cells.length = 7 := rfl
theorem flat_length (L : List EntryM) : (flat L).length = L.length * 7 := by
  induction L with
  | nil => rfl
  | cons e L ih => unfold flat at *; rw [List.flatMap_cons, List.length_append, ih, cells_length, List.length_cons]; omega
theorem flat_append (L M : List EntryM) : flat (L ++ M) = flat L ++ flat M := by simp [flat]
theorem flat_one (e : EntryM) : flat [e] = e.cells := by simp [flat]
theorem flat_get : ∀ (L : List EntryM) (i j : Nat), j < 7 → (flat L)[i * 7 + j]? = (L[i]?).bind fun e => e.cells[j]?
  | [], i, j, hj => by simp [flat]
  | e :: L, 0, j, hj => by
    unfold flat; rw [List.flatMap_cons, List.getElem?_append_left (by rw [cells_length]; omega)]; simp
  | e :: L, i + 1, j, hj => by
    unfold flat; rw [List.flatMap_cons, List.getElem?_append_right (by rw [cells_length]; omega), cells_length, show (i + 1) * 7 + j - 7 = i * 7 + j by omega]
    exact flat_get L i j hj
theorem flat_cell {w : World} {g o : Nat} {L : List EntryM} (h : ∀ i e, L[i]? = some e → EAt w g (o + i * 7) e) : ∀ j u, (flat L)[j]? = some u → w.cell? ⟨g, o + j, none⟩ = some u := fun j u hu => by
  have e1 : j = j / 7 * 7 + j % 7 := by omega
  rw [e1, flat_get L _ _ (Nat.mod_lt _ (by omega))] at hu
  cases hL : L[j / 7]? with
  | none => rw [hL] at hu; cases hu
  | some e =>
    rw [hL] at hu
    have := (h _ _ hL).get hu
    rw [Nat.add_assoc, ← e1] at this
    exact this
theorem flat_one_cell (L : List EntryM) : ∀ u ∈ flat L, u.oneCell' = true := by
  intro u hu
  simp only [flat, List.mem_flatMap, EntryM.cells] at hu
  obtain ⟨e, _, hu⟩ := hu
  simp only [List.mem_cons, List.not_mem_nil, or_false] at hu
  rcases hu with rfl | rfl | rfl | rfl | rfl | rfl | rfl <;> rfl
/-- A new block whose first cells are entries. -/
theorem ERow.fresh {w : World} {g : Nat} {L : List EntryM} {cap : Nat} {C : Array Value} (h : w.heap[g]? = some (.cells C 35 (0, 0))) (hc : L.length ≤ cap) (hm : cap ≤ maxLen) (hs : cap * 7 ≤ C.size)
    (hp : ∀ (j : Nat) (u : Value), (flat L)[j]? = some u → C[j]? = some u) : ERow w (.slice (some ⟨g, 0, none⟩) L.length cap) L :=
  .inr ⟨g, 0, cap, C, rfl, hc, hm, h, by omega, fun i e hi => EAt.mk' fun j u hu => by
    have hj : j < 7 := by have := (List.getElem?_eq_some_iff.1 hu).1; rwa [cells_length] at this
    rw [cell_of_row _ g _ _ _ (0, 0) h]
    refine hp _ _ ?_
    rw [show 0 + i * 7 + j = i * 7 + j by omega, flat_get L i j hj, hi]
    exact hu⟩

/-- 'append(l, e)', e in a block of its own. -/
theorem run_append_eT {T : TypeId} (hT : Try.prog.underlying T = some (.slice 35)) {w : World} {v : Value} {L : List EntryM} (h : ERow w v L) (hl : L.length ≤ 100000) {B : Nat} {e : EntryM} (hB : EAt w B 0 e) (ty : TypeId) : ∃ v' w',
    (Builtin.append_ #[T, T] ty #[v, .slice (some ⟨B, 0, none⟩) 1 1]).run Try.prog w = .ok v' w' ∧ ERow w' v' (L ++ [e]) ∧ Upd (fun k => v.ownBlock = some k) w w' ∧
      (v'.ownBlock = v.ownBlock ∨ v'.ownBlock = some w.heap.size) := by
  obtain ⟨i0, hi, hz0, hz1, hz2⟩ := info_parts infoEnt
  have news : ∀ j u, (flat [e])[j]? = some u → w.cell? ((⟨B, 0, none⟩ : Addr).add j) = some u := fun j u hu => by
    rw [Addr.add_mid]
    rw [flat_one] at hu
    have := hB.get hu
    rwa [Nat.zero_add] at this ⊢
  have nl : (flat [e]).length = 1 * i0.size := by rw [flat_length, hz1]; rfl
  have hnl : (L ++ [e]).length = L.length + 1 := by simp
  have take : ∀ (C : Array Value) (X : Array Value), C = (flat L).toArray ++ (flat [e]).toArray ++ X → ∀ j u, (flat (L ++ [e]))[j]? = some u → C[j]? = some u := fun C X hC j u hu => by
    have hj : j < ((flat L).toArray ++ (flat [e]).toArray).size := by
      have := (List.getElem?_eq_some_iff.1 hu).1
      rw [flat_append] at this
      simpa using this
    rw [hC, Array.getElem?_append_left hj]
    rw [flat_append] at hu
    simpa using hu
  rcases h with ⟨rfl, rfl⟩ | ⟨g, o, cap, C, rfl, h1, h2, h3, h4, h5⟩
  · have hr := run_append_nil (P := Try.prog) w T ty 35 i0 _ hT hi hz0 ⟨B, 0, none⟩ 1 1 (flat [e]) nl news (by omega) (by omega) (by rw [hz2]; omega)
    refine ⟨_, _, hr, ?_, ((Upd.refl _ _).drew).alloc _, .inr rfl⟩
    have hc := grownCap_ge w 1 0 35
    refine ERow.fresh (L := [e]) (heap_alloc_new w.drew _) hc (grownCap_le_maxLen w 1 0 _ (by unfold maxLen; omega)) ?_ (fun j u hu => ?_)
    · rw [Array.size_append, size_zeroCells, List.size_toArray, flat_length]; simp [Value.cells]; omega
    · rw [Array.getElem?_append_left (by have := (List.getElem?_eq_some_iff.1 hu).1; simpa using this)]; simpa using hu
  · by_cases hroom : L.length + 1 ≤ cap
    · have hr := run_append_room_cells (P := Try.prog) w T ty 35 i0 hT hi g o L.length cap ⟨B, 0, none⟩ 1 1 (flat [e]) nl news (flat_one_cell _) hroom
        (fun j hj => by rw [flat_length] at hj; simp at hj; rw [hz1, cell_of_row w g _ C _ (0, 0) h3, Array.getElem?_eq_getElem (by omega)]; rfl)
        (fun j hj => by simp [World.frozen?, h3])
      rw [hz1] at hr
      refine ⟨_, _, hr, ?_, Upd.setCells (S := fun k => (Value.slice (some ⟨g, o, none⟩) L.length cap).ownBlock = some k) (fun _ => rfl) _ _ _ (Upd.refl _ _), .inl rfl⟩
      have hrow : Row w g 35 C.size (fun i => C.getD i undef) := ⟨C, h3, rfl, fun i hi => by simp [hi]⟩
      have hrow2 := Row.setCells (flat [e]) (o + L.length * 7) w _ hrow
      obtain ⟨C2, k1, k2, k3⟩ := hrow2
      refine .inr ⟨g, o, cap, C2, by rw [hnl], by rw [hnl]; exact hroom, h2, k1, by omega, fun i x hx => EAt.mk' fun j u hu => ?_⟩
      have hj : j < 7 := by have := (List.getElem?_eq_some_iff.1 hu).1; rwa [cells_length] at this
      have hil : i < L.length + 1 := by have := (List.getElem?_eq_some_iff.1 hx).1; rwa [hnl] at this
      rw [cell_of_row _ g _ C2 _ (0, 0) k1, k3 _ (by omega)]
      unfold updL
      rw [flat_length]
      by_cases hlt : i < L.length
      · rw [if_neg (by simp; omega)]
        rw [List.getElem?_append_left hlt] at hx
        have := (h5 i x hx).get hu
        rw [cell_of_row w g _ C _ (0, 0) h3] at this
        simp [Array.getD_eq_getD_getElem?, this]
      · obtain rfl : i = L.length := by omega
        rw [if_pos (by simp; omega)]
        rw [List.getElem?_append_right (Nat.le_refl _), Nat.sub_self] at hx
        simp at hx
        subst hx
        rw [show o + L.length * 7 + j - (o + L.length * 7) = j by omega, flat_one]
        simp [List.getD, hu]
    · have hr := run_append_grow (P := Try.prog) w T ty 35 i0 _ hT hi hz0 ⟨g, o, none⟩ L.length cap (flat L) (by rw [flat_length, hz1])
        (fun j u hu => by rw [Addr.add_mid]; exact flat_cell h5 j u hu) ⟨B, 0, none⟩ 1 1 (flat [e]) nl news (by omega) (by omega) (growslice_fits (by omega) (by rw [hz2]; omega))
      refine ⟨_, _, hr, ?_, ((Upd.refl _ _).drew).alloc _, .inr rfl⟩
      have hc := grownCap_ge w (L.length + 1) cap 35
      have hcm := grownCap_le_maxLen w (L.length + 1) cap 35 (by unfold maxLen; omega)
      have := ERow.fresh (L := L ++ [e]) (heap_alloc_new w.drew (.cells ((flat L).toArray ++ (flat [e]).toArray ++ Builtin.zeroCells (Value.cells (.agg #[.int .i64 0, .int .i64 0, .int .i64 0, .bool false, .bool false, .bool false, .int .i64 0])) (grownCap w (L.length + 1) cap 35 - (L.length + 1))) 35))
        (cap := grownCap w (L.length + 1) cap 35) (by rw [hnl]; exact hc) hcm
        (by rw [Array.size_append, Array.size_append, size_zeroCells, List.size_toArray, List.size_toArray, flat_length, flat_length]; simp [Value.cells]; omega) (take _ _ rfl)
      rw [hnl] at this
      exact this

theorem run_append_e {w : World} {v : Value} {L : List EntryM} (h : ERow w v L) (hl : L.length ≤ 100000) {B : Nat} {e : EntryM} (hB : EAt w B 0 e) (ty : TypeId) : ∃ v' w',
    (Builtin.append_ #[26, 26] ty #[v, .slice (some ⟨B, 0, none⟩) 1 1]).run Try.prog w = .ok v' w' ∧ ERow w' v' (L ++ [e]) ∧ Upd (fun k => v.ownBlock = some k) w w' ∧
      (v'.ownBlock = v.ownBlock ∨ v'.ownBlock = some w.heap.size) := run_append_eT Try.underlying26 h hl hB ty

/-- 'append([]Entry(nil), l...)'. -/
theorem run_append_all {w : World} {v : Value} {L : List EntryM} (h : ERow w v L) (hl : L.length ≤ 100000) (ty : TypeId) : ∃ v' w',
    (Builtin.append_ #[26, 26] ty #[.slice none 0 0, v]).run Try.prog w = .ok v' w' ∧ ERow w' v' L ∧ Upd Non w w' ∧ (∀ g, v'.ownBlock = some g → w.heap.size ≤ g) := by
  obtain ⟨i0, hi, hz0, hz1, hz2⟩ := info_parts infoEnt
  rcases h with ⟨rfl, rfl⟩ | ⟨g, o, cap, C, rfl, h1, h2, h3, h4, h5⟩
  · refine ⟨.slice none 0 0, w, ?_, ERow.nil, Upd.refl _ _, fun g hg => by cases hg⟩
    simp [Builtin.append_, run_underlying Try.underlying26, sizeOf, typeInfo, hi, Builtin.lenOf, Builtin.firstCells]
  · by_cases h0 : L.length = 0
    · have : L = [] := List.eq_nil_of_length_eq_zero h0
      subst this
      refine ⟨.slice none 0 0, w, ?_, ERow.nil, Upd.refl _ _, fun g hg => by cases hg⟩
      simp [Builtin.append_, run_underlying Try.underlying26, sizeOf, typeInfo, hi, Builtin.lenOf, Builtin.firstCells, loadCells, loadCellsFrom]
    · have hr := run_append_nil (P := Try.prog) w 26 ty 35 i0 _ Try.underlying26 hi hz0 ⟨g, o, none⟩ L.length cap (flat L) (by rw [flat_length, hz1])
        (fun j u hu => by rw [Addr.add_mid]; exact flat_cell h5 j u hu) (by omega) (by omega) (by rw [hz2]; omega)
      refine ⟨_, _, hr, ?_, ((Upd.refl _ _).drew).alloc _, fun g hg => by simp [Value.ownBlock] at hg; omega⟩
      have hc := grownCap_ge w L.length 0 35
      refine ERow.fresh (heap_alloc_new w.drew _) hc (grownCap_le_maxLen w _ 0 _ (by unfold maxLen; omega)) ?_ (fun j u hu => ?_)
      · rw [Array.size_append, size_zeroCells, List.size_toArray, flat_length]; simp [Value.cells]; omega
      · rw [Array.getElem?_append_left (by have := (List.getElem?_eq_some_iff.1 hu).1; simpa using this)]; simpa using hu

/-- Which entry: its place; below 0: none. -/
def cacheAt (L : List EntryM) (r p : Int) : Option Nat := L.findIdx? fun e => e.root == r && e.page == p
def idxI (x : Option Nat) : Int := match x with | some i => i | none => -1

set_option maxRecDepth 100000 in
set_option maxHeartbeats 400000 in
theorem cat_any (w : World) (c : Nat) (v : Value) (L : List EntryM) (hc : w.cell? ⟨c, 0, none⟩ = some v) (h : ERow w v L) (hl : L.length ≤ 100) (r p : Int) :
    Calls Try.prog 73 #[.pointer (some ⟨c, 0, none⟩), .int .i64 r, .int .i64 p] w fun e w' => e = .returned (.int .i64 (idxI (cacheAt L r p))) ∧ Upd Non w w' := by
  obtain ⟨A, cap, rfl⟩ := h.form
  go_enter Try.func73, Try.ntmps73
  go_wp2
  go_loopw [14] (fun i wr => ∃ k : Nat, k ≤ L.length ∧ i = .int .i64 k ∧ Hid (Upd Non w wr) ∧ Hid (∀ j (hj : j < L.length), j < k → (L[j].root == r && L[j].page == p) = false)) (fun i _ => L.length - (intOf i).toNat)
  case atStart => exact ⟨0, Nat.zero_le _, rfl, Upd.refl _ _, fun j _ h => by omega⟩
  case round =>
    obtain ⟨k, hk, rfl, hU, hb⟩ := hrel
    by_cases hlt : k < L.length
    · obtain ⟨g, o, cap', hv, hg, hE⟩ := (h.upd_ hU.out (fun _ _ => (fun h => h))).at_ hlt
      obtain ⟨rfl, rfl⟩ : A = some ⟨g, o, none⟩ ∧ cap = cap' := by simpa using hv
      have heq : ∃ x, L[k] = x := ⟨_, rfl⟩
      obtain ⟨x, hx⟩ := heq
      rw [hx] at hE
      have X := Lib.hid hx
      clear hx hv
      obtain ⟨e0, e1, e2, e3, e4, e5, e6⟩ := hE
      by_cases t0 : x.root = r
      · by_cases t1 : x.page = p
        · have t0' : (x.root == r) = true := by simpa using t0
          have t1' : (x.page == p) = true := by simpa using t1
          have F : Hid (cacheAt L r p = some k) := by
            unfold cacheAt
            rw [List.findIdx?_eq_some_iff_getElem]
            refine ⟨hlt, by rw [X.out]; simp [t0, t1], fun j hj => ?_⟩
            have := hb.out j (by omega) hj
            simpa using this
          clear t0 t1
          go_wp2
          go_ret
          exact ⟨by rw [F.out]; rfl, by have := hU.out; exact Upd.alloc this _⟩
        · have t0' : (x.root == r) = true := by simpa using t0
          have t1' : (x.page == p) = false := by simpa using t1
          have hb' : Hid (∀ j (hj : j < L.length), j < k + 1 → (L[j].root == r && L[j].page == p) = false) := fun j hj hjk => by
            rcases Nat.lt_succ_iff_lt_or_eq.1 hjk with h' | rfl
            · exact hb.out j hj h'
            · rw [X.out]; simp [t1]
          clear t0 t1
          go_wp2
          go_roundw
          case rel => exact ⟨k + 1, by omega, by go_num, Upd.alloc hU.out _, hb'⟩
          case measure => simp [intOf]; omega
      · have t0' : (x.root == r) = false := by simpa using t0
        have hb' : Hid (∀ j (hj : j < L.length), j < k + 1 → (L[j].root == r && L[j].page == p) = false) := fun j hj hjk => by
          rcases Nat.lt_succ_iff_lt_or_eq.1 hjk with h' | rfl
          · exact hb.out j hj h'
          · rw [X.out]; simp [t0]
        clear t0
        go_wp2
        go_roundw
        case rel => exact ⟨k + 1, by omega, by go_num, Upd.alloc hU.out _, hb'⟩
        case measure => simp [intOf]; omega
    · have F : Hid (cacheAt L r p = none) := by
        unfold cacheAt
        rw [List.findIdx?_eq_none_iff]
        intro e he
        obtain ⟨j, hj, rfl⟩ := List.getElem_of_mem he
        exact hb.out j hj (by omega)
      go_wp2
      go_ret
      exact ⟨by rw [F.out]; rfl, hU.out⟩

/-! ### closures that tell whether an entry goes -/
theorem ebox (w : World) (e : EntryM) : EAt (w.alloc (.cells e.cells.toArray 35)) w.heap.size 0 e :=
  EAt.mk' fun j u hu => by
    rw [Nat.zero_add, cell_of_row _ w.heap.size j _ _ (0, 0) (heap_alloc_new w _)]
    simpa using hu

set_option maxRecDepth 100000 in
set_option maxHeartbeats 400000 in
theorem dropC_any (w : World) (b1 b2 : Nat) (r p : Int) (h1 : w.cell? ⟨b1, 0, none⟩ = some (.int .i64 r)) (h2 : w.cell? ⟨b2, 0, none⟩ = some (.int .i64 p)) (e : EntryM) :
    Calls Try.prog 75 #[.agg #[.int .i64 e.root, .int .i64 e.page, .int .i64 e.to, .bool e.may, .bool e.leaf.there, .bool e.leaf.write, .int .i64 e.leaf.frame], .pointer (some ⟨b1, 0, none⟩), .pointer (some ⟨b2, 0, none⟩)] w
      fun x w' => x = .returned (.bool (e.root == r && e.page == p)) ∧ Upd Non w w' := by
  have l1 := block_lt_of_cell h1
  have l2 := block_lt_of_cell h2
  by_cases t0 : e.root = r
  · have t0' : (e.root == r) = true := by simpa using t0
    have F := Lib.hid (show (e.root == r && e.page == p) = (e.page == p) by simp [t0])
    clear t0
    go_enter Try.func75, Try.ntmps75
    go_wp2
    go_ret
    exact ⟨rfl, (Upd.refl _ _).alloc _⟩
  · have t0' : (e.root == r) = false := by simpa using t0
    have F := Lib.hid (show (e.root == r && e.page == p) = false by simp [t0])
    clear t0
    go_enter Try.func75, Try.ntmps75
    go_wp2
    go_ret
    exact ⟨rfl, (Upd.refl _ _).alloc _⟩

set_option maxRecDepth 100000 in
set_option maxHeartbeats 400000 in
theorem forgetC_any (w : World) (b1 : Nat) (r : Int) (h1 : w.cell? ⟨b1, 0, none⟩ = some (.int .i64 r)) (e : EntryM) :
    Calls Try.prog 76 #[.agg #[.int .i64 e.root, .int .i64 e.page, .int .i64 e.to, .bool e.may, .bool e.leaf.there, .bool e.leaf.write, .int .i64 e.leaf.frame], .pointer (some ⟨b1, 0, none⟩)] w
      fun x w' => x = .returned (.bool (e.root == r)) ∧ Upd Non w w' := by
  have l1 := block_lt_of_cell h1
  go_enter Try.func76, Try.ntmps76
  go_wp2
  go_ret
  exact ⟨rfl, (Upd.refl _ _).alloc _⟩

end U
end Go.Proofs.Ytnhplapcdgnaaaa
