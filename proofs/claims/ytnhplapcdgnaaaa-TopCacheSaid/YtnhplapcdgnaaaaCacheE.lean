import Derived.Test.YtnhplapcdgnaaaaCacheD
set_option linter.unusedVariables false
set_option linter.unusedSimpArgs false
namespace Go.Proofs.Ytnhplapcdgnaaaa
open Go.RowKit
namespace U

theorem Row.far3 {w : World} {c t N : Nat} {f : Nat → Value} {g : Nat} (r : Row w c t N f) (hg : c ≠ g) (i j q : Nat) (x y z : Value) : Row (((w.setCell ⟨g, i, none⟩ x).setCell ⟨g, j, none⟩ y).setCell ⟨g, q, none⟩ z) c t N f :=
  ((r.far (p := ⟨g, i, none⟩) hg x).far (p := ⟨g, j, none⟩) hg y).far (p := ⟨g, q, none⟩) hg z
def ptE (to : Int) (l : LeafM) (e : EntryM) : EntryM := if e.to = to then { e with leaf := l } else e
def ptL (to : Int) (l : LeafM) (L : List EntryM) (k : Nat) : List EntryM := (L.take k).map (ptE to l) ++ L.drop k
def ptN (to : Int) (L : List EntryM) : Nat := L.countP fun e => e.to == to
theorem ptL_length (to : Int) (l : LeafM) (L : List EntryM) (k : Nat) : (ptL to l L k).length = L.length := by
  unfold ptL; simp only [List.length_append, List.length_map, List.length_take, List.length_drop]; omega
theorem ptL_get (to : Int) (l : LeafM) (L : List EntryM) (k i : Nat) : (ptL to l L k)[i]? = if i < k then (L[i]?).map (ptE to l) else L[i]? := by
  unfold ptL
  by_cases h : i < k
  · rw [if_pos h]
    by_cases h2 : i < L.length
    · rw [List.getElem?_append_left (by simp; omega), List.getElem?_map, List.getElem?_take_of_lt h]
    · rw [List.getElem?_eq_none (by simp; omega), List.getElem?_eq_none (by omega)]; rfl
  · rw [if_neg h]
    by_cases h2 : k ≤ L.length
    · rw [List.getElem?_append_right (by simp; omega), List.getElem?_drop]
      congr 1; simp; omega
    · rw [List.getElem?_eq_none (by simp; omega), List.getElem?_eq_none (by omega)]
theorem ptL_set (to : Int) (l : LeafM) (L : List EntryM) (k : Nat) (hk : k < L.length) : ptL to l L (k + 1) = (ptL to l L k).set k (ptE to l L[k]) := by
  apply List.ext_getElem?
  intro i
  rw [List.getElem?_set, ptL_get, ptL_get, ptL_length]
  by_cases h : k = i
  · subst h; simp [hk]
  · rw [if_neg h]
    by_cases h2 : i < k
    · rw [if_pos (by omega), if_pos h2]
    · rw [if_neg (by omega), if_neg h2]
theorem ptL_all (to : Int) (l : LeafM) (L : List EntryM) : ptL to l L L.length = L.map (ptE to l) := by simp [ptL]

theorem ERow.setLeaf {w : World} {g o cap : Nat} {L : List EntryM} {n : Nat} (h : ERow w (.slice (some ⟨g, o, none⟩) n cap) L) {i : Nat} (hi : i < L.length) (l : LeafM) :
    ERow (((w.setCell ⟨g, o + i * 7 + 4, none⟩ (.bool l.there)).setCell ⟨g, o + i * 7 + 5, none⟩ (.bool l.write)).setCell ⟨g, o + i * 7 + 6, none⟩ (.int .i64 l.frame))
      (.slice (some ⟨g, o, none⟩) n cap) (L.set i { L[i] with leaf := l }) := by
  rcases h with ⟨h, rfl⟩ | ⟨g', o', cap', C, hv, k1, k2, k3, k4, k5⟩
  · simp at hi
  · simp only [Value.slice.injEq, Option.some.injEq, Addr.mk.injEq, and_true] at hv
    obtain ⟨⟨rfl, rfl⟩, rfl, rfl⟩ := hv
    have r0 : Row w g 35 C.size (fun j => C.getD j undef) := ⟨C, k3, rfl, fun j hj => by simp [hj]⟩
    obtain ⟨D, d1, d2, d3⟩ := ((r0.set_ (i := o + i * 7 + 4) (.bool l.there)).set_ (i := o + i * 7 + 5) (.bool l.write)).set_ (i := o + i * 7 + 6) (.int .i64 l.frame)
    refine .inr ⟨g, o, cap, D, by rw [List.length_set], by rw [List.length_set]; exact k1, k2, d1, by omega, fun j e hj => EAt.mk' fun q u hu => ?_⟩
    have hq : q < 7 := by have := (List.getElem?_eq_some_iff.1 hu).1; rwa [cells_length] at this
    have hjl : j < L.length := by have := (List.getElem?_eq_some_iff.1 hj).1; rwa [List.length_set] at this
    rw [cell_of_row _ g _ D _ (0, 0) d1, d3 _ (by omega)]
    have old : ∀ (x : EntryM) (y : Value), L[j]? = some x → x.cells[q]? = some y → C.getD (o + j * 7 + q) undef = y := fun x y hx hy => by
      have := (k5 j x hx).get hy
      rw [cell_of_row w g _ C _ (0, 0) k3] at this
      simp [Array.getD_eq_getD_getElem?, this]
    unfold upd
    rw [List.getElem?_set] at hj
    by_cases hij : i = j
    · subst hij
      simp only [if_true, hi] at hj
      simp only [Option.some.injEq] at hj
      subst hj
      have hx : L[i]? = some L[i] := List.getElem?_eq_getElem hi
      match q, hq, hu with
      | 0, _, hu => rw [if_neg (by omega), if_neg (by omega), if_neg (by omega)]; exact congrArg some (old _ u hx hu)
      | 1, _, hu => rw [if_neg (by omega), if_neg (by omega), if_neg (by omega)]; exact congrArg some (old _ u hx hu)
      | 2, _, hu => rw [if_neg (by omega), if_neg (by omega), if_neg (by omega)]; exact congrArg some (old _ u hx hu)
      | 3, _, hu => rw [if_neg (by omega), if_neg (by omega), if_neg (by omega)]; exact congrArg some (old _ u hx hu)
      | 4, _, hu => rw [if_neg (by omega), if_neg (by omega), if_pos rfl]; exact hu
      | 5, _, hu => rw [if_neg (by omega), if_pos rfl]; exact hu
      | 6, _, hu => rw [if_pos rfl]; exact hu
    · rw [if_neg hij] at hj
      rw [if_neg (by omega), if_neg (by omega), if_neg (by omega)]
      exact congrArg some (old e u hj hu)

set_option maxRecDepth 100000 in
set_option maxHeartbeats 1000000 in
theorem cPoint_any (w : World) (c : Nat) (v : Value) (L : List EntryM) (hc : Row w c 28 1 (fun _ => v)) (h : ERow w v L) (hl : L.length ≤ 100) (to : Int) (l : LeafM) :
    Calls Try.prog 23 #[.pointer (some ⟨c, 0, none⟩), .int .i64 to, .agg #[.bool l.there, .bool l.write, .int .i64 l.frame]] w
      fun e w' => e = .returned (.int .i64 (ptN to L)) ∧ Row w' c 28 1 (fun _ => v) ∧ ERow w' v (L.map (ptE to l)) ∧ Upd (fun k => v.ownBlock = some k) w w' := by
  have hc0 := (hc.alloc (.cells #[.bool l.there, .bool l.write, .int .i64 l.frame] 33)).cell (i := 0) (by omega)
  have lb := hc.lt
  have ll : ∀ g, v.ownBlock = some g → g < w.heap.size := fun g hg => h.lt hg
  have hL := Lib.hid ll
  clear ll
  obtain ⟨A, cap, rfl⟩ := h.form
  go_enter Try.func23, Try.ntmps23
  go_wp2
  go_loopw [7, 15] (fun n i wr => ∃ (k : Nat), k ≤ L.length ∧ i = .int .i64 k ∧ n = .int .i64 (ptN to (L.take k)) ∧
    Hid (Row wr c 28 1 (fun _ => .slice A L.length cap) ∧ ERow wr (.slice A L.length cap) (ptL to l L k) ∧ Upd (fun k => (Value.slice A L.length cap).ownBlock = some k) (w.alloc (.cells #[.bool l.there, .bool l.write, .int .i64 l.frame] 33)) wr)) (fun _ i _ => L.length - (intOf i).toNat)
  case atStart => exact ⟨0, Nat.zero_le _, rfl, rfl, hc.alloc _, h.alloc _, Upd.refl _ _⟩
  case round =>
    obtain ⟨k, hk, rfl, rfl, hI⟩ := hrel
    rename_i wr _
    by_cases hlt : k < L.length
    · obtain ⟨g, o, cap', hv, hg, hE⟩ := hI.out.2.1.at_ (i := k) (by rw [ptL_length]; exact hlt)
      obtain ⟨rfl, rfl⟩ : A = some ⟨g, o, none⟩ ∧ cap = cap' := by rw [ptL_length] at hv; simpa using hv
      have hx0 : (ptL to l L k)[k]'(by rw [ptL_length]; exact hlt) = L[k] := by
        have := ptL_get to l L k k
        rw [if_neg (by omega), List.getElem?_eq_getElem (by rw [ptL_length]; exact hlt), List.getElem?_eq_getElem hlt] at this
        simpa using this
      have hcc := hI.out.1.cell (i := 0) (by omega)
      have hub : (w.alloc (.cells #[.bool l.there, .bool l.write, .int .i64 l.frame] 33)).heap[w.heap.size]? = _ := heap_alloc_new w _
      have hgw : g < w.heap.size := hL.out g rfl
      have hb2 := (hI.out.2.2.block w.heap.size (by simp) (by simp [Value.ownBlock]; omega)).trans hub
      have b0 := cell_of_row wr w.heap.size 0 _ _ _ hb2
      have b1 := cell_of_row wr w.heap.size 1 _ _ _ hb2
      have b2 := cell_of_row wr w.heap.size 2 _ _ _ hb2
      simp at b0 b1 b2
      have fr : ∀ j, wr.frozen? ⟨g, j, none⟩ = false := by
        intro j
        rcases hI.out.2.1 with ⟨h0, _⟩ | ⟨g', o', c', C, hv', _, _, k3, _⟩
        · cases h0
        · simp only [Value.slice.injEq, Option.some.injEq, Addr.mk.injEq] at hv'
          obtain ⟨⟨rfl, _⟩, _⟩ := hv'
          simp [World.frozen?, k3]
      have f4 := fr (o + k * 7 + 4)
      have f5 := fr (o + k * 7 + 5)
      have f6 := fr (o + k * 7 + 6)
      rw [hx0] at hE
      obtain ⟨x, hx⟩ : ∃ x, L[k] = x := ⟨_, rfl⟩
      have X := Lib.hid hx
      have X0 := Lib.hid hx0
      rw [hx] at hE
      clear hx hx0 hv fr hub hb2
      have hcl : (ptN to (L.take k)) ≤ k := by
        have h1 := List.countP_le_length (p := fun e : EntryM => e.to == to) (l := L.take k)
        have h2 := List.length_take_le k L
        unfold ptN; omega
      obtain ⟨e0, e1, e2, e3, e4, e5, e6⟩ := hE
      by_cases ht : x.to = to
      · have ht' : (x.to == to) = true := by simpa using ht
        have hn : Hid (ptN to (L.take (k + 1)) = ptN to (L.take k) + 1) := by
          show _ = _
          unfold ptN
          rw [List.take_succ_eq_append_getElem hlt, List.countP_append, X.out]; simp [ht]
        have hs : Hid (ptL to l L (k + 1) = (ptL to l L k).set k { x with leaf := l }) := by
          show _ = _
          rw [ptL_set to l L k hlt, X.out]; unfold ptE; rw [if_pos ht]
        clear ht
        go_wp2
        go_roundw
        case rel =>
          have hne : c ≠ g := fun e => hI.out.2.1.ne_row hI.out.1 (by decide) (by rw [e]; rfl)
          have sl := ERow.setLeaf hI.out.2.1 (i := k) (by rw [ptL_length]; exact hlt) l
          rw [X0.out, X.out, ← hs.out] at sl
          exact ⟨k + 1, by omega, by go_num, by rw [hn.out]; go_num, hI.out.1.far3 hne _ _ _ _ _ _, sl, hI.out.2.2.sc3 rfl _ _ _ _ _ _⟩
        case measure => simp [intOf]; omega
      · have ht' : (x.to == to) = false := by simpa using ht
        have hn : Hid (ptN to (L.take (k + 1)) = ptN to (L.take k)) := by
          show _ = _
          unfold ptN
          rw [List.take_succ_eq_append_getElem hlt, List.countP_append, X.out]; simp [ht]
        have hs : Hid (ptL to l L (k + 1) = ptL to l L k) := by
          show _ = _
          rw [ptL_set to l L k hlt, X.out]; unfold ptE; rw [if_neg ht]
          apply List.ext_getElem?
          intro i
          rw [List.getElem?_set]
          by_cases hki : k = i
          · subst hki
            rw [if_pos rfl, if_pos (by rw [ptL_length]; exact hlt), List.getElem?_eq_getElem (by rw [ptL_length]; exact hlt), X0.out, X.out]
          · rw [if_neg hki]
        clear ht
        go_wp2
        go_roundw
        case rel => exact ⟨k + 1, by omega, by go_num, by rw [hn.out], by rw [hs.out]; exact hI.out⟩
        case measure => simp [intOf]; omega
    · obtain rfl : k = L.length := by omega
      have hI2 := hI.out
      rw [ptL_all] at hI2
      have V := Lib.hid hI2
      have T := Lib.hid (show L.take L.length = L from List.take_length)
      clear hI hI2
      go_wp2
      go_ret
      exact ⟨by rw [T.out]; rfl, V.out.1, V.out.2.1, ((Upd.refl _ w).alloc _).trans V.out.2.2⟩

end U
end Go.Proofs.Ytnhplapcdgnaaaa
