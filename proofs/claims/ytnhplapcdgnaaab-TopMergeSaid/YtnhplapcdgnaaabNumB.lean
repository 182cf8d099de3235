import Derived.Test.YtnhplapcdgnaaabCacheX
set_option linter.unusedVariables false
set_option linter.unusedSimpArgs false
namespace Go.Proofs.Ytnhplapcdgnaaab
open Go.RowKit
namespace U

/-! Slices of ints; append. -/
def NRow (w : World) (v : Value) (L : List Int) : Prop :=
  (v = .slice none 0 0 ∧ L = []) ∨ ∃ g o cap C, v = .slice (some ⟨g, o, none⟩) L.length cap ∧ L.length ≤ cap ∧ cap ≤ maxLen ∧ w.heap[g]? = some (.cells C 3 (0, 0)) ∧ o + cap ≤ C.size ∧ ∀ i x, L[i]? = some x → w.cell? ⟨g, o + i, none⟩ = some (.int .i64 x)
def nflat (L : List Int) : List Value := L.map (Value.int .i64)
section
variable {w w' : World} {v : Value} {L : List Int} {S : Nat → Prop}
theorem NRow.nil : NRow w (.slice none 0 0) [] := .inl ⟨rfl, rfl⟩
theorem NRow.keep (h : NRow w v L) (k : ∀ g, v.ownBlock = some g → w'.heap[g]? = w.heap[g]?) : NRow w' v L := by
  rcases h with h | ⟨g, o, cap, C, rfl, h1, h2, h3, h4, h5⟩
  · exact .inl h
  · have e := k g rfl
    refine .inr ⟨g, o, cap, C, rfl, h1, h2, e.trans h3, h4, fun i x hx => ?_⟩
    have := h5 i x hx
    rw [cell_of_row w g _ C _ (0, 0) h3] at this
    rw [cell_of_row w' g _ C _ (0, 0) (e.trans h3)]
    exact this
theorem NRow.lt (h : NRow w v L) {g : Nat} (hg : v.ownBlock = some g) : g < w.heap.size := by
  rcases h with ⟨rfl, _⟩ | ⟨g', o, cap, C, rfl, h1, h2, h3, h4, h5⟩
  · cases hg
  · have e : g' = g := by simpa [Value.ownBlock] using hg
    subst e
    exact (Array.getElem?_eq_some_iff.1 h3).1
theorem NRow.drewN (h : NRow w v L) (n : Nat) : NRow (w.drewN n) v L := h.keep fun _ _ => rfl
theorem NRow.drew (h : NRow w v L) : NRow w.drew v L := h.keep fun _ _ => rfl
theorem NRow.alloc (h : NRow w v L) (ob : Obj) : NRow (w.alloc ob) v L := h.keep fun g hg => Below.heap_alloc w ob g (h.lt hg)
theorem NRow.upd_ (h : NRow w v L) (u : Upd S w w') (hS : ∀ g, v.ownBlock = some g → ¬ S g) : NRow w' v L := h.keep fun g hg => u.block g (h.lt hg) (hS g hg)
theorem NRow.form (h : NRow w v L) : ∃ A cap, v = .slice A L.length cap := by
  rcases h with ⟨rfl, rfl⟩ | ⟨g, o, cap, C, rfl, _⟩
  · exact ⟨_, _, rfl⟩
  · exact ⟨_, _, rfl⟩
theorem NRow.at_ (h : NRow w v L) {i : Nat} (hi : i < L.length) : ∃ g o cap, v = .slice (some ⟨g, o, none⟩) L.length cap ∧ g < w.heap.size ∧ w.cell? ⟨g, o + i, none⟩ = some (.int .i64 L[i]) := by
  rcases h with ⟨rfl, rfl⟩ | ⟨g, o, cap, C, rfl, h1, h2, h3, h4, h5⟩
  · simp at hi
  · exact ⟨g, o, cap, rfl, (Array.getElem?_eq_some_iff.1 h3).1, h5 i _ (List.getElem?_eq_getElem hi)⟩
theorem NRow.ne_row {c t N : Nat} {f : Nat → Value} (h : NRow w v L) (r : Row w c t N f) (ht : t ≠ 3) : ¬ v.ownBlock = some c := by
  rcases h with ⟨rfl, _⟩ | ⟨g', o, cap, C, rfl, h1, h2, h3, h4, h5⟩
  · intro e; cases e
  · intro e
    have e2 : g' = c := by simpa [Value.ownBlock] using e
    obtain ⟨C', k1, _⟩ := r
    rw [e2, k1] at h3
    simp at h3
    exact ht h3.2
theorem NRow.fresh {g : Nat} {cap : Nat} {C : Array Value} (h : w.heap[g]? = some (.cells C 3 (0, 0))) (hc : L.length ≤ cap) (hm : cap ≤ maxLen) (hs : cap ≤ C.size)
    (hp : ∀ (j : Nat) (u : Value), (nflat L)[j]? = some u → C[j]? = some u) : NRow w (.slice (some ⟨g, 0, none⟩) L.length cap) L :=
  .inr ⟨g, 0, cap, C, rfl, hc, hm, h, by omega, fun i x hx => by
    rw [cell_of_row _ g _ _ _ (0, 0) h]
    refine hp _ _ ?_
    rw [Nat.zero_add]
    unfold nflat
    rw [List.getElem?_map, hx]; rfl⟩
end
theorem nflat_length (L : List Int) : (nflat L).length = L.length := by unfold nflat; simp
theorem nflat_append (L M : List Int) : nflat (L ++ M) = nflat L ++ nflat M := by unfold nflat; simp
theorem nflat_one_cell (L : List Int) : ∀ u ∈ nflat L, u.oneCell' = true := by
  intro u hu
  unfold nflat at hu
  rw [List.mem_map] at hu
  obtain ⟨x, _, rfl⟩ := hu
  rfl
theorem nflat_get (L : List Int) (i : Nat) : (nflat L)[i]? = (L[i]?).map (Value.int .i64) := by unfold nflat; rw [List.getElem?_map]
/-- 'append(l, e)', e in a block of its own. -/
theorem run_append_n {w : World} {v : Value} {L : List Int} (h : NRow w v L) (hl : L.length ≤ 100000) {B : Nat} {e : Int} (hB : w.cell? ⟨B, 0, none⟩ = some (.int .i64 e)) (ty : TypeId) : ∃ v' w',
    (Builtin.append_ #[34, 34] ty #[v, .slice (some ⟨B, 0, none⟩) 1 1]).run Try.prog w = .ok v' w' ∧ NRow w' v' (L ++ [e]) ∧ Upd (fun k => v.ownBlock = some k) w w' ∧
      (v'.ownBlock = v.ownBlock ∨ v'.ownBlock = some w.heap.size) := by
  have hT := Try.underlying34
  obtain ⟨i0, hi, hz0, hz1, hz2⟩ := info_parts infoInt
  have news : ∀ j u, (nflat [e])[j]? = some u → w.cell? ((⟨B, 0, none⟩ : Addr).add j) = some u := fun j u hu => by
    rw [Addr.add_mid]
    have hj : j < 1 := by have := (List.getElem?_eq_some_iff.1 hu).1; rwa [nflat_length] at this
    obtain rfl : j = 0 := by omega
    have : u = .int .i64 e := by simpa [nflat] using hu.symm
    rw [this]; exact hB
  have nl : (nflat [e]).length = 1 * i0.size := by rw [nflat_length, hz1]; rfl
  have hnl : (L ++ [e]).length = L.length + 1 := by simp
  rcases h with ⟨rfl, rfl⟩ | ⟨g, o, cap, C, rfl, h1, h2, h3, h4, h5⟩
  · have hr := run_append_nil (P := Try.prog) w 34 ty 3 i0 _ hT hi hz0 ⟨B, 0, none⟩ 1 1 (nflat [e]) nl news (by omega) (by omega) (by rw [hz2]; omega)
    refine ⟨_, _, hr, ?_, ((Upd.refl _ _).drew).alloc _, .inr rfl⟩
    have hc := grownCap_ge w 1 0 3
    refine NRow.fresh (L := [e]) (heap_alloc_new w.drew _) hc (grownCap_le_maxLen w 1 0 _ (by unfold maxLen; omega)) ?_ (fun j u hu => ?_)
    · rw [Array.size_append, size_zeroCells, List.size_toArray, nflat_length]; simp [Value.cells]; omega
    · rw [Array.getElem?_append_left (by have := (List.getElem?_eq_some_iff.1 hu).1; simpa using this)]; simpa using hu
  · by_cases hroom : L.length + 1 ≤ cap
    · have hr := run_append_room_cells (P := Try.prog) w 34 ty 3 i0 hT hi g o L.length cap ⟨B, 0, none⟩ 1 1 (nflat [e]) nl news (nflat_one_cell _) hroom
        (fun j hj => by rw [nflat_length] at hj; simp at hj; rw [hz1, cell_of_row w g _ C _ (0, 0) h3, Array.getElem?_eq_getElem (by omega)]; rfl)
        (fun j hj => by simp [World.frozen?, h3])
      rw [hz1] at hr
      refine ⟨_, _, hr, ?_, Upd.setCells (S := fun k => (Value.slice (some ⟨g, o, none⟩) L.length cap).ownBlock = some k) (fun _ => rfl) _ _ _ (Upd.refl _ _), .inl rfl⟩
      have hrow : Row w g 3 C.size (fun i => C.getD i undef) := ⟨C, h3, rfl, fun i hi => by simp [hi]⟩
      have hrow2 := Row.setCells (nflat [e]) (o + L.length * 1) w _ hrow
      obtain ⟨C2, k1, k2, k3⟩ := hrow2
      refine .inr ⟨g, o, cap, C2, by rw [hnl], by rw [hnl]; exact hroom, h2, k1, by omega, fun i x hx => ?_⟩
      have hil : i < L.length + 1 := by have := (List.getElem?_eq_some_iff.1 hx).1; rwa [hnl] at this
      rw [cell_of_row _ g _ C2 _ (0, 0) k1, k3 _ (by omega)]
      unfold updL
      rw [nflat_length]
      by_cases hlt : i < L.length
      · rw [if_neg (by simp; omega)]
        rw [List.getElem?_append_left hlt] at hx
        have := h5 i x hx
        rw [cell_of_row w g _ C _ (0, 0) h3] at this
        simp [Array.getD_eq_getD_getElem?, this]
      · obtain rfl : i = L.length := by omega
        rw [if_pos (by simp)]
        rw [List.getElem?_append_right (Nat.le_refl _), Nat.sub_self] at hx
        simp at hx
        subst hx
        rw [show o + L.length - (o + L.length * 1) = 0 by omega]
        rfl
    · have hr := run_append_grow (P := Try.prog) w 34 ty 3 i0 _ hT hi hz0 ⟨g, o, none⟩ L.length cap (nflat L) (by rw [nflat_length, hz1]; omega)
        (fun j u hu => by
          rw [Addr.add_mid]
          rw [nflat_get] at hu
          cases hx : L[j]? with
          | none => rw [hx] at hu; cases hu
          | some x => rw [hx] at hu; have := h5 j x hx; simp at hu; rw [← hu]; exact this) ⟨B, 0, none⟩ 1 1 (nflat [e]) nl news (by omega) (by omega) (growslice_fits (by omega) (by rw [hz2]; omega))
      refine ⟨_, _, hr, ?_, ((Upd.refl _ _).drew).alloc _, .inr rfl⟩
      have hc := grownCap_ge w (L.length + 1) cap 3
      have hcm := grownCap_le_maxLen w (L.length + 1) cap 3 (by unfold maxLen; omega)
      have := NRow.fresh (L := L ++ [e]) (heap_alloc_new w.drew (.cells ((nflat L).toArray ++ (nflat [e]).toArray ++ Builtin.zeroCells (Value.cells (.int .i64 0)) (grownCap w (L.length + 1) cap 3 - (L.length + 1))) 3))
        (cap := grownCap w (L.length + 1) cap 3) (by rw [hnl]; exact hc) hcm
        (by rw [Array.size_append, Array.size_append, size_zeroCells, List.size_toArray, List.size_toArray, nflat_length, nflat_length]; simp [Value.cells]; omega) (fun j u hu => by
          have hj : j < ((nflat L).toArray ++ (nflat [e]).toArray).size := by
            have := (List.getElem?_eq_some_iff.1 hu).1
            rw [nflat_append] at this
            simpa using this
          rw [Array.getElem?_append_left hj]
          rw [nflat_append] at hu
          simpa using hu)
      rw [hnl] at this
      exact this
theorem fresh_ofN {w0 w : World} {v v2 : Value} (hu : Upd Non w0 w) (h : Fresh w0 v) (hb : v2.ownBlock = v.ownBlock ∨ v2.ownBlock = some w.heap.size) : Fresh w0 v2 := fun g hg => by
  rcases hb with hb | hb
  · exact h g (hb ▸ hg)
  · have := hu.size
    rw [hb] at hg
    simp at hg
    omega
theorem nbox (w : World) (e : Int) : (w.alloc (.cells #[.int .i64 e] 3)).cell? ⟨w.heap.size, 0, none⟩ = some (.int .i64 e) := by
  rw [cell_of_row _ w.heap.size 0 _ _ (0, 0) (heap_alloc_new w _)]; rfl
set_option maxRecDepth 100000 in
theorem wpl_append_n {ops : Array Oper} {rest : List Oper} {o : Oper} {a : Act} {w : World} {Q : Exit → Act → World → Prop} (hg : o.guard = none) (s x : Operand)
    (ho : o.op = .call { callee := .builtin .append, args := #[s, x], argTypes := #[34, 34] }) (v : Value) (B : Nat) (hs : a.eval s = v) (hx : a.eval x = .slice (some ⟨B, 0, none⟩) 1 1)
    (L : List Int) (e : Int) (h : NRow w v L) (hl : L.length ≤ 100000) (hB : w.cell? ⟨B, 0, none⟩ = some (.int .i64 e))
    (k : ∀ v' w', NRow w' v' (L ++ [e]) → Upd (fun k => v.ownBlock = some k) w w' → (v'.ownBlock = v.ownBlock ∨ v'.ownBlock = some w.heap.size) → wpList Try.prog ops Q rest (a.put o.dst v') w') :
    wpList Try.prog ops Q (o :: rest) a w := by
  obtain ⟨v', w', hrun, h1, h2, h3⟩ := run_append_n h hl hB o.type
  refine wpList_plain hg fun K hK => ?_
  unfold Oper.wp
  simp [execOp, ho, resolve, invoke, builtin, hs, hx, hrun, Result.andThen]
  exact hK _ _ (k v' w' h1 h2 h3)

end U
end Go.Proofs.Ytnhplapcdgnaaab
