import Derived.Test.YtnhplapcdgnaaabCacheX
set_option linter.unusedVariables false
set_option linter.unusedSimpArgs false
namespace Go.Proofs.Ytnhplapcdgnaaab
open Go.RowKit
namespace U

/-! Slices of bytes; append. -/
def URow (w : World) (v : Value) (L : List UInt8) : Prop :=
  (v = .slice none 0 0 ∧ L = []) ∨ ∃ g o cap C, v = .slice (some ⟨g, o, none⟩) L.length cap ∧ L.length ≤ cap ∧ cap ≤ maxLen ∧ w.heap[g]? = some (.cells C 5 (0, 0)) ∧ o + cap ≤ C.size ∧ ∀ i x, L[i]? = some x → w.cell? ⟨g, o + i, none⟩ = some (.int .u8 x.toNat)
def uflat (L : List UInt8) : List Value := L.map fun (x : UInt8) => Value.int .u8 x.toNat
section
variable {w w' : World} {v : Value} {L : List UInt8} {S : Nat → Prop}
theorem URow.nil : URow w (.slice none 0 0) [] := .inl ⟨rfl, rfl⟩
theorem URow.keep (h : URow w v L) (k : ∀ g, v.ownBlock = some g → w'.heap[g]? = w.heap[g]?) : URow w' v L := by
  rcases h with h | ⟨g, o, cap, C, rfl, h1, h2, h3, h4, h5⟩
  · exact .inl h
  · have e := k g rfl
    refine .inr ⟨g, o, cap, C, rfl, h1, h2, e.trans h3, h4, fun i x hx => ?_⟩
    have := h5 i x hx
    rw [cell_of_row w g _ C _ (0, 0) h3] at this
    rw [cell_of_row w' g _ C _ (0, 0) (e.trans h3)]
    exact this
theorem URow.lt (h : URow w v L) {g : Nat} (hg : v.ownBlock = some g) : g < w.heap.size := by
  rcases h with ⟨rfl, _⟩ | ⟨g', o, cap, C, rfl, h1, h2, h3, h4, h5⟩
  · cases hg
  · have e : g' = g := by simpa [Value.ownBlock] using hg
    subst e
    exact (Array.getElem?_eq_some_iff.1 h3).1
theorem URow.drewN (h : URow w v L) (n : Nat) : URow (w.drewN n) v L := h.keep fun _ _ => rfl
theorem URow.drew (h : URow w v L) : URow w.drew v L := h.keep fun _ _ => rfl
theorem URow.alloc (h : URow w v L) (ob : Obj) : URow (w.alloc ob) v L := h.keep fun g hg => Below.heap_alloc w ob g (h.lt hg)
theorem URow.upd_ (h : URow w v L) (u : Upd S w w') (hS : ∀ g, v.ownBlock = some g → ¬ S g) : URow w' v L := h.keep fun g hg => u.block g (h.lt hg) (hS g hg)
theorem URow.form (h : URow w v L) : ∃ A cap, v = .slice A L.length cap := by
  rcases h with ⟨rfl, rfl⟩ | ⟨g, o, cap, C, rfl, _⟩
  · exact ⟨_, _, rfl⟩
  · exact ⟨_, _, rfl⟩
theorem URow.at_ (h : URow w v L) {i : Nat} (hi : i < L.length) : ∃ g o cap, v = .slice (some ⟨g, o, none⟩) L.length cap ∧ g < w.heap.size ∧ w.cell? ⟨g, o + i, none⟩ = some (.int .u8 L[i].toNat) := by
  rcases h with ⟨rfl, rfl⟩ | ⟨g, o, cap, C, rfl, h1, h2, h3, h4, h5⟩
  · simp at hi
  · exact ⟨g, o, cap, rfl, (Array.getElem?_eq_some_iff.1 h3).1, h5 i _ (List.getElem?_eq_getElem hi)⟩
theorem URow.ne_row {c t N : Nat} {f : Nat → Value} (h : URow w v L) (r : Row w c t N f) (ht : t ≠ 5) : ¬ v.ownBlock = some c := by
  rcases h with ⟨rfl, _⟩ | ⟨g', o, cap, C, rfl, h1, h2, h3, h4, h5⟩
  · intro e; cases e
  · intro e
    have e2 : g' = c := by simpa [Value.ownBlock] using e
    obtain ⟨C', k1, _⟩ := r
    rw [e2, k1] at h3
    simp at h3
    exact ht h3.2
theorem URow.fresh {g : Nat} {cap : Nat} {C : Array Value} (h : w.heap[g]? = some (.cells C 5 (0, 0))) (hc : L.length ≤ cap) (hm : cap ≤ maxLen) (hs : cap ≤ C.size)
    (hp : ∀ (j : Nat) (u : Value), (uflat L)[j]? = some u → C[j]? = some u) : URow w (.slice (some ⟨g, 0, none⟩) L.length cap) L :=
  .inr ⟨g, 0, cap, C, rfl, hc, hm, h, by omega, fun i x hx => by
    rw [cell_of_row _ g _ _ _ (0, 0) h]
    refine hp _ _ ?_
    rw [Nat.zero_add]
    unfold uflat
    rw [List.getElem?_map, hx]; rfl⟩
end
theorem uflat_length (L : List UInt8) : (uflat L).length = L.length := by unfold uflat; simp
theorem uflat_append (L M : List UInt8) : uflat (L ++ M) = uflat L ++ uflat M := by unfold uflat; simp
theorem uflat_one_cell (L : List UInt8) : ∀ u ∈ uflat L, u.oneCell' = true := by
  intro u hu
  unfold uflat at hu
  rw [List.mem_map] at hu
  obtain ⟨x, _, rfl⟩ := hu
  rfl
theorem infoU8x : (Try.prog.info? 5).map (fun i => (i.zero, i.size, i.bytes)) = some (some (.int .u8 0), 1, 1) := by kernel_rfl
theorem uflat_get (L : List UInt8) (i : Nat) : (uflat L)[i]? = (L[i]?).map fun (x : UInt8) => Value.int .u8 x.toNat := by unfold uflat; rw [List.getElem?_map]
/-- 'append(l, e)', e in a block of its own. -/
theorem run_append_u {w : World} {v : Value} {L : List UInt8} (h : URow w v L) (hl : L.length ≤ 100000) {B : Nat} {e : UInt8} (hB : w.cell? ⟨B, 0, none⟩ = some (.int .u8 e.toNat)) (ty : TypeId) : ∃ v' w',
    (Builtin.append_ #[67, 67] ty #[v, .slice (some ⟨B, 0, none⟩) 1 1]).run Try.prog w = .ok v' w' ∧ URow w' v' (L ++ [e]) ∧ Upd (fun k => v.ownBlock = some k) w w' ∧
      (v'.ownBlock = v.ownBlock ∨ v'.ownBlock = some w.heap.size) := by
  have hT := Try.underlying67
  obtain ⟨i0, hi, hz0, hz1, hz2⟩ := info_parts infoU8x
  have news : ∀ j u, (uflat [e])[j]? = some u → w.cell? ((⟨B, 0, none⟩ : Addr).add j) = some u := fun j u hu => by
    rw [Addr.add_mid]
    have hj : j < 1 := by have := (List.getElem?_eq_some_iff.1 hu).1; rwa [uflat_length] at this
    obtain rfl : j = 0 := by omega
    have : u = .int .u8 e.toNat := by simpa [uflat] using hu.symm
    rw [this]; exact hB
  have nl : (uflat [e]).length = 1 * i0.size := by rw [uflat_length, hz1]; rfl
  have hnl : (L ++ [e]).length = L.length + 1 := by simp
  rcases h with ⟨rfl, rfl⟩ | ⟨g, o, cap, C, rfl, h1, h2, h3, h4, h5⟩
  · have hr := run_append_nil (P := Try.prog) w 67 ty 5 i0 _ hT hi hz0 ⟨B, 0, none⟩ 1 1 (uflat [e]) nl news (by omega) (by omega) (by rw [hz2]; omega)
    refine ⟨_, _, hr, ?_, ((Upd.refl _ _).drew).alloc _, .inr rfl⟩
    have hc := grownCap_ge w 1 0 5
    refine URow.fresh (L := [e]) (heap_alloc_new w.drew _) hc (grownCap_le_maxLen w 1 0 _ (by unfold maxLen; omega)) ?_ (fun j u hu => ?_)
    · rw [Array.size_append, size_zeroCells, List.size_toArray, uflat_length]; simp [Value.cells]; omega
    · rw [Array.getElem?_append_left (by have := (List.getElem?_eq_some_iff.1 hu).1; simpa using this)]; simpa using hu
  · by_cases hroom : L.length + 1 ≤ cap
    · have hr := run_append_room_cells (P := Try.prog) w 67 ty 5 i0 hT hi g o L.length cap ⟨B, 0, none⟩ 1 1 (uflat [e]) nl news (uflat_one_cell _) hroom
        (fun j hj => by rw [uflat_length] at hj; simp at hj; rw [hz1, cell_of_row w g _ C _ (0, 0) h3, Array.getElem?_eq_getElem (by omega)]; rfl)
        (fun j hj => by simp [World.frozen?, h3])
      rw [hz1] at hr
      refine ⟨_, _, hr, ?_, Upd.setCells (S := fun k => (Value.slice (some ⟨g, o, none⟩) L.length cap).ownBlock = some k) (fun _ => rfl) _ _ _ (Upd.refl _ _), .inl rfl⟩
      have hrow : Row w g 5 C.size (fun i => C.getD i undef) := ⟨C, h3, rfl, fun i hi => by simp [hi]⟩
      have hrow2 := Row.setCells (uflat [e]) (o + L.length * 1) w _ hrow
      obtain ⟨C2, k1, k2, k3⟩ := hrow2
      refine .inr ⟨g, o, cap, C2, by rw [hnl], by rw [hnl]; exact hroom, h2, k1, by omega, fun i x hx => ?_⟩
      have hil : i < L.length + 1 := by have := (List.getElem?_eq_some_iff.1 hx).1; rwa [hnl] at this
      rw [cell_of_row _ g _ C2 _ (0, 0) k1, k3 _ (by omega)]
      unfold updL
      rw [uflat_length]
      by_cases hlt : i < L.length
      · rw [if_neg (by simp; omega)]
        rw [List.getElem?_append_left hlt] at hx
        have := h5 i x hx
        rw [cell_of_row w g _ C _ (0, 0) h3] at this
        simp [Array.getD_eq_getD_getElem?, this]
      · obtain rfl : i = L.length := by omega
        rw [if_pos (by simp)]
        rw [List.getElem?_append_right (Nat.le_refl _), Nat.sub_self] at hx
        simp at hx
        subst hx
        rw [show o + L.length - (o + L.length * 1) = 0 by omega]
        rfl
    · have hr := run_append_grow (P := Try.prog) w 67 ty 5 i0 _ hT hi hz0 ⟨g, o, none⟩ L.length cap (uflat L) (by rw [uflat_length, hz1]; omega)
        (fun j u hu => by
          rw [Addr.add_mid]
          rw [uflat_get] at hu
          cases hx : L[j]? with
          | none => rw [hx] at hu; cases hu
          | some x => rw [hx] at hu; have := h5 j x hx; simp at hu; rw [← hu]; exact this) ⟨B, 0, none⟩ 1 1 (uflat [e]) nl news (by omega) (by omega) (growslice_fits (by omega) (by rw [hz2]; omega))
      refine ⟨_, _, hr, ?_, ((Upd.refl _ _).drew).alloc _, .inr rfl⟩
      have hc := grownCap_ge w (L.length + 1) cap 5
      have hcm := grownCap_le_maxLen w (L.length + 1) cap 5 (by unfold maxLen; omega)
      have := URow.fresh (L := L ++ [e]) (heap_alloc_new w.drew (.cells ((uflat L).toArray ++ (uflat [e]).toArray ++ Builtin.zeroCells (Value.cells (.int .u8 0)) (grownCap w (L.length + 1) cap 5 - (L.length + 1))) 5))
        (cap := grownCap w (L.length + 1) cap 5) (by rw [hnl]; exact hc) hcm
        (by rw [Array.size_append, Array.size_append, size_zeroCells, List.size_toArray, List.size_toArray, uflat_length, uflat_length]; simp [Value.cells]; omega) (fun j u hu => by
          have hj : j < ((uflat L).toArray ++ (uflat [e]).toArray).size := by
            have := (List.getElem?_eq_some_iff.1 hu).1
            rw [uflat_append] at this
            simpa using this
          rw [Array.getElem?_append_left hj]
          rw [uflat_append] at hu
          simpa using hu)
      rw [hnl] at this
      exact this
theorem fresh_ofU {w0 w : World} {v v2 : Value} (hu : Upd Non w0 w) (h : Fresh w0 v) (hb : v2.ownBlock = v.ownBlock ∨ v2.ownBlock = some w.heap.size) : Fresh w0 v2 := fun g hg => by
  rcases hb with hb | hb
  · exact h g (hb ▸ hg)
  · have := hu.size
    rw [hb] at hg
    simp at hg
    omega
theorem ubox (w : World) (e : UInt8) : (w.alloc (.cells #[.int .u8 e.toNat] 5)).cell? ⟨w.heap.size, 0, none⟩ = some (.int .u8 e.toNat) := by
  rw [cell_of_row _ w.heap.size 0 _ _ (0, 0) (heap_alloc_new w _)]; rfl
set_option maxRecDepth 100000 in
theorem wpl_append_u {ops : Array Oper} {rest : List Oper} {o : Oper} {a : Act} {w : World} {Q : Exit → Act → World → Prop} (hg : o.guard = none) (s x : Operand)
    (ho : o.op = .call { callee := .builtin .append, args := #[s, x], argTypes := #[67, 67] }) (v : Value) (B : Nat) (hs : a.eval s = v) (hx : a.eval x = .slice (some ⟨B, 0, none⟩) 1 1)
    (L : List UInt8) (e : UInt8) (h : URow w v L) (hl : L.length ≤ 100000) (hB : w.cell? ⟨B, 0, none⟩ = some (.int .u8 e.toNat))
    (k : ∀ v' w', URow w' v' (L ++ [e]) → Upd (fun k => v.ownBlock = some k) w w' → (v'.ownBlock = v.ownBlock ∨ v'.ownBlock = some w.heap.size) → wpList Try.prog ops Q rest (a.put o.dst v') w') :
    wpList Try.prog ops Q (o :: rest) a w := by
  obtain ⟨v', w', hrun, h1, h2, h3⟩ := run_append_u h hl hB o.type
  refine wpList_plain hg fun K hK => ?_
  unfold Oper.wp
  simp [execOp, ho, resolve, invoke, builtin, hs, hx, hrun, Result.andThen]
  exact hK _ _ (k v' w' h1 h2 h3)

end U
end Go.Proofs.Ytnhplapcdgnaaab
