import Derived.Test.YtnhplapcdgnaaaaCache
import Derived.OwnWalk
set_option linter.unusedVariables false
set_option linter.unusedSimpArgs false
namespace Go.Proofs.Ytnhplapcdgnaaaa
open Go.RowKit
namespace U

set_option maxRecDepth 100000 in
theorem wpl_append_e {ops : Array Oper} {rest : List Oper} {o : Oper} {a : Act} {w : World} {Q : Exit → Act → World → Prop} (hg : o.guard = none) (s x : Operand)
    (ho : o.op = .call { callee := .builtin .append, args := #[s, x], argTypes := #[26, 26] }) (v : Value) (B : Nat) (hs : a.eval s = v) (hx : a.eval x = .slice (some ⟨B, 0, none⟩) 1 1)
    (L : List EntryM) (e : EntryM) (h : ERow w v L) (hl : L.length ≤ 100000) (hB : EAt w B 0 e)
    (k : ∀ v' w', ERow w' v' (L ++ [e]) → Upd (fun k => v.ownBlock = some k) w w' → (v'.ownBlock = v.ownBlock ∨ v'.ownBlock = some w.heap.size) → wpList Try.prog ops Q rest (a.put o.dst v') w') :
    wpList Try.prog ops Q (o :: rest) a w := by
  obtain ⟨v', w', hrun, h1, h2, h3⟩ := run_append_e h hl hB o.type
  refine wpList_plain hg fun K hK => ?_
  unfold Oper.wp
  simp [execOp, ho, resolve, invoke, builtin, hs, hx, hrun, Result.andThen]
  exact hK _ _ (k v' w' h1 h2 h3)
set_option maxRecDepth 100000 in
theorem wpl_append_eT {T : TypeId} (hT : Try.prog.underlying T = some (.slice 35)) {ops : Array Oper} {rest : List Oper} {o : Oper} {a : Act} {w : World} {Q : Exit → Act → World → Prop} (hg : o.guard = none) (s x : Operand)
    (ho : o.op = .call { callee := .builtin .append, args := #[s, x], argTypes := #[T, T] }) (v : Value) (B : Nat) (hs : a.eval s = v) (hx : a.eval x = .slice (some ⟨B, 0, none⟩) 1 1)
    (L : List EntryM) (e : EntryM) (h : ERow w v L) (hl : L.length ≤ 100000) (hB : EAt w B 0 e)
    (k : ∀ v' w', ERow w' v' (L ++ [e]) → Upd (fun k => v.ownBlock = some k) w w' → (v'.ownBlock = v.ownBlock ∨ v'.ownBlock = some w.heap.size) → wpList Try.prog ops Q rest (a.put o.dst v') w') :
    wpList Try.prog ops Q (o :: rest) a w := by
  obtain ⟨v', w', hrun, h1, h2, h3⟩ := run_append_eT hT h hl hB o.type
  refine wpList_plain hg fun K hK => ?_
  unfold Oper.wp
  simp [execOp, ho, resolve, invoke, builtin, hs, hx, hrun, Result.andThen]
  exact hK _ _ (k v' w' h1 h2 h3)
set_option maxRecDepth 100000 in
theorem wpl_append_all {ops : Array Oper} {rest : List Oper} {o : Oper} {a : Act} {w : World} {Q : Exit → Act → World → Prop} (hg : o.guard = none) (x : Operand)
    (ho : o.op = .call { callee := .builtin .append, args := #[.const (.slice none 0 0), x], argTypes := #[26, 26] }) (v : Value) (hx : a.eval x = v)
    (L : List EntryM) (h : ERow w v L) (hl : L.length ≤ 100000)
    (k : ∀ v' w', ERow w' v' L → Upd Non w w' → (∀ g, v'.ownBlock = some g → w.heap.size ≤ g) → wpList Try.prog ops Q rest (a.put o.dst v') w') :
    wpList Try.prog ops Q (o :: rest) a w := by
  obtain ⟨v', w', hrun, h1, h2, h3⟩ := run_append_all h hl o.type
  refine wpList_plain hg fun K hK => ?_
  unfold Oper.wp
  have hs : a.eval (.const (.slice none 0 0)) = .slice none 0 0 := rfl
  simp [execOp, ho, resolve, invoke, builtin, hs, hx, hrun, Result.andThen]
  exact hK _ _ (k v' w' h1 h2 h3)

theorem ERow.farRow {w : World} {v : Value} {L : List EntryM} {c t N i : Nat} {f : Nat → Value} (h : ERow w v L) (r : Row w c t N f) (ht : t ≠ 35) (u : Value) : ERow (w.setCell ⟨c, i, none⟩ u) v L := by
  refine h.keep fun g hg => Below.heap_setCell w ⟨c, i, none⟩ u g (fun e => ?_)
  rcases h with ⟨rfl, _⟩ | ⟨g', o, cap, C, rfl, h1, h2, h3, h4, h5⟩
  · cases hg
  · have e2 : g' = g := by simpa [Value.ownBlock] using hg
    obtain ⟨C', k1, _⟩ := r
    have e3 : g = c := e
    rw [e2, e3, k1] at h3
    simp at h3
    exact ht h3.2
/-- A slice that the call made itself: its block is no old one. -/
def Fresh (w : World) (v : Value) : Prop := ∀ g, v.ownBlock = some g → w.heap.size ≤ g

set_option maxRecDepth 100000 in
set_option maxHeartbeats 1000000 in
theorem cdrop_any (w : World) (c : Nat) (v : Value) (L : List EntryM) (hc : Row w c 28 1 (fun _ => v)) (h : ERow w v L) (hl : L.length ≤ 100) (F : FuncId) (b1 b2 : Nat) (p : EntryM → Bool) (M : List EntryM) (hM : Hid (L.filter (fun x => !p x) = M))
    (hF : Hid (∀ w1 x, Upd Non w w1 → Calls Try.prog 75 #[.agg #[.int .i64 x.root, .int .i64 x.page, .int .i64 x.to, .bool x.may, .bool x.leaf.there, .bool x.leaf.write, .int .i64 x.leaf.frame], .pointer (some ⟨b1, 0, none⟩), .pointer (some ⟨b2, 0, none⟩)] w1 fun y w2 => y = .returned (.bool (p x)) ∧ Upd Non w1 w2)) :
    Calls Try.prog 74 #[.pointer (some ⟨c, 0, none⟩), .func (.func 75) #[] #[.pointer (some ⟨b1, 0, none⟩), .pointer (some ⟨b2, 0, none⟩)]] w
      fun e w' => ∃ v', e = .returned (.int .i64 ((L.length : Int) - M.length)) ∧ Row w' c 28 1 (fun _ => v') ∧ ERow w' v' M ∧ Fresh w v' ∧ Upd (at1 c) w w' := by
  have hc0 := hc.cell (i := 0) (by omega)
  obtain ⟨A, cap, rfl⟩ := h.form
  go_enter Try.func74, Try.ntmps74
  go_wp2
  go_loopw [5, 14] (fun l i wr => ∃ (k : Nat) (v' : Value), k ≤ L.length ∧ i = .int .i64 k ∧ l = v' ∧ Hid (ERow wr v' ((L.take k).filter fun x => !p x) ∧ Fresh w v' ∧ Upd Non w wr)) (fun _ i _ => L.length - (intOf i).toNat)
  case atStart => exact ⟨0, _, Nat.zero_le _, rfl, rfl, ERow.nil, (fun g hg => by cases hg), Upd.refl _ _⟩
  case round =>
    obtain ⟨k, v', hk, rfl, rfl, hI⟩ := hrel
    by_cases hlt : k < L.length
    · obtain ⟨g, o, cap', hv, hg, hE⟩ := (h.upd_ hI.out.2.2 (fun _ _ => (fun h => h))).at_ hlt
      obtain ⟨rfl, rfl⟩ : A = some ⟨g, o, none⟩ ∧ cap = cap' := by simpa using hv
      have hts : Hid (L.take (k + 1) = L.take k ++ [L[k]]) := by rw [List.take_succ_eq_append_getElem hlt]; rfl
      have hlen : Hid (((L.take k).filter fun x => !p x).length ≤ 100000) := by
        have h1 := List.length_filter_le (fun x => !p x) (L.take k)
        have h2 := List.length_take_le k L
        show _ ≤ _
        omega
      have heq : ∃ x, L[k] = x := ⟨_, rfl⟩
      obtain ⟨x, hx⟩ := heq
      rw [hx] at hE hts
      clear hx hv
      obtain ⟨e0, e1, e2, e3, e4, e5, e6⟩ := hE
      by_cases hp : p x = true
      · have hfin : Hid ((L.take (k + 1)).filter (fun x => !p x) = (L.take k).filter fun x => !p x) := by show _ = _; rw [hts.out, List.filter_append]; simp [hp]
        go_wp2_with (go_at_call 75; refine (hF.out _ x (hI.out.2.2.alloc _)).mono ?_; rintro y w2 ⟨rfl, u2⟩)
        go_roundw
        case rel => exact ⟨k + 1, _, by omega, by go_num, rfl, by rw [hfin.out]; exact (hI.out.1.alloc _).upd_ u2 (fun _ _ => (fun h => h)), hI.out.2.1, (hI.out.2.2.alloc _).trans u2⟩
        case measure => simp [intOf]; omega
      · have hp' : p x = false := by simpa using hp
        have hfin : Hid ((L.take (k + 1)).filter (fun x => !p x) = ((L.take k).filter fun x => !p x) ++ [x]) := by show _ = _; rw [hts.out, List.filter_append]; simp [hp]
        clear hp
        go_wp2_with (first
          | (go_at_call 75; refine (hF.out _ x (hI.out.2.2.alloc _)).mono ?_; rintro y w2 ⟨rfl, u2⟩; have hM := (hI.out.1.alloc _).upd_ u2 (fun _ _ => (fun h => h)); obtain ⟨hcc, hff⟩ := u2.cells; have hz := u2.size; simp at hz)
          | (at_builtin; refine wpl_append_e rfl _ _ rfl _ _ rfl rfl _ x (by repeat (first | assumption | apply ERow.alloc | apply ERow.drew | apply ERow.drewN)) hlen.out (ebox _ x) ?_; intro v2 w3 hv2 u3 hb2))
        go_roundw
        case rel => exact ⟨k + 1, _, by omega, by go_num, rfl, by rw [hfin.out]; exact hv2, fun g hg => by
            rcases hb2 with hb2 | hb2
            · exact hI.out.2.1 g (hb2 ▸ hg)
            · have := hI.out.2.2.size
              rw [hb2] at hg
              simp at hg
              omega, ((((hI.out.2.2.alloc _).trans u2).alloc _).over u3 hI.out.2.1)⟩
        case measure => simp [intOf]; omega
    · obtain rfl : k = L.length := by omega
      have hI' := hI.out
      rw [List.take_length, hM.out] at hI'
      have hrow := hc.upd_ hI'.2.2 (fun h => h)
      have hcc := hrow.cell (i := 0) (by omega)
      have hff := hrow.frozen 0
      obtain ⟨A2, cap2, hv2⟩ := hI'.1.form
      have hle : M.length ≤ L.length := hM.out ▸ List.length_filter_le _ _
      have V := Lib.hid hI'
      rename_i v'
      subst hv2
      clear hI' hI
      go_wp2
      go_ret
      exact ⟨_, rfl, (hrow.set_ _).congr (fun i hi => by unfold upd; rw [if_pos (by omega)]), V.out.1.farRow hrow (by decide) _, V.out.2.1, (V.out.2.2.mono (fun _ _ h => h.elim)).setCell (S := at1 c) (fun _ => at1_self) _⟩

set_option maxRecDepth 100000 in
set_option maxHeartbeats 1000000 in
theorem cforget_any (w : World) (c : Nat) (v : Value) (L : List EntryM) (hc : Row w c 28 1 (fun _ => v)) (h : ERow w v L) (hl : L.length ≤ 100) (F : FuncId) (b1 : Nat) (p : EntryM → Bool) (M : List EntryM) (hM : Hid (L.filter (fun x => !p x) = M))
    (hF : Hid (∀ w1 x, Upd Non w w1 → Calls Try.prog 76 #[.agg #[.int .i64 x.root, .int .i64 x.page, .int .i64 x.to, .bool x.may, .bool x.leaf.there, .bool x.leaf.write, .int .i64 x.leaf.frame], .pointer (some ⟨b1, 0, none⟩)] w1 fun y w2 => y = .returned (.bool (p x)) ∧ Upd Non w1 w2)) :
    Calls Try.prog 74 #[.pointer (some ⟨c, 0, none⟩), .func (.func 76) #[] #[.pointer (some ⟨b1, 0, none⟩)]] w
      fun e w' => ∃ v', e = .returned (.int .i64 ((L.length : Int) - M.length)) ∧ Row w' c 28 1 (fun _ => v') ∧ ERow w' v' M ∧ Fresh w v' ∧ Upd (at1 c) w w' := by
  have hc0 := hc.cell (i := 0) (by omega)
  obtain ⟨A, cap, rfl⟩ := h.form
  go_enter Try.func74, Try.ntmps74
  go_wp2
  go_loopw [5, 14] (fun l i wr => ∃ (k : Nat) (v' : Value), k ≤ L.length ∧ i = .int .i64 k ∧ l = v' ∧ Hid (ERow wr v' ((L.take k).filter fun x => !p x) ∧ Fresh w v' ∧ Upd Non w wr)) (fun _ i _ => L.length - (intOf i).toNat)
  case atStart => exact ⟨0, _, Nat.zero_le _, rfl, rfl, ERow.nil, (fun g hg => by cases hg), Upd.refl _ _⟩
  case round =>
    obtain ⟨k, v', hk, rfl, rfl, hI⟩ := hrel
    by_cases hlt : k < L.length
    · obtain ⟨g, o, cap', hv, hg, hE⟩ := (h.upd_ hI.out.2.2 (fun _ _ => (fun h => h))).at_ hlt
      obtain ⟨rfl, rfl⟩ : A = some ⟨g, o, none⟩ ∧ cap = cap' := by simpa using hv
      have hts : Hid (L.take (k + 1) = L.take k ++ [L[k]]) := by rw [List.take_succ_eq_append_getElem hlt]; rfl
      have hlen : Hid (((L.take k).filter fun x => !p x).length ≤ 100000) := by
        have h1 := List.length_filter_le (fun x => !p x) (L.take k)
        have h2 := List.length_take_le k L
        show _ ≤ _
        omega
      have heq : ∃ x, L[k] = x := ⟨_, rfl⟩
      obtain ⟨x, hx⟩ := heq
      rw [hx] at hE hts
      clear hx hv
      obtain ⟨e0, e1, e2, e3, e4, e5, e6⟩ := hE
      by_cases hp : p x = true
      · have hfin : Hid ((L.take (k + 1)).filter (fun x => !p x) = (L.take k).filter fun x => !p x) := by show _ = _; rw [hts.out, List.filter_append]; simp [hp]
        go_wp2_with (go_at_call 76; refine (hF.out _ x (hI.out.2.2.alloc _)).mono ?_; rintro y w2 ⟨rfl, u2⟩)
        go_roundw
        case rel => exact ⟨k + 1, _, by omega, by go_num, rfl, by rw [hfin.out]; exact (hI.out.1.alloc _).upd_ u2 (fun _ _ => (fun h => h)), hI.out.2.1, (hI.out.2.2.alloc _).trans u2⟩
        case measure => simp [intOf]; omega
      · have hp' : p x = false := by simpa using hp
        have hfin : Hid ((L.take (k + 1)).filter (fun x => !p x) = ((L.take k).filter fun x => !p x) ++ [x]) := by show _ = _; rw [hts.out, List.filter_append]; simp [hp]
        clear hp
        go_wp2_with (first
          | (go_at_call 76; refine (hF.out _ x (hI.out.2.2.alloc _)).mono ?_; rintro y w2 ⟨rfl, u2⟩; have hM := (hI.out.1.alloc _).upd_ u2 (fun _ _ => (fun h => h)); obtain ⟨hcc, hff⟩ := u2.cells; have hz := u2.size; simp at hz)
          | (at_builtin; refine wpl_append_e rfl _ _ rfl _ _ rfl rfl _ x (by repeat (first | assumption | apply ERow.alloc | apply ERow.drew | apply ERow.drewN)) hlen.out (ebox _ x) ?_; intro v2 w3 hv2 u3 hb2))
        go_roundw
        case rel => exact ⟨k + 1, _, by omega, by go_num, rfl, by rw [hfin.out]; exact hv2, fun g hg => by
            rcases hb2 with hb2 | hb2
            · exact hI.out.2.1 g (hb2 ▸ hg)
            · have := hI.out.2.2.size
              rw [hb2] at hg
              simp at hg
              omega, ((((hI.out.2.2.alloc _).trans u2).alloc _).over u3 hI.out.2.1)⟩
        case measure => simp [intOf]; omega
    · obtain rfl : k = L.length := by omega
      have hI' := hI.out
      rw [List.take_length, hM.out] at hI'
      have hrow := hc.upd_ hI'.2.2 (fun h => h)
      have hcc := hrow.cell (i := 0) (by omega)
      have hff := hrow.frozen 0
      obtain ⟨A2, cap2, hv2⟩ := hI'.1.form
      have hle : M.length ≤ L.length := hM.out ▸ List.length_filter_le _ _
      have V := Lib.hid hI'
      rename_i v'
      subst hv2
      clear hI' hI
      go_wp2
      go_ret
      exact ⟨_, rfl, (hrow.set_ _).congr (fun i hi => by unfold upd; rw [if_pos (by omega)]), V.out.1.farRow hrow (by decide) _, V.out.2.1, (V.out.2.2.mono (fun _ _ h => h.elim)).setCell (S := at1 c) (fun _ => at1_self) _⟩


end U
end Go.Proofs.Ytnhplapcdgnaaaa
