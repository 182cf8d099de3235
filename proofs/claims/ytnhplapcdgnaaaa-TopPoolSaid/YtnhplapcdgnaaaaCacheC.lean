import Derived.Test.YtnhplapcdgnaaaaCacheB
set_option linter.unusedVariables false
set_option linter.unusedSimpArgs false
namespace Go.Proofs.Ytnhplapcdgnaaaa
open Go.RowKit
namespace U

theorem row_one (w : World) (t : TypeId) (v : Value) : Row (w.alloc (.cells #[v] t)) w.heap.size t 1 (fun _ => v) :=
  ⟨#[v], heap_alloc_new w _, rfl, fun i hi => by have h0 : i = 0 := Nat.lt_one_iff.1 hi; subst h0; rfl⟩
theorem ret_bool' {a b : Bool} (h : a = b) : Ending.returned (.bool a) = .returned (.bool b) := by rw [h]

/-! ### what a cache is -/
def keep2 (r p : Int) (L : List EntryM) : List EntryM := L.filter fun e => !(e.root == r && e.page == p)
def keep1 (r : Int) (L : List EntryM) : List EntryM := L.filter fun e => !(e.root == r)

set_option maxRecDepth 100000 in
set_option maxHeartbeats 400000 in
theorem cDrop_any (w : World) (c : Nat) (v : Value) (L : List EntryM) (hc : Row w c 28 1 (fun _ => v)) (h : ERow w v L) (hl : L.length ≤ 100) (r p : Int) :
    Calls Try.prog 19 #[.pointer (some ⟨c, 0, none⟩), .int .i64 r, .int .i64 p] w
      fun e w' => ∃ v', e = .returned (.bool (decide ((keep2 r p L).length < L.length))) ∧ Row w' c 28 1 (fun _ => v') ∧ ERow w' v' (keep2 r p L) ∧ Fresh w v' ∧ Upd (at1 c) w w' := by
  have hF : Hid (∀ w1 (x : EntryM), Upd Non ((w.alloc (.cells #[.int .i64 r] 3)).alloc (.cells #[.int .i64 p] 3)) w1 → Calls Try.prog 75 #[.agg #[.int .i64 x.root, .int .i64 x.page, .int .i64 x.to, .bool x.may, .bool x.leaf.there, .bool x.leaf.write, .int .i64 x.leaf.frame], .pointer (some ⟨w.heap.size, 0, none⟩), .pointer (some ⟨w.heap.size + 1, 0, none⟩)] w1
      fun y w2 => y = .returned (.bool (x.root == r && x.page == p)) ∧ Upd Non w1 w2) := by
    intro w1 x hu
    refine dropC_any w1 _ _ r p (hu.cell ?_ (fun h => h)) (hu.cell ?_ (fun h => h)) x
    · rw [World.cell?_alloc_lt _ _ _ (by simp), cell_of_row _ w.heap.size 0 _ _ (0, 0) (heap_alloc_new w _)]; rfl
    · have := heap_alloc_new (w.alloc (.cells #[.int .i64 r] 3)) (.cells #[.int .i64 p] 3)
      simp only [World.size_alloc] at this
      rw [cell_of_row _ (w.heap.size + 1) 0 _ _ (0, 0) this]; rfl
  have hc' : Row ((w.alloc (.cells #[.int .i64 r] 3)).alloc (.cells #[.int .i64 p] 3)) c 28 1 (fun _ => v) := (hc.alloc _).alloc _
  have hx : ERow ((w.alloc (.cells #[.int .i64 r] 3)).alloc (.cells #[.int .i64 p] 3)) v L := (h.alloc _).alloc _
  have hle : (keep2 r p L).length ≤ L.length := List.length_filter_le _ _
  go_enter Try.func19, Try.ntmps19
  go_wp2_with (go_at_call 74; refine (cdrop_any _ c v L hc' hx hl 0 _ _ _ (keep2 r p L) rfl hF).mono ?_; rintro e w2 ⟨v', rfl, h1, h2, h3, h4⟩)
  go_ret
  refine ⟨v', ret_bool' ?_, h1, h2, fun g hg => ?_, (((Upd.refl _ w).alloc _).alloc _).trans h4⟩
  · show decide _ = _
    rw [decide_eq_decide]; try omega
  · have := h3 g hg
    simp at this
    omega

set_option maxRecDepth 100000 in
set_option maxHeartbeats 400000 in
theorem cForget_any (w : World) (c : Nat) (v : Value) (L : List EntryM) (hc : Row w c 28 1 (fun _ => v)) (h : ERow w v L) (hl : L.length ≤ 100) (r : Int) :
    Calls Try.prog 21 #[.pointer (some ⟨c, 0, none⟩), .int .i64 r] w
      fun e w' => ∃ v', e = .returned (.int .i64 ((L.length : Int) - (keep1 r L).length)) ∧ Row w' c 28 1 (fun _ => v') ∧ ERow w' v' (keep1 r L) ∧ Fresh w v' ∧ Upd (at1 c) w w' := by
  have hF : Hid (∀ w1 (x : EntryM), Upd Non (w.alloc (.cells #[.int .i64 r] 3)) w1 → Calls Try.prog 76 #[.agg #[.int .i64 x.root, .int .i64 x.page, .int .i64 x.to, .bool x.may, .bool x.leaf.there, .bool x.leaf.write, .int .i64 x.leaf.frame], .pointer (some ⟨w.heap.size, 0, none⟩)] w1
      fun y w2 => y = .returned (.bool (x.root == r)) ∧ Upd Non w1 w2) := by
    intro w1 x hu
    refine forgetC_any w1 _ r (hu.cell ?_ (fun h => h)) x
    rw [cell_of_row _ w.heap.size 0 _ _ (0, 0) (heap_alloc_new w _)]; rfl
  have hc' : Row (w.alloc (.cells #[.int .i64 r] 3)) c 28 1 (fun _ => v) := hc.alloc _
  have hx : ERow (w.alloc (.cells #[.int .i64 r] 3)) v L := h.alloc _
  have hle : (keep1 r L).length ≤ L.length := List.length_filter_le _ _
  go_enter Try.func21, Try.ntmps21
  go_wp2_with (go_at_call 74; refine (cforget_any _ c v L hc' hx hl 0 _ _ (keep1 r L) rfl hF).mono ?_; rintro e w2 ⟨v', rfl, h1, h2, h3, h4⟩)
  go_ret
  refine ⟨v', rfl, h1, h2, fun g hg => ?_, ((Upd.refl _ w).alloc _).trans h4⟩
  have := h3 g hg
  simp at this
  omega

def cput (e : EntryM) (L : List EntryM) : List EntryM :=
  let l := keep2 e.root e.page L ++ [e]
  if 4 < l.length then l.drop 1 else l

set_option maxRecDepth 100000 in
set_option maxHeartbeats 400000 in
theorem cCopy_any (w : World) (c : Nat) (v : Value) (L : List EntryM) (hc : Row w c 28 1 (fun _ => v)) (h : ERow w v L) (hl : L.length ≤ 100) :
    Calls Try.prog 25 #[.pointer (some ⟨c, 0, none⟩)] w
      fun e w' => ∃ c' v', e = .returned (.pointer (some ⟨c', 0, none⟩)) ∧ Row w' c' 28 1 (fun _ => v') ∧ ERow w' v' L ∧ Fresh w v' ∧ w.heap.size ≤ c' ∧ Upd Non w w' := by
  have hc0 := hc.cell (i := 0) (by omega)
  go_enter Try.func25, Try.ntmps25
  go_wp2_with (at_builtin; go_must (refine wpl_append_all rfl _ rfl _ rfl L h (by omega) ?_); intro v' w1 hv hu hf; obtain ⟨A', cap', rfl⟩ := hv.form)
  go_ret
  exact ⟨w1.heap.size, _, rfl, row_one w1 _ _, hv.alloc _, hf, hu.size, hu.alloc _⟩

theorem EAt.drewN {w : World} {g o : Nat} {e : EntryM} (h : EAt w g o e) (n : Nat) : EAt (w.drewN n) g o e := h.keep rfl
theorem EAt.drew {w : World} {g o : Nat} {e : EntryM} (h : EAt w g o e) : EAt w.drew g o e := h.keep rfl
theorem ERow.ne_row {w : World} {v : Value} {L : List EntryM} {c t N : Nat} {f : Nat → Value} (h : ERow w v L) (r : Row w c t N f) (ht : t ≠ 35) : ¬ v.ownBlock = some c := by
  rcases h with ⟨rfl, _⟩ | ⟨g', o, cap, C, rfl, h1, h2, h3, h4, h5⟩
  · intro e; cases e
  · intro e
    have e2 : g' = c := by simpa [Value.ownBlock] using e
    obtain ⟨C', k1, _⟩ := r
    rw [e2, k1] at h3
    simp at h3
    exact ht h3.2
theorem step_append_e {ops : Array Oper} {o : Oper} {a : Act} {w : World} {K : Act → World → Prop} {Q : Exit → Act → World → Prop} {E : Prop}
    (hg : o.guard = none) (s x : Operand) (hop : o.op = Op.call { callee := Callee.builtin Builtin.append, args := #[s, x], argTypes := #[26, 26] })
    (v : Value) (B : Nat) (hs : a.eval s = v) (hx : a.eval x = .slice (some ⟨B, 0, none⟩) 1 1) (L : List EntryM) (e : EntryM) (h : ERow w v L) (hl : L.length ≤ 100000) (hB : EAt w B 0 e)
    (k : ∀ v' w', ERow w' v' (L ++ [e]) → Upd (fun k => v.ownBlock = some k) w w' → (v'.ownBlock = v.ownBlock ∨ v'.ownBlock = some w.heap.size) → K (a.put o.dst v') w') :
    if Region.wanted o (yielded ops a.tmps) = true then Oper.wp Try.prog o a w K Q else E := by
  obtain ⟨v', w', hrun, h1, h2, h3⟩ := run_append_e h hl hB o.type
  exact step_append_eq hg s x _ hop v _ v' hs hx hrun (k v' w' h1 h2 h3)
theorem ERow.cap_ge {w : World} {A : Option Addr} {n cap : Nat} {L : List EntryM} (h : ERow w (.slice A n cap) L) : n ≤ cap ∧ n = L.length := by
  rcases h with ⟨h, rfl⟩ | ⟨g, o, cap', C, hv, k1, k2, k3, k4, k5⟩
  · simp only [Value.slice.injEq] at h
    obtain ⟨_, rfl, rfl⟩ := h
    exact ⟨Nat.le_refl _, rfl⟩
  · simp only [Value.slice.injEq] at hv
    obtain ⟨_, rfl, rfl⟩ := hv
    exact ⟨k1, rfl⟩
/-- The entries from the second one on, as a slice. -/
theorem ERow.tail {w : World} {A : Option Addr} {n cap : Nat} {L : List EntryM} (h : ERow w (.slice A n cap) L) (h1 : 1 ≤ L.length) (h2 : ¬ cap = 1) :
    ∃ g o, A = some ⟨g, o, none⟩ ∧ n = L.length ∧ n ≤ cap ∧ ERow w (.slice (some ⟨g, o + 7, none⟩) (n - 1) (cap - 1)) (L.drop 1) := by
  rcases h with ⟨h, rfl⟩ | ⟨g, o, cap', C, hv, k1, k2, k3, k4, k5⟩
  · simp at h1
  · simp only [Value.slice.injEq] at hv
    obtain ⟨rfl, rfl, rfl⟩ := hv
    refine ⟨g, o, rfl, rfl, k1, .inr ⟨g, o + 7, cap - 1, C, by simp, by simp; omega, by omega, k3, by omega, fun i e hi => ?_⟩⟩
    rw [List.getElem?_drop] at hi
    have := k5 (1 + i) e hi
    rw [show o + (1 + i) * 7 = o + 7 + i * 7 by omega] at this
    exact this

set_option maxRecDepth 100000 in
set_option maxHeartbeats 1000000 in
theorem cPut_any (w : World) (c : Nat) (v : Value) (L : List EntryM) (hc : Row w c 28 1 (fun _ => v)) (h : ERow w v L) (hl : L.length ≤ 4) (e : EntryM) :
    Calls Try.prog 14 #[.pointer (some ⟨c, 0, none⟩), .agg #[.int .i64 e.root, .int .i64 e.page, .int .i64 e.to, .bool e.may, .bool e.leaf.there, .bool e.leaf.write, .int .i64 e.leaf.frame]] w
      fun x w' => ∃ v', x = .returned (.tuple #[]) ∧ Row w' c 28 1 (fun _ => v') ∧ ERow w' v' (cput e L) ∧ Fresh w v' ∧ Upd (at1 c) w w' := by
  have hle : (keep2 e.root e.page L).length ≤ L.length := List.length_filter_le _ _
  go_enter Try.func14, Try.ntmps14
  go_wp2_with (go_at_call 19; refine (cDrop_any _ c v L (hc.alloc _) (h.alloc _) (by omega) _ _).mono ?_; rintro y w2 ⟨v', rfl, h1, h2, h3, h4⟩)
  obtain ⟨A', cap', rfl⟩ := h2.form
  have b0 : EAt w2 w.heap.size 0 e := (ebox w e).keep (h4.block _ (by simp) (by have := hc.lt; unfold at1; omega))
  have l2 : w.heap.size < w2.heap.size := by have := h4.size; simp at this; omega
  obtain ⟨b0, b1, b2, b3, b4, b5, b6⟩ := b0
  have hcc := h1.cell (i := 0) (by omega)
  have h2' := h2.drew
  have lc := h1.lt
  have hU : Upd (at1 c) w (w2.alloc (.cells e.cells.toArray 35)) := (((Upd.refl _ w).alloc _).trans h4).alloc _
  have hs : Fresh w (.slice A' (keep2 e.root e.page L).length cap') := fun g hg => by
    have := h3 g hg
    simp at this
    omega
  have hlen : ((keep2 e.root e.page L) ++ [e]).length = (keep2 e.root e.page L).length + 1 := by simp
  have H := Lib.hid hlen
  clear hlen
  by_cases h5 : (keep2 e.root e.page L).length < 4
  · have F := Lib.hid (show cput e L = keep2 e.root e.page L ++ [e] by unfold cput; simp only []; rw [if_neg (by rw [H.out]; omega)])
    have h6 : ¬ 4 < (keep2 e.root e.page L ++ [e]).length := by rw [H.out]; omega
    go_region_law (first | (refine step_append_e rfl _ _ rfl _ _ rfl rfl _ e (by repeat (first | assumption | apply ERow.alloc | apply ERow.drew | apply ERow.drewN)) (by omega) (by repeat (first | exact ebox _ _ | apply EAt.drew | apply EAt.drewN)) ?_; intro v2 w3 hv2 u3 hb2; obtain ⟨A3, cap3, rfl⟩ := hv2.form; rw [H.out] at hv2 hb2; have hr3 := Row.upd_ (N := 1) (g := c) (by repeat (first | assumption | apply Row.alloc | apply Row.drew | apply Row.drewN)) u3 (ERow.ne_row (L := keep2 e.root e.page L) (by repeat (first | assumption | apply ERow.alloc | apply ERow.drew | apply ERow.drewN)) h1 (by decide)); have hr3c := hr3.cell (i := 0) (by omega); have hr3f := hr3.frozen 0))
    all_goals go_wp2
    all_goals go_end0
    all_goals refine ⟨_, rfl, (hr3.set_ _).congr (fun i hi => by unfold upd; rw [if_pos (by omega)]), by rw [F.out]; exact hv2.farRow hr3 (by decide) _, fun g hg => ?_, ?_⟩
    all_goals first
      | (rcases hb2 with hb2 | hb2
         · exact hs g (hb2 ▸ hg)
         · rw [hb2] at hg
           simp at hg
           omega)
      | exact ((Upd.over' (by first | exact hU | exact hU.drew | exact hU.drewN _) u3 (fun i hi => .inr (hs i hi))).setCell (S := at1 c) (fun _ => at1_self) _)
      | exact (((Upd.over' (by first | exact hU | exact hU.drew | exact hU.drewN _) u3 (fun i hi => .inr (hs i hi))).setCell (S := at1 c) (fun _ => at1_self) _).drew)
  · have h6 : 4 < (keep2 e.root e.page L ++ [e]).length := by rw [H.out]; omega
    have F := Lib.hid (show cput e L = (keep2 e.root e.page L ++ [e]).drop 1 by unfold cput; simp only []; rw [if_pos (by rw [H.out]; omega)])
    go_region_law (first | (refine step_append_e rfl _ _ rfl _ _ rfl rfl _ e (by repeat (first | assumption | apply ERow.alloc | apply ERow.drew | apply ERow.drewN)) (by omega) (by repeat (first | exact ebox _ _ | apply EAt.drew | apply EAt.drewN)) ?_; intro v2 w3 hv2 u3 hb2; obtain ⟨A3, cap3, rfl⟩ := hv2.form; rw [H.out] at hv2 hb2; have hcap := hv2.cap_ge.1; obtain ⟨g3, o3, rfl, hn3, hcap3, htail⟩ := hv2.tail (by rw [H.out]; omega) (by omega); clear hn3; have hr3 := Row.upd_ (N := 1) (g := c) (by repeat (first | assumption | apply Row.alloc | apply Row.drew | apply Row.drewN)) u3 (ERow.ne_row (L := keep2 e.root e.page L) (by repeat (first | assumption | apply ERow.alloc | apply ERow.drew | apply ERow.drewN)) h1 (by decide)); have hr3c := hr3.cell (i := 0) (by omega); have hr3f := hr3.frozen 0))
    all_goals go_wp2_with (at_builtin; refine wpl_append_all rfl _ rfl _ rfl ((keep2 e.root e.page L ++ [e]).drop 1) (htail.farRow hr3 (by decide) _) (by simp; omega) ?_; intro v4 w4 hv4 hu4 hf4; obtain ⟨A4, cap4, rfl⟩ := hv4.form; have hr4 := Row.upd_ (hr3.set_ (i := 0) _) hu4 (fun h => h); have hr4c := hr4.cell (i := 0) (by omega); have hr4f := hr4.frozen 0)
    all_goals go_end0
    all_goals have hW : Upd (at1 c) w w3 := Upd.over' (by first | exact hU | exact hU.drew | exact hU.drewN _) u3 (fun i hi => .inr (hs i hi))
    all_goals have hZ := hW.size
    all_goals refine ⟨_, rfl, (hr4.set_ _).congr (fun i hi => by unfold upd; rw [if_pos (by omega)]), by rw [F.out]; first | exact hv4.farRow hr4 (by decide) _ | (have := hv4.farRow hr4 (by decide) (i := 0) (.slice A4 (List.drop 1 (keep2 e.root e.page L ++ [e])).length cap4); simpa using this), fun g hg => ?_, ?_⟩
    all_goals first
      | (have := hf4 g (by simpa [Value.ownBlock] using hg); simp at this; omega)
      | exact ((hW.setCell (S := at1 c) (p := ⟨c, 0, none⟩) (fun _ => at1_self) _).trans (hu4.mono (fun _ _ h => h.elim))).setCell (S := at1 c) (p := ⟨c, 0, none⟩) (fun _ => at1_self) _

end U
end Go.Proofs.Ytnhplapcdgnaaaa
