import Derived.Test.YtnhplapcdgnaaaaCacheSaysB
set_option linter.unusedVariables false
set_option linter.unusedSimpArgs false
namespace Go.Proofs.Ytnhplapcdgnaaaa
open Go.RowKit Go.Shelf
namespace U

/-! TopCache: plain laws. -/
theorem cfind_own {L : List EntryM} (h : Keys L) {i : Nat} (hi : i < L.length) : cfind L L[i].root L[i].page = (L[i], true) := by
  have hk : cacheAt L L[i].root L[i].page = some i := by
    refine cacheAt_some hi (by simp) fun j hj hji => ?_
    have := List.pairwise_iff_getElem.1 h j i hj hi hji
    cases e : (L[j].root == L[i].root && L[j].page == L[i].page) with
    | false => rfl
    | true => simp at e; exact absurd e this
  unfold cfind
  rw [hk]
  simp only []
  rw [List.getElem?_eq_getElem hi]
  rfl
theorem cput_last (e : EntryM) (L : List EntryM) : ∃ M, cput e L = M ++ [e] := by
  unfold cput
  simp only []
  split
  · rename_i h
    rw [List.drop_append_of_le_length (by simp at h; omega)]
    exact ⟨_, rfl⟩
  · exact ⟨_, rfl⟩
theorem cfind_put {L : List EntryM} (h : Keys L) (e : EntryM) : cfind (cput e L) e.root e.page = (e, true) := by
  obtain ⟨M, hM⟩ := cput_last e L
  have hk := h.put e
  have hi : M.length < (cput e L).length := by rw [hM]; simp
  have hg : (cput e L)[M.length] = e := by simp [hM]
  have := cfind_own hk hi
  rw [hg] at this
  exact this
theorem cfind_drop (L : List EntryM) (r p : Int) : cfind (keep2 r p L) r p = (EntryM.zero, false) := by
  have hk : cacheAt (keep2 r p L) r p = none := by
    refine cacheAt_none fun j hj => ?_
    have := (List.mem_filter.1 (List.getElem_mem hj)).2
    simpa [-Bool.not_and] using this
  unfold cfind
  rw [hk]
theorem keep1_ne {L : List EntryM} {r : Int} {i : Nat} (hi : i < (keep1 r L).length) : ((keep1 r L)[i].root == r) = false := by
  have := (List.mem_filter.1 (List.getElem_mem hi)).2
  simpa using this

/-- The cache, in a box of its pointer, beside the result's box. -/
structure TC (w wr : World) (c bt br : Nat) (v : Value) (L : List EntryM) (Ds : List Nat) : Prop where
  rc : Row wr c 28 1 (fun _ => v)
  ev : ERow wr v L
  rt : Row wr bt 25 1 (fun _ => .pointer (some ⟨c, 0, none⟩))
  rr : ∃ b, Row wr br 4 1 (fun _ => .bool b)
  up : Upd Non w wr
  cb : w.heap.size ≤ c
  tb : w.heap.size ≤ bt
  rb : w.heap.size ≤ br
  vb : Fresh w v
  mks : MarksAt wr Ds
  mkb : ∀ D ∈ Ds, w.heap.size ≤ D
structure TX (w wr : World) (c bt br : Nat) (v : Value) (L : List EntryM) (Ds : List Nat) (B : Nat) (x : ActM) : Prop extends TC w wr c bt br v L Ds where
  ax : Row wr B 31 6 (fun i => x.vals.getD i undef)
section
variable {w wr w' : World} {c bt br B : Nat} {v v' : Value} {L L' : List EntryM} {Ds : List Nat} {x : ActM}
theorem TC.non (t : TC w wr c bt br v L Ds) (u : Upd Non wr w') : TC w w' c bt br v L Ds :=
  ⟨t.rc.upd_ u (fun h => h), t.ev.upd_ u (fun _ _ => (fun h => h)), t.rt.upd_ u (fun h => h), t.rr.imp fun _ h => h.upd_ u (fun h => h), t.up.trans u, t.cb, t.tb, t.rb, t.vb, t.mks.upd_ u (fun _ _ => (fun h => h)), t.mkb⟩
theorem TC.stepC (t : TC w wr c bt br v L Ds) (r : Row w' c 28 1 (fun _ => v')) (e : ERow w' v' L') (f : Fresh wr v') (u : Upd (at1 c) wr w') : TC w w' c bt br v' L' Ds := by
  refine ⟨r, e, t.rt.upd_ u (fun h => t.rt.ne_ t.rc (by decide) h), ?_, t.up.over u ?_, t.cb, t.tb, t.rb, f.up t.up, t.mks.upd_ u ?_, t.mkb⟩
  · obtain ⟨b, h⟩ := t.rr
    exact ⟨b, h.upd_ u (fun k => h.ne_ t.rc (by decide) k)⟩
  · rintro i rfl; exact t.cb
  · rintro D hD rfl
    exact t.mks.ne t.rc hD
theorem TC.setB (t : TC w wr c bt br v L Ds) (b : Bool) : TC w (wr.setCell ⟨br, 0, none⟩ (.bool b)) c bt br v L Ds := by
  have u : Upd (at1 br) wr (wr.setCell ⟨br, 0, none⟩ (.bool b)) := (Upd.refl _ _).setCell (p := ⟨br, 0, none⟩) (fun _ => at1_self) _
  obtain ⟨b0, hb⟩ := t.rr
  refine ⟨t.rc.upd_ u (fun h => t.rc.ne_ hb (by decide) h), t.ev.farRow hb (by decide) _, t.rt.upd_ u (fun h => t.rt.ne_ hb (by decide) h), ⟨b, (hb.set_ _).congr (fun i hi => by unfold upd; rw [if_pos (by omega)])⟩, t.up.over u ?_, t.cb, t.tb, t.rb, t.vb, t.mks.upd_ u ?_, t.mkb⟩
  · rintro i rfl; exact t.rb
  · rintro D hD rfl
    exact t.mks.ne hb hD
theorem TC.mark (t : TC w wr c bt br v L Ds) {D : Nat} (h : wr.heap[D]? = some (.deferred (some []))) (h1 : w.heap.size ≤ D) (h2 : D ∉ Ds) : TC w wr c bt br v L (D :: Ds) :=
  ⟨t.rc, t.ev, t.rt, t.rr, t.up, t.cb, t.tb, t.rb, t.vb, t.mks.cons h h2, fun X hX => by rcases List.mem_cons.1 hX with rfl | hX; exact h1; exact t.mkb X hX⟩
/-- A step in a row of another type than all of these. -/
theorem TC.far (t : TC w wr c bt br v L Ds) {k T N : Nat} {f : Nat → Value} (r : Row wr k T N f) (hk : w.heap.size ≤ k) (u : Upd (at1 k) wr w') (h1 : 28 ≠ T) (h2 : 35 ≠ T) (h3 : 25 ≠ T) (h4 : 4 ≠ T) : TC w w' c bt br v L Ds := by
  refine ⟨t.rc.upd_ u (fun h => t.rc.ne_ r h1 h), t.ev.upd_ u (fun g hg h => t.ev.ne_row r h2.symm (by unfold at1 at h; rw [hg, h])), t.rt.upd_ u (fun h => t.rt.ne_ r h3 h), ?_, t.up.over u ?_, t.cb, t.tb, t.rb, t.vb, t.mks.upd_ u ?_, t.mkb⟩
  · obtain ⟨b, h⟩ := t.rr
    exact ⟨b, h.upd_ u (fun h' => h.ne_ r h4 h')⟩
  · rintro i rfl; exact hk
  · rintro D hD rfl
    exact t.mks.ne r hD
theorem TC.new_mark (t' : TC w w' c bt br v L Ds) (t : TC w wr c bt br v L Ds) {D : Nat} (hD : w'.heap[D]? = some (.deferred (some []))) (h1 : wr.heap.size ≤ D) : TC w w' c bt br v L (D :: Ds) :=
  t'.mark hD (Nat.le_trans t.up.size h1) fun h => by have := heap_lt (t.mks.held D h); omega
theorem TX.non (t : TX w wr c bt br v L Ds B x) (u : Upd Non wr w') : TX w w' c bt br v L Ds B x := ⟨t.toTC.non u, t.ax.upd_ u (fun h => h)⟩
theorem TX.alloc (t : TX w wr c bt br v L Ds B x) (o : Obj) : TX w (wr.alloc o) c bt br v L Ds B x := t.non ((Upd.refl _ _).alloc o)
theorem TX.drewN (t : TX w wr c bt br v L Ds B x) (n : Nat) : TX w (wr.drewN n) c bt br v L Ds B x := t.non ((Upd.refl _ _).drewN n)
theorem TX.drew (t : TX w wr c bt br v L Ds B x) : TX w wr.drew c bt br v L Ds B x := t.non (Upd.refl _ _).drew
theorem TX.stepC (t : TX w wr c bt br v L Ds B x) (r : Row w' c 28 1 (fun _ => v')) (e : ERow w' v' L') (f : Fresh wr v') (u : Upd (at1 c) wr w') : TX w w' c bt br v' L' Ds B x :=
  ⟨t.toTC.stepC r e f u, t.ax.upd_ u (fun h => t.ax.ne_ t.rc (by decide) h)⟩
theorem TX.far (t : TX w wr c bt br v L Ds B x) {k T N : Nat} {f : Nat → Value} (r : Row wr k T N f) (hk : w.heap.size ≤ k) (u : Upd (at1 k) wr w') (h1 : 28 ≠ T) (h2 : 35 ≠ T) (h3 : 25 ≠ T) (h4 : 4 ≠ T) (h5 : 31 ≠ T) : TX w w' c bt br v L Ds B x :=
  ⟨t.toTC.far r hk u h1 h2 h3 h4, t.ax.upd_ u (fun h => t.ax.ne_ r h5 h)⟩
theorem TX.relist {Ds' : List Nat} (t : TX w wr c bt br v L Ds B x) (h : TC w wr c bt br v L Ds') : TX w wr c bt br v L Ds' B x := ⟨h, t.ax⟩
theorem TX.a1 (t : TX w wr c bt br v L Ds B x) : wr.cell? ⟨B, 1, none⟩ = some (.int .i64 x.n) := t.ax.cell (i := 1) (by omega)
theorem TX.a2 (t : TX w wr c bt br v L Ds B x) : wr.cell? ⟨B, 2, none⟩ = some (.int .i64 x.a) := t.ax.cell (i := 2) (by omega)
theorem TX.a3 (t : TX w wr c bt br v L Ds B x) : wr.cell? ⟨B, 3, none⟩ = some (.int .i64 x.b) := t.ax.cell (i := 3) (by omega)
theorem TX.a5 (t : TX w wr c bt br v L Ds B x) : wr.cell? ⟨B, 5, none⟩ = some (.bool x.on) := t.ax.cell (i := 5) (by omega)
theorem TC.t0 (t : TC w wr c bt br v L Ds) : wr.cell? ⟨bt, 0, none⟩ = some (.pointer (some ⟨c, 0, none⟩)) := t.rt.cell (i := 0) (by omega)
theorem TX.new (t : TC w wr c bt br v L Ds) (x : ActM) : TX w (wr.alloc (.cells #[.string x.kind, .int .i64 x.n, .int .i64 x.a, .int .i64 x.b, .int .u8 x.v.toNat, .bool x.on] 31)) c bt br v L Ds wr.heap.size x :=
  ⟨t.non ((Upd.refl _ _).alloc _), ⟨_, heap_alloc_new wr _, rfl, fun i hi => by
    have : i = 0 ∨ i = 1 ∨ i = 2 ∨ i = 3 ∨ i = 4 ∨ i = 5 := by omega
    rcases this with rfl | rfl | rfl | rfl | rfl | rfl <;> rfl⟩⟩
end
theorem Upd.trans' {S : Nat → Prop} {a b c : World} (h : Upd S a b) (k : Upd Non b c) : Upd S a c := h.trans (k.mono fun _ _ h => h.elim)
theorem TC.start {w w3 : World} {E : Obj} (u : Upd Non w w3) (rb : Row w3 w.heap.size 4 1 (fun _ => .bool false)) :
    TC w (((w3.alloc E).alloc (.cells #[.slice none 0 0] 28)).alloc (.cells #[.pointer (some ⟨w3.heap.size + 1, 0, none⟩)] 25)) (w3.heap.size + 1) (w3.heap.size + 1 + 1) w.heap.size (.slice none 0 0) [] [] := by
  have hz := u.size
  have r2 := row_one (w3.alloc E) 28 (.slice none 0 0)
  rw [World.size_alloc] at r2
  have r3 := row_one ((w3.alloc E).alloc (.cells #[.slice none 0 0] 28)) 25 (.pointer (some ⟨w3.heap.size + 1, 0, none⟩))
  rw [World.size_alloc, World.size_alloc] at r3
  exact ⟨r2.alloc _, ERow.nil, r3, ⟨_, ((rb.alloc _).alloc _).alloc _⟩, ((u.alloc _).alloc _).alloc _, by omega, by omega, Nat.le_refl _, (fun g hg => by cases hg), MarksAt.nil _, by simp⟩

end U
end Go.Proofs.Ytnhplapcdgnaaaa
