import Derived.Test.YtnhplapcdgnaaaaCacheSays
import Derived.Test.YtnhplapcdgnaaaaQuietR
import Derived.Shelf.RegionOpen
import Derived.Outline
set_option linter.unusedVariables false
set_option linter.unusedSimpArgs false
namespace Go.Proofs.Ytnhplapcdgnaaaa
open Go.RowKit Go.Shelf
namespace U
attribute [local go_sem] Oper.semAt_some

theorem CI.start (w ws : World) (u : Upd Non (w.alloc (.cells #[.bool false] 4)) ws) :
    CI w ((ws.alloc (.cells #[.slice none 0 0] 28)).alloc (.cells #[.slice none 0 0] 29)) ws.heap.size (ws.heap.size + 1) w.heap.size (.slice none 0 0) (.slice none 0 0) [] [] [] := by
  have hz := u.size
  simp at hz
  have r2 := row_one (ws.alloc (.cells #[.slice none 0 0] 28)) 29 (.slice none 0 0)
  rw [World.size_alloc] at r2
  exact ⟨(row_one ws _ _).alloc _, ERow.nil, r2, ERow.nil, ⟨false, (((row_one w 4 (.bool false)).upd_ u (fun h => h)).alloc _).alloc _⟩, (((Upd.alloc (Upd.refl _ _) _).trans u).alloc _).alloc _, by omega, by omega, Nat.le_refl _, (fun g hg => by cases hg), (fun g hg => by cases hg), (fun g hg => by cases hg), MarksAt.nil _, by simp⟩
theorem over_row {W : World} {kb n m : Nat} (hk : Row W kb 3 1 (fun _ => .int .i64 (n : Int))) (hm : m = n + 1) (nq : Nat) : Row ((W.drewN nq).setCell ⟨kb, 0, none⟩ (.int .i64 ((n : Int) + 1))) kb 3 1 (fun _ => .int .i64 (m : Int)) :=
  ((hk.drewN nq).set_ _).congr (fun i hi => by unfold upd; rw [if_pos (by omega), hm]; simp)
theorem CX.relist {w wr : World} {c bm br B : Nat} {v vm : Value} {L M : List EntryM} {Ds Ds' : List Nat} {x : ActM} (t : CX w wr c bm br v vm L M Ds B x) (h : CI w wr c bm br v vm L M Ds') : CX w wr c bm br v vm L M Ds' B x := ⟨h, t.ax⟩
/-- What was collected so far: in a box ob. -/
structure ColI (w2 : World) (ob : Nat) (pre : List EntryM) (W : World) : Prop where
  ex : ∃ vo, Row W ob 26 1 (fun _ => vo) ∧ ERow W vo pre ∧ (∀ g, vo.ownBlock = some g → w2.heap.size ≤ g) ∧ Upd (at1 ob) w2 W
theorem ColI.start {w2 : World} {ob : Nat} (h : Row w2 ob 26 1 (fun _ => .slice none 0 0)) : ColI w2 ob [] w2 := ⟨_, h, ERow.nil, (fun g hg => by cases hg), Upd.refl _ _⟩
theorem ColI.size {w2 W : World} {ob : Nat} {pre : List EntryM} (h : ColI w2 ob pre W) : w2.heap.size ≤ W.heap.size := by obtain ⟨vo, _, _, _, u⟩ := h.ex; exact u.size
theorem ColI.off {w2 W W' : World} {ob : Nat} {pre : List EntryM} (h : ColI w2 ob pre W) (u : Upd (OffCells w2.heap.size W) W W') : ColI w2 ob pre W' := by
  obtain ⟨vo, h1, h2, h3, h4⟩ := h.ex
  exact ⟨vo, h1.upd_ u h1.on_cells, h2.upd_ u (fun g hg => h2.on_cells hg), h3, h4.over' u (fun i hi => .inr hi.1)⟩
theorem ColI.step {w2 W w3 : World} {ob : Nat} {vo v3 : Value} {pre : List EntryM} {e : EntryM} {o : Obj} (h1 : Row W ob 26 1 (fun _ => vo)) (h2 : ERow W vo pre) (h3 : ∀ g, vo.ownBlock = some g → w2.heap.size ≤ g) (h4 : Upd (at1 ob) w2 W)
    (hv : ERow w3 v3 (pre ++ [e])) (u : Upd (fun k => vo.ownBlock = some k) (W.alloc o) w3) (hb : v3.ownBlock = vo.ownBlock ∨ v3.ownBlock = some (W.alloc o).heap.size) :
    ColI w2 ob (pre ++ [e]) (w3.setCell ⟨ob, 0, none⟩ v3) ∧ Upd (fun k => vo.ownBlock = some k ∨ k = ob) W (w3.setCell ⟨ob, 0, none⟩ v3) := by
  have r := (h1.alloc o).upd_ u (h2.ne_row h1 (by decide))
  have ua : Upd (fun k => vo.ownBlock = some k) W w3 := ((Upd.refl _ W).alloc o).trans u
  have uw : Upd (fun k => vo.ownBlock = some k ∨ k = ob) W (w3.setCell ⟨ob, 0, none⟩ v3) := (ua.mono fun k _ h => .inl h).setCell (p := ⟨ob, 0, none⟩) (fun _ => .inr rfl) _
  refine ⟨⟨v3, (r.set_ _).congr (fun i hi => by unfold upd; rw [if_pos (by omega)]), hv.farRow r (by decide) _, fun g hg => ?_, ?_⟩, uw⟩
  · rcases hb with hb | hb
    · exact h3 g (by rw [← hb]; exact hg)
    · rw [hb] at hg
      have := h4.size
      simp at hg
      omega
  · exact h4.over' uw fun i hi => by
      rcases hi with hi | rfl
      · exact .inr (h3 i hi)
      · exact .inl at1_self
theorem CI.farO {w wr w' : World} {c bm br : Nat} {v vm : Value} {L M : List EntryM} {Ds : List Nat} (t : CI w wr c bm br v vm L M Ds) {k : Nat} {f : Nat → Value} (r : Row wr k 26 1 f) (hk : w.heap.size ≤ k) (u : Upd (at1 k) wr w') : CI w w' c bm br v vm L M Ds := by
  refine ⟨t.rc.upd_ u (fun h => t.rc.ne_ r (by decide) h), t.ev.upd_ u (fun g hg h => t.ev.ne_row r (by decide) (by unfold at1 at h; rw [hg, h])), t.rm.upd_ u (fun h => t.rm.ne_ r (by decide) h), t.em.upd_ u (fun g hg h => t.em.ne_row r (by decide) (by unfold at1 at h; rw [hg, h])), ?_, t.up.over u ?_, t.cb, t.mb, t.rb, t.vb, t.vmb, t.sep, t.mks.upd_ u ?_, t.mkb⟩
  · obtain ⟨b, h⟩ := t.rr
    exact ⟨b, h.upd_ u (fun h' => h.ne_ r (by decide) h')⟩
  · rintro i rfl; exact hk
  · rintro D hD rfl
    exact t.mks.ne r hD
theorem CI.new_mark' {w wr w' : World} {c bm br : Nat} {v vm : Value} {L M : List EntryM} {Ds : List Nat} (t' : CI w w' c bm br v vm L M Ds) (t : CI w wr c bm br v vm L M Ds) {D : Nat} (hD : w'.heap[D]? = some (.deferred (some []))) (h1 : wr.heap.size ≤ D) : CI w w' c bm br v vm L M (D :: Ds) := t.new_mark t' hD h1
def LInv (L : List EntryM) : Prop := Keys L ∧ L.length ≤ 4

set_option maxRecDepth 100000 in
set_option maxHeartbeats 4000000 in
theorem cacheSays_go (w : World) (A : Option Addr) (cap : Nat) (l : List ActM) (hl : ActsAt w A l) (h80 : (l.length : Int) ≤ 80) :
    Calls Try.prog 3 #[.slice A l.length cap] w fun e w' => e = .returned (.bool true) ∧ Upd Non w w' := by
  refine calls_of_wp_marks Try.func3 rfl ?_; simp only [Try.ntmps3, List.size_toArray, List.length_cons, List.length_nil, Nat.reduceAdd, Nat.reduceSub, Array.replicate_succ, Array.replicate_zero, List.push_toArray, List.append_toArray, List.nil_append, List.cons_append]
  go_wp2_with (first
    | (go_at_call 12; refine (keeps_law _).mono ?_; rintro e ws ⟨rfl, u1⟩)
    | (go_at_call 13; refine (light_law _ _ _ _ _).mono ?_; rintro e w2 ⟨rfl, rfl⟩)
    | fail)
  have T0 := CI.start w ws u1
  have HT := Lib.hid T0
  clear T0 u1
  refine wp_loop (fun a' w' => ∃ (Ds : List Nat) (T : Array Value), a' = { tmps := T, defers := marks Ds } ∧ T.size = 251 ∧ (T.getD 0 undef = .slice A l.length cap ∧ T.getD 2 undef = .pointer (some ⟨w.heap.size, 0, none⟩) ∧ T.getD 3 undef = .bool true ∧ T.getD 5 undef = .pointer (some ⟨ws.heap.size + 1, 0, none⟩)) ∧ (∃ (q c : Nat) (v vm : Value) (L : List EntryM), q ≤ l.length ∧ T.getD 6 undef = .int .i64 q ∧ T.getD 4 undef = .pointer (some ⟨c, 0, none⟩) ∧ Hid (CI w w' c (ws.heap.size + 1) w.heap.size v vm L L Ds ∧ LInv L))) (fun a' _ => l.length - (intOf (a'.tmps.getD 6 undef)).toNat) ?_ ?_
  · exact ⟨[], _, rfl, rfl, ⟨rfl, rfl, rfl, rfl⟩, 0, ws.heap.size, _, _, [], Nat.zero_le _, rfl, rfl, HT.out, List.Pairwise.nil, by simp⟩
  · clear HT
    rintro _ wr ⟨Ds, T, rfl, hT, ⟨h0, h2, h3, h5⟩, hrel⟩
    obtain ⟨q, c, v, vm, L, hq, h6, h4, hI⟩ := hrel
    obtain ⟨u, hTT⟩ : ∃ u : Nat → Value, T = #[.slice A l.length cap, u 1, .pointer (some ⟨w.heap.size, 0, none⟩), .bool true, .pointer (some ⟨c, 0, none⟩), .pointer (some ⟨ws.heap.size + 1, 0, none⟩), .int .i64 q, u 7, u 8, u 9, u 10, u 11, u 12, u 13, u 14, u 15, u 16, u 17, u 18, u 19, u 20, u 21, u 22, u 23, u 24, u 25, u 26, u 27, u 28, u 29, u 30, u 31, u 32, u 33, u 34, u 35, u 36, u 37, u 38, u 39, u 40, u 41, u 42, u 43, u 44, u 45, u 46, u 47, u 48, u 49, u 50, u 51, u 52, u 53, u 54, u 55, u 56, u 57, u 58, u 59, u 60, u 61, u 62, u 63, u 64, u 65, u 66, u 67, u 68, u 69, u 70, u 71, u 72, u 73, u 74, u 75, u 76, u 77, u 78, u 79, u 80, u 81, u 82, u 83, u 84, u 85, u 86, u 87, u 88, u 89, u 90, u 91, u 92, u 93, u 94, u 95, u 96, u 97, u 98, u 99, u 100, u 101, u 102, u 103, u 104, u 105, u 106, u 107, u 108, u 109, u 110, u 111, u 112, u 113, u 114, u 115, u 116, u 117, u 118, u 119, u 120, u 121, u 122, u 123, u 124, u 125, u 126, u 127, u 128, u 129, u 130, u 131, u 132, u 133, u 134, u 135, u 136, u 137, u 138, u 139, u 140, u 141, u 142, u 143, u 144, u 145, u 146, u 147, u 148, u 149, u 150, u 151, u 152, u 153, u 154, u 155, u 156, u 157, u 158, u 159, u 160, u 161, u 162, u 163, u 164, u 165, u 166, u 167, u 168, u 169, u 170, u 171, u 172, u 173, u 174, u 175, u 176, u 177, u 178, u 179, u 180, u 181, u 182, u 183, u 184, u 185, u 186, u 187, u 188, u 189, u 190, u 191, u 192, u 193, u 194, u 195, u 196, u 197, u 198, u 199, u 200, u 201, u 202, u 203, u 204, u 205, u 206, u 207, u 208, u 209, u 210, u 211, u 212, u 213, u 214, u 215, u 216, u 217, u 218, u 219, u 220, u 221, u 222, u 223, u 224, u 225, u 226, u 227, u 228, u 229, u 230, u 231, u 232, u 233, u 234, u 235, u 236, u 237, u 238, u 239, u 240, u 241, u 242, u 243, u 244, u 245, u 246, u 247, u 248, u 249, u 250] := ⟨fun i => T.getD i undef, (arr_lit T 251 hT).trans (by show List.toArray [T.getD 0 undef, T.getD 1 undef, T.getD 2 undef, T.getD 3 undef, T.getD 4 undef, T.getD 5 undef, T.getD 6 undef, T.getD 7 undef, T.getD 8 undef, T.getD 9 undef, T.getD 10 undef, T.getD 11 undef, T.getD 12 undef, T.getD 13 undef, T.getD 14 undef, T.getD 15 undef, T.getD 16 undef, T.getD 17 undef, T.getD 18 undef, T.getD 19 undef, T.getD 20 undef, T.getD 21 undef, T.getD 22 undef, T.getD 23 undef, T.getD 24 undef, T.getD 25 undef, T.getD 26 undef, T.getD 27 undef, T.getD 28 undef, T.getD 29 undef, T.getD 30 undef, T.getD 31 undef, T.getD 32 undef, T.getD 33 undef, T.getD 34 undef, T.getD 35 undef, T.getD 36 undef, T.getD 37 undef, T.getD 38 undef, T.getD 39 undef, T.getD 40 undef, T.getD 41 undef, T.getD 42 undef, T.getD 43 undef, T.getD 44 undef, T.getD 45 undef, T.getD 46 undef, T.getD 47 undef, T.getD 48 undef, T.getD 49 undef, T.getD 50 undef, T.getD 51 undef, T.getD 52 undef, T.getD 53 undef, T.getD 54 undef, T.getD 55 undef, T.getD 56 undef, T.getD 57 undef, T.getD 58 undef, T.getD 59 undef, T.getD 60 undef, T.getD 61 undef, T.getD 62 undef, T.getD 63 undef, T.getD 64 undef, T.getD 65 undef, T.getD 66 undef, T.getD 67 undef, T.getD 68 undef, T.getD 69 undef, T.getD 70 undef, T.getD 71 undef, T.getD 72 undef, T.getD 73 undef, T.getD 74 undef, T.getD 75 undef, T.getD 76 undef, T.getD 77 undef, T.getD 78 undef, T.getD 79 undef, T.getD 80 undef, T.getD 81 undef, T.getD 82 undef, T.getD 83 undef, T.getD 84 undef, T.getD 85 undef, T.getD 86 undef, T.getD 87 undef, T.getD 88 undef, T.getD 89 undef, T.getD 90 undef, T.getD 91 undef, T.getD 92 undef, T.getD 93 undef, T.getD 94 undef, T.getD 95 undef, T.getD 96 undef, T.getD 97 undef, T.getD 98 undef, T.getD 99 undef, T.getD 100 undef, T.getD 101 undef, T.getD 102 undef, T.getD 103 undef, T.getD 104 undef, T.getD 105 undef, T.getD 106 undef, T.getD 107 undef, T.getD 108 undef, T.getD 109 undef, T.getD 110 undef, T.getD 111 undef, T.getD 112 undef, T.getD 113 undef, T.getD 114 undef, T.getD 115 undef, T.getD 116 undef, T.getD 117 undef, T.getD 118 undef, T.getD 119 undef, T.getD 120 undef, T.getD 121 undef, T.getD 122 undef, T.getD 123 undef, T.getD 124 undef, T.getD 125 undef, T.getD 126 undef, T.getD 127 undef, T.getD 128 undef, T.getD 129 undef, T.getD 130 undef, T.getD 131 undef, T.getD 132 undef, T.getD 133 undef, T.getD 134 undef, T.getD 135 undef, T.getD 136 undef, T.getD 137 undef, T.getD 138 undef, T.getD 139 undef, T.getD 140 undef, T.getD 141 undef, T.getD 142 undef, T.getD 143 undef, T.getD 144 undef, T.getD 145 undef, T.getD 146 undef, T.getD 147 undef, T.getD 148 undef, T.getD 149 undef, T.getD 150 undef, T.getD 151 undef, T.getD 152 undef, T.getD 153 undef, T.getD 154 undef, T.getD 155 undef, T.getD 156 undef, T.getD 157 undef, T.getD 158 undef, T.getD 159 undef, T.getD 160 undef, T.getD 161 undef, T.getD 162 undef, T.getD 163 undef, T.getD 164 undef, T.getD 165 undef, T.getD 166 undef, T.getD 167 undef, T.getD 168 undef, T.getD 169 undef, T.getD 170 undef, T.getD 171 undef, T.getD 172 undef, T.getD 173 undef, T.getD 174 undef, T.getD 175 undef, T.getD 176 undef, T.getD 177 undef, T.getD 178 undef, T.getD 179 undef, T.getD 180 undef, T.getD 181 undef, T.getD 182 undef, T.getD 183 undef, T.getD 184 undef, T.getD 185 undef, T.getD 186 undef, T.getD 187 undef, T.getD 188 undef, T.getD 189 undef, T.getD 190 undef, T.getD 191 undef, T.getD 192 undef, T.getD 193 undef, T.getD 194 undef, T.getD 195 undef, T.getD 196 undef, T.getD 197 undef, T.getD 198 undef, T.getD 199 undef, T.getD 200 undef, T.getD 201 undef, T.getD 202 undef, T.getD 203 undef, T.getD 204 undef, T.getD 205 undef, T.getD 206 undef, T.getD 207 undef, T.getD 208 undef, T.getD 209 undef, T.getD 210 undef, T.getD 211 undef, T.getD 212 undef, T.getD 213 undef, T.getD 214 undef, T.getD 215 undef, T.getD 216 undef, T.getD 217 undef, T.getD 218 undef, T.getD 219 undef, T.getD 220 undef, T.getD 221 undef, T.getD 222 undef, T.getD 223 undef, T.getD 224 undef, T.getD 225 undef, T.getD 226 undef, T.getD 227 undef, T.getD 228 undef, T.getD 229 undef, T.getD 230 undef, T.getD 231 undef, T.getD 232 undef, T.getD 233 undef, T.getD 234 undef, T.getD 235 undef, T.getD 236 undef, T.getD 237 undef, T.getD 238 undef, T.getD 239 undef, T.getD 240 undef, T.getD 241 undef, T.getD 242 undef, T.getD 243 undef, T.getD 244 undef, T.getD 245 undef, T.getD 246 undef, T.getD 247 undef, T.getD 248 undef, T.getD 249 undef, T.getD 250 undef] = _; rw [h0, h2, h3, h4, h5, h6])⟩; subst hTT
    clear h0 h2 h3 h4 h5 h6 hT
    by_cases hlt : q < l.length
    · obtain ⟨b, o, rfl, hb, hx⟩ : ∃ b o, A = some ⟨b, o, none⟩ ∧ b < w.heap.size ∧ ∀ i x, l[i]? = some x → ActAt w b (o + i * 6) x := by
        rcases hl with rfl | h
        · simp at hlt
        · exact h
      have ha := (hx q l[q] (List.getElem?_eq_getElem hlt)).upd_ hI.out.1.up (fun h => h)
      clear hx hl
      generalize l[q] = x at ha
      obtain ⟨a0, a1, a2, a3, a4, a5⟩ := ha
      obtain ⟨Am, capm, rfl⟩ := hI.out.1.em.form
      have hLl := hI.out.2.2
      have T := CX.new hI.out.1 x
      have m0 := T.m0
      have mf := T.mf
      have lm := hI.out.1.rm.lt
      have lc := hI.out.1.rc.lt
      have v255 : (x.v.toNat : Int) ≤ 255 := (by have := x.v.toNat_lt; omega)
      have lm' : ws.heap.size < wr.heap.size := by omega
      go_wp2_with fail
      · -- put
        have hfin := Lib.hid (rput_eq hI.out.2.1 (⟨x.n, x.a, x.b, x.on, ⟨decide (0 < x.v.toNat), false, x.v.toNat⟩⟩ : EntryM))
        have hnew : LInv (cput (⟨x.n, x.a, x.b, x.on, ⟨decide (0 < x.v.toNat), false, x.v.toNat⟩⟩ : EntryM) L) := ⟨hI.out.2.1.put _, cput_length hLl _⟩
        have HN := Lib.hid hnew
        clear hnew
        go_wp2_with (first
          | (go_at_call 14; refine (cPut_any _ c v L (CI.rc (CX.toCI (by repeat (first | assumption | apply CX.alloc | apply CX.drew | apply CX.drewN)))) (CI.ev (CX.toCI (by repeat (first | assumption | apply CX.alloc | apply CX.drew | apply CX.drewN)))) hLl (⟨x.n, x.a, x.b, x.on, ⟨decide (0 < x.v.toNat), false, x.v.toNat⟩⟩ : EntryM)).mono ?_; rintro y w2 ⟨v', rfl, h1, h2, h3, h4⟩; have T2 := CX.stepC (by repeat (first | assumption | apply CX.alloc | apply CX.drew | apply CX.drewN)) h1 h2 h3 h4; have m2 := T2.m0; have mf2 := T2.mf; have hz := h4.size; simp at hz; have b9 := (ebox (wr.alloc (.cells #[.string x.kind, .int .i64 x.n, .int .i64 x.a, .int .i64 x.b, .int .u8 x.v.toNat, .bool x.on] 31)) (⟨x.n, x.a, x.b, x.on, ⟨decide (0 < x.v.toNat), false, x.v.toNat⟩⟩ : EntryM)).keep (h4.block _ (by simp) (by unfold at1; simp; omega)); rw [World.size_alloc] at b9; obtain ⟨b0, b1, b2, b3, b4, b5, b6⟩ := b9)
          | (go_at_call 15; refine (rput_any _ _ L T2.em (by omega) (⟨x.n, x.a, x.b, x.on, ⟨decide (0 < x.v.toNat), false, x.v.toNat⟩⟩ : EntryM)).mono ?_; rw [hfin.out]; rintro y w3 ⟨vm', rfl, k1, k2, k3⟩; have T3 := T2.non k3; have k4 := T2.sepF k2; have k5 := k2.up T2.up; obtain ⟨A2, cap2, rfl⟩ := k1.form; have m3 := T3.m0; have mf3 := T3.mf))
        refine ⟨⟨Ds, _, rfl, rfl, ⟨rfl, rfl, rfl, rfl⟩, q + 1, c, _, _, _, by omega, by go_num, rfl, (T3.setM k1 k5 k4).toCI, HN.out⟩, by simp [intOf]; omega⟩
      · -- find
        cases hcat : cacheAt L x.a x.b with
        | none =>
          have F1 : Hid (cfind L x.a x.b = (EntryM.zero, false)) := by show _ = _; unfold cfind; rw [hcat]
          have F2 : Hid (idxI (cacheAt L x.a x.b) = -1) := by show _ = _; rw [hcat]; rfl
          clear hcat
          go_wp2_with (first
            | (go_at_call 16; refine (cFind_any _ c v L (CI.rc (CX.toCI (by repeat (first | assumption | apply CX.alloc | apply CX.drew | apply CX.drewN)))) (CI.ev (CX.toCI (by repeat (first | assumption | apply CX.alloc | apply CX.drew | apply CX.drewN)))) (by omega) _ _).mono ?_; rw [F1.out]; rintro y w2 ⟨rfl, u2⟩; unfold EntryM.val EntryM.cells EntryM.zero LeafM.none; have T2 := T.non u2; have m2 := T2.m0; have a2' := T2.a2; have a3' := T2.a3; have l2 := T2.rm.lt; have lb2 := T2.ax.lt)
            | (go_at_call 17; refine (rfind_any _ _ L (CI.em (CX.toCI (by repeat (first | assumption | apply CX.alloc | apply CX.drew | apply CX.drewN)))) (by omega) _ _).mono ?_; rw [F2.out]; rintro y w3 ⟨rfl, rfl⟩))
          go_quiet (fail)
          go_wp2
          refine ⟨⟨Ds, _, rfl, rfl, ⟨rfl, rfl, rfl, rfl⟩, q + 1, c, _, _, _, by omega, by go_num, rfl, CX.toCI (B := wr.heap.size) (x := x) (by repeat (first | assumption | apply CX.alloc | apply CX.drew | apply CX.drewN)), hI.out.2⟩, by simp [intOf]; omega⟩
        | some i =>
          have hi : i < L.length := (cacheAt_mem hcat).1
          obtain ⟨y0, hy0⟩ : ∃ y, L[i] = y := ⟨_, rfl⟩
          have F1 : Hid (cfind L x.a x.b = (y0, true)) := by show _ = _; unfold cfind; rw [hcat]; simp only []; rw [List.getElem?_eq_getElem hi, hy0]; rfl
          have F2 : Hid (idxI (cacheAt L x.a x.b) = (i : Int)) := by show _ = _; rw [hcat]; rfl
          have Y := Lib.hid hy0
          clear hcat hy0
          go_wp2_with (first
            | (go_at_call 16; refine (cFind_any _ c v L (CI.rc (CX.toCI (by repeat (first | assumption | apply CX.alloc | apply CX.drew | apply CX.drewN)))) (CI.ev (CX.toCI (by repeat (first | assumption | apply CX.alloc | apply CX.drew | apply CX.drewN)))) (by omega) _ _).mono ?_; rw [F1.out]; rintro y w2 ⟨rfl, u2⟩; unfold EntryM.val EntryM.cells; have T2 := T.non u2; have m2 := T2.m0; have a2' := T2.a2; have a3' := T2.a3; have l2 := T2.rm.lt; have lb2 := T2.ax.lt; obtain ⟨g2, o2, cap2, hv2, hg2, hE2⟩ := T2.em.at_ hi; obtain ⟨rfl, rfl⟩ : Am = some ⟨g2, o2, none⟩ ∧ capm = cap2 := (by simpa using hv2); rw [Y.out] at hE2; clear hv2; obtain ⟨f0, f1, f2, f3, f4, f5, f6⟩ := hE2)
            | (go_at_call 17; refine (rfind_any _ _ L (CI.em (CX.toCI (by repeat (first | assumption | apply CX.alloc | apply CX.drew | apply CX.drewN)))) (by omega) _ _).mono ?_; rw [F2.out]; rintro y w3 ⟨rfl, rfl⟩))
          have k0 : (0 : Int) ≤ i := by omega
          have k1 : (i : Int) < L.length := by omega
          go_quiet (fail)
          go_wp2
          refine ⟨⟨Ds, _, rfl, rfl, ⟨rfl, rfl, rfl, rfl⟩, q + 1, c, _, _, _, by omega, by go_num, rfl, CX.toCI (B := wr.heap.size) (x := x) (by repeat (first | assumption | apply CX.alloc | apply CX.drew | apply CX.drewN)), hI.out.2⟩, by simp [intOf]; omega⟩
      · -- drop
        have hfin := Lib.hid (rwithout_find L x.a x.b hI.out.2.1)
        have htold := Lib.hid (drop_told hI.out.2.1 x.a x.b)
        have HN : Hid (LInv (keep2 x.a x.b L)) := ⟨hI.out.2.1.filter _, Nat.le_trans (keep2_length _ _) hLl⟩
        go_wp2_with (first
          | (go_at_call 17; refine (rfind_any _ _ L T.em (by omega) _ _).mono ?_; rintro y w2 ⟨rfl, rfl⟩)
          | (go_at_call 18; refine (rwithout_any _ _ L T.em (by omega) _).mono ?_; rw [hfin.out]; rintro y w3 ⟨vm', rfl, k1, k2, k3⟩; have T3 := T.non k3; have k4 := T.sepF k2; have k5 := k2.up T.up; obtain ⟨A2, cap2, rfl⟩ := k1.form; have m3 := T3.m0; have mf3 := T3.mf; have T4 := T3.setM k1 k5 k4; have a2' := T4.a2; have a3' := T4.a3)
          | (go_at_call 19; refine (cDrop_any _ c v L T4.rc T4.ev (by omega) _ _).mono ?_; rw [htold.out]; rintro y w5 ⟨v', rfl, h1, h2, h3, h4⟩; have T5 := T4.stepC h1 h2 h3 h4))
        refine ⟨⟨Ds, _, rfl, rfl, ⟨rfl, rfl, rfl, rfl⟩, q + 1, c, _, _, _, by omega, by go_num, rfl, T5.toCI, HN.out⟩, by simp [intOf]; omega⟩
      · -- forget
        have HN : Hid (LInv (keep1 x.a L)) := ⟨hI.out.2.1.filter _, Nat.le_trans (keep1_length _) hLl⟩
        have hk1 := keep1_length (L := L) x.a
        have hw : IntKind.i64.wrap ((L.length : Int) - ((keep1 x.a L).length : Int)) = (L.length : Int) - ((keep1 x.a L).length : Int) := IntWalk.i64_in _ (by omega)
        go_wp2_with (go_at_call 20; refine (rforget_any _ _ L T.em (by omega) _).mono ?_; rintro y w3 ⟨vm', rfl, k1, k2, k3⟩; have T3 := T.non k3; have k4 := T.sepF k2; have k5 := k2.up T.up; obtain ⟨A2, cap2, rfl⟩ := k1.form; have m3 := T3.m0; have mf3 := T3.mf; have T4 := T3.setM k1 k5 k4; have a2' := T4.a2; have m4 := T4.m0)
        go_region_held3 (fun w' => w'.cell? ⟨wr.heap.size, 2, none⟩ = some (.int .i64 x.a) ∧ w'.cell? ⟨ws.heap.size + 1, 0, none⟩ = some (.slice A2 (keep1 x.a L).length cap2)) (first | exact ⟨T5.a2, T5.m0⟩ | simp [a2', m4]) (first | (go_at_call 21; refine (cForget_any _ c v L (CI.rc (CX.toCI (by repeat (first | assumption | apply CX.alloc | apply CX.drew | apply CX.drewN)))) (CI.ev (CX.toCI (by repeat (first | assumption | apply CX.alloc | apply CX.drew | apply CX.drewN)))) (by omega) _).mono ?_; rintro y w5 ⟨v', rfl, h1, h2, h3, h4⟩; have T5 := CX.stepC (by repeat (first | assumption | apply CX.alloc | apply CX.drew | apply CX.drewN)) h1 h2 h3 h4; have a5' := T5.a2; have m5' := T5.m0))
        all_goals go_wp2
        all_goals refine ⟨⟨Ds, _, rfl, rfl, ⟨rfl, rfl, rfl, rfl⟩, q + 1, c, _, _, _, by omega, by go_num, rfl, CX.toCI (B := wr.heap.size) (x := x) (by repeat (first | assumption | apply CX.alloc | apply CX.drew | apply CX.drewN)), HN.out⟩, by simp [intOf]; omega⟩
      · -- point
        have HN : Hid (LInv (L.map (ptE x.a ⟨true, x.on, x.b⟩))) := ⟨hI.out.2.1.point _ _, by rw [List.length_map]; exact hLl⟩
        go_wp2_with (first
          | (go_at_call 22; refine (rpoint_any _ _ L (CI.em (CX.toCI (by repeat (first | assumption | apply CX.alloc | apply CX.drew | apply CX.drewN)))) (by omega) _ ⟨true, x.on, x.b⟩).mono ?_; rintro y w3 ⟨vm', rfl, k1, k2, k3⟩; obtain ⟨hcc, hff⟩ := k3.cells; have T3 := CX.non (by repeat (first | assumption | apply CX.alloc | apply CX.drew | apply CX.drewN)) k3; have k2' := k2.up ((Upd.refl Non (wr.alloc (.cells #[.string x.kind, .int .i64 x.n, .int .i64 x.a, .int .i64 x.b, .int .u8 x.v.toNat, .bool x.on] 31))).alloc (.cells #[.bool true, .bool x.on, .int .i64 x.b] 33)); have k4 := T.sepF k2'; have k5 := k2'.up T.up; obtain ⟨A2, cap2, rfl⟩ := k1.form; rw [List.length_map] at k1 k4 k5; have m3 := T3.m0; have mf3 := T3.mf; have T4 := T3.setM k1 k5 k4; have a2' := T4.a2; have m4 := T4.m0; have hz := k3.size; simp at hz)
          | (go_at_call 23; refine (cPoint_any _ c v L T4.rc T4.ev (by omega) _ ⟨true, x.on, x.b⟩).mono ?_; rintro y w5 ⟨rfl, h1, h2, h4⟩; have T5 := T4.stepP h1 h2 h4))
        refine ⟨⟨Ds, _, rfl, rfl, ⟨rfl, rfl, rfl, rfl⟩, q + 1, c, _, _, _, by omega, by go_num, rfl, T5.toCI, HN.out⟩, by simp [intOf]; omega⟩
      · -- over
        have hl1 : (cput ⟨77, 0, 0, false, LeafM.none⟩ L).length ≤ 4 := cput_length hLl _
        have HN : Hid (LInv (keep1 77 (cput ⟨77, 0, 0, false, LeafM.none⟩ L))) := ⟨(hI.out.2.1.put _).filter _, Nat.le_trans (keep1_length _) hl1⟩
        have hfin := Lib.hid (rput_eq hI.out.2.1 ⟨77, 0, 0, false, LeafM.none⟩)
        go_wp2_with (first
          | (go_at_call 24; refine (cAll_any _ c v L (CI.rc (CX.toCI (by repeat (first | assumption | apply CX.alloc | apply CX.drew | apply CX.drewN)))) (CI.ev (CX.toCI (by repeat (first | assumption | apply CX.alloc | apply CX.drew | apply CX.drewN)))) (by omega)).mono ?_; rintro y w2 ⟨B2, v2, rfl, r1, r2, r3, r4, r5⟩; have T2 := T.non r5)
          | (go_at_call 14; refine (cPut_any _ c v L T2.rc T2.ev hLl ⟨77, 0, 0, false, LeafM.none⟩).mono ?_; rintro y w3 ⟨v3, rfl, i1, i2, i3, i4⟩; have T3 := T2.stepC i1 i2 i3 i4; have r6 := r1.upd_ i4 (fun h => r1.ne_ T2.rc (by decide) h); have r7 := r2.upd_ i4 (fun g hg h => r2.ne_row T2.rc (by decide) (by unfold at1 at h; rw [hg, h])))
          | (go_at_call 21; refine (cForget_any _ c v3 _ T3.rc T3.ev (by omega) 77).mono ?_; rintro y w4 ⟨v4, rfl, j1, j2, j3, j4⟩; have T4 := T3.stepC j1 j2 j3 j4; have r8 := r6.upd_ j4 (fun h => r6.ne_ T3.rc (by decide) h); have r9 := r7.upd_ j4 (fun g hg h => r7.ne_row T3.rc (by decide) (by unfold at1 at h; rw [hg, h]))))
        have T5 : CX _ (w4.alloc (.cells #[.int .i64 0] 3)) _ _ _ _ _ _ _ _ _ _ := T4.alloc _
        have K5 := row_one w4 3 (.int .i64 0)
        have hk5 : w.heap.size ≤ w4.heap.size := T4.up.size
        have R5 := r8.alloc (.cells #[.int .i64 0] 3)
        have E5 := r9.alloc (.cells #[.int .i64 0] 3)
        have hz5 : (w4.alloc (.cells #[.int .i64 0] 3)).heap.size = w4.heap.size + 1 := World.size_alloc _ _
        clear T r1 r2 r3 r4 r5 r6 r7 r8 r9 i1 i2 i3 i4 j1 j2 j3 j4 T2 T3 m0 mf lm lc lm'
        apply wp_range (gf := 77) (lb := #[.pointer (some ⟨B2, 0, none⟩)]) rfl (enters_of Try.func77 (by kernel_rfl) rfl) (cAll_stops 8 (by omega) B2 v2 L _ R5 E5 (by omega)) (fun k hk => E5.lt hk) (fun _ => rfl)
          (fun pre W => Row W w4.heap.size 3 1 (fun _ => .int .i64 (pre.length : Int)) ∧ Upd (at1 w4.heap.size) (w4.alloc (.cells #[.int .i64 0] 3)) W)
          (fun c pre W => (c = .exit 3 ∧ (pre.length : Int) = x.a ∧ pre.length ≤ L.length ∧ Row W w4.heap.size 3 1 (fun _ => .int .i64 (pre.length : Int)) ∧ Upd (at1 w4.heap.size) (w4.alloc (.cells #[.int .i64 0] 3)) W) ∨ (c = .ret ∧ ∀ k, pre ≠ firstK L.length k))
          (fun pre W W' h u => ⟨h.1.upd_ u h.1.on_cells, h.2.over' u (fun i hi => .inr hi.1)⟩)
          (fun c pre W W' h u => h.imp (fun ⟨a, b, d, e, f⟩ => ⟨a, b, d, e.upd_ u e.on_cells, f.over' u (fun i hi => .inr hi.1)⟩) (fun h => h))
          ⟨K5, Upd.refl _ _⟩ (fun pre W h => h.2.size) (fun i => .cells (L[i.1]'i.2).cells.toArray 35) (fun _ => rfl)
        · -- assign
          intro l' pre y W K hi hK
          dsimp only [encE, EntryM.val, EntryM.cells]
          dsimp only [EntryM.cells] at hK
          gi_wp2
          generalize W.heap.size = z at hK ⊢
          exact hK
        · -- body
          rintro l' pre y Be W ⟨hk, hu⟩ hBe hwB hlen
          have TW := T5.far K5 hk5 hu
          have kc := hk.cell (i := 0) (by omega)
          have kf := hk.frozen 0
          have m1 := TW.m0
          have a1' := TW.a2
          have hkB : Be ≠ w4.heap.size := by omega
          have hf := EAt.of_box (e := L[y.1]'y.2) hBe
          obtain ⟨g2, o2, cap2, hv2, hg2, hE2⟩ := TW.em.at_ hlen
          obtain ⟨rfl, rfl⟩ : Am = some ⟨g2, o2, none⟩ ∧ capm = cap2 := by simpa using hv2
          have hE2g : g2 ≠ w4.heap.size := fun h => TW.em.ne_row hk (by decide) (by rw [← h]; rfl)
          clear hv2
          by_cases hy : y.1 = pre.length
          · have hy1 : (pre ++ [y]).length = pre.length + 1 := by simp
            have HY := Lib.hid hy1
            clear hy1
            obtain ⟨e, he⟩ : ∃ e, L[y.1]'y.2 = e := ⟨_, rfl⟩
            have he2 : L[pre.length]'hlen = e := by rw [← he]; congr 1; exact hy.symm
            rw [he] at hf
            rw [he2] at hE2
            have hy2 : (y.1 : Int) = pre.length := by omega
            have hl3 : (pre.length : Int) < L.length := by omega
            have hl4 : (0 : Int) ≤ pre.length := by omega
            have hl5 : decide (L.length ≤ pre.length) = false := decide_eq_false (by omega)
            obtain ⟨f0, f1, f2, f3, f4, f5, f6⟩ := hf
            obtain ⟨e0, e1, e2, e3, e4, e5, e6⟩ := hE2
            simp only [hy2, he]
            have HE := Lib.hid he
            have hY := Lib.hid hy
            clear he he2 hy hBe
            by_cases hx : (pre.length : Int) + 1 = x.a
            · have hx' : ((pre.length : Int) + 1 == x.a) = true := by simpa using hx
              have HX := Lib.hid hx
              clear hx
              gi_wp2
              (refine quiet_round (by kernel_rfl) (by kernel_rfl) (noDefer_spec (by rfl)) ?_; (repeat (gi_big_quiet_step (fail))); refine wpQuietIn_nil ?_; intro _ hw'; obtain ⟨nq, hw''⟩ := hw'; subst hw'')
              gi_wp2
              exact round_out (T := at1 w4.heap.size) (((Upd.refl _ W).drewN nq).setCell (p := ⟨w4.heap.size, 0, none⟩) (fun _ => at1_self) _) (fun k hk => .inl (by unfold at1 at hk; rw [hk, hz5]; omega))
                (.inl ⟨rfl, by rw [HY.out]; have := HX.out; omega, by rw [HY.out]; omega, over_row hk HY.out nq, (hu.drewN nq).setCell (p := ⟨w4.heap.size, 0, none⟩) (fun _ => at1_self) _⟩)
            · have hx' : ((pre.length : Int) + 1 == x.a) = false := by simpa using hx
              clear hx
              gi_wp2
              (refine quiet_round (by kernel_rfl) (by kernel_rfl) (noDefer_spec (by rfl)) ?_; (repeat (gi_big_quiet_step (fail))); refine wpQuietIn_nil ?_; intro _ hw'; obtain ⟨nq, hw''⟩ := hw'; subst hw'')
              gi_wp2
              exact round_on (T := at1 w4.heap.size) (((Upd.refl _ W).drewN nq).setCell (p := ⟨w4.heap.size, 0, none⟩) (fun _ => at1_self) _) (fun k hk => .inl (by unfold at1 at hk; rw [hk, hz5]; omega))
                (fun k hk h => E5.ne_row K5 (by decide) (by unfold at1 at h; rw [← h]; exact hk)) ⟨over_row hk HY.out nq, (hu.drewN nq).setCell (p := ⟨w4.heap.size, 0, none⟩) (fun _ => at1_self) _⟩
          · have hy' : ((y.1 : Int) != (pre.length : Int)) = true := by
              have : (y.1 : Int) ≠ pre.length := by omega
              simpa using this
            obtain ⟨bb, hrr⟩ := TW.rr
            have rr0 := hrr.cell (i := 0) (by omega)
            have rrf := hrr.frozen 0
            have HY := Lib.hid hy
            clear hy hf hE2
            gi_wp2
            (refine quiet_round (by kernel_rfl) (by kernel_rfl) (noDefer_spec (by rfl)) ?_; (repeat (gi_big_quiet_step (fail))); refine wpQuietIn_nil ?_; intro _ hw'; obtain ⟨nq, hw''⟩ := hw'; subst hw'')
            gi_wp2
            exact round_out (T := at1 w.heap.size) (((Upd.refl _ W).drewN nq).setCell (p := ⟨w.heap.size, 0, none⟩) (fun _ => at1_self) _) (fun k hk => .inl (by unfold at1 at hk; rw [hk, hz5]; omega)) (.inr ⟨rfl, fun k h => HY.out (firstK_last h)⟩)
        · -- done
          rintro D xs W hD rfl ⟨hk, hu⟩ hDD
          have TW0 := T5.far K5 hk5 hu
          have TW := TW0.relist (CI.new_mark T5.toCI TW0.toCI hDD hD)
          have hxl : (List.finRange L.length).length = L.length := by simp
          rw [hxl] at hk
          have kc := hk.cell (i := 0) (by omega)
          have m1 := TW.m0
          have a1' := TW.a2
          go_wp2_with (first
            | (go_at_call 15; refine (rput_any _ _ L TW.em (by omega) ⟨77, 0, 0, false, LeafM.none⟩).mono ?_; rw [hfin.out]; rintro y w6 ⟨vm', rfl, k1, k2, k3⟩; have T6 := TW.non k3; obtain ⟨A2, cap2, rfl⟩ := k1.form)
            | (go_at_call 20; refine (rforget_any _ _ _ k1 (by omega) 77).mono ?_; rintro y w7 ⟨vm7, rfl, n1, n2, n3⟩; have T7 := T6.non n3; have k4 := T6.sepF n2; have k5 := n2.up T6.up; obtain ⟨A3, cap3, rfl⟩ := n1.form; have m7 := T7.m0; have mf7 := T7.mf))
          all_goals exact ⟨⟨D :: Ds, _, rfl, rfl, ⟨rfl, rfl, rfl, rfl⟩, q + 1, c, _, _, _, by omega, by go_num, rfl, (T7.setM n1 k5 k4).toCI, HN.out⟩, by simp [intOf]; omega⟩
        · -- stop
          rintro D c' pre W hD ⟨kk, hkk, rfl⟩ hix hDD
          rcases hix with ⟨rfl, h1, h2, hk, hu⟩ | ⟨rfl, h1⟩
          · have TW0 := T5.far K5 hk5 hu
            have TW := TW0.relist (CI.new_mark T5.toCI TW0.toCI hDD hD)
            obtain ⟨n, hn⟩ : ∃ n, (firstK L.length kk).length = n := ⟨_, rfl⟩
            rw [hn] at hk h1 h2
            clear hn
            have hx' : ((n : Int) == x.a) = true := by simpa using h1
            have HX := Lib.hid h1
            clear h1
            have kc := hk.cell (i := 0) (by omega)
            have m1 := TW.m0
            have a1' := TW.a2
            by_cases hnl : n = L.length
            · subst hnl
              go_wp2_with (first
                | (go_at_call 15; refine (rput_any _ _ L TW.em (by omega) ⟨77, 0, 0, false, LeafM.none⟩).mono ?_; rw [hfin.out]; rintro y w6 ⟨vm', rfl, k1, k2, k3⟩; have T6 := TW.non k3; obtain ⟨A2, cap2, rfl⟩ := k1.form)
                | (go_at_call 20; refine (rforget_any _ _ _ k1 (by omega) 77).mono ?_; rintro y w7 ⟨vm7, rfl, n1, n2, n3⟩; have T7 := T6.non n3; have k4 := T6.sepF n2; have k5 := n2.up T6.up; obtain ⟨A3, cap3, rfl⟩ := n1.form; have m7 := T7.m0; have mf7 := T7.mf))
              all_goals exact ⟨⟨D :: Ds, _, rfl, rfl, ⟨rfl, rfl, rfl, rfl⟩, q + 1, c, _, _, _, by omega, by go_num, rfl, (T7.setM n1 k5 k4).toCI, HN.out⟩, by simp [intOf]; omega⟩
            · have hnl' : (n == L.length) = false := by simpa using hnl
              have HNL := Lib.hid hnl
              clear hnl
              go_wp2_with (first
                | (go_at_call 15; refine (rput_any _ _ L TW.em (by omega) ⟨77, 0, 0, false, LeafM.none⟩).mono ?_; rw [hfin.out]; rintro y w6 ⟨vm', rfl, k1, k2, k3⟩; have T6 := TW.non k3; obtain ⟨A2, cap2, rfl⟩ := k1.form)
                | (go_at_call 20; refine (rforget_any _ _ _ k1 (by omega) 77).mono ?_; rintro y w7 ⟨vm7, rfl, n1, n2, n3⟩; have T7 := T6.non n3; have k4 := T6.sepF n2; have k5 := n2.up T6.up; obtain ⟨A3, cap3, rfl⟩ := n1.form; have m7 := T7.m0; have mf7 := T7.mf))
              all_goals exact ⟨⟨D :: Ds, _, rfl, rfl, ⟨rfl, rfl, rfl, rfl⟩, q + 1, c, _, _, _, by omega, by go_num, rfl, (T7.setM n1 k5 k4).toCI, HN.out⟩, by simp [intOf]; omega⟩
          · exact absurd rfl (h1 kk)
      · -- copy
        have hk1 := keep1_length (L := L) x.a
        have hl2 : (keep1 x.a L).length ≤ 4 := by omega
        go_wp2_with (first
          | (go_at_call 25; refine (cCopy_any _ c v L (CI.rc (CX.toCI (by repeat (first | assumption | apply CX.alloc | apply CX.drew | apply CX.drewN)))) (CI.ev (CX.toCI (by repeat (first | assumption | apply CX.alloc | apply CX.drew | apply CX.drewN)))) (by omega)).mono ?_; rintro y w2 ⟨c', v', rfl, h1, h2, h3, h4, h5⟩; have T2 := T.non h5; have a2' := T2.a2)
          | (go_at_call 21; refine (cForget_any _ c v L T2.rc T2.ev (by omega) _).mono ?_; rintro y w5 ⟨v5, rfl, i1, i2, i3, i4⟩; have T5 := T2.stepC i1 i2 i3 i4; have hc : ¬ at1 c c' := (by have := T.rc.lt; unfold at1; omega); have j1 := h1.upd_ i4 hc; have j2 := h2.upd_ i4 (fun g hg hh => by have := h3 g hg; have := T.rc.lt; unfold at1 at hh; omega))
          | (go_at_call 14; refine (cPut_any _ c v5 _ T5.rc T5.ev hl2 ⟨55, 0, 0, false, LeafM.none⟩).mono ?_; rintro y w6 ⟨v6, rfl, n1, n2, n3, n4⟩; have T6 := T5.stepC n1 n2 n3 n4; have j3 := j1.upd_ n4 hc; have j4 := j2.upd_ n4 (fun g hg hh => by have := h3 g hg; have := T.rc.lt; unfold at1 at hh; omega)))
        refine ⟨⟨Ds, _, rfl, rfl, ⟨rfl, rfl, rfl, rfl⟩, q + 1, c', _, _, _, by omega, by go_num, rfl, T6.toCI.swap j3 j4 (Nat.le_trans T.up.size h4) (h3.up T.up) (fun g hg hm => by have := h3 g hg; have := T.em.lt hm; omega), hI.out.2⟩, by simp [intOf]; omega⟩
    · -- end
      obtain rfl : q = l.length := by omega
      obtain ⟨Am, capm, rfl⟩ := hI.out.1.em.form
      have hLl := hI.out.2.2
      have T := hI.out.1
      go_wp2_with (go_at_call 24; refine (cAll_any _ c v L (T.rc.alloc _) (T.ev.alloc _) (by omega)).mono ?_; rintro y w2 ⟨B2, v2, rfl, r1, r2, r3, r4, r5⟩)
      have T2 := (T.non ((Upd.refl _ _).alloc (.cells #[.slice none 0 0] 26))).non r5
      have O2 := (row_one wr 26 (.slice none 0 0)).upd_ r5 (fun h => h)
      have hw2 : wr.heap.size + 1 ≤ w2.heap.size := by have := r5.size; simp at this; omega
      clear hq
      have hz2 : w.heap.size ≤ wr.heap.size := T.up.size
      apply wp_range (gf := 77) (lb := #[.pointer (some ⟨B2, 0, none⟩)]) rfl (enters_of Try.func77 (by kernel_rfl) rfl) (cAll_stops 8 (by omega) B2 v2 L _ r1 r2 (by omega)) (fun k hk => r2.lt hk) (fun _ => rfl)
        (fun pre W => ColI w2 wr.heap.size (pre.map fun i => L[i.1]'i.2) W)
        (fun _ _ _ => False)
        (fun pre W W' h u => h.off u)
        (fun c pre W W' h u => h)
        (ColI.start O2) (fun pre W h => h.size) (fun i => .cells (L[i.1]'i.2).cells.toArray 35) (fun _ => rfl)
      · -- assign
        intro l' pre y W K hi hK
        dsimp only [encE, EntryM.val, EntryM.cells]
        dsimp only [EntryM.cells] at hK
        gi_wp2
        generalize W.heap.size = z at hK ⊢
        exact hK
      · -- body
        rintro l' pre y Be W hi hBe hwB hlen
        have hf := EAt.of_box (e := L[y.1]'y.2) hBe
        obtain ⟨e, he⟩ : ∃ e, L[y.1]'y.2 = e := ⟨_, rfl⟩
        have hen : (pre ++ [y]).map (fun i => L[i.1]'i.2) = pre.map (fun i => L[i.1]'i.2) ++ [e] := by simp [he]
        have HE := Lib.hid hen
        rw [he] at hf
        obtain ⟨vo, hv1, hv2, hv3, hv4⟩ := hi.ex
        clear hi
        have c1 := hv1.cell (i := 0) (by omega)
        have f1 := hv1.frozen 0
        have lW := hv1.lt
        have hll : ((pre.map fun i => L[i.1]'i.2).length) ≤ 100000 := by rw [List.length_map]; omega
        have HL := Lib.hid hll
        have HX := Lib.hid (show ((pre.map fun i => L[i.1]'i.2) ++ [e]).length = pre.length + 1 by simp)
        obtain ⟨f0, f1', f2, f3, f4, f5, f6⟩ := hf
        have hBo : Be ≠ wr.heap.size := by omega
        clear he hen hll hBe
        gi_wp2_with (gi_at_builtin; refine wplIn_append_e Try.underlying26 rfl _ _ rfl vo _ rfl rfl _ e (hv2.alloc _) HL.out (ebox _ e) ?_; intro v3 w3 hv3' u3 hb3; obtain ⟨A3, cap3, rfl⟩ := hv3'.form; rw [HX.out] at hv3' hb3; have K := Lib.hid (ColI.step hv1 hv2 hv3 hv4 hv3' u3 hb3); have hv1' := (hv1.alloc (.cells e.cells.toArray 35)).upd_ u3 (hv2.ne_row hv1 (by decide)); have c3 := hv1'.cell (i := 0) (by omega); have f3 := hv1'.frozen 0)
        refine round_on K.out.2 ?_ ?_ (show ColI _ _ ((pre ++ [y]).map fun i => L[i.1]'i.2) _ by rw [HE.out]; exact K.out.1)
        · rintro k (hk | rfl)
          · exact .inr (hv2.are_cells hk)
          · exact .inl hw2
        · rintro k hk (hk2 | rfl)
          · have := r2.lt hk
            have := hv3 k hk2
            omega
          · exact r2.ne_row O2 (by decide) hk
      · -- done
        rintro D xs W hD rfl hi hDD
        rw [finRange_entries] at hi
        obtain ⟨vo, hv1, hv2, hv3, hv4⟩ := hi.ex
        have TW := (T2.farO O2 hz2 hv4).new_mark' T2 hDD hD
        have m1 := TW.m0
        have c1 := hv1.cell (i := 0) (by omega)
        obtain ⟨b0, hrr⟩ := TW.rr
        have rf := hrr.frozen 0
        have hll : L.length ≤ 100 := by omega
        obtain ⟨Ao, capo, rfl⟩ := hv2.form
        clear hi
        go_wp2_with (go_at_call 26; refine (sameEntries_law _ _ _ L hv2 TW.em hll).mono ?_; rintro y w5 ⟨rfl, u5⟩; have T5 := TW.non u5; obtain ⟨b5, hr5⟩ := T5.rr; have g0 := hr5.cell (i := 0) (by omega); have gf := hr5.frozen 0; have S5 := Lib.hid (T5.setB true))
        refine marked_ret S5.out.mks fun w' u' => ⟨.bool true, ?_, rfl, S5.out.up.over u' S5.out.mkb⟩
        have hno := fun h => S5.out.mks.ne (((hr5.set_ (i := 0) (.bool true))).congr (d := fun _ => .bool true) (fun i hi => by unfold upd; rw [if_pos (by omega)])) h
        have rt := u'.cell (World.cell?_setCell_same' (w := w5) ⟨w.heap.size, 0, none⟩ (.bool true) (by rw [g0]; rfl)) hno
        simp [results, Try.results3, go_sem, rt]
      · rintro D c' pre W hD _ h _
        exact h.elim

set_option maxRecDepth 100000 in
set_option maxHeartbeats 400000 in
theorem cacheSays_law (w : World) (A : Option Addr) (cap : Nat) (l : List ActM) (hl : ActsAt w A l) :
    Calls Try.prog 3 #[.slice A l.length cap] w fun e w' => e = .returned (.bool true) ∧ Upd Non w w' := by
  by_cases h80 : (l.length : Int) ≤ 80
  · exact cacheSays_go w A cap l hl h80
  · refine calls_of_wp_marks Try.func3 rfl ?_; simp only [Try.ntmps3, List.size_toArray, List.length_cons, List.length_nil, Nat.reduceAdd, Nat.reduceSub, Array.replicate_succ, Array.replicate_zero, List.push_toArray, List.append_toArray, List.nil_append, List.cons_append]
    go_wp2_with (first
      | (go_at_call 12; refine (keeps_law _).mono ?_; rintro e ws ⟨rfl, u1⟩; have rr := (row_one w 4 (.bool false)).upd_ u1 (fun h => h); have rf := rr.frozen 0; have rc := rr.cell (i := 0) (by omega))
      | (go_at_call 13; refine (light_law _ _ _ _ _).mono ?_; rw [show decide ((l.length : Int) ≤ 80) = false from decide_eq_false (by omega)]; rintro e w2 ⟨rfl, rfl⟩)
      | fail)
    refine marked_ret (Ds := []) (MarksAt.nil _) fun w' u' => ⟨.bool true, ?_, rfl, ?_⟩
    · have rt := u'.cell (World.cell?_setCell_same' (w := ws) ⟨w.heap.size, 0, none⟩ (.bool true) (by rw [rc]; rfl)) (by simp)
      simp [results, Try.results3, go_sem, rt]
    · exact (((((Upd.refl Non w).alloc _).trans u1).setCell (p := ⟨w.heap.size, 0, none⟩) (fun h => absurd h (by simp)) _)).over u' (fun i hi => by simp at hi)

end U
end Go.Proofs.Ytnhplapcdgnaaaa
