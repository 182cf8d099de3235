import Derived.Test.YtnhplapcdgnaaaaTopCache
import Derived.Test.YtnhplapcdgnaaaaQuietR
import Derived.Shelf.RegionOpen
import Derived.Outline
import Derived.Deep.Cut
import Derived.Deep.CutBlock
set_option linter.unusedVariables false
set_option linter.unusedSimpArgs false
namespace Go.Proofs.Ytnhplapcdgnaaaa
open Go.RowKit Go.Shelf
namespace U
attribute [local go_sem] Oper.semAt_some

set_option maxRecDepth 100000 in
set_option maxHeartbeats 4000000 in
theorem topCache_go (w : World) (A : Option Addr) (cap : Nat) (l : List ActM) (hl : ActsAt w A l) (h80 : (l.length : Int) ≤ 80) :
    Calls Try.prog 5 #[.slice A l.length cap] w fun e w' => e = .returned (.bool true) ∧ Upd Non w w' := by
  have e1 := Lib.hid (show cput ⟨1, 0, 0, false, LeafM.none⟩ [] = [⟨1, 0, 0, false, LeafM.none⟩] from rfl)
  have e2 := Lib.hid (show cfind [⟨1, 0, 0, false, LeafM.none⟩] 1 0 = (⟨1, 0, 0, false, LeafM.none⟩, true) from rfl)
  refine calls_of_wp_marks Try.func5 rfl ?_; simp only [Try.ntmps5, List.size_toArray, List.length_cons, List.length_nil, Nat.reduceAdd, Nat.reduceSub, Array.replicate_succ, Array.replicate_zero, List.push_toArray, List.append_toArray, List.nil_append, List.cons_append]
  go_wp2_with (first
    | (go_at_call 14; refine (cPut_any _ (w.heap.size + 1) (.slice none 0 0) [] (by have := row_one (w.alloc (.cells #[.bool false] 4)) 28 (.slice none 0 0); rw [World.size_alloc] at this; exact this) ERow.nil (by simp) ⟨1, 0, 0, false, LeafM.none⟩).mono ?_; rw [e1.out]; rintro x w2 ⟨v', rfl, h1, h2, h3, h4⟩)
    | (go_at_call 16; refine (cFind_any _ (w.heap.size + 1) _ _ h1 h2 (by simp) 1 0).mono ?_; rw [e2.out]; rintro x w3 ⟨rfl, u3⟩; unfold EntryM.val EntryM.cells)
    | (go_at_call 13; refine (light_law _ _ _ _ _).mono ?_; rintro e w2 ⟨rfl, rfl⟩)
    | fail)
  have U3 : Upd Non w w3 := ((((Upd.refl Non w).alloc _).alloc _).over' h4 (fun i hi => .inr (by unfold at1 at hi; omega))).trans u3
  have rb := ((row_one w 4 (.bool false)).alloc (.cells #[.slice none 0 0] 28)).upd_ (h4.trans' u3) (by unfold at1; omega)
  have HT := Lib.hid (TC.start (E := .cells (EntryM.cells ⟨1, 0, 0, false, LeafM.none⟩).toArray 35) U3 rb)
  clear h1 h2 h3 h4 u3 U3 rb
  refine wp_loop (fun a' w' => ∃ (Ds : List Nat) (T : Array Value), a' = { tmps := T, defers := marks Ds } ∧ T.size = 142 ∧ (T.getD 0 undef = .slice A l.length cap ∧ T.getD 2 undef = .pointer (some ⟨w.heap.size, 0, none⟩) ∧ T.getD 6 undef = .pointer (some ⟨w3.heap.size + 1 + 1, 0, none⟩)) ∧ (∃ (q : Nat) (v : Value) (L : List EntryM), q ≤ l.length ∧ T.getD 7 undef = .int .i64 q ∧ Hid (TC w w' (w3.heap.size + 1) (w3.heap.size + 1 + 1) w.heap.size v L Ds ∧ LInv L))) (fun a' _ => l.length - (intOf (a'.tmps.getD 7 undef)).toNat) ?_ ?_
  · exact ⟨[], _, rfl, rfl, ⟨rfl, rfl, rfl⟩, 0, _, [], Nat.zero_le _, rfl, HT.out, List.Pairwise.nil, by simp⟩
  · clear HT
    rintro _ wr ⟨Ds, T, rfl, hT, ⟨h0, h2, h6⟩, hrel⟩
    obtain ⟨q, v, L, hq, h7, hI⟩ := hrel
    obtain ⟨u, hTT⟩ : ∃ u : Nat → Value, T = #[.slice A l.length cap, u 1, .pointer (some ⟨w.heap.size, 0, none⟩), u 3, u 4, u 5, .pointer (some ⟨w3.heap.size + 1 + 1, 0, none⟩), .int .i64 q, u 8, u 9, u 10, u 11, u 12, u 13, u 14, u 15, u 16, u 17, u 18, u 19, u 20, u 21, u 22, u 23, u 24, u 25, u 26, u 27, u 28, u 29, u 30, u 31, u 32, u 33, u 34, u 35, u 36, u 37, u 38, u 39, u 40, u 41, u 42, u 43, u 44, u 45, u 46, u 47, u 48, u 49, u 50, u 51, u 52, u 53, u 54, u 55, u 56, u 57, u 58, u 59, u 60, u 61, u 62, u 63, u 64, u 65, u 66, u 67, u 68, u 69, u 70, u 71, u 72, u 73, u 74, u 75, u 76, u 77, u 78, u 79, u 80, u 81, u 82, u 83, u 84, u 85, u 86, u 87, u 88, u 89, u 90, u 91, u 92, u 93, u 94, u 95, u 96, u 97, u 98, u 99, u 100, u 101, u 102, u 103, u 104, u 105, u 106, u 107, u 108, u 109, u 110, u 111, u 112, u 113, u 114, u 115, u 116, u 117, u 118, u 119, u 120, u 121, u 122, u 123, u 124, u 125, u 126, u 127, u 128, u 129, u 130, u 131, u 132, u 133, u 134, u 135, u 136, u 137, u 138, u 139, u 140, u 141] := ⟨fun i => T.getD i undef, (arr_lit T 142 hT).trans (by show List.toArray [T.getD 0 undef, T.getD 1 undef, T.getD 2 undef, T.getD 3 undef, T.getD 4 undef, T.getD 5 undef, T.getD 6 undef, T.getD 7 undef, T.getD 8 undef, T.getD 9 undef, T.getD 10 undef, T.getD 11 undef, T.getD 12 undef, T.getD 13 undef, T.getD 14 undef, T.getD 15 undef, T.getD 16 undef, T.getD 17 undef, T.getD 18 undef, T.getD 19 undef, T.getD 20 undef, T.getD 21 undef, T.getD 22 undef, T.getD 23 undef, T.getD 24 undef, T.getD 25 undef, T.getD 26 undef, T.getD 27 undef, T.getD 28 undef, T.getD 29 undef, T.getD 30 undef, T.getD 31 undef, T.getD 32 undef, T.getD 33 undef, T.getD 34 undef, T.getD 35 undef, T.getD 36 undef, T.getD 37 undef, T.getD 38 undef, T.getD 39 undef, T.getD 40 undef, T.getD 41 undef, T.getD 42 undef, T.getD 43 undef, T.getD 44 undef, T.getD 45 undef, T.getD 46 undef, T.getD 47 undef, T.getD 48 undef, T.getD 49 undef, T.getD 50 undef, T.getD 51 undef, T.getD 52 undef, T.getD 53 undef, T.getD 54 undef, T.getD 55 undef, T.getD 56 undef, T.getD 57 undef, T.getD 58 undef, T.getD 59 undef, T.getD 60 undef, T.getD 61 undef, T.getD 62 undef, T.getD 63 undef, T.getD 64 undef, T.getD 65 undef, T.getD 66 undef, T.getD 67 undef, T.getD 68 undef, T.getD 69 undef, T.getD 70 undef, T.getD 71 undef, T.getD 72 undef, T.getD 73 undef, T.getD 74 undef, T.getD 75 undef, T.getD 76 undef, T.getD 77 undef, T.getD 78 undef, T.getD 79 undef, T.getD 80 undef, T.getD 81 undef, T.getD 82 undef, T.getD 83 undef, T.getD 84 undef, T.getD 85 undef, T.getD 86 undef, T.getD 87 undef, T.getD 88 undef, T.getD 89 undef, T.getD 90 undef, T.getD 91 undef, T.getD 92 undef, T.getD 93 undef, T.getD 94 undef, T.getD 95 undef, T.getD 96 undef, T.getD 97 undef, T.getD 98 undef, T.getD 99 undef, T.getD 100 undef, T.getD 101 undef, T.getD 102 undef, T.getD 103 undef, T.getD 104 undef, T.getD 105 undef, T.getD 106 undef, T.getD 107 undef, T.getD 108 undef, T.getD 109 undef, T.getD 110 undef, T.getD 111 undef, T.getD 112 undef, T.getD 113 undef, T.getD 114 undef, T.getD 115 undef, T.getD 116 undef, T.getD 117 undef, T.getD 118 undef, T.getD 119 undef, T.getD 120 undef, T.getD 121 undef, T.getD 122 undef, T.getD 123 undef, T.getD 124 undef, T.getD 125 undef, T.getD 126 undef, T.getD 127 undef, T.getD 128 undef, T.getD 129 undef, T.getD 130 undef, T.getD 131 undef, T.getD 132 undef, T.getD 133 undef, T.getD 134 undef, T.getD 135 undef, T.getD 136 undef, T.getD 137 undef, T.getD 138 undef, T.getD 139 undef, T.getD 140 undef, T.getD 141 undef] = _; rw [h0, h2, h6, h7])⟩; subst hTT
    clear h0 h2 h6 h7 hT
    generalize w3.heap.size + 1 + 1 = bt at hI
    generalize w3.heap.size + 1 = c at hI
    by_cases hlt : q < l.length
    · obtain ⟨b, o, rfl, hb, hx⟩ : ∃ b o, A = some ⟨b, o, none⟩ ∧ b < w.heap.size ∧ ∀ i x, l[i]? = some x → ActAt w b (o + i * 6) x := by
        rcases hl with rfl | h
        · simp at hlt
        · exact h
      have ha := (hx q l[q] (List.getElem?_eq_getElem hlt)).upd_ hI.out.1.up (fun h => h)
      clear hx hl
      generalize l[q] = x at ha
      obtain ⟨a0, a1, a2, a3, a4, a5⟩ := ha
      have hLl := hI.out.2.2
      have T := TX.new hI.out.1 x
      have t0 := T.t0
      have lt := hI.out.1.rt.lt
      have lc := hI.out.1.rc.lt
      go_upto_block 2 with (fail)
      refine wp_cut (fun a' w' => ∃ (Ds : List Nat) (T : Array Value), a' = { tmps := T, defers := marks Ds } ∧ T.size = 142 ∧ (T.getD 0 undef = .slice (some ⟨b, o, none⟩) l.length cap ∧ T.getD 2 undef = .pointer (some ⟨w.heap.size, 0, none⟩) ∧ T.getD 6 undef = .pointer (some ⟨bt, 0, none⟩) ∧ T.getD 7 undef = .int .i64 q ∧ T.getD 8 undef = .pointer (some ⟨wr.heap.size, 0, none⟩)) ∧ (∃ (v' : Value) (L' : List EntryM), Hid (TX w w' c bt w.heap.size v' L' Ds wr.heap.size x ∧ LInv L' ∧ wr.heap.size < w'.heap.size))) ?_ ?_
      · rintro _ wc ⟨Dc, T, rfl, hT, ⟨h0, h2, h6, h7, h8⟩, v1, M, hI1⟩
        obtain ⟨u, hTT⟩ : ∃ u : Nat → Value, T = #[.slice (some ⟨b, o, none⟩) l.length cap, u 1, .pointer (some ⟨w.heap.size, 0, none⟩), u 3, u 4, u 5, .pointer (some ⟨bt, 0, none⟩), .int .i64 q, .pointer (some ⟨wr.heap.size, 0, none⟩), u 9, u 10, u 11, u 12, u 13, u 14, u 15, u 16, u 17, u 18, u 19, u 20, u 21, u 22, u 23, u 24, u 25, u 26, u 27, u 28, u 29, u 30, u 31, u 32, u 33, u 34, u 35, u 36, u 37, u 38, u 39, u 40, u 41, u 42, u 43, u 44, u 45, u 46, u 47, u 48, u 49, u 50, u 51, u 52, u 53, u 54, u 55, u 56, u 57, u 58, u 59, u 60, u 61, u 62, u 63, u 64, u 65, u 66, u 67, u 68, u 69, u 70, u 71, u 72, u 73, u 74, u 75, u 76, u 77, u 78, u 79, u 80, u 81, u 82, u 83, u 84, u 85, u 86, u 87, u 88, u 89, u 90, u 91, u 92, u 93, u 94, u 95, u 96, u 97, u 98, u 99, u 100, u 101, u 102, u 103, u 104, u 105, u 106, u 107, u 108, u 109, u 110, u 111, u 112, u 113, u 114, u 115, u 116, u 117, u 118, u 119, u 120, u 121, u 122, u 123, u 124, u 125, u 126, u 127, u 128, u 129, u 130, u 131, u 132, u 133, u 134, u 135, u 136, u 137, u 138, u 139, u 140, u 141] := ⟨fun i => T.getD i undef, (arr_lit T 142 hT).trans (by show List.toArray [T.getD 0 undef, T.getD 1 undef, T.getD 2 undef, T.getD 3 undef, T.getD 4 undef, T.getD 5 undef, T.getD 6 undef, T.getD 7 undef, T.getD 8 undef, T.getD 9 undef, T.getD 10 undef, T.getD 11 undef, T.getD 12 undef, T.getD 13 undef, T.getD 14 undef, T.getD 15 undef, T.getD 16 undef, T.getD 17 undef, T.getD 18 undef, T.getD 19 undef, T.getD 20 undef, T.getD 21 undef, T.getD 22 undef, T.getD 23 undef, T.getD 24 undef, T.getD 25 undef, T.getD 26 undef, T.getD 27 undef, T.getD 28 undef, T.getD 29 undef, T.getD 30 undef, T.getD 31 undef, T.getD 32 undef, T.getD 33 undef, T.getD 34 undef, T.getD 35 undef, T.getD 36 undef, T.getD 37 undef, T.getD 38 undef, T.getD 39 undef, T.getD 40 undef, T.getD 41 undef, T.getD 42 undef, T.getD 43 undef, T.getD 44 undef, T.getD 45 undef, T.getD 46 undef, T.getD 47 undef, T.getD 48 undef, T.getD 49 undef, T.getD 50 undef, T.getD 51 undef, T.getD 52 undef, T.getD 53 undef, T.getD 54 undef, T.getD 55 undef, T.getD 56 undef, T.getD 57 undef, T.getD 58 undef, T.getD 59 undef, T.getD 60 undef, T.getD 61 undef, T.getD 62 undef, T.getD 63 undef, T.getD 64 undef, T.getD 65 undef, T.getD 66 undef, T.getD 67 undef, T.getD 68 undef, T.getD 69 undef, T.getD 70 undef, T.getD 71 undef, T.getD 72 undef, T.getD 73 undef, T.getD 74 undef, T.getD 75 undef, T.getD 76 undef, T.getD 77 undef, T.getD 78 undef, T.getD 79 undef, T.getD 80 undef, T.getD 81 undef, T.getD 82 undef, T.getD 83 undef, T.getD 84 undef, T.getD 85 undef, T.getD 86 undef, T.getD 87 undef, T.getD 88 undef, T.getD 89 undef, T.getD 90 undef, T.getD 91 undef, T.getD 92 undef, T.getD 93 undef, T.getD 94 undef, T.getD 95 undef, T.getD 96 undef, T.getD 97 undef, T.getD 98 undef, T.getD 99 undef, T.getD 100 undef, T.getD 101 undef, T.getD 102 undef, T.getD 103 undef, T.getD 104 undef, T.getD 105 undef, T.getD 106 undef, T.getD 107 undef, T.getD 108 undef, T.getD 109 undef, T.getD 110 undef, T.getD 111 undef, T.getD 112 undef, T.getD 113 undef, T.getD 114 undef, T.getD 115 undef, T.getD 116 undef, T.getD 117 undef, T.getD 118 undef, T.getD 119 undef, T.getD 120 undef, T.getD 121 undef, T.getD 122 undef, T.getD 123 undef, T.getD 124 undef, T.getD 125 undef, T.getD 126 undef, T.getD 127 undef, T.getD 128 undef, T.getD 129 undef, T.getD 130 undef, T.getD 131 undef, T.getD 132 undef, T.getD 133 undef, T.getD 134 undef, T.getD 135 undef, T.getD 136 undef, T.getD 137 undef, T.getD 138 undef, T.getD 139 undef, T.getD 140 undef, T.getD 141 undef] = _; rw [h0, h2, h6, h7, h8])⟩; subst hTT
        clear h0 h2 h6 h7 h8 hT a0 a1 a2 a3 a4 a5
        rename_i T
        have T1 := hI1.out.1
        have t1 := T1.t0
        have hMl := hI1.out.2.1.2
        have hzc := hI1.out.2.2
        have lbt : bt < wc.heap.size := by omega
        go_wp2_with (first
          | (go_at_call 24; refine (cAll_any _ c _ _ (TX.toTC (B := wr.heap.size) (x := x) (by repeat (first | assumption | apply TX.alloc | apply TX.drew | apply TX.drewN))).rc (TX.toTC (B := wr.heap.size) (x := x) (by repeat (first | assumption | apply TX.alloc | apply TX.drew | apply TX.drewN))).ev (by omega)).mono ?_; rintro y w3 ⟨B3, v3, rfl, r1, r2, r3, r4, r5⟩; have T3 := TX.non (B := wr.heap.size) (x := x) (by repeat (first | assumption | apply TX.alloc | apply TX.drew | apply TX.drewN)) r5)
          | fail)
        have N3 := (row_one wc 3 (.int .i64 0)).upd_ r5 (fun h => h)
        have hz3 : wc.heap.size < w3.heap.size := by have := r5.size; simp at this; omega
        have hwz : w.heap.size ≤ wc.heap.size := T1.up.size
        apply wp_range (gf := 77) (lb := #[.pointer (some ⟨B3, 0, none⟩)]) rfl (enters_of Try.func77 (by kernel_rfl) rfl) (cAll_stops 8 (by omega) B3 v3 M _ r1 r2 (by omega)) (fun k hk => r2.lt hk) (fun _ => rfl)
          (fun pre W => Row W wc.heap.size 3 1 (fun _ => .int .i64 (pre.length : Int)) ∧ Upd (at1 wc.heap.size) w3 W)
          (fun c pre W => c = .ret ∧ ∀ k, pre ≠ firstK M.length k)
          (fun pre W W' h u => ⟨h.1.upd_ u h.1.on_cells, h.2.over' u (fun i hi => .inr hi.1)⟩)
          (fun c pre W W' h u => h)
          ⟨N3, Upd.refl _ _⟩ (fun pre W h => h.2.size) (fun i => .cells (M[i.1]'i.2).cells.toArray 35) (fun _ => rfl)
        · -- assign
          intro l' pre y W K hi hK
          dsimp only [encE, EntryM.val, EntryM.cells]
          dsimp only [EntryM.cells] at hK
          gi_wp2
          generalize W.heap.size = z at hK ⊢
          exact hK
        · -- body
          rintro l' pre y Be W ⟨hk, hu⟩ hBe hwB hlen
          have TW := T3.far N3 hwz hu (by decide) (by decide) (by decide) (by decide) (by decide)
          have kc := hk.cell (i := 0) (by omega)
          have kf := hk.frozen 0
          have tw := TW.t0
          have hkB : Be ≠ wc.heap.size := by omega
          have hf := EAt.of_box (e := M[y.1]'y.2) hBe
          have HF := cfind_own hI1.out.2.1.1 y.2
          by_cases hy : y.1 = pre.length
          · have HY := Lib.hid (show (pre ++ [y]).length = pre.length + 1 by simp)
            have hy2 : (y.1 : Int) = pre.length := by omega
            obtain ⟨e, he⟩ : ∃ e, M[y.1]'y.2 = e := ⟨_, rfl⟩
            rw [he] at hf HF
            simp only [hy2, he]
            obtain ⟨f0, f1, f2, f3, f4, f5, f6⟩ := hf
            have HF1 := Lib.hid HF
            have HY1 := Lib.hid hy
            have HE := Lib.hid he
            clear hy he hBe HF
            gi_wp2
            refine ⟨trivial, (CallsIn.inRound l' (callsIn_wide.2 (cFind_any W c _ _ TW.rc TW.ev (by omega) e.root e.page))).mono ?_⟩
            rw [HF1.out]
            rintro y w4 ⟨rfl, u4⟩
            unfold EntryM.val EntryM.cells
            have hk4 := hk.upd_ u4 (fun h => h)
            have kc4 := hk4.cell (i := 0) (by omega)
            have kf4 := hk4.frozen 0
            have lk4 := hk4.lt
            obtain ⟨g0, g1, g2, g3, g4, g5, g6⟩ := (EAt.mk f0 f1 f2 f3 f4 f5 f6 : EAt W Be 0 e).keep (u4.block Be (block_lt_of_cell f0) (fun h => h))
            have lB4 := block_lt_of_cell g0
            dsimp only at lB4
            gi_wp2
            exact round_on (T := at1 wc.heap.size) (((u4.mono (fun _ _ h => h.elim)).setCell (p := ⟨wc.heap.size, 0, none⟩) (fun _ => at1_self) _).alloc _) (fun k hk => .inl (by unfold at1 at hk; rw [hk]; exact hz3))
              (fun k hk h => r2.ne_row N3 (by decide) (by unfold at1 at h; rw [← h]; exact hk)) ⟨((hk4.set_ _).alloc _).congr (fun i hi => by unfold upd; rw [if_pos (by omega), HY.out]; simp), ((hu.trans (u4.mono (fun _ _ h => h.elim))).setCell (p := ⟨wc.heap.size, 0, none⟩) (fun _ => at1_self) _).alloc _⟩
          · have hy' : ((y.1 : Int) != (pre.length : Int)) = true := by
              have : (y.1 : Int) ≠ pre.length := by omega
              simpa using this
            obtain ⟨e, he⟩ : ∃ e, M[y.1]'y.2 = e := ⟨_, rfl⟩
            rw [he] at hf HF
            obtain ⟨f0, f1, f2, f3, f4, f5, f6⟩ := hf
            have HF1 := Lib.hid HF
            have HY := Lib.hid hy
            obtain ⟨bb, hrr⟩ := TW.rr
            clear hy he hBe HF
            gi_wp2
            refine ⟨trivial, (CallsIn.inRound l' (callsIn_wide.2 (cFind_any W c _ _ TW.rc TW.ev (by omega) e.root e.page))).mono ?_⟩
            rw [HF1.out]
            rintro y w4 ⟨rfl, u4⟩
            unfold EntryM.val EntryM.cells
            have hk4 := hk.upd_ u4 (fun h => h)
            have kc4 := hk4.cell (i := 0) (by omega)
            have kf4 := hk4.frozen 0
            have lk4 := hk4.lt
            obtain ⟨g0, g1, g2, g3, g4, g5, g6⟩ := (EAt.mk f0 f1 f2 f3 f4 f5 f6 : EAt W Be 0 e).keep (u4.block Be (block_lt_of_cell f0) (fun h => h))
            have lB4 := block_lt_of_cell g0
            dsimp only at lB4
            have hr4 := hrr.upd_ u4 (fun h => h)
            have rc4 := hr4.cell (i := 0) (by omega)
            have rf4 := hr4.frozen 0
            have lr4 := hr4.lt
            gi_wp2
            exact round_out (T := at1 w.heap.size) (((u4.mono (fun _ _ h => h.elim)).setCell (p := ⟨w.heap.size, 0, none⟩) (fun _ => at1_self) _).alloc _) (fun k hk => .inl (by unfold at1 at hk; rw [hk]; omega)) ⟨rfl, fun k h => HY.out (firstK_last h)⟩
        · -- done
          rintro D xs W hD rfl ⟨hk, hu⟩ hDD
          have TW0 := T3.far N3 hwz hu (by decide) (by decide) (by decide) (by decide) (by decide)
          have TW := TW0.relist (TW0.toTC.new_mark T3.toTC hDD hD)
          rw [List.length_finRange] at hk
          have kc := hk.cell (i := 0) (by omega)
          go_wp2
          exact ⟨⟨D :: Dc, _, rfl, rfl, ⟨rfl, rfl, rfl⟩, q + 1, _, _, by omega, by go_num, TW.toTC, hI1.out.2.1⟩, by simp [intOf]; omega⟩
        · rintro D c' pre W hD ⟨kk, hkk, rfl⟩ ⟨_, h⟩ _
          exact absurd rfl (h kk)
      · intro J KM hJ hKM
        go_wp2_with fail
        · -- put
          have HF := Lib.hid (cfind_put hI.out.2.1 (⟨x.n, x.a, x.b, x.on, LeafM.none⟩ : EntryM))
          have hL1 := cput_length hLl (⟨x.n, x.a, x.b, x.on, LeafM.none⟩ : EntryM)
          go_wp2_with (first
            | (go_at_call 14; refine (cPut_any _ c v L (TX.toTC (B := wr.heap.size) (x := x) (by repeat (first | assumption | apply TX.alloc | apply TX.drew | apply TX.drewN))).rc (TX.toTC (B := wr.heap.size) (x := x) (by repeat (first | assumption | apply TX.alloc | apply TX.drew | apply TX.drewN))).ev hLl (⟨x.n, x.a, x.b, x.on, LeafM.none⟩ : EntryM)).mono ?_; rintro y w2 ⟨v', rfl, h1, h2, h3, h4⟩; have T2 := TX.stepC (B := wr.heap.size) (x := x) (by repeat (first | assumption | apply TX.alloc | apply TX.drew | apply TX.drewN)) h1 h2 h3 h4; have t2 := T2.t0; have hz := h4.size; simp at hz; have b9 := (ebox (wr.alloc (.cells #[.string x.kind, .int .i64 x.n, .int .i64 x.a, .int .i64 x.b, .int .u8 x.v.toNat, .bool x.on] 31)) (⟨x.n, x.a, x.b, x.on, LeafM.none⟩ : EntryM)).keep (h4.block _ (by simp) (by unfold at1; simp; omega)); rw [World.size_alloc] at b9; obtain ⟨b0, b1, b2, b3, b4, b5, b6⟩ := b9; have q1 := T2.a1; have q2 := T2.a2)
            | (go_at_call 16; refine (cFind_any _ c _ _ T2.rc T2.ev (by omega) x.n x.a).mono ?_; rw [HF.out]; rintro y w3 ⟨rfl, u3⟩; unfold EntryM.val EntryM.cells; have T3 := TX.non T2 u3; have t3 := T3.t0; have z3 : wr.heap.size + 1 < w3.heap.size := (by have := u3.size; omega); obtain ⟨d0, d1, d2, d3, d4, d5, d6⟩ := (EAt.mk b0 b1 b2 b3 b4 b5 b6 : EAt w2 (wr.heap.size + 1) 0 (⟨x.n, x.a, x.b, x.on, LeafM.none⟩ : EntryM)).keep (u3.block (wr.heap.size + 1) (by have := u3.size; omega) (fun h => h)))
            | fail)
          exact Met.intro (hJ _ _ ⟨Ds, _, rfl, rfl, ⟨rfl, rfl, rfl, rfl, rfl⟩, _, _, T3.alloc _, ⟨hI.out.2.1.put _, hL1⟩, by simp; omega⟩)
        · -- drop
          have HF := Lib.hid (cfind_drop L x.a x.b)
          have hL1 := keep2_length (L := L) x.a x.b
          go_wp2_with (first
            | (go_at_call 19; refine (cDrop_any _ c v L (TX.toTC (B := wr.heap.size) (x := x) (by repeat (first | assumption | apply TX.alloc | apply TX.drew | apply TX.drewN))).rc (TX.toTC (B := wr.heap.size) (x := x) (by repeat (first | assumption | apply TX.alloc | apply TX.drew | apply TX.drewN))).ev (by omega) x.a x.b).mono ?_; rintro y w2 ⟨v', rfl, h1, h2, h3, h4⟩; have T2 := TX.stepC (B := wr.heap.size) (x := x) (by repeat (first | assumption | apply TX.alloc | apply TX.drew | apply TX.drewN)) h1 h2 h3 h4; have t2 := T2.t0; have hz := h4.size; simp at hz; have q2 := T2.a2; have q3 := T2.a3)
            | (go_at_call 16; refine (cFind_any _ c _ _ T2.rc T2.ev (by omega) x.a x.b).mono ?_; rw [HF.out]; rintro y w3 ⟨rfl, u3⟩; unfold EntryM.val EntryM.cells; have T3 := TX.non T2 u3; have t3 := T3.t0; have z3 : wr.heap.size < w3.heap.size := (by have := u3.size; omega))
            | fail)
          exact Met.intro (hJ _ _ ⟨Ds, _, rfl, rfl, ⟨rfl, rfl, rfl, rfl, rfl⟩, _, _, T3.alloc _, ⟨hI.out.2.1.filter _, by have := keep2_length (L := L) x.a x.b; omega⟩, by simp; omega⟩)
        · -- forget
          have hL1 := keep1_length (L := L) x.a
          go_wp2_with (first
            | (go_at_call 21; refine (cForget_any _ c v L (TX.toTC (B := wr.heap.size) (x := x) (by repeat (first | assumption | apply TX.alloc | apply TX.drew | apply TX.drewN))).rc (TX.toTC (B := wr.heap.size) (x := x) (by repeat (first | assumption | apply TX.alloc | apply TX.drew | apply TX.drewN))).ev (by omega) x.a).mono ?_; rintro y w2 ⟨v', rfl, h1, h2, h3, h4⟩; have T2 := TX.stepC (B := wr.heap.size) (x := x) (by repeat (first | assumption | apply TX.alloc | apply TX.drew | apply TX.drewN)) h1 h2 h3 h4; have t2 := T2.t0; have hz := h4.size; simp at hz; have q2 := T2.a2)
            | (go_at_call 24; refine (cAll_any _ c _ _ T2.rc T2.ev (by omega)).mono ?_; rintro y w3 ⟨B3, v3, rfl, r1, r2, r3, r4, r5⟩; have T3 := TX.non T2 r5)
            | fail)
          have q3 := T3.a2
          apply wp_range (gf := 77) (lb := #[.pointer (some ⟨B3, 0, none⟩)]) rfl (enters_of Try.func77 (by kernel_rfl) rfl) (cAll_stops 8 (by omega) B3 v3 (keep1 x.a L) _ r1 r2 (by omega)) (fun k hk => r2.lt hk) (fun _ => rfl)
            (fun pre W => Upd Non w3 W)
            (fun _ _ _ => False)
            (fun pre W W' h u => h.over u (fun i hi => hi.1))
            (fun c pre W W' h u => h)
            (Upd.refl _ _) (fun pre W h => h.size) (fun i => .cells ((keep1 x.a L)[i.1]'i.2).cells.toArray 35) (fun _ => rfl)
          · -- assign
            intro l' pre y W K hi hK
            dsimp only [encE, EntryM.val, EntryM.cells]
            dsimp only [EntryM.cells] at hK
            gi_wp2
            generalize W.heap.size = z at hK ⊢
            exact hK
          · -- body
            rintro l' pre y Be W hi hBe hwB hlen
            have hf := EAt.of_box (e := (keep1 x.a L)[y.1]'y.2) hBe
            have hne := keep1_ne (L := L) (r := x.a) y.2
            generalize (keep1 x.a L)[y.1]'y.2 = e at hf hne
            have q4 := (T3.non hi).a2
            obtain ⟨f0, f1', f2, f3, f4, f5, f6⟩ := hf
            have hBo : wr.heap.size < Be := (by have := r5.size; omega)
            clear hBe
            gi_wp2
            exact round_on (Upd.refl Non W) (fun k h => h.elim) (fun _ _ h => h) hi
          · -- done
            rintro D xs W hD rfl hi hDD
            have TW0 := T3.non hi
            have TW := TW0.relist (TW0.toTC.new_mark T3.toTC hDD hD)
            exact hKM _ _ (Met.intro (hJ _ _ ⟨D :: Ds, _, rfl, rfl, ⟨rfl, rfl, rfl, rfl, rfl⟩, _, _, TW, ⟨hI.out.2.1.filter _, by omega⟩, by have := r5.size; have := hi.size; omega⟩))
          · rintro D c' pre W hD _ h _
            exact h.elim
        · exact Met.intro (hJ _ _ ⟨Ds, _, rfl, rfl, ⟨rfl, rfl, rfl, rfl, rfl⟩, _, _, T, hI.out.2, by simp⟩)
    · -- end
      obtain ⟨b0, hrr⟩ := hI.out.1.rr
      have rf := hrr.frozen 0
      have rc := hrr.cell (i := 0) (by omega)
      have S5 := Lib.hid (hI.out.1.setB true)
      go_wp2
      refine marked_ret S5.out.mks fun w' u' => ⟨.bool true, ?_, rfl, S5.out.up.over u' S5.out.mkb⟩
      have hno := fun h => S5.out.mks.ne ((hrr.set_ (i := 0) (.bool true)).congr (d := fun _ => .bool true) (fun i hi => by unfold upd; rw [if_pos (by omega)])) h
      have rt := u'.cell (World.cell?_setCell_same' (w := wr) ⟨w.heap.size, 0, none⟩ (.bool true) (by rw [rc]; rfl)) hno
      simp [results, Try.results5, go_sem, rt]

set_option maxRecDepth 100000 in
set_option maxHeartbeats 400000 in
theorem topCache_law (w : World) (A : Option Addr) (cap : Nat) (l : List ActM) (hl : ActsAt w A l) :
    Calls Try.prog 5 #[.slice A l.length cap] w fun e w' => e = .returned (.bool true) ∧ Upd Non w w' := by
  by_cases h80 : (l.length : Int) ≤ 80
  · exact topCache_go w A cap l hl h80
  · have e1 := Lib.hid (show cput ⟨1, 0, 0, false, LeafM.none⟩ [] = [⟨1, 0, 0, false, LeafM.none⟩] from rfl)
    have e2 := Lib.hid (show cfind [⟨1, 0, 0, false, LeafM.none⟩] 1 0 = (⟨1, 0, 0, false, LeafM.none⟩, true) from rfl)
    refine calls_of_wp_marks Try.func5 rfl ?_; simp only [Try.ntmps5, List.size_toArray, List.length_cons, List.length_nil, Nat.reduceAdd, Nat.reduceSub, Array.replicate_succ, Array.replicate_zero, List.push_toArray, List.append_toArray, List.nil_append, List.cons_append]
    go_wp2_with (first
      | (go_at_call 14; refine (cPut_any _ (w.heap.size + 1) (.slice none 0 0) [] (by have := row_one (w.alloc (.cells #[.bool false] 4)) 28 (.slice none 0 0); rw [World.size_alloc] at this; exact this) ERow.nil (by simp) ⟨1, 0, 0, false, LeafM.none⟩).mono ?_; rw [e1.out]; rintro x w2 ⟨v', rfl, h1, h2, h3, h4⟩)
      | (go_at_call 16; refine (cFind_any _ (w.heap.size + 1) _ _ h1 h2 (by simp) 1 0).mono ?_; rw [e2.out]; rintro x w3 ⟨rfl, u3⟩; unfold EntryM.val EntryM.cells; have rr := ((row_one w 4 (.bool false)).alloc (.cells #[.slice none 0 0] 28)).upd_ (h4.trans' u3) (by unfold at1; omega); have rf := rr.frozen 0; have rc := rr.cell (i := 0) (by omega); have rl := rr.lt)
      | (go_at_call 13; refine (light_law _ _ _ _ _).mono ?_; rw [show decide ((l.length : Int) ≤ 80) = false from decide_eq_false (by omega)]; rintro e w2 ⟨rfl, rfl⟩)
      | fail)
    have U3 : Upd Non w w3 := ((((Upd.refl Non w).alloc _).alloc _).over' h4 (fun i hi => .inr (by unfold at1 at hi; omega))).trans u3
    refine marked_ret (Ds := []) (MarksAt.nil _) fun w' u' => ⟨.bool true, ?_, rfl, ?_⟩
    · have rt := u'.cell (p := ⟨w.heap.size, 0, none⟩) ((World.cell?_alloc_lt _ _ _ (by simpa using rl)).trans (World.cell?_setCell_same' (w := w3) ⟨w.heap.size, 0, none⟩ (.bool true) (by rw [rc]; rfl))) (by simp)
      simp [results, Try.results5, go_sem, rt]
    · exact ((U3.setCell (p := ⟨w.heap.size, 0, none⟩) (fun h => absurd h (by simp)) _).alloc _).over u' (fun i hi => by simp at hi)

end U
end Go.Proofs.Ytnhplapcdgnaaaa
