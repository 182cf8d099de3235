import Derived.Test.YtnhplapcdgnaaaaGreatDoorCacheL
import Derived.BigRegion
set_option linter.unusedVariables false
set_option linter.unusedSimpArgs false
namespace Go.Proofs.YtnhplapcdgnaaaaGreatDoor
open Go.RowKit
namespace U

theorem cacheAt_some {L : List EntryM} {r p : Int} {k : Nat} (hk : k < L.length) (h : (L[k].root == r && L[k].page == p) = true) (hb : ∀ j (hj : j < L.length), j < k → (L[j].root == r && L[j].page == p) = false) : cacheAt L r p = some k := by
  unfold cacheAt
  rw [List.findIdx?_eq_some_iff_getElem]
  exact ⟨hk, h, fun j hj => by simp [hb j (by omega) hj]⟩
theorem cacheAt_none {L : List EntryM} {r p : Int} (hb : ∀ j (hj : j < L.length), (L[j].root == r && L[j].page == p) = false) : cacheAt L r p = none := by
  unfold cacheAt
  rw [List.findIdx?_eq_none_iff]
  intro e he
  obtain ⟨j, hj, rfl⟩ := List.getElem_of_mem he
  exact hb j hj

set_option maxRecDepth 100000 in
set_option maxHeartbeats 400000 in
theorem rfind_any (w : World) (v : Value) (L : List EntryM) (h : ERow w v L) (hl : L.length ≤ 100) (r p : Int) :
    Calls Tryz.prog 80 #[v, .int .i64 r, .int .i64 p] w fun e w' => e = .returned (.int .i64 (idxI (cacheAt L r p))) ∧ w = w' := by
  obtain ⟨A, cap, rfl⟩ := h.form
  go_enter Tryz.func80, Tryz.ntmps80
  go_wp2
  go_loop [7] (fun i => ∃ k : Nat, k ≤ L.length ∧ i = .int .i64 k ∧ Hid (∀ j (hj : j < L.length), j < k → (L[j].root == r && L[j].page == p) = false)) (fun i => L.length - (intOf i).toNat)
  case atStart => exact ⟨0, Nat.zero_le _, rfl, fun j _ h => by omega⟩
  case round =>
    obtain ⟨k, hk, rfl, hb⟩ := hrel
    by_cases hlt : k < L.length
    · obtain ⟨g, o, cap', hv, hg, hE⟩ := h.at_ hlt
      obtain ⟨rfl, rfl⟩ : A = some ⟨g, o, none⟩ ∧ cap = cap' := by simpa using hv
      obtain ⟨e0, e1, e2, e3, e4, e5, e6⟩ := hE
      obtain ⟨x, hx⟩ : ∃ x, L[k] = x := ⟨_, rfl⟩
      rw [hx] at e0 e1
      have X := Lib.hid hx
      clear hx hv e2 e3 e4 e5 e6
      by_cases t0 : x.root = r
      · have t0' : (x.root == r) = true := by simpa using t0
        by_cases t1 : x.page = p
        · have t1' : (x.page == p) = true := by simpa using t1
          have F : Hid (cacheAt L r p = some k) := cacheAt_some hlt (by rw [X.out]; simp [t0, t1]) hb.out
          clear t0 t1
          go_wp2
          go_ret
          exact ⟨by rw [F.out]; rfl, rfl⟩
        · have t1' : (x.page == p) = false := by simpa using t1
          have hb' : Hid (∀ j (hj : j < L.length), j < k + 1 → (L[j].root == r && L[j].page == p) = false) := fun j hj hjk => by
            rcases Nat.lt_succ_iff_lt_or_eq.1 hjk with h' | rfl
            · exact hb.out j hj h'
            · rw [X.out]; simp [t1]
          clear t0 t1
          go_wp2
          go_round
          case rel => exact ⟨k + 1, by omega, by go_num, hb'⟩
          case measure => simp [intOf]; omega
      · have t0' : (x.root == r) = false := by simpa using t0
        have hb' : Hid (∀ j (hj : j < L.length), j < k + 1 → (L[j].root == r && L[j].page == p) = false) := fun j hj hjk => by
          rcases Nat.lt_succ_iff_lt_or_eq.1 hjk with h' | rfl
          · exact hb.out j hj h'
          · rw [X.out]; simp [t0]
        clear t0
        go_wp2
        go_round
        case rel => exact ⟨k + 1, by omega, by go_num, hb'⟩
        case measure => simp [intOf]; omega
    · have F : Hid (cacheAt L r p = none) := cacheAt_none fun j hj => hb.out j hj (by omega)
      go_wp2
      go_ret
      exact ⟨by rw [F.out]; rfl, rfl⟩

set_option maxRecDepth 100000 in
set_option maxHeartbeats 1000000 in
theorem rwithout_any (w : World) (v : Value) (L : List EntryM) (h : ERow w v L) (hl : L.length ≤ 100) (a : Int) :
    Calls Tryz.prog 79 #[v, .int .i64 a] w fun e w' => ∃ v', e = .returned v' ∧ ERow w' v' (rwithout L a) ∧ Fresh w v' ∧ Upd Non w w' := by
  obtain ⟨A, cap, rfl⟩ := h.form
  go_enter Tryz.func79, Tryz.ntmps79
  go_wp2
  go_loopw [5, 6] (fun l i wr => ∃ (k : Nat) (v' : Value), k ≤ L.length ∧ i = .int .i64 k ∧ l = v' ∧ Hid (ERow wr v' (rwithout (L.take k) a) ∧ Fresh w v' ∧ Upd Non w wr)) (fun _ i _ => L.length - (intOf i).toNat)
  case atStart => exact ⟨0, _, Nat.zero_le _, rfl, rfl, by rw [List.take_zero, rwithout_nil]; exact ERow.nil, (fun g hg => by cases hg), Upd.refl _ _⟩
  case round =>
    obtain ⟨k, v', hk, rfl, rfl, hI⟩ := hrel
    by_cases hlt : k < L.length
    · obtain ⟨g, o, cap', hv, hg, hE⟩ := (h.upd_ hI.out.2.2 (fun _ _ => (fun h => h))).at_ hlt
      obtain ⟨rfl, rfl⟩ : A = some ⟨g, o, none⟩ ∧ cap = cap' := by simpa using hv
      have hsn := rwithout_snoc L a k hlt
      have hlen : Hid ((rwithout (L.take k) a).length ≤ 100000) := by
        show _ ≤ _
        unfold rwithout
        have := List.length_take_le k L
        split
        · omega
        · rw [List.length_eraseIdx]; split <;> omega
      obtain ⟨x, hx⟩ : ∃ x, L[k] = x := ⟨_, rfl⟩
      rw [hx] at hE hsn
      clear hx hv
      obtain ⟨e0, e1, e2, e3, e4, e5, e6⟩ := hE
      by_cases hp : (k : Int) = a
      · have hp' : ((k : Int) != a) = false := by simpa using hp
        rw [if_pos hp] at hsn
        have hfin := Lib.hid hsn
        clear hsn hp
        go_wp2
        go_roundw
        case rel => exact ⟨k + 1, _, by omega, by go_num, rfl, by rw [hfin.out]; exact hI.out⟩
        case measure => simp [intOf]; omega
      · have hp' : ((k : Int) != a) = true := by simpa using hp
        rw [if_neg hp] at hsn
        have hfin := Lib.hid hsn
        clear hsn hp
        go_wp2_with (at_builtin; refine wpl_append_eT Tryz.underlying93 rfl _ _ rfl _ _ rfl rfl _ x (hI.out.1.alloc _) hlen.out (ebox _ x) ?_; intro v2 w3 hv2 u3 hb2)
        go_roundw
        case rel => exact ⟨k + 1, _, by omega, by go_num, rfl, by rw [hfin.out]; exact hv2, fun g hg => by
            rcases hb2 with hb2 | hb2
            · exact hI.out.2.1 g (hb2 ▸ hg)
            · have := hI.out.2.2.size
              rw [hb2] at hg
              simp at hg
              omega, ((hI.out.2.2.alloc _).over u3 hI.out.2.1)⟩
        case measure => simp [intOf]; omega
    · obtain rfl : k = L.length := by omega
      have hI' := hI.out
      rw [List.take_length] at hI'
      have V := Lib.hid hI'
      clear hI' hI
      go_wp2
      go_ret
      exact ⟨_, rfl, V.out⟩


theorem rwithout_length (L : List EntryM) (a : Int) : (rwithout L a).length ≤ L.length := by
  unfold rwithout
  split
  · exact Nat.le_refl _
  · rw [List.length_eraseIdx]; split <;> omega
theorem fresh_of {w0 w : World} {v v2 : Value} (hu : Upd Non w0 w) (h : Fresh w0 v) (hb : v2.ownBlock = v.ownBlock ∨ v2.ownBlock = some w.heap.size) : Fresh w0 v2 := fun g hg => by
  rcases hb with hb | hb
  · exact h g (hb ▸ hg)
  · have := hu.size
    rw [hb] at hg
    simp at hg
    omega
theorem Fresh.up {w0 w : World} {v : Value} (h : Fresh w v) (u : Upd Non w0 w) : Fresh w0 v := fun g hg => Nat.le_trans u.size (h g hg)

set_option maxRecDepth 100000 in
set_option maxHeartbeats 1000000 in
theorem rput_any (w : World) (v : Value) (L : List EntryM) (h : ERow w v L) (hl : L.length ≤ 50) (e : EntryM) :
    Calls Tryz.prog 110 #[v, .agg #[.int .i64 e.root, .int .i64 e.page, .int .i64 e.to, .bool e.may, .bool e.leaf.there, .bool e.leaf.write, .int .i64 e.leaf.frame]] w fun x w' => ∃ v', x = .returned v' ∧ ERow w' v' (rput e L) ∧ Fresh w v' ∧ Upd Non w w' := by
  have hle := rwithout_length L (idxI (cacheAt L e.root e.page))
  obtain ⟨M, hM⟩ : ∃ M, rwithout L (idxI (cacheAt L e.root e.page)) = M := ⟨_, rfl⟩
  rw [hM] at hle
  have HM := Lib.hid hM
  clear hM
  have H := Lib.hid (show (M ++ [e]).length = M.length + 1 by simp)
  by_cases h5 : M.length < 4
  · have F := Lib.hid (show rput e L = M ++ [e] by unfold rput; simp only []; rw [HM.out, if_neg (by rw [H.out]; omega)])
    have h6 : ¬ 4 < (M ++ [e]).length := by rw [H.out]; omega
    go_enter Tryz.func110, Tryz.ntmps110
    go_wp2_with (first
      | (go_at_call 80; refine (rfind_any _ v L (h.alloc _) (by omega) _ _).mono ?_; rintro y w2 ⟨rfl, rfl⟩)
      | (go_at_call 79; refine (rwithout_any _ v L (h.alloc _) (by omega) _).mono ?_; rw [HM.out]; rintro y w2 ⟨v', rfl, h1, h2, h3⟩; obtain ⟨A', cap', rfl⟩ := h1.form; obtain ⟨b0, b1, b2, b3, b4, b5, b6⟩ := (ebox w e).keep (h3.block _ (by simp) (fun h => h)); have hz := h3.size; simp at hz; have U2 := ((Upd.refl Non w).alloc (.cells e.cells.toArray 144)).trans h3)
      | (at_builtin; refine wpl_append_eT Tryz.underlying93 rfl _ _ rfl _ _ rfl rfl M e (h1.alloc _) (by omega) (ebox _ e) ?_; intro v2 w3 hv2 u3 hb2; have hf2 := fresh_of (U2.alloc _) (h2.up ((Upd.refl Non w).alloc _)) hb2; obtain ⟨A3, cap3, rfl⟩ := hv2.form; rw [H.out] at hv2 hf2))
    go_ret
    exact ⟨_, rfl, by rw [F.out]; exact hv2, hf2, (U2.alloc _).over u3 (h2.up ((Upd.refl Non w).alloc _))⟩
  · have h6 : 4 < (M ++ [e]).length := by rw [H.out]; omega
    have F := Lib.hid (show rput e L = rwithout (M ++ [e]) 0 by unfold rput; simp only []; rw [HM.out, if_pos (by rw [H.out]; omega)]; unfold rwithout; rw [if_neg (by omega)]; rfl)
    go_enter Tryz.func110, Tryz.ntmps110
    go_wp2_with (first
      | (go_at_call 80; refine (rfind_any _ v L (h.alloc _) (by omega) _ _).mono ?_; rintro y w2 ⟨rfl, rfl⟩)
      | (go_at_call 79; (with_reducible refine (rwithout_any _ v L (h.alloc _) (by omega) _).mono ?_); rw [HM.out]; rintro y w2 ⟨v', rfl, h1, h2, h3⟩; obtain ⟨A', cap', rfl⟩ := h1.form; obtain ⟨b0, b1, b2, b3, b4, b5, b6⟩ := (ebox w e).keep (h3.block _ (by simp) (fun h => h)); have hz := h3.size; simp at hz; have U2 := ((Upd.refl Non w).alloc (.cells e.cells.toArray 144)).trans h3)
      | (at_builtin; refine wpl_append_eT Tryz.underlying93 rfl _ _ rfl _ _ rfl rfl M e (h1.alloc _) (by omega) (ebox _ e) ?_; intro v2 w3 hv2 u3 hb2; have hf2 := fresh_of (U2.alloc _) (h2.up ((Upd.refl Non w).alloc _)) hb2; have U3 := (U2.alloc (.cells e.cells.toArray 144)).over u3 (h2.up ((Upd.refl Non w).alloc _)); have L5 : (M ++ [e]).length ≤ 100 := (by rw [H.out]; omega); obtain ⟨A3, cap3, rfl⟩ := hv2.form; rw [H.out] at hv2)
      | (go_at_call 79; refine (rwithout_any _ _ (M ++ [e]) hv2 L5 0).mono ?_; rintro y w4 ⟨v4, rfl, h4, h5, h6⟩))
    go_ret
    exact ⟨_, rfl, by rw [F.out]; exact h4, h5.up U3, U3.trans h6⟩

set_option maxRecDepth 100000 in
set_option maxHeartbeats 1000000 in
theorem rforget_any (w : World) (v : Value) (L : List EntryM) (h : ERow w v L) (hl : L.length ≤ 100) (a : Int) :
    Calls Tryz.prog 81 #[v, .int .i64 a] w fun e w' => ∃ v', e = .returned v' ∧ ERow w' v' (keep1 a L) ∧ Fresh w v' ∧ Upd Non w w' := by
  obtain ⟨A, cap, rfl⟩ := h.form
  go_enter Tryz.func81, Tryz.ntmps81
  go_wp2
  go_loopw [5, 6] (fun l i wr => ∃ (k : Nat) (v' : Value), k ≤ L.length ∧ i = .int .i64 k ∧ l = v' ∧ Hid (ERow wr v' (keep1 a (L.take k)) ∧ Fresh w v' ∧ Upd Non w wr)) (fun _ i _ => L.length - (intOf i).toNat)
  case atStart => exact ⟨0, _, Nat.zero_le _, rfl, rfl, by rw [List.take_zero]; exact ERow.nil, (fun g hg => by cases hg), Upd.refl _ _⟩
  case round =>
    obtain ⟨k, v', hk, rfl, rfl, hI⟩ := hrel
    by_cases hlt : k < L.length
    · obtain ⟨g, o, cap', hv, hg, hE⟩ := (h.upd_ hI.out.2.2 (fun _ _ => (fun h => h))).at_ hlt
      obtain ⟨rfl, rfl⟩ : A = some ⟨g, o, none⟩ ∧ cap = cap' := by simpa using hv
      have hts : Hid (L.take (k + 1) = L.take k ++ [L[k]]) := by rw [List.take_succ_eq_append_getElem hlt]; rfl
      have hlen : Hid ((keep1 a (L.take k)).length ≤ 100000) := by
        show _ ≤ _
        have h1 := keep1_length (L := L.take k) a
        have := List.length_take_le k L
        omega
      obtain ⟨x, hx⟩ : ∃ x, L[k] = x := ⟨_, rfl⟩
      rw [hx] at hE hts
      clear hx hv
      obtain ⟨e0, e1, e2, e3, e4, e5, e6⟩ := hE
      by_cases hp : x.root = a
      · have hp' : (x.root != a) = false := by simpa using hp
        have hfin : Hid (keep1 a (L.take (k + 1)) = keep1 a (L.take k)) := by show _ = _; unfold keep1; rw [hts.out, List.filter_append]; simp [hp]
        clear hp
        go_wp2
        go_roundw
        case rel => exact ⟨k + 1, _, by omega, by go_num, rfl, by rw [hfin.out]; exact hI.out⟩
        case measure => simp [intOf]; omega
      · have hp' : (x.root != a) = true := by simpa using hp
        have hfin : Hid (keep1 a (L.take (k + 1)) = keep1 a (L.take k) ++ [x]) := by show _ = _; unfold keep1; rw [hts.out, List.filter_append]; simp [hp]
        clear hp
        go_wp2_with (at_builtin; refine wpl_append_eT Tryz.underlying93 rfl _ _ rfl _ _ rfl rfl _ x (hI.out.1.alloc _) hlen.out (ebox _ x) ?_; intro v2 w3 hv2 u3 hb2)
        go_roundw
        case rel => exact ⟨k + 1, _, by omega, by go_num, rfl, by rw [hfin.out]; exact hv2, fresh_of (hI.out.2.2.alloc _) hI.out.2.1 hb2, ((hI.out.2.2.alloc _).over u3 hI.out.2.1)⟩
        case measure => simp [intOf]; omega
    · obtain rfl : k = L.length := by omega
      have hI' := hI.out
      rw [List.take_length] at hI'
      have V := Lib.hid hI'
      clear hI' hI
      go_wp2
      go_ret
      exact ⟨_, rfl, V.out⟩

end U
end Go.Proofs.YtnhplapcdgnaaaaGreatDoor

set_option linter.unusedVariables false
set_option linter.unusedSimpArgs false
namespace Go.Proofs.YtnhplapcdgnaaaaGreatDoor
open Go.RowKit
namespace U

end U
end Go.Proofs.YtnhplapcdgnaaaaGreatDoor
