import Derived.Test.YtnhplapcdgnaaaaLawB
import Derived.Deep.RegionHeld3
set_option linter.unusedVariables false
set_option linter.unusedSimpArgs false
namespace Go.Proofs.Ytnhplapcdgnaaaa
open Go.RowKit
namespace U

set_option maxRecDepth 100000 in
set_option maxHeartbeats 4000000 in
theorem poolSays_go (w : World) (k : Nat) (hn1 : 1 ≤ (k : Int)) (hn2 : (k : Int) ≤ 64) (A : Option Addr) (cap : Nat) (l : List ActM) (hl : ActsAt w A l) (h80 : (l.length : Int) ≤ 80) :
    Calls Try.prog 4 #[.int .i64 k, .slice A l.length cap] w fun e w' => e = .returned (.bool true) ∧ Upd Non w w' := by
  go_enter Try.func4, Try.ntmps4
  go_wp2_with (first
    | (go_at_call 27; refine (takes_law _).mono ?_; rintro e ws ⟨rfl, u1⟩)
    | (go_at_call 13; refine (light_law _ _ _ _ _).mono ?_; rintro e w2 ⟨rfl, rfl⟩)
    | (go_at_call 28; refine (new_ok _ k (by omega) (by omega)).mono ?_; rintro e w1 ⟨L, rfl, r, u, l1, l2, l3⟩)
    | fail)
  have hI0 : PI w k w1.heap.size 0 L (PoolM.fresh k) (w1.alloc (.cells (Try.zeroCells63.setIfInBounds 0 (.int .i64 k)) 63)) := by
    have hs := u1.size
    have hs2 := u.size
    exact ⟨⟨r.alloc _, rpool_new w1 k (by omega) (by omega), (u1.trans u).alloc _, by omega, by omega, by omega, by omega⟩, fun i => ⟨Int.le_refl _, Int.le_refl _⟩, rfl⟩
  clear r u u1 l1 l2 l3
  go_loopw [6, 9] (fun p i wr => ∃ (q : Nat) (L : PoolAt) (P : PoolM), q ≤ l.length ∧ i = .int .i64 q ∧ p = .pointer (some ⟨L.p, 0, none⟩) ∧ Hid (PI w k w1.heap.size q L P wr)) (fun _ i _ => l.length - (intOf i).toNat)
  case atStart => exact ⟨0, L, PoolM.fresh k, Nat.zero_le _, rfl, rfl, hI0⟩
  case round =>
    clear hI0
    obtain ⟨q, L, P, hq, rfl, rfl, hI⟩ := hrel
    by_cases hlt : q < l.length
    · obtain ⟨b, o, rfl, hb, hx⟩ : ∃ b o, A = some ⟨b, o, none⟩ ∧ b < w.heap.size ∧ ∀ i x, l[i]? = some x → ActAt w b (o + i * 6) x := by
        rcases hl with rfl | h
        · simp at hlt
        · exact h
      have ha := (hx q l[q] (List.getElem?_eq_getElem hlt)).upd_ hI.out.1.up (fun h => h)
      clear hx hl
      generalize l[q] = x at ha
      obtain ⟨a0, a1, a2, a3, a4, a5⟩ := ha
      have T := Two.new hI.out.1 x
      go_wp2_with fail
      · -- take
        go_wp2_with (first
          | (go_at_call 30; refine (take_any _ L P (Two.toPoolInv (by repeat (first | assumption | apply Two.drew | apply Two.drewN))).rp).mono ?_; rintro e w2 ⟨rfl, r2, u2⟩; have T2 := Two.stepP (by repeat (first | assumption | apply Two.drew | apply Two.drewN)) r2 u2)
          | (go_at_call 31; refine (rtake_any _ _ P (Two.toPoolInv (by repeat (first | assumption | apply Two.drew | apply Two.drewN))).rm).mono ?_; rintro e w2 ⟨rfl, r2, u2⟩; have T2 := Two.stepM (by repeat (first | assumption | apply Two.drew | apply Two.drewN)) r2 u2)
          | (go_at_call 29; refine (same_law _ _ _).mono ?_; rintro e w9 ⟨rfl, rfl⟩))
        go_roundw
        case rel => exact ⟨q + 1, L, P.take.1, by omega, by go_num, rfl, ⟨(by assumption : Two _ _ _ _ P.take.1 P.take.1 _ _).toPoolInv, hI.out.2.1.take, (take_n P).trans hI.out.2.2⟩⟩
        case measure => simp [intOf]; omega
      · -- share
        go_region_held3 (fun w' => w'.cell? ⟨wr.heap.size, 2, none⟩ = some (.int .i64 x.a)) (first | exact T2.ax.c2 | simp) (first | (go_at_call 32; refine (share_any _ L P (Two.toPoolInv (by repeat (first | assumption | apply Two.drew | apply Two.drewN))).rp _).mono ?_; rintro e w2 ⟨rfl, r2, u2⟩; have T2 := Two.stepP (by repeat (first | assumption | apply Two.drew | apply Two.drewN)) r2 u2; have a2' := T2.ax.c2) | (go_at_call 33; refine (rshare_any _ _ P (Two.toPoolInv (by repeat (first | assumption | apply Two.drew | apply Two.drewN))).rm _ _).mono ?_; rintro e w2 ⟨rfl, r2, u2⟩; have T2 := Two.stepM (by repeat (first | assumption | apply Two.drew | apply Two.drewN)) r2 u2; have a2' := T2.ax.c2) | (go_at_call 29; refine (same_law _ _ _).mono ?_; rintro e w9 ⟨rfl, rfl⟩))
        all_goals go_wp2
        all_goals go_roundw
        all_goals first | exact ⟨q + 1, L, (P.share x.a 1).1, by omega, by go_num, rfl, ⟨(by assumption : Two _ _ _ _ (P.share x.a 1).1 (P.share x.a 1).1 _ _).toPoolInv, hI.out.2.1.share (by omega) _ _ (.inl rfl), (share_n P _ _).trans hI.out.2.2⟩⟩ | (simp [intOf]; omega)
      · -- drop
        go_region_held3 (fun w' => w'.cell? ⟨wr.heap.size, 2, none⟩ = some (.int .i64 x.a)) (first | exact T2.ax.c2 | simp) (first | (go_at_call 34; refine (drop_any _ L P (Two.toPoolInv (by repeat (first | assumption | apply Two.drew | apply Two.drewN))).rp _).mono ?_; rintro e w2 ⟨rfl, r2, u2⟩; have T2 := Two.stepP (by repeat (first | assumption | apply Two.drew | apply Two.drewN)) r2 u2; have a2' := T2.ax.c2) | (go_at_call 33; refine (rshare_any _ _ P (Two.toPoolInv (by repeat (first | assumption | apply Two.drew | apply Two.drewN))).rm _ _).mono ?_; rintro e w2 ⟨rfl, r2, u2⟩; have T2 := Two.stepM (by repeat (first | assumption | apply Two.drew | apply Two.drewN)) r2 u2; have a2' := T2.ax.c2) | (go_at_call 29; refine (same_law _ _ _).mono ?_; rintro e w9 ⟨rfl, rfl⟩))
        all_goals go_wp2
        all_goals go_roundw
        all_goals first | exact ⟨q + 1, L, (P.share x.a (-1)).1, by omega, by go_num, rfl, ⟨(by assumption : Two _ _ _ _ (P.share x.a (-1)).1 (P.share x.a (-1)).1 _ _).toPoolInv, hI.out.2.1.share (by omega) _ _ (.inr rfl), (share_n P _ _).trans hI.out.2.2⟩⟩ | (simp [intOf]; omega)
      · -- get
        go_wp2_with (first
          | (go_at_call 35; refine (get_any _ L P (Two.toPoolInv (by repeat (first | assumption | apply Two.drew | apply Two.drewN))).rp _ _).mono ?_; rintro e w2 ⟨rfl, rfl⟩)
          | (go_at_call 36; refine (rget_any _ _ P (Two.toPoolInv (by repeat (first | assumption | apply Two.drew | apply Two.drewN))).rm _ _).mono ?_; rintro e w2 ⟨rfl, rfl⟩)
          | (go_at_call 29; refine (same_law _ _ _).mono ?_; rintro e w9 ⟨rfl, rfl⟩))
        go_roundw
        case rel => exact ⟨q + 1, L, P, by omega, by go_num, rfl, ⟨T.toPoolInv, hI.out.2.1.mono (by omega), hI.out.2.2⟩⟩
        case measure => simp [intOf]; omega
      · -- set
        go_region_held3 (fun w' => w'.cell? ⟨wr.heap.size, 2, none⟩ = some (.int .i64 x.a) ∧ w'.cell? ⟨wr.heap.size, 3, none⟩ = some (.int .i64 x.b) ∧ w'.cell? ⟨wr.heap.size, 4, none⟩ = some (.int .u8 x.v.toNat)) (first | exact ⟨T2.ax.c2, T2.ax.c3, T2.ax.c4⟩ | simp) (first | (go_at_call 37; refine (set_any _ L P (Two.toPoolInv (by repeat (first | assumption | apply Two.drew | apply Two.drewN))).rp _ _ _).mono ?_; rintro e w2 ⟨rfl, r2, u2⟩; have T2 := Two.stepP (by repeat (first | assumption | apply Two.drew | apply Two.drewN)) r2 u2; have a2' := T2.ax.c2; have a3' := T2.ax.c3; have a4' := T2.ax.c4) | (go_at_call 38; refine (rset_any _ _ P (Two.toPoolInv (by repeat (first | assumption | apply Two.drew | apply Two.drewN))).rm _ _ _).mono ?_; rintro e w2 ⟨rfl, r2, u2⟩; have T2 := Two.stepM (by repeat (first | assumption | apply Two.drew | apply Two.drewN)) r2 u2; have a2' := T2.ax.c2; have a3' := T2.ax.c3; have a4' := T2.ax.c4) | (go_at_call 29; refine (same_law _ _ _).mono ?_; rintro e w9 ⟨rfl, rfl⟩))
        all_goals go_wp2
        all_goals go_roundw
        all_goals first | exact ⟨q + 1, L, (P.set x.a x.b x.v).1, by omega, by go_num, rfl, ⟨(by assumption : Two _ _ _ _ (P.set x.a x.b x.v).1 (P.set x.a x.b x.v).1 _ _).toPoolInv, hI.out.2.1.of_refs (set_refs P _ _ _), (set_n P _ _ _).trans hI.out.2.2⟩⟩ | (simp [intOf]; omega)
      · -- fill
        go_region_held3 (fun w' => w'.cell? ⟨wr.heap.size, 2, none⟩ = some (.int .i64 x.a) ∧ w'.cell? ⟨wr.heap.size, 3, none⟩ = some (.int .i64 x.b)) (first | exact ⟨T2.ax.c2, T2.ax.c3⟩ | simp) (first | (go_at_call 39; refine (fill_any _ L P (Two.toPoolInv (by repeat (first | assumption | apply Two.drew | apply Two.drewN))).rp _ _).mono ?_; rintro e w2 ⟨rfl, r2, u2⟩; have T2 := Two.stepP (by repeat (first | assumption | apply Two.drew | apply Two.drewN)) r2 u2; have a2' := T2.ax.c2; have a3' := T2.ax.c3) | (go_at_call 40; refine (rfill_any _ _ P (Two.toPoolInv (by repeat (first | assumption | apply Two.drew | apply Two.drewN))).rm _ _).mono ?_; rintro e w2 ⟨rfl, r2, u2⟩; have T2 := Two.stepM (by repeat (first | assumption | apply Two.drew | apply Two.drewN)) r2 u2; have a2' := T2.ax.c2; have a3' := T2.ax.c3) | (go_at_call 29; refine (same_law _ _ _).mono ?_; rintro e w9 ⟨rfl, rfl⟩))
        all_goals go_wp2
        all_goals go_roundw
        all_goals first | exact ⟨q + 1, L, (P.fill x.a x.b).1, by omega, by go_num, rfl, ⟨(by assumption : Two _ _ _ _ (P.fill x.a x.b).1 (P.fill x.a x.b).1 _ _).toPoolInv, hI.out.2.1.of_refs (fill_refs P _ _), (fill_n P _ _).trans hI.out.2.2⟩⟩ | (simp [intOf]; omega)
      · -- same
        go_region_held3 (fun w' => w'.cell? ⟨wr.heap.size, 2, none⟩ = some (.int .i64 x.a) ∧ w'.cell? ⟨wr.heap.size, 3, none⟩ = some (.int .i64 x.b)) (first | exact ⟨T2.ax.c2, T2.ax.c3⟩ | simp) (first | (go_at_call 41; refine (same_any _ L P (Two.toPoolInv (by repeat (first | assumption | apply Two.drew | apply Two.drewN))).rp _ _).mono ?_; rintro e w2 ⟨rfl, n, rfl⟩) | (go_at_call 42; refine (rsame_any _ _ P (Two.toPoolInv (by repeat (first | assumption | apply Two.drew | apply Two.drewN))).rm _ _).mono ?_; rintro e w2 ⟨rfl, n, rfl⟩))
        all_goals go_wp2
        all_goals go_roundw
        all_goals first | exact ⟨q + 1, L, P, by omega, by go_num, rfl, ⟨Two.toPoolInv (B := wr.heap.size) (x := x) (by repeat (first | assumption | apply Two.drew | apply Two.drewN)), hI.out.2.1.mono (by omega), hI.out.2.2⟩⟩ | (simp [intOf]; omega)
      · -- copy
        go_wp2_with (first
          | (go_at_call 43; refine (copy_any _ L P T.rp).mono ?_; rintro e w2 ⟨L', rfl, r2, u2, h1, h2, h3⟩; have H := T.copy r2 u2 h1 h2 h3)
          | (go_at_call 30; refine (take_any _ L _ (Three.rp (by repeat (first | assumption | apply Three.drew | apply Three.drewN)))).mono ?_; rintro e w3 ⟨rfl, r3, u3⟩; have H3 := Three.step (by repeat (first | assumption | apply Three.drew | apply Three.drewN)) r3 u3)
          | (go_at_call 37; refine (set_any _ L _ (Three.rp (by repeat (first | assumption | apply Three.drew | apply Three.drewN))) 0 0 77).mono ?_; rintro e w3 ⟨rfl, r3, u3⟩; have H3 := Three.step (by repeat (first | assumption | apply Three.drew | apply Three.drewN)) r3 u3)
          | (go_at_call 34; refine (drop_any _ L _ (Three.rp (by repeat (first | assumption | apply Three.drew | apply Three.drewN))) _).mono ?_; rintro e w3 ⟨rfl, r3, u3⟩; have H3 := Three.step (by repeat (first | assumption | apply Three.drew | apply Three.drewN)) r3 u3))
        go_roundw
        case rel => exact ⟨q + 1, L', P, by omega, by go_num, rfl, ⟨(by assumption : Three _ _ L L' _ P _).inv, hI.out.2.1.mono (by omega), hI.out.2.2⟩⟩
        case measure => simp [intOf]; omega
    · go_wp2_with (go_at_call 44; refine (asPool_law _ L _ P hI.out.1.rp hI.out.1.rm (fun i => (hI.out.2.1 i).1)).mono ?_; rintro e w2 ⟨rfl, u2⟩)
      go_ret
      exact ⟨rfl, hI.out.1.up.trans u2⟩

set_option maxRecDepth 100000 in
set_option maxHeartbeats 400000 in
theorem poolSays_law (w : World) (n : Int) (A : Option Addr) (cap : Nat) (l : List ActM) (hl : ActsAt w A l) :
    Calls Try.prog 4 #[.int .i64 n, .slice A l.length cap] w fun e w' => e = .returned (.bool true) ∧ Upd Non w w' := by
  by_cases h80 : (l.length : Int) ≤ 80
  · by_cases h1 : n < 1
    · go_enter Try.func4, Try.ntmps4
      go_wp2_with (first
        | (go_at_call 27; refine (takes_law _).mono ?_; rintro e ws ⟨rfl, u1⟩)
        | (go_at_call 13; refine (light_law _ _ _ _ _).mono ?_; rintro e w2 ⟨rfl, rfl⟩)
        | (go_at_call 28; refine (new_bad _ n (.inl h1)).mono ?_; rintro e w1 ⟨rfl, rfl⟩)
        | (go_at_call 29; refine (same_law _ _ _).mono ?_; rintro e w9 ⟨rfl, rfl⟩))
      go_ret
      exact ⟨rfl, u1⟩
    · by_cases h2 : 64 < n
      · go_enter Try.func4, Try.ntmps4
        go_wp2_with (first
          | (go_at_call 27; refine (takes_law _).mono ?_; rintro e ws ⟨rfl, u1⟩)
          | (go_at_call 13; refine (light_law _ _ _ _ _).mono ?_; rintro e w2 ⟨rfl, rfl⟩)
          | (go_at_call 28; refine (new_bad _ n (.inr h2)).mono ?_; rintro e w1 ⟨rfl, rfl⟩)
          | (go_at_call 29; refine (same_law _ _ _).mono ?_; rintro e w9 ⟨rfl, rfl⟩))
        go_ret
        exact ⟨rfl, u1⟩
      · obtain ⟨k, rfl⟩ := Int.eq_ofNat_of_zero_le (by omega : 0 ≤ n)
        exact poolSays_go w k (by omega) (by omega) A cap l hl h80
  · go_enter Try.func4, Try.ntmps4
    go_wp2_with (first
      | (go_at_call 27; refine (takes_law _).mono ?_; rintro e ws ⟨rfl, u1⟩)
      | (go_at_call 13; refine (light_law _ _ _ _ _).mono ?_; rw [show decide ((l.length : Int) ≤ 80) = false from decide_eq_false (by omega)]; rintro e w2 ⟨rfl, rfl⟩))
    go_ret
    exact ⟨rfl, u1⟩

end U
end Go.Proofs.Ytnhplapcdgnaaaa
