import Derived.Test.YtnhplapcdgnaaabSound
import Derived.Test.YtnhplapcdgnaaabHostPl
set_option linter.unusedVariables false
set_option linter.unusedSimpArgs false
namespace Go.Proofs.Ytnhplapcdgnaaab
open Go.RowKit
namespace U

/-! The law TopFrames. -/
set_option maxRecDepth 100000 in
set_option maxHeartbeats 4000000 in
theorem topFrames_go (w : World) (k : Nat) (hn1 : 1 ≤ (k : Int)) (hn2 : (k : Int) ≤ 64) (Ad : Option Addr) (cap : Nat) (l : List ActM) (hl : ActsAt w Ad l) (h100 : (l.length : Int) ≤ 100) :
    Calls Try.prog 4 #[.int .i64 k, .slice Ad l.length cap] w fun e w' => e = .returned (.bool true) ∧ Upd Non w w' := by
  have K0 : Nat → GAt := fun _ => ⟨0, 0, 0, undef⟩
  go_enter Try.func4, Try.ntmps4
  go_wp2_with (first
    | (go_at_call 6; refine (light_law _ _ _ _ _).mono ?_; rintro e w3 ⟨rfl, rfl⟩)
    | (go_at_call 5; refine (hnew_ok w k (by omega) (by omega) K0).mono ?_; rintro e w1 ⟨h, L, rfl, r1, n1, u1⟩)
    | fail)
  have T0 : Hid (HW w w1 h L K0 (HostM.fresh k)) := ⟨r1, n1, u1⟩
  clear r1 n1 u1
  go_loopw [7] (fun i wr => ∃ (q : Nat) (K : Nat → GAt) (H : HostM), q ≤ l.length ∧ i = .int .i64 q ∧ Hid (HW w wr h L K H) ∧ Hid (HFine H ∧ H.p.n = k)) (fun i _ => l.length - (intOf i).toNat)
  case atStart => exact ⟨0, _, _, Nat.zero_le _, rfl, T0.out, HFine.fresh k, rfl⟩
  case round =>
    clear T0
    obtain ⟨q, K, H, hq, rfl, hT, HI⟩ := hrel
    by_cases hlt : q < l.length
    · obtain ⟨b, oo, rfl, hb, hx⟩ : ∃ b oo, Ad = some ⟨b, oo, none⟩ ∧ b < w.heap.size ∧ ∀ i x, l[i]? = some x → ActAt w b (oo + i * 6) x := by
        rcases hl with rfl | h
        · simp at hlt
        · exact h
      have ha := (hx q l[q] (List.getElem?_eq_getElem hlt)).upd_ hT.out.up (fun h => h)
      clear hx hl
      generalize l[q] = x at ha
      have T := hT.out
      have hf2 := HI.out.1.did (kindOf x.kind) x
      have hn3 := (hdid_n HI.out.1.inv (kindOf x.kind) x).trans HI.out.2
      have hd := did_any T.r HI.out.1.inv x
      generalize hdid H (kindOf x.kind) x = Y at hf2 hn3 hd
      obtain ⟨H2, y, er⟩ := Y
      dsimp only at hf2 hn3
      unfold DidPost at hd
      dsimp only at hd
      obtain ⟨kind, xn, xa, xb, xv, on⟩ := x
      obtain ⟨a0, a1, a2, a3, a4, a5⟩ := ha
      dsimp only at a0 a1 a2 a3 a4 a5 hd
      have HD := Lib.hid hd
      have HF := Lib.hid hf2
      have HN := Lib.hid hn3
      have TT := Lib.hid T
      clear hd hf2 hn3
      go_wp2_with (first
        | (go_at_call 7; refine HD.out.mono ?_; rintro e w4 ⟨rfl, K2, t4⟩; have T4 := TT.out.act t4)
        | (go_at_call 13; refine (sound_law _ T4.r HF.out k HN.out).mono ?_; rintro e w5 ⟨rfl, u5⟩; have T5 := T4.non u5)
        | fail)
      go_roundw
      case rel => exact ⟨q + 1, _, _, by omega, by go_num, T5, HF.out, HN.out⟩
      case measure => simp [intOf]; omega
    · have T := Lib.hid hT.out
      go_wp2_with (first
        | (go_at_call 8; refine (hleft_any T.out.r).mono ?_; rintro e w5 ⟨rfl, rfl⟩)
        | fail)
      go_ret
      exact ⟨by simp, T.out.up⟩
set_option maxRecDepth 100000 in
set_option maxHeartbeats 400000 in
theorem topFrames_law (w : World) (n : Int) (A : Option Addr) (cap : Nat) (l : List ActM) (hl : ActsAt w A l) :
    Calls Try.prog 4 #[.int .i64 n, .slice A l.length cap] w fun e w' => e = .returned (.bool true) ∧ Upd Non w w' := by
  have hz : Hid (errv 1 = .iface 61 (.int .i64 1)) := rfl
  by_cases h1 : n < 1
  · go_enter Try.func4, Try.ntmps4
    go_wp2_with (first
      | (go_at_call 5; refine (hnew_bad _ n (.inl h1)).mono ?_; rw [hz.out]; rintro e w1 ⟨rfl, rfl⟩))
    go_ret
    exact ⟨rfl, Upd.refl _ _⟩
  · by_cases h2 : 64 < n
    · go_enter Try.func4, Try.ntmps4
      go_wp2_with (first
        | (go_at_call 5; refine (hnew_bad _ n (.inr h2)).mono ?_; rw [hz.out]; rintro e w1 ⟨rfl, rfl⟩))
      go_ret
      exact ⟨rfl, Upd.refl _ _⟩
    · obtain ⟨k, rfl⟩ := Int.eq_ofNat_of_zero_le (by omega : 0 ≤ n)
      by_cases h100 : (l.length : Int) ≤ 100
      · exact topFrames_go w k (by omega) (by omega) A cap l hl h100
      · have K0 : Nat → GAt := fun _ => ⟨0, 0, 0, undef⟩
        have hd := Lib.hid (show decide ((l.length : Int) ≤ 100) = false from decide_eq_false (by omega))
        go_enter Try.func4, Try.ntmps4
        go_wp2_with (first
          | (go_at_call 5; refine (hnew_ok w k (by omega) (by omega) K0).mono ?_; rintro e w1 ⟨h, L, rfl, r1, n1, u1⟩)
          | (go_at_call 6; refine (light_law _ _ _ _ _).mono ?_; rw [hd.out]; rintro e w3 ⟨rfl, rfl⟩))
        go_ret
        exact ⟨rfl, u1⟩

end U
end Go.Proofs.Ytnhplapcdgnaaab
