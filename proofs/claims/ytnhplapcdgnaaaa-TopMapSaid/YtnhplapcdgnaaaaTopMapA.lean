import Derived.Test.YtnhplapcdgnaaaaTopMapL
import Derived.Test.YtnhplapcdgnaaaaGuestA
set_option linter.unusedVariables false
set_option linter.unusedSimpArgs false
namespace Go.Proofs.Ytnhplapcdgnaaaa
open Go.RowKit
namespace U

/-! TopMap: seal (written by gen_topmap.py). -/
/-- Two maps, and the array of their pointers. -/
structure SL (w W : World) (g0 g1 mb p : Nat) (A B : MapM) : Prop where
  a : MRep W g0 146 65 p A
  b : MRep W g1 146 65 p B
  mr : Row W mb 87 2 (fun i => if i = 0 then .pointer (some ⟨g0, 0, none⟩) else .pointer (some ⟨g1, 0, none⟩))
  ne : g0 ≠ g1
  up : Upd (fun k => k = g0 ∨ k = g1) w W
section
variable {w W W' : World} {g0 g1 mb p : Nat} {A B A' B' : MapM}
theorem SL.non (t : SL w W g0 g1 mb p A B) (u : Upd Non W W') : SL w W' g0 g1 mb p A B := ⟨t.a.upd_ u (fun h => h), t.b.upd_ u (fun h => h), t.mr.upd_ u (fun h => h), t.ne, t.up.over' u (fun _ h => h.elim)⟩
theorem SL.seal0 (t : SL w W g0 g1 mb p A B) (r : MRep W' g0 146 65 p A') (u : Upd (at1 g0) W W') : SL w W' g0 g1 mb p A' B := by
  obtain ⟨_, ha, _⟩ := t.a.row
  exact ⟨r, t.b.upd_ u (fun h => t.ne h.symm), t.mr.upd_ u (fun h => t.mr.ne_ ha (by decide) h), t.ne, t.up.over' u (fun _ h => .inl (.inl h))⟩
theorem SL.seal1 (t : SL w W g0 g1 mb p A B) (r : MRep W' g1 146 65 p B') (u : Upd (at1 g1) W W') : SL w W' g0 g1 mb p A B' := by
  obtain ⟨_, hb, _⟩ := t.b.row
  exact ⟨t.a.upd_ u (fun h => t.ne h), r, t.mr.upd_ u (fun h => t.mr.ne_ hb (by decide) h), t.ne, t.up.over' u (fun _ h => .inl (.inr h))⟩
theorem SL.m0 (t : SL w W g0 g1 mb p A B) : W.cell? ⟨mb, 0, none⟩ = some (.pointer (some ⟨g0, 0, none⟩)) := t.mr.cell (i := 0) (by omega)
theorem SL.m1 (t : SL w W g0 g1 mb p A B) : W.cell? ⟨mb, 1, none⟩ = some (.pointer (some ⟨g1, 0, none⟩)) := t.mr.cell (i := 1) (by omega)
end
theorem row_2 (w : World) (t : TypeId) (v v' : Value) : Row (w.alloc (.cells #[v, v'] t)) w.heap.size t 2 (fun i => if i = 0 then v else v') :=
  ⟨#[v, v'], heap_alloc_new w _, rfl, fun i hi => by
    have : i = 0 ∨ i = 1 := by omega
    rcases this with rfl | rfl <;> rfl⟩
theorem sealM_one {M : MapM} {fr : Int} {n : Nat} (hn : n < 16) (ht : (M.leaf n).there = true) (hf : (M.leaf n).frame = fr) : (mseal (sealM M fr n) n).1 = sealM M fr (n + 1) := by
  unfold mseal
  have h1 := (sealM_same M fr n n).1
  rw [if_pos (onB_iff.2 ⟨by omega, by omega⟩), Int.toNat_natCast, if_pos (by rw [h1]; exact ht), sealM_succ_yes ht hf]
theorem mleaf_at {M : MapM} {n : Nat} (hn : n < 16) : mleaf M n = (M.leaf n, 0) := by
  unfold mleaf; rw [if_pos (onB_iff.2 ⟨by omega, by omega⟩)]; rfl

set_option maxRecDepth 100000 in
set_option maxHeartbeats 4000000 in
theorem seal_law (w : World) (g0 g1 p : Nat) (A B : MapM) (ha : MRep w g0 146 65 p A) (hb : MRep w g1 146 65 p B) (ne : g0 ≠ g1) (fr : Int) :
    Calls Try.prog 56 #[.agg #[.pointer (some ⟨g0, 0, none⟩), .pointer (some ⟨g1, 0, none⟩)], .int .i64 fr] w fun e w' =>
      e = .returned (.tuple #[]) ∧ MRep w' g0 146 65 p (sealM A fr 16) ∧ MRep w' g1 146 65 p (sealM B fr 16) ∧ Upd (fun k => k = g0 ∨ k = g1) w w' := by
  have T0 : SL w (w.alloc (.cells #[.pointer (some ⟨g0, 0, none⟩), .pointer (some ⟨g1, 0, none⟩)] 87)) g0 g1 w.heap.size p (sealM A fr 0) (sealM B fr 0) := by
    rw [sealM_zero, sealM_zero]
    exact ⟨ha.alloc _, hb.alloc _, row_2 w _ _ _, ne, (Upd.refl _ _).alloc _⟩
  have H0 := Lib.hid T0
  clear T0
  go_enter Try.func56, Try.ntmps56
  go_wp2_with fail
  go_loopw [4] (fun i wr => ∃ k : Nat, k ≤ 32 ∧ i = .int .i64 k ∧ Hid (SL w wr g0 g1 w.heap.size p (sealM A fr (min k 16)) (sealM B fr (k - 16)))) (fun i _ => 32 - (intOf i).toNat)
  case atStart => exact ⟨0, Nat.zero_le _, rfl, H0.out⟩
  case round =>
    clear H0
    obtain ⟨k, hk, rfl, hI⟩ := hrel
    have t := hI.out
    have m0 := t.m0
    have m1 := t.m1
    have lm := t.mr.lt
    by_cases hlt : k < 32
    · have hk2 : (k : Int) < 32 := by omega
      by_cases h16 : k < 16
      · obtain hq : (k : Int) / 16 = 0 := by omega
        obtain hr : (k : Int) % 16 = (k : Nat) := by omega
        have e1 : min k 16 = k := by omega
        have e2 : k - 16 = 0 := by omega
        have e3 : min (k + 1) 16 = k + 1 := by omega
        have e4 : (k + 1) - 16 = 0 := by omega
        have hn : k < 16 := h16
        rw [e1, e2] at t hI
        have hs := sealM_same A fr k k
        have hl := Lib.hid (mleaf_at (M := sealM A fr k) hn)
        by_cases hc : (A.leaf k).there = true ∧ (A.leaf k).frame = fr
        · obtain ⟨ht, hf⟩ := hc
          have hse := Lib.hid (sealM_one (M := A) hn ht hf)
          rw [ht, hf] at hs
          obtain ⟨s1, s2, _⟩ := hs
          generalize hle : (sealM A fr k).leaf k = le at hl s1 s2
          obtain ⟨lt_, lw_, lf_⟩ := le
          dsimp only at s1 s2
          subst s1 s2
          clear hle ht hf
          go_wp2_with (first
            | (go_at_call 55; refine Calls.mono (mleaf_any _ g0 65 p (sealM A lf_ k) t.a k) ?_; rw [hl.out]; rintro e w2 ⟨rfl, u2⟩; unfold LeafM.val errv; have t2 := (t.non u2).non ((Upd.refl _ _).alloc (.cells #[.bool true, .bool lw_, .int .i64 lf_] 33)); have x0 := t2.m0; have x1 := t2.m1; have lm2 := t2.mr.lt)
            | (go_at_call 58; refine Calls.mono (mseal_any _ g0 65 p (sealM A lf_ k) t2.a k) ?_; rw [hse.out]; rintro e w3 ⟨rfl, q3, u3⟩; have t3 := t2.seal0 q3 u3)
            | fail)
          all_goals go_roundw
          case rel => exact ⟨k + 1, by omega, by go_num, by rw [e3, e4]; exact t3⟩
          case measure => simp [intOf]; omega
        · have hne := Lib.hid (sealM_succ_no (M := A) (fr := fr) (n := k) hc)
          have hc2 : ((sealM A fr k).leaf k).there = false ∨ (((sealM A fr k).leaf k).there = true ∧ ((sealM A fr k).leaf k).frame ≠ fr) := by
            rw [hs.1, hs.2.1]
            cases h : (A.leaf k).there with
            | false => exact .inl rfl
            | true => exact .inr ⟨rfl, fun h2 => hc ⟨h, h2⟩⟩
          generalize hle : (sealM A fr k).leaf k = le at hl hc2
          obtain ⟨lt_, lw_, lf_⟩ := le
          dsimp only at hc2
          clear hs hc hle
          rcases hc2 with rfl | ⟨rfl, hf⟩
          · go_wp2_with (first
              | (go_at_call 55; refine Calls.mono (mleaf_any _ g0 65 p (sealM A fr k) t.a k) ?_; rw [hl.out]; rintro e w2 ⟨rfl, u2⟩; unfold LeafM.val errv; have t2 := (t.non u2).non ((Upd.refl _ _).alloc (.cells #[.bool false, .bool lw_, .int .i64 lf_] 33)))
              | fail)
            go_roundw
            case rel => exact ⟨k + 1, by omega, by go_num, by rw [e3, e4, hne.out]; exact t2⟩
            case measure => simp [intOf]; omega
          · have hf' : (lf_ == fr) = false := by simpa using hf
            clear hf
            go_wp2_with (first
              | (go_at_call 55; refine Calls.mono (mleaf_any _ g0 65 p (sealM A fr k) t.a k) ?_; rw [hl.out]; rintro e w2 ⟨rfl, u2⟩; unfold LeafM.val errv; have t2 := (t.non u2).non ((Upd.refl _ _).alloc (.cells #[.bool true, .bool lw_, .int .i64 lf_] 33)))
              | fail)
            go_roundw
            case rel => exact ⟨k + 1, by omega, by go_num, by rw [e3, e4, hne.out]; exact t2⟩
            case measure => simp [intOf]; omega
      · obtain ⟨n, rfl⟩ : ∃ n, k = 16 + n := ⟨k - 16, by omega⟩
        have hn : n < 16 := by omega
        obtain hq : (16 + (n : Int)) / 16 = 1 := by omega
        obtain hr : (16 + (n : Int)) % 16 = (n : Nat) := by omega
        have e1 : min (16 + n) 16 = 16 := by omega
        have e2 : 16 + n - 16 = n := by omega
        have e3 : min (16 + n + 1) 16 = 16 := by omega
        have e4 : 16 + n + 1 - 16 = n + 1 := by omega
        rw [e1, e2] at t hI
        have hs := sealM_same B fr n n
        have hl := Lib.hid (mleaf_at (M := sealM B fr n) hn)
        by_cases hc : (B.leaf n).there = true ∧ (B.leaf n).frame = fr
        · obtain ⟨ht, hf⟩ := hc
          have hse := Lib.hid (sealM_one (M := B) hn ht hf)
          rw [ht, hf] at hs
          obtain ⟨s1, s2, _⟩ := hs
          generalize hle : (sealM B fr n).leaf n = le at hl s1 s2
          obtain ⟨lt_, lw_, lf_⟩ := le
          dsimp only at s1 s2
          subst s1 s2
          clear hle ht hf
          go_wp2_with (first
            | (go_at_call 55; refine Calls.mono (mleaf_any _ g1 65 p (sealM B lf_ n) t.b n) ?_; rw [hl.out]; rintro e w2 ⟨rfl, u2⟩; unfold LeafM.val errv; have t2 := (t.non u2).non ((Upd.refl _ _).alloc (.cells #[.bool true, .bool lw_, .int .i64 lf_] 33)); have x0 := t2.m0; have x1 := t2.m1; have lm2 := t2.mr.lt)
            | (go_at_call 58; refine Calls.mono (mseal_any _ g1 65 p (sealM B lf_ n) t2.b n) ?_; rw [hse.out]; rintro e w3 ⟨rfl, q3, u3⟩; have t3 := t2.seal1 q3 u3)
            | fail)
          all_goals go_roundw
          case rel => exact ⟨(16 + n) + 1, by omega, by go_num, by rw [e3, e4]; exact t3⟩
          case measure => simp [intOf]; omega
        · have hne := Lib.hid (sealM_succ_no (M := B) (fr := fr) (n := n) hc)
          have hc2 : ((sealM B fr n).leaf n).there = false ∨ (((sealM B fr n).leaf n).there = true ∧ ((sealM B fr n).leaf n).frame ≠ fr) := by
            rw [hs.1, hs.2.1]
            cases h : (B.leaf n).there with
            | false => exact .inl rfl
            | true => exact .inr ⟨rfl, fun h2 => hc ⟨h, h2⟩⟩
          generalize hle : (sealM B fr n).leaf n = le at hl hc2
          obtain ⟨lt_, lw_, lf_⟩ := le
          dsimp only at hc2
          clear hs hc hle
          rcases hc2 with rfl | ⟨rfl, hf⟩
          · go_wp2_with (first
              | (go_at_call 55; refine Calls.mono (mleaf_any _ g1 65 p (sealM B fr n) t.b n) ?_; rw [hl.out]; rintro e w2 ⟨rfl, u2⟩; unfold LeafM.val errv; have t2 := (t.non u2).non ((Upd.refl _ _).alloc (.cells #[.bool false, .bool lw_, .int .i64 lf_] 33)))
              | fail)
            go_roundw
            case rel => exact ⟨(16 + n) + 1, by omega, by go_num, by rw [e3, e4, hne.out]; exact t2⟩
            case measure => simp [intOf]; omega
          · have hf' : (lf_ == fr) = false := by simpa using hf
            clear hf
            go_wp2_with (first
              | (go_at_call 55; refine Calls.mono (mleaf_any _ g1 65 p (sealM B fr n) t.b n) ?_; rw [hl.out]; rintro e w2 ⟨rfl, u2⟩; unfold LeafM.val errv; have t2 := (t.non u2).non ((Upd.refl _ _).alloc (.cells #[.bool true, .bool lw_, .int .i64 lf_] 33)))
              | fail)
            go_roundw
            case rel => exact ⟨(16 + n) + 1, by omega, by go_num, by rw [e3, e4, hne.out]; exact t2⟩
            case measure => simp [intOf]; omega
    · obtain rfl : k = 32 := by omega
      go_wp2
      go_end0
      exact ⟨rfl, t.a, t.b, t.up⟩

end U
end Go.Proofs.Ytnhplapcdgnaaaa
