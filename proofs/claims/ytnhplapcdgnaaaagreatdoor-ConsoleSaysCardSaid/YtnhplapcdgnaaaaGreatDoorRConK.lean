import Derived.Test.YtnhplapcdgnaaaaGreatDoorRConF
import Derived.Test.YtnhplapcdgnaaaaGreatDoorConUX
set_option linter.unusedVariables false
set_option linter.unusedSimpArgs false
namespace Go.Proofs.YtnhplapcdgnaaaaGreatDoor
open Go.RowKit
namespace U

/-! The reference's Host.Say, command by command (written by gen_rsay.py). -/
section
variable {w : World} {o m : Nat} {R : Nat → Nat × Value} {H : HostM}
set_option maxRecDepth 100000 in
set_option maxHeartbeats 16000000 in
theorem rsay_frame (r : RHRep w o m R H) (hI0 : HInv H) (s : ByteArray) (hs : s.size ≤ 300) {x : ByteArray} {args : List ByteArray} (hw : wordsB s = x :: args) (hx : x.data.toList = [102, 114, 97, 109, 101]) (hl : args.length = 1) (hsi : s.size ≤ 200) :
    Calls Tryz.prog 8 #[.pointer (some ⟨o, 0, none⟩), .string s] w (RDoPost w o m R H (csayN H .frame args)) := by
  have hI := Lib.hid hI0
  have hmem : (x.data.toList, (CK.frame, 1)) ∈ ckL := by rw [hx]; simp [ckL]
  have hsz := Lib.hid (words_size hw hs)
  have T := Lib.hid (RH.start r)
  have h0 := test_codes2 hx (m := [97, 100, 100]) (b := false) rfl
  have h1 := test_codes2 hx (m := [114, 101, 109, 111, 118, 101]) (b := false) rfl
  have h2 := test_codes2 hx (m := [112, 108, 117, 103]) (b := false) rfl
  have h3 := test_codes2 hx (m := [117, 110, 112, 108, 117, 103]) (b := false) rfl
  have h4 := test_codes2 hx (m := [103, 105, 118, 101]) (b := false) rfl
  have h5 := test_codes2 hx (m := [98, 97, 99, 107]) (b := false) rfl
  have h6 := test_codes2 hx (m := [108, 111, 97, 100]) (b := false) rfl
  have h7 := test_codes2 hx (m := [115, 116, 111, 114, 101]) (b := false) rfl
  have h8 := test_codes2 hx (m := [114, 111, 111, 116]) (b := false) rfl
  have h9 := test_codes2 hx (m := [102, 111, 114, 103, 101, 116]) (b := false) rfl
  have h10 := test_codes2 hx (m := [100, 114, 111, 112]) (b := false) rfl
  have h11 := test_codes2 hx (m := [115, 99, 97, 110]) (b := false) rfl
  have h12 := test_codes2 hx (m := [115, 99, 97, 110, 97, 108, 108]) (b := false) rfl
  have h13 := test_codes2 hx (m := [103, 117, 101, 115, 116, 115]) (b := false) rfl
  have h14 := test_codes2 hx (m := [108, 101, 102, 116]) (b := false) rfl
  have h15 := test_codes2 hx (m := [112, 114, 111, 109, 105, 115, 101, 100]) (b := false) rfl
  have h16 := test_codes2 hx (m := [102, 114, 97, 109, 101]) (b := true) rfl
  have h17 := test_codes2 hx (m := [112, 97, 103, 101]) (b := false) rfl
  have hsx := Lib.hid hx
  clear hx hI0
  go_enter Tryz.func8, Tryz.ntmps8
  go_upto_region 2 with (first
    | (go_at_call 12; refine Calls.mono (rwords_any _ s hs) ?_; rintro e w2 ⟨v, rfl, hv, hf, u2⟩)
    | fail)
  rw [hw] at hv
  obtain ⟨g, o2, cap, rfl, lg, hc⟩ := hv.at_ (i := 0) (by simp)
  have hc : w2.cell? ⟨g, o2, none⟩ = some (.string x) := hc
  have hN : (x :: args).length = 2 := by simp [hl]
  rw [hN] at hv ⊢
  have hs2 : ¬ (200 : Int) < s.size := by omega
  have hv0 := Lib.hid hv
  have hu2 := Lib.hid u2
  clear hv hf hN u2
  go_wp2_with (first
    | (go_at_call 13; refine Calls.mono (rmany_some _ x _ hmem) ?_; rintro e w3 ⟨rfl, rfl⟩)
    | fail)
  have R0 : Hid (RSI w (w2.alloc (.cells #[.int .i64 0, .int .i64 0, .int .i64 0] 53)) (.slice (some ⟨g, o2, none⟩) 2 cap) (x :: args) w2.heap.size args 0 []) := ⟨hu2.out.alloc _, hv0.out.alloc _, arr3_row w2, hu2.out.size, rfl, rfl⟩
  clear hv0 hu2 hc lg hsi hs2
  generalize w2.alloc (.cells #[.int .i64 0, .int .i64 0, .int .i64 0] 53) = w4 at R0 ⊢
  generalize w2.heap.size = gb at R0 ⊢
  go_loopw [7] (fun i wr => ∃ (k j : Nat) (ns : List Int), k = j + 1 ∧ j ≤ 1 ∧ i = .int .i64 k ∧ Hid (RSI w wr (.slice (some ⟨g, o2, none⟩) 2 cap) (x :: args) gb args j ns)) (fun i _ => 2 - (intOf i).toNat)
  case atStart => exact ⟨1, 0, [], rfl, Nat.zero_le _, rfl, R0.out⟩
  case round =>
    clear R0
    obtain ⟨k, j, ns, hk, hj, rfl, hT⟩ := hrel
    by_cases hlt : j < 1
    · have hk1 : (k : Int) < 2 := by omega
      have e5 : IntKind.i64.wrap ((k : Int) - 1) = (j : Int) := by rw [IntWalk.i64_in _ (by constructor <;> omega)]; omega
      have hja : j < args.length := by omega
      obtain ⟨lgr, hcells⟩ := srow_cell hT.out.sr
      have hE := hcells k (args[j]) (by rw [hk, List.getElem?_cons_succ]; exact List.getElem?_eq_getElem hja)
      have hts := Lib.hid (show args.take (j + 1) = args.take j ++ [args[j]] from List.take_succ_eq_append_getElem hja)
      have hmem2 := Lib.hid (List.getElem_mem hja)
      have hys : (args[j]).size ≤ 300 := hsz.out _ (List.getElem_mem hja)
      have hj3 : (j : Int) < 3 := by omega
      have hk0 := Lib.hid hk
      clear hcells hk
      generalize args[j] = y at hE hts hmem2 hys
      cases hn : numL y.data.toList with
      | none =>
        have HB := Lib.hid (csayN_bad (H := H) (k := .frame) (numsOf_bad args hmem2.out hn))
        go_wp2_with (first
          | (go_at_call 15; refine Calls.mono (rfigures_any _ y hys) ?_; unfold FigPost; rw [hn]; rintro e w5 ⟨z0, rfl, _, u5⟩)
          | (go_at_call 14; refine Calls.mono (rfault_any _ 9 (by omega)) ?_; rintro e w6 ⟨rfl, u6⟩)
          | fail)
        go_ret
        exact ⟨by rw [HB.out]; rfl, _, by rw [HB.out]; exact ((T.out.non hT.out.up).non u5).non u6⟩
      | some z =>
        have hzn := Lib.hid hn
        go_wp2_with (first
          | (go_at_call 15; refine Calls.mono (rfigures_any _ y hys) ?_; unfold FigPost; rw [hn]; rintro e w5 ⟨z0, rfl, hz, u5⟩; obtain rfl := hz z rfl; have hT5 := Lib.hid (hT.out.non u5); have cj := hT5.out.row.cell (i := j) (by omega); have fj := hT5.out.row.frozen j; have lj := hT5.out.row.lt)
          | fail)
        go_roundw
        case rel => exact ⟨k + 1, j + 1, _, by have := hk0.out; omega, by omega, by go_num, hT5.out.step hts.out hzn.out⟩
        case measure => have := hk0.out; simp [intOf]; omega
    · obtain rfl : j = 1 := by omega
      subst hk
      obtain ⟨lgr, hcells⟩ := srow_cell hT.out.sr
      have cx : _ = _ := hcells 0 x rfl
      have cx : wr.cell? ⟨g, o2, none⟩ = some (.string x) := cx
      have his := hT.out.is
      rw [List.take_of_length_le (by omega)] at his
      have HC0 := csayN_nums (H := H) (k := .frame) his
      have hll := hT.out.len
      have a0 := hT.out.row.cell (i := 0) (by omega)
      have a1 := hT.out.row.cell (i := 1) (by omega)
      have a2 := hT.out.row.cell (i := 2) (by omega)
      have lb := hT.out.row.lt
      (try dsimp only at a0 a1 a2)
      have TT := Lib.hid (T.out.non hT.out.up)
      clear hT hcells his hll hlt hj
      generalize ns.getD 0 0 = a at a0 HC0
      generalize ns.getD 1 0 = b at a1 HC0
      generalize ns.getD 2 0 = c at a2 HC0
      have HC0 : csayN H .frame args = (H, frameS (H.p.of a)) := HC0
      have TH := TT.out
      have B3 : Box3 wr gb a b c := ⟨lb, a0, a1, a2⟩
      have lo := TT.out.rep.hlt
      have c0 := TT.out.rep.h0
      have hy := Lib.hid (fun W (r : RHRep W o m R H) => rof_any W m H.p.norm r.rp.norm a (hI.out.pos _))
      rw [of_norm] at hy
      by_cases hf : a < 0 ∨ (H.p.n : Int) ≤ a
      · have ho : H.p.of a = (0, 0, 1) := by unfold PoolM.of; rw [if_pos hf]
        rw [ho] at hy HC0
        unfold frameV at hy
        dsimp only at hy
        have HC := Lib.hid (show csayN H .frame args = (H, faultS 1) from HC0)
        clear HC0 hf ho
        go_upto_region 29 with (fail)
        go_region_held3 (fun w' => w'.cell? ⟨o, 0, none⟩ = some (.pointer (some ⟨m, 0, none⟩)) ∧ w'.cell? ⟨gb, 0, none⟩ = some (.int .i64 a)) (first | exact ⟨T5.rep.h0, B5.c0⟩ | exact ⟨TH.rep.h0, B3.c0⟩ | exact ⟨cell2 _ T5.rep.h0 (Nat.ne_of_lt lo), cell2 _ B5.c0 (Nat.ne_of_lt lb)⟩ | exact ⟨(RH.rep (S := ownRH o m R H) (w := w) (by repeat (first | exact T5 | apply RH.drew | apply RH.drewN | apply RH.alloc))).h0, Box3.c0 (b := b) (c := c) (by repeat (first | exact B5 | apply Box3.drew | apply Box3.alloc))⟩ | exact ⟨(RH.rep (S := ownRH o m R H) (w := w) (by repeat (first | exact TH | apply RH.drew | apply RH.drewN | apply RH.alloc))).h0, Box3.c0 (b := b) (c := c) (by repeat (first | exact B3 | apply Box3.drew | apply Box3.alloc))⟩ | simp) (first | (go_at_call 25; refine Calls.mono (hy.out _ (RH.rep (S := ownRH o m R H) (w := w) (by repeat (first | exact TH | apply RH.drew | apply RH.drewN | apply RH.alloc)))) ?_; rintro e w5 ⟨rfl, u5⟩; have T5 := RH.non (S := ownRH o m R H) (w := w) (by repeat (first | exact TH | apply RH.drew | apply RH.drewN | apply RH.alloc)) u5; have B5 := Box3.non (a := a) (b := b) (c := c) (by repeat (first | exact B3 | apply Box3.drew | apply Box3.alloc)) u5; try (have rw5 : Row w5 wr.heap.size 64 2 (fun _ => .int .i64 0) := (first_row wr.drew).upd_ u5 (fun h => h); have k0 := rw5.cell (i := 0) (by omega); have k1 := rw5.cell (i := 1) (by omega); have kf0 := rw5.frozen 0; have kf1 := rw5.frozen 1; have kl := rw5.lt)))
        all_goals go_wp2_with (first | (go_at_call 14; refine Calls.mono (rfault_any _ 1 (by omega)) ?_; rintro e w6 ⟨rfl, u6⟩) | fail)
        all_goals go_ret
        all_goals exact ⟨by rw [HC.out]; rfl, _, by rw [HC.out]; exact RH.non (S := ownRH o m R H) (w := w) (by repeat (first | exact T5 | apply RH.drew | apply RH.drewN | apply RH.alloc | apply RH.set2 TH)) u6⟩
      · obtain ⟨f, rfl⟩ := Int.eq_ofNat_of_zero_le (Int.not_lt.1 fun e => hf (.inl e))
        have hfn : f < H.p.n := Int.ofNat_lt.1 (Int.not_le.1 fun e => hf (.inr e))
        obtain ⟨q, hr, hr2⟩ := refs_nat hI.out (f := f) hfn
        have ho := of_at hfn hr
        rw [ho] at hy HC0
        unfold frameV at hy
        dsimp only at hy
        have HC := show csayN H .frame args = (H, listS [min q 2, q]) from HC0
        clear HC0 hf ho hr
        have hm : min q 2 ≤ 2 := Nat.min_le_right _ _
        generalize min q 2 = cl at hm hy HC
        have HC := Lib.hid HC
        have hsm : ∀ n ∈ [cl, q], n ≤ 100000 := fun n hn => by simp at hn; omega
        go_upto_region 29 with (fail)
        go_region_held3 (fun w' => w'.cell? ⟨o, 0, none⟩ = some (.pointer (some ⟨m, 0, none⟩)) ∧ w'.cell? ⟨gb, 0, none⟩ = some (.int .i64 f)) (first | exact ⟨T5.rep.h0, B5.c0⟩ | exact ⟨TH.rep.h0, B3.c0⟩ | exact ⟨cell2 _ T5.rep.h0 (Nat.ne_of_lt lo), cell2 _ B5.c0 (Nat.ne_of_lt lb)⟩ | exact ⟨(RH.rep (S := ownRH o m R H) (w := w) (by repeat (first | exact T5 | apply RH.drew | apply RH.drewN | apply RH.alloc))).h0, Box3.c0 (b := b) (c := c) (by repeat (first | exact B5 | apply Box3.drew | apply Box3.alloc))⟩ | exact ⟨(RH.rep (S := ownRH o m R H) (w := w) (by repeat (first | exact TH | apply RH.drew | apply RH.drewN | apply RH.alloc))).h0, Box3.c0 (b := b) (c := c) (by repeat (first | exact B3 | apply Box3.drew | apply Box3.alloc))⟩ | simp) (first | (go_at_call 25; refine Calls.mono (hy.out _ (RH.rep (S := ownRH o m R H) (w := w) (by repeat (first | exact TH | apply RH.drew | apply RH.drewN | apply RH.alloc)))) ?_; rintro e w5 ⟨rfl, u5⟩; have T5 := RH.non (S := ownRH o m R H) (w := w) (by repeat (first | exact TH | apply RH.drew | apply RH.drewN | apply RH.alloc)) u5; have B5 := Box3.non (a := f) (b := b) (c := c) (by repeat (first | exact B3 | apply Box3.drew | apply Box3.alloc)) u5; try (have rw5 : Row w5 wr.heap.size 64 2 (fun _ => .int .i64 0) := (first_row wr.drew).upd_ u5 (fun h => h); have k0 := rw5.cell (i := 0) (by omega); have k1 := rw5.cell (i := 1) (by omega); have kf0 := rw5.frozen 0; have kf1 := rw5.frozen 1; have kl := rw5.lt)))
        all_goals go_wp2_with (first
          | (go_at_call 19; refine Calls.mono (rlisted_any _ _ [cl, q] (two_row _ _ _ (by simp)) (by simp) hsm) ?_; rintro e w6 ⟨rfl, u6⟩)
          | fail)
        all_goals go_ret
        all_goals exact ⟨by rw [HC.out]; rfl, _, by rw [HC.out]; exact RH.non (S := ownRH o m R H) (w := w) (by repeat (first | exact T5 | apply RH.drew | apply RH.drewN | apply RH.alloc | apply RH.set2 TH)) u6⟩
end

end U
end Go.Proofs.YtnhplapcdgnaaaaGreatDoor
