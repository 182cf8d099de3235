import Derived.Test.YtnhplapcdgnaaaaGreatDoorRConF
import Derived.Test.YtnhplapcdgnaaaaGreatDoorConUX
set_option linter.unusedVariables false
set_option linter.unusedSimpArgs false
namespace Go.Proofs.YtnhplapcdgnaaaaGreatDoor
open Go.RowKit
namespace U

/-! The reference's Host.Say, command by command (written by gen_rsay.py). -/
section
variable {w : World} {o m : Nat} {R : Nat → Nat × Value} {H : HostM}
set_option maxRecDepth 100000 in
set_option maxHeartbeats 16000000 in
theorem rsay_drop (r : RHRep w o m R H) (hI0 : HInv H) (s : ByteArray) (hs : s.size ≤ 300) {x : ByteArray} {args : List ByteArray} (hw : wordsB s = x :: args) (hx : x.data.toList = [100, 114, 111, 112]) (hl : args.length = 2) (hsi : s.size ≤ 200) :
    Calls Tryz.prog 8 #[.pointer (some ⟨o, 0, none⟩), .string s] w (RDoPost w o m R H (csayN H .drop args)) := by
  have hI := Lib.hid hI0
  have hmem : (x.data.toList, (CK.drop, 2)) ∈ ckL := by rw [hx]; simp [ckL]
  have hsz := Lib.hid (words_size hw hs)
  have T := Lib.hid (RH.start r)
  have h0 := test_codes2 hx (m := [97, 100, 100]) (b := false) rfl
  have h1 := test_codes2 hx (m := [114, 101, 109, 111, 118, 101]) (b := false) rfl
  have h2 := test_codes2 hx (m := [112, 108, 117, 103]) (b := false) rfl
  have h3 := test_codes2 hx (m := [117, 110, 112, 108, 117, 103]) (b := false) rfl
  have h4 := test_codes2 hx (m := [103, 105, 118, 101]) (b := false) rfl
  have h5 := test_codes2 hx (m := [98, 97, 99, 107]) (b := false) rfl
  have h6 := test_codes2 hx (m := [108, 111, 97, 100]) (b := false) rfl
  have h7 := test_codes2 hx (m := [115, 116, 111, 114, 101]) (b := false) rfl
  have h8 := test_codes2 hx (m := [114, 111, 111, 116]) (b := false) rfl
  have h9 := test_codes2 hx (m := [102, 111, 114, 103, 101, 116]) (b := false) rfl
  have h10 := test_codes2 hx (m := [100, 114, 111, 112]) (b := true) rfl
  have h11 := test_codes2 hx (m := [115, 99, 97, 110]) (b := false) rfl
  have h12 := test_codes2 hx (m := [115, 99, 97, 110, 97, 108, 108]) (b := false) rfl
  have h13 := test_codes2 hx (m := [103, 117, 101, 115, 116, 115]) (b := false) rfl
  have h14 := test_codes2 hx (m := [108, 101, 102, 116]) (b := false) rfl
  have h15 := test_codes2 hx (m := [112, 114, 111, 109, 105, 115, 101, 100]) (b := false) rfl
  have h16 := test_codes2 hx (m := [102, 114, 97, 109, 101]) (b := false) rfl
  have h17 := test_codes2 hx (m := [112, 97, 103, 101]) (b := false) rfl
  have hsx := Lib.hid hx
  clear hx hI0
  go_enter Tryz.func8, Tryz.ntmps8
  go_upto_region 2 with (first
    | (go_at_call 12; refine Calls.mono (rwords_any _ s hs) ?_; rintro e w2 ⟨v, rfl, hv, hf, u2⟩)
    | fail)
  rw [hw] at hv
  obtain ⟨g, o2, cap, rfl, lg, hc⟩ := hv.at_ (i := 0) (by simp)
  have hc : w2.cell? ⟨g, o2, none⟩ = some (.string x) := hc
  have hN : (x :: args).length = 3 := by simp [hl]
  rw [hN] at hv ⊢
  have hs2 : ¬ (200 : Int) < s.size := by omega
  have hv0 := Lib.hid hv
  have hu2 := Lib.hid u2
  clear hv hf hN u2
  go_wp2_with (first
    | (go_at_call 13; refine Calls.mono (rmany_some _ x _ hmem) ?_; rintro e w3 ⟨rfl, rfl⟩)
    | fail)
  have R0 : Hid (RSI w (w2.alloc (.cells #[.int .i64 0, .int .i64 0, .int .i64 0] 53)) (.slice (some ⟨g, o2, none⟩) 3 cap) (x :: args) w2.heap.size args 0 []) := ⟨hu2.out.alloc _, hv0.out.alloc _, arr3_row w2, hu2.out.size, rfl, rfl⟩
  clear hv0 hu2 hc lg hsi hs2
  generalize w2.alloc (.cells #[.int .i64 0, .int .i64 0, .int .i64 0] 53) = w4 at R0 ⊢
  generalize w2.heap.size = gb at R0 ⊢
  go_loopw [7] (fun i wr => ∃ (k j : Nat) (ns : List Int), k = j + 1 ∧ j ≤ 2 ∧ i = .int .i64 k ∧ Hid (RSI w wr (.slice (some ⟨g, o2, none⟩) 3 cap) (x :: args) gb args j ns)) (fun i _ => 3 - (intOf i).toNat)
  case atStart => exact ⟨1, 0, [], rfl, Nat.zero_le _, rfl, R0.out⟩
  case round =>
    clear R0
    obtain ⟨k, j, ns, hk, hj, rfl, hT⟩ := hrel
    by_cases hlt : j < 2
    · have hk1 : (k : Int) < 3 := by omega
      have e5 : IntKind.i64.wrap ((k : Int) - 1) = (j : Int) := by rw [IntWalk.i64_in _ (by constructor <;> omega)]; omega
      have hja : j < args.length := by omega
      obtain ⟨lgr, hcells⟩ := srow_cell hT.out.sr
      have hE := hcells k (args[j]) (by rw [hk, List.getElem?_cons_succ]; exact List.getElem?_eq_getElem hja)
      have hts := Lib.hid (show args.take (j + 1) = args.take j ++ [args[j]] from List.take_succ_eq_append_getElem hja)
      have hmem2 := Lib.hid (List.getElem_mem hja)
      have hys : (args[j]).size ≤ 300 := hsz.out _ (List.getElem_mem hja)
      have hj3 : (j : Int) < 3 := by omega
      have hk0 := Lib.hid hk
      clear hcells hk
      generalize args[j] = y at hE hts hmem2 hys
      cases hn : numL y.data.toList with
      | none =>
        have HB := Lib.hid (csayN_bad (H := H) (k := .drop) (numsOf_bad args hmem2.out hn))
        go_wp2_with (first
          | (go_at_call 15; refine Calls.mono (rfigures_any _ y hys) ?_; unfold FigPost; rw [hn]; rintro e w5 ⟨z0, rfl, _, u5⟩)
          | (go_at_call 14; refine Calls.mono (rfault_any _ 9 (by omega)) ?_; rintro e w6 ⟨rfl, u6⟩)
          | fail)
        go_ret
        exact ⟨by rw [HB.out]; rfl, _, by rw [HB.out]; exact ((T.out.non hT.out.up).non u5).non u6⟩
      | some z =>
        have hzn := Lib.hid hn
        go_wp2_with (first
          | (go_at_call 15; refine Calls.mono (rfigures_any _ y hys) ?_; unfold FigPost; rw [hn]; rintro e w5 ⟨z0, rfl, hz, u5⟩; obtain rfl := hz z rfl; have hT5 := Lib.hid (hT.out.non u5); have cj := hT5.out.row.cell (i := j) (by omega); have fj := hT5.out.row.frozen j; have lj := hT5.out.row.lt)
          | fail)
        go_roundw
        case rel => exact ⟨k + 1, j + 1, _, by have := hk0.out; omega, by omega, by go_num, hT5.out.step hts.out hzn.out⟩
        case measure => have := hk0.out; simp [intOf]; omega
    · obtain rfl : j = 2 := by omega
      subst hk
      obtain ⟨lgr, hcells⟩ := srow_cell hT.out.sr
      have cx : _ = _ := hcells 0 x rfl
      have cx : wr.cell? ⟨g, o2, none⟩ = some (.string x) := cx
      have his := hT.out.is
      rw [List.take_of_length_le (by omega)] at his
      have HC0 := csayN_nums (H := H) (k := .drop) his
      have hll := hT.out.len
      have a0 := hT.out.row.cell (i := 0) (by omega)
      have a1 := hT.out.row.cell (i := 1) (by omega)
      have a2 := hT.out.row.cell (i := 2) (by omega)
      have lb := hT.out.row.lt
      (try dsimp only at a0 a1 a2)
      have TT := Lib.hid (T.out.non hT.out.up)
      clear hT hcells his hll hlt hj
      generalize ns.getD 0 0 = a at a0 HC0
      generalize ns.getD 1 0 = b at a1 HC0
      generalize ns.getD 2 0 = c at a2 HC0
      rcases who_ways H a with h0' | ⟨n, hn, rfl, hg⟩ | ⟨n, G, hn, rfl, hg⟩
      · have HC := Lib.hid (HC0.trans (cdo_off (by simp) h0'))
        clear HC0
        have hw1 := Lib.hid (rwho_off TT.out.rep a h0')
        clear h0'
        go_wp2_with (first
          | (go_at_call 30; refine Calls.mono hw1.out ?_; rintro e w5 ⟨rfl, rfl⟩)
          | (go_at_call 14; refine Calls.mono (rfault_any _ 1 (by omega)) ?_; rintro e w6 ⟨rfl, u6⟩)
          | fail)
        go_ret
        exact ⟨by rw [HC.out]; rfl, _, by rw [HC.out]; exact TT.out.non u6⟩
      · have HC := Lib.hid (HC0.trans (cdo_gone (by simp) hn hg))
        clear HC0
        have hw1 := Lib.hid (rwho_none TT.out.rep hn hg)
        clear hg
        go_wp2_with (first
          | (go_at_call 30; refine Calls.mono hw1.out ?_; rintro e w5 ⟨rfl, rfl⟩)
          | (go_at_call 14; refine Calls.mono (rfault_any _ 2 (by omega)) ?_; rintro e w6 ⟨rfl, u6⟩)
          | fail)
        go_ret
        exact ⟨by rw [HC.out]; rfl, _, by rw [HC.out]; exact TT.out.non u6⟩
      · have HC := Lib.hid HC0
        have gs := Lib.hid (fun W (r : RHRep W o m R H) => gsay_drop b c r hI.out hn hg x hsx.out)
        have hw1 := Lib.hid (rwho_some TT.out.rep hn hg)
        have c0 := TT.out.rep.h0
        have lo := TT.out.rep.hlt
        clear HC0 hg
        go_upto_region 54 with (first
          | (go_at_call 30; refine Calls.mono hw1.out ?_; rintro e w5 ⟨rfl, rfl⟩)
          | fail)
        have TD := Lib.hid (TT.out.drew)
        go_still_tail 9, (by kernel_rfl)
        change wpList _ _ _ _ _ (World.drew _)
        go_wp2_with (first
          | (go_at_call 31; refine Calls.mono (gs.out _ TD.out.rep) ?_; unfold RDoPost; rintro e w5 ⟨rfl, R5, s5⟩)
          | fail)
        go_ret
        exact ⟨by rw [HC.out]; rfl, _, by rw [HC.out]; exact TD.out.trans s5⟩
set_option maxRecDepth 100000 in
set_option maxHeartbeats 16000000 in
theorem rsay_page (r : RHRep w o m R H) (hI0 : HInv H) (s : ByteArray) (hs : s.size ≤ 300) {x : ByteArray} {args : List ByteArray} (hw : wordsB s = x :: args) (hx : x.data.toList = [112, 97, 103, 101]) (hl : args.length = 2) (hsi : s.size ≤ 200) :
    Calls Tryz.prog 8 #[.pointer (some ⟨o, 0, none⟩), .string s] w (RDoPost w o m R H (csayN H .page args)) := by
  have hI := Lib.hid hI0
  have hmem : (x.data.toList, (CK.page, 2)) ∈ ckL := by rw [hx]; simp [ckL]
  have hsz := Lib.hid (words_size hw hs)
  have T := Lib.hid (RH.start r)
  have h0 := test_codes2 hx (m := [97, 100, 100]) (b := false) rfl
  have h1 := test_codes2 hx (m := [114, 101, 109, 111, 118, 101]) (b := false) rfl
  have h2 := test_codes2 hx (m := [112, 108, 117, 103]) (b := false) rfl
  have h3 := test_codes2 hx (m := [117, 110, 112, 108, 117, 103]) (b := false) rfl
  have h4 := test_codes2 hx (m := [103, 105, 118, 101]) (b := false) rfl
  have h5 := test_codes2 hx (m := [98, 97, 99, 107]) (b := false) rfl
  have h6 := test_codes2 hx (m := [108, 111, 97, 100]) (b := false) rfl
  have h7 := test_codes2 hx (m := [115, 116, 111, 114, 101]) (b := false) rfl
  have h8 := test_codes2 hx (m := [114, 111, 111, 116]) (b := false) rfl
  have h9 := test_codes2 hx (m := [102, 111, 114, 103, 101, 116]) (b := false) rfl
  have h10 := test_codes2 hx (m := [100, 114, 111, 112]) (b := false) rfl
  have h11 := test_codes2 hx (m := [115, 99, 97, 110]) (b := false) rfl
  have h12 := test_codes2 hx (m := [115, 99, 97, 110, 97, 108, 108]) (b := false) rfl
  have h13 := test_codes2 hx (m := [103, 117, 101, 115, 116, 115]) (b := false) rfl
  have h14 := test_codes2 hx (m := [108, 101, 102, 116]) (b := false) rfl
  have h15 := test_codes2 hx (m := [112, 114, 111, 109, 105, 115, 101, 100]) (b := false) rfl
  have h16 := test_codes2 hx (m := [102, 114, 97, 109, 101]) (b := false) rfl
  have h17 := test_codes2 hx (m := [112, 97, 103, 101]) (b := true) rfl
  have hsx := Lib.hid hx
  clear hx hI0
  go_enter Tryz.func8, Tryz.ntmps8
  go_upto_region 2 with (first
    | (go_at_call 12; refine Calls.mono (rwords_any _ s hs) ?_; rintro e w2 ⟨v, rfl, hv, hf, u2⟩)
    | fail)
  rw [hw] at hv
  obtain ⟨g, o2, cap, rfl, lg, hc⟩ := hv.at_ (i := 0) (by simp)
  have hc : w2.cell? ⟨g, o2, none⟩ = some (.string x) := hc
  have hN : (x :: args).length = 3 := by simp [hl]
  rw [hN] at hv ⊢
  have hs2 : ¬ (200 : Int) < s.size := by omega
  have hv0 := Lib.hid hv
  have hu2 := Lib.hid u2
  clear hv hf hN u2
  go_wp2_with (first
    | (go_at_call 13; refine Calls.mono (rmany_some _ x _ hmem) ?_; rintro e w3 ⟨rfl, rfl⟩)
    | fail)
  have R0 : Hid (RSI w (w2.alloc (.cells #[.int .i64 0, .int .i64 0, .int .i64 0] 53)) (.slice (some ⟨g, o2, none⟩) 3 cap) (x :: args) w2.heap.size args 0 []) := ⟨hu2.out.alloc _, hv0.out.alloc _, arr3_row w2, hu2.out.size, rfl, rfl⟩
  clear hv0 hu2 hc lg hsi hs2
  generalize w2.alloc (.cells #[.int .i64 0, .int .i64 0, .int .i64 0] 53) = w4 at R0 ⊢
  generalize w2.heap.size = gb at R0 ⊢
  go_loopw [7] (fun i wr => ∃ (k j : Nat) (ns : List Int), k = j + 1 ∧ j ≤ 2 ∧ i = .int .i64 k ∧ Hid (RSI w wr (.slice (some ⟨g, o2, none⟩) 3 cap) (x :: args) gb args j ns)) (fun i _ => 3 - (intOf i).toNat)
  case atStart => exact ⟨1, 0, [], rfl, Nat.zero_le _, rfl, R0.out⟩
  case round =>
    clear R0
    obtain ⟨k, j, ns, hk, hj, rfl, hT⟩ := hrel
    by_cases hlt : j < 2
    · have hk1 : (k : Int) < 3 := by omega
      have e5 : IntKind.i64.wrap ((k : Int) - 1) = (j : Int) := by rw [IntWalk.i64_in _ (by constructor <;> omega)]; omega
      have hja : j < args.length := by omega
      obtain ⟨lgr, hcells⟩ := srow_cell hT.out.sr
      have hE := hcells k (args[j]) (by rw [hk, List.getElem?_cons_succ]; exact List.getElem?_eq_getElem hja)
      have hts := Lib.hid (show args.take (j + 1) = args.take j ++ [args[j]] from List.take_succ_eq_append_getElem hja)
      have hmem2 := Lib.hid (List.getElem_mem hja)
      have hys : (args[j]).size ≤ 300 := hsz.out _ (List.getElem_mem hja)
      have hj3 : (j : Int) < 3 := by omega
      have hk0 := Lib.hid hk
      clear hcells hk
      generalize args[j] = y at hE hts hmem2 hys
      cases hn : numL y.data.toList with
      | none =>
        have HB := Lib.hid (csayN_bad (H := H) (k := .page) (numsOf_bad args hmem2.out hn))
        go_wp2_with (first
          | (go_at_call 15; refine Calls.mono (rfigures_any _ y hys) ?_; unfold FigPost; rw [hn]; rintro e w5 ⟨z0, rfl, _, u5⟩)
          | (go_at_call 14; refine Calls.mono (rfault_any _ 9 (by omega)) ?_; rintro e w6 ⟨rfl, u6⟩)
          | fail)
        go_ret
        exact ⟨by rw [HB.out]; rfl, _, by rw [HB.out]; exact ((T.out.non hT.out.up).non u5).non u6⟩
      | some z =>
        have hzn := Lib.hid hn
        go_wp2_with (first
          | (go_at_call 15; refine Calls.mono (rfigures_any _ y hys) ?_; unfold FigPost; rw [hn]; rintro e w5 ⟨z0, rfl, hz, u5⟩; obtain rfl := hz z rfl; have hT5 := Lib.hid (hT.out.non u5); have cj := hT5.out.row.cell (i := j) (by omega); have fj := hT5.out.row.frozen j; have lj := hT5.out.row.lt)
          | fail)
        go_roundw
        case rel => exact ⟨k + 1, j + 1, _, by have := hk0.out; omega, by omega, by go_num, hT5.out.step hts.out hzn.out⟩
        case measure => have := hk0.out; simp [intOf]; omega
    · obtain rfl : j = 2 := by omega
      subst hk
      obtain ⟨lgr, hcells⟩ := srow_cell hT.out.sr
      have cx : _ = _ := hcells 0 x rfl
      have cx : wr.cell? ⟨g, o2, none⟩ = some (.string x) := cx
      have his := hT.out.is
      rw [List.take_of_length_le (by omega)] at his
      have HC0 := csayN_nums (H := H) (k := .page) his
      have hll := hT.out.len
      have a0 := hT.out.row.cell (i := 0) (by omega)
      have a1 := hT.out.row.cell (i := 1) (by omega)
      have a2 := hT.out.row.cell (i := 2) (by omega)
      have lb := hT.out.row.lt
      (try dsimp only at a0 a1 a2)
      have TT := Lib.hid (T.out.non hT.out.up)
      clear hT hcells his hll hlt hj
      generalize ns.getD 0 0 = a at a0 HC0
      generalize ns.getD 1 0 = b at a1 HC0
      generalize ns.getD 2 0 = c at a2 HC0
      rcases who_ways H a with h0' | ⟨n, hn, rfl, hg⟩ | ⟨n, G, hn, rfl, hg⟩
      · have HC := Lib.hid (HC0.trans (cdo_off (by simp) h0'))
        clear HC0
        have hw1 := Lib.hid (rwho_off TT.out.rep a h0')
        clear h0'
        go_wp2_with (first
          | (go_at_call 30; refine Calls.mono hw1.out ?_; rintro e w5 ⟨rfl, rfl⟩)
          | (go_at_call 14; refine Calls.mono (rfault_any _ 1 (by omega)) ?_; rintro e w6 ⟨rfl, u6⟩)
          | fail)
        go_ret
        exact ⟨by rw [HC.out]; rfl, _, by rw [HC.out]; exact TT.out.non u6⟩
      · have HC := Lib.hid (HC0.trans (cdo_gone (by simp) hn hg))
        clear HC0
        have hw1 := Lib.hid (rwho_none TT.out.rep hn hg)
        clear hg
        go_wp2_with (first
          | (go_at_call 30; refine Calls.mono hw1.out ?_; rintro e w5 ⟨rfl, rfl⟩)
          | (go_at_call 14; refine Calls.mono (rfault_any _ 2 (by omega)) ?_; rintro e w6 ⟨rfl, u6⟩)
          | fail)
        go_ret
        exact ⟨by rw [HC.out]; rfl, _, by rw [HC.out]; exact TT.out.non u6⟩
      · have HC := Lib.hid HC0
        have gs := Lib.hid (fun W (r : RHRep W o m R H) => gsay_page b c r hI.out hn hg x hsx.out)
        have hw1 := Lib.hid (rwho_some TT.out.rep hn hg)
        have c0 := TT.out.rep.h0
        have lo := TT.out.rep.hlt
        clear HC0 hg
        go_upto_region 54 with (first
          | (go_at_call 30; refine Calls.mono hw1.out ?_; rintro e w5 ⟨rfl, rfl⟩)
          | fail)
        have TD := Lib.hid (TT.out.drew)
        go_still_tail 9, (by kernel_rfl)
        change wpList _ _ _ _ _ (World.drew _)
        go_wp2_with (first
          | (go_at_call 31; refine Calls.mono (gs.out _ TD.out.rep) ?_; unfold RDoPost; rintro e w5 ⟨rfl, R5, s5⟩)
          | fail)
        go_ret
        exact ⟨by rw [HC.out]; rfl, _, by rw [HC.out]; exact TD.out.trans s5⟩
set_option maxRecDepth 100000 in
set_option maxHeartbeats 16000000 in
theorem rsay_store (r : RHRep w o m R H) (hI0 : HInv H) (s : ByteArray) (hs : s.size ≤ 300) {x : ByteArray} {args : List ByteArray} (hw : wordsB s = x :: args) (hx : x.data.toList = [115, 116, 111, 114, 101]) (hl : args.length = 3) (hsi : s.size ≤ 200) :
    Calls Tryz.prog 8 #[.pointer (some ⟨o, 0, none⟩), .string s] w (RDoPost w o m R H (csayN H .store args)) := by
  have hI := Lib.hid hI0
  have hmem : (x.data.toList, (CK.store, 3)) ∈ ckL := by rw [hx]; simp [ckL]
  have hsz := Lib.hid (words_size hw hs)
  have T := Lib.hid (RH.start r)
  have h0 := test_codes2 hx (m := [97, 100, 100]) (b := false) rfl
  have h1 := test_codes2 hx (m := [114, 101, 109, 111, 118, 101]) (b := false) rfl
  have h2 := test_codes2 hx (m := [112, 108, 117, 103]) (b := false) rfl
  have h3 := test_codes2 hx (m := [117, 110, 112, 108, 117, 103]) (b := false) rfl
  have h4 := test_codes2 hx (m := [103, 105, 118, 101]) (b := false) rfl
  have h5 := test_codes2 hx (m := [98, 97, 99, 107]) (b := false) rfl
  have h6 := test_codes2 hx (m := [108, 111, 97, 100]) (b := false) rfl
  have h7 := test_codes2 hx (m := [115, 116, 111, 114, 101]) (b := true) rfl
  have h8 := test_codes2 hx (m := [114, 111, 111, 116]) (b := false) rfl
  have h9 := test_codes2 hx (m := [102, 111, 114, 103, 101, 116]) (b := false) rfl
  have h10 := test_codes2 hx (m := [100, 114, 111, 112]) (b := false) rfl
  have h11 := test_codes2 hx (m := [115, 99, 97, 110]) (b := false) rfl
  have h12 := test_codes2 hx (m := [115, 99, 97, 110, 97, 108, 108]) (b := false) rfl
  have h13 := test_codes2 hx (m := [103, 117, 101, 115, 116, 115]) (b := false) rfl
  have h14 := test_codes2 hx (m := [108, 101, 102, 116]) (b := false) rfl
  have h15 := test_codes2 hx (m := [112, 114, 111, 109, 105, 115, 101, 100]) (b := false) rfl
  have h16 := test_codes2 hx (m := [102, 114, 97, 109, 101]) (b := false) rfl
  have h17 := test_codes2 hx (m := [112, 97, 103, 101]) (b := false) rfl
  have hsx := Lib.hid hx
  clear hx hI0
  go_enter Tryz.func8, Tryz.ntmps8
  go_upto_region 2 with (first
    | (go_at_call 12; refine Calls.mono (rwords_any _ s hs) ?_; rintro e w2 ⟨v, rfl, hv, hf, u2⟩)
    | fail)
  rw [hw] at hv
  obtain ⟨g, o2, cap, rfl, lg, hc⟩ := hv.at_ (i := 0) (by simp)
  have hc : w2.cell? ⟨g, o2, none⟩ = some (.string x) := hc
  have hN : (x :: args).length = 4 := by simp [hl]
  rw [hN] at hv ⊢
  have hs2 : ¬ (200 : Int) < s.size := by omega
  have hv0 := Lib.hid hv
  have hu2 := Lib.hid u2
  clear hv hf hN u2
  go_wp2_with (first
    | (go_at_call 13; refine Calls.mono (rmany_some _ x _ hmem) ?_; rintro e w3 ⟨rfl, rfl⟩)
    | fail)
  have R0 : Hid (RSI w (w2.alloc (.cells #[.int .i64 0, .int .i64 0, .int .i64 0] 53)) (.slice (some ⟨g, o2, none⟩) 4 cap) (x :: args) w2.heap.size args 0 []) := ⟨hu2.out.alloc _, hv0.out.alloc _, arr3_row w2, hu2.out.size, rfl, rfl⟩
  clear hv0 hu2 hc lg hsi hs2
  generalize w2.alloc (.cells #[.int .i64 0, .int .i64 0, .int .i64 0] 53) = w4 at R0 ⊢
  generalize w2.heap.size = gb at R0 ⊢
  go_loopw [7] (fun i wr => ∃ (k j : Nat) (ns : List Int), k = j + 1 ∧ j ≤ 3 ∧ i = .int .i64 k ∧ Hid (RSI w wr (.slice (some ⟨g, o2, none⟩) 4 cap) (x :: args) gb args j ns)) (fun i _ => 4 - (intOf i).toNat)
  case atStart => exact ⟨1, 0, [], rfl, Nat.zero_le _, rfl, R0.out⟩
  case round =>
    clear R0
    obtain ⟨k, j, ns, hk, hj, rfl, hT⟩ := hrel
    by_cases hlt : j < 3
    · have hk1 : (k : Int) < 4 := by omega
      have e5 : IntKind.i64.wrap ((k : Int) - 1) = (j : Int) := by rw [IntWalk.i64_in _ (by constructor <;> omega)]; omega
      have hja : j < args.length := by omega
      obtain ⟨lgr, hcells⟩ := srow_cell hT.out.sr
      have hE := hcells k (args[j]) (by rw [hk, List.getElem?_cons_succ]; exact List.getElem?_eq_getElem hja)
      have hts := Lib.hid (show args.take (j + 1) = args.take j ++ [args[j]] from List.take_succ_eq_append_getElem hja)
      have hmem2 := Lib.hid (List.getElem_mem hja)
      have hys : (args[j]).size ≤ 300 := hsz.out _ (List.getElem_mem hja)
      have hj3 : (j : Int) < 3 := by omega
      have hk0 := Lib.hid hk
      clear hcells hk
      generalize args[j] = y at hE hts hmem2 hys
      cases hn : numL y.data.toList with
      | none =>
        have HB := Lib.hid (csayN_bad (H := H) (k := .store) (numsOf_bad args hmem2.out hn))
        go_wp2_with (first
          | (go_at_call 15; refine Calls.mono (rfigures_any _ y hys) ?_; unfold FigPost; rw [hn]; rintro e w5 ⟨z0, rfl, _, u5⟩)
          | (go_at_call 14; refine Calls.mono (rfault_any _ 9 (by omega)) ?_; rintro e w6 ⟨rfl, u6⟩)
          | fail)
        go_ret
        exact ⟨by rw [HB.out]; rfl, _, by rw [HB.out]; exact ((T.out.non hT.out.up).non u5).non u6⟩
      | some z =>
        have hzn := Lib.hid hn
        go_wp2_with (first
          | (go_at_call 15; refine Calls.mono (rfigures_any _ y hys) ?_; unfold FigPost; rw [hn]; rintro e w5 ⟨z0, rfl, hz, u5⟩; obtain rfl := hz z rfl; have hT5 := Lib.hid (hT.out.non u5); have cj := hT5.out.row.cell (i := j) (by omega); have fj := hT5.out.row.frozen j; have lj := hT5.out.row.lt)
          | fail)
        go_roundw
        case rel => exact ⟨k + 1, j + 1, _, by have := hk0.out; omega, by omega, by go_num, hT5.out.step hts.out hzn.out⟩
        case measure => have := hk0.out; simp [intOf]; omega
    · obtain rfl : j = 3 := by omega
      subst hk
      obtain ⟨lgr, hcells⟩ := srow_cell hT.out.sr
      have cx : _ = _ := hcells 0 x rfl
      have cx : wr.cell? ⟨g, o2, none⟩ = some (.string x) := cx
      have his := hT.out.is
      rw [List.take_of_length_le (by omega)] at his
      have HC0 := csayN_nums (H := H) (k := .store) his
      have hll := hT.out.len
      have a0 := hT.out.row.cell (i := 0) (by omega)
      have a1 := hT.out.row.cell (i := 1) (by omega)
      have a2 := hT.out.row.cell (i := 2) (by omega)
      have lb := hT.out.row.lt
      (try dsimp only at a0 a1 a2)
      have TT := Lib.hid (T.out.non hT.out.up)
      clear hT hcells his hll hlt hj
      generalize ns.getD 0 0 = a at a0 HC0
      generalize ns.getD 1 0 = b at a1 HC0
      generalize ns.getD 2 0 = c at a2 HC0
      by_cases hc0 : c < 0 ∨ 255 < c
      · have HC := Lib.hid (show csayN H .store args = (H, faultS 1) by rw [HC0]; show (if c < 0 ∨ 255 < c then (H, faultS 1) else _) = _; rw [if_pos hc0])
        clear HC0
        have hq : c < 0 ∨ (¬ c < 0 ∧ 255 < c) := by omega
        clear hc0
        rcases hq with hc1 | ⟨hc1, hc2⟩
        all_goals
          go_wp2_with (first | (go_at_call 14; refine Calls.mono (rfault_any _ 1 (by omega)) ?_; rintro e w6 ⟨rfl, u6⟩) | fail)
          go_ret
          exact ⟨by rw [HC.out]; rfl, _, by rw [HC.out]; exact TT.out.non u6⟩
      · obtain ⟨v, rfl⟩ : ∃ v : UInt8, c = (v.toNat : Nat) := ⟨UInt8.ofNat c.toNat, by rw [UInt8.toNat_ofNat']; omega⟩
        have hv := v.toNat_lt
        have hc1 : ¬ ((v.toNat : Nat) : Int) < 0 := by omega
        have hc2 : ¬ (255 : Int) < ((v.toNat : Nat) : Int) := by omega
        rcases who_ways H a with h0' | ⟨n, hn, rfl, hg⟩ | ⟨n, G, hn, rfl, hg⟩
        · have HC := Lib.hid (HC0.trans (cdo_off (.inr (.inl ⟨rfl, hc0⟩)) h0'))
          clear HC0
          have hw1 := Lib.hid (rwho_off TT.out.rep a h0')
          clear h0'
          go_wp2_with (first
            | (go_at_call 30; refine Calls.mono hw1.out ?_; rintro e w5 ⟨rfl, rfl⟩)
            | (go_at_call 14; refine Calls.mono (rfault_any _ 1 (by omega)) ?_; rintro e w6 ⟨rfl, u6⟩)
            | fail)
          go_ret
          exact ⟨by rw [HC.out]; rfl, _, by rw [HC.out]; exact TT.out.non u6⟩
        · have HC := Lib.hid (HC0.trans (cdo_gone (.inr (.inl ⟨rfl, hc0⟩)) hn hg))
          clear HC0
          have hw1 := Lib.hid (rwho_none TT.out.rep hn hg)
          clear hg
          go_wp2_with (first
            | (go_at_call 30; refine Calls.mono hw1.out ?_; rintro e w5 ⟨rfl, rfl⟩)
            | (go_at_call 14; refine Calls.mono (rfault_any _ 2 (by omega)) ?_; rintro e w6 ⟨rfl, u6⟩)
            | fail)
          go_ret
          exact ⟨by rw [HC.out]; rfl, _, by rw [HC.out]; exact TT.out.non u6⟩
        · have HC := Lib.hid HC0
          have gs := Lib.hid (fun W (r : RHRep W o m R H) => gsay_store b v r hI.out hn hg x hsx.out)
          have hw1 := Lib.hid (rwho_some TT.out.rep hn hg)
          have c0 := TT.out.rep.h0
          have lo := TT.out.rep.hlt
          clear HC0 hg
          go_upto_region 54 with (first
            | (go_at_call 30; refine Calls.mono hw1.out ?_; rintro e w5 ⟨rfl, rfl⟩)
            | fail)
          have TD := Lib.hid (TT.out.drew)
          go_still_tail 9, (by kernel_rfl)
          change wpList _ _ _ _ _ (World.drew _)
          go_wp2_with (first
            | (go_at_call 31; refine Calls.mono (gs.out _ TD.out.rep) ?_; unfold RDoPost; rintro e w5 ⟨rfl, R5, s5⟩)
            | fail)
          go_ret
          exact ⟨by rw [HC.out]; rfl, _, by rw [HC.out]; exact TD.out.trans s5⟩
end

end U
end Go.Proofs.YtnhplapcdgnaaaaGreatDoor
