import Derived.Test.YtnhplapcdgnaaaaGreatDoorRConF
import Derived.Test.YtnhplapcdgnaaaaGreatDoorConUX
set_option linter.unusedVariables false
set_option linter.unusedSimpArgs false
namespace Go.Proofs.YtnhplapcdgnaaaaGreatDoor
open Go.RowKit
namespace U

/-! The reference's Host.Say, command by command (written by gen_rsay.py). -/
section
variable {w : World} {o m : Nat} {R : Nat → Nat × Value} {H : HostM}
set_option maxRecDepth 100000 in
set_option maxHeartbeats 16000000 in
theorem rsay_remove (r : RHRep w o m R H) (hI0 : HInv H) (s : ByteArray) (hs : s.size ≤ 300) {x : ByteArray} {args : List ByteArray} (hw : wordsB s = x :: args) (hx : x.data.toList = [114, 101, 109, 111, 118, 101]) (hl : args.length = 1) (hsi : s.size ≤ 200) :
    Calls Tryz.prog 8 #[.pointer (some ⟨o, 0, none⟩), .string s] w (RDoPost w o m R H (csayN H .remove args)) := by
  have hI := Lib.hid hI0
  have hmem : (x.data.toList, (CK.remove, 1)) ∈ ckL := by rw [hx]; simp [ckL]
  have hsz := Lib.hid (words_size hw hs)
  have T := Lib.hid (RH.start r)
  have h0 := test_codes2 hx (m := [97, 100, 100]) (b := false) rfl
  have h1 := test_codes2 hx (m := [114, 101, 109, 111, 118, 101]) (b := true) rfl
  have h2 := test_codes2 hx (m := [112, 108, 117, 103]) (b := false) rfl
  have h3 := test_codes2 hx (m := [117, 110, 112, 108, 117, 103]) (b := false) rfl
  have h4 := test_codes2 hx (m := [103, 105, 118, 101]) (b := false) rfl
  have h5 := test_codes2 hx (m := [98, 97, 99, 107]) (b := false) rfl
  have h6 := test_codes2 hx (m := [108, 111, 97, 100]) (b := false) rfl
  have h7 := test_codes2 hx (m := [115, 116, 111, 114, 101]) (b := false) rfl
  have h8 := test_codes2 hx (m := [114, 111, 111, 116]) (b := false) rfl
  have h9 := test_codes2 hx (m := [102, 111, 114, 103, 101, 116]) (b := false) rfl
  have h10 := test_codes2 hx (m := [100, 114, 111, 112]) (b := false) rfl
  have h11 := test_codes2 hx (m := [115, 99, 97, 110]) (b := false) rfl
  have h12 := test_codes2 hx (m := [115, 99, 97, 110, 97, 108, 108]) (b := false) rfl
  have h13 := test_codes2 hx (m := [103, 117, 101, 115, 116, 115]) (b := false) rfl
  have h14 := test_codes2 hx (m := [108, 101, 102, 116]) (b := false) rfl
  have h15 := test_codes2 hx (m := [112, 114, 111, 109, 105, 115, 101, 100]) (b := false) rfl
  have h16 := test_codes2 hx (m := [102, 114, 97, 109, 101]) (b := false) rfl
  have h17 := test_codes2 hx (m := [112, 97, 103, 101]) (b := false) rfl
  have hsx := Lib.hid hx
  clear hx hI0
  go_enter Tryz.func8, Tryz.ntmps8
  go_upto_region 2 with (first
    | (go_at_call 12; refine Calls.mono (rwords_any _ s hs) ?_; rintro e w2 ⟨v, rfl, hv, hf, u2⟩)
    | fail)
  rw [hw] at hv
  obtain ⟨g, o2, cap, rfl, lg, hc⟩ := hv.at_ (i := 0) (by simp)
  have hc : w2.cell? ⟨g, o2, none⟩ = some (.string x) := hc
  have hN : (x :: args).length = 2 := by simp [hl]
  rw [hN] at hv ⊢
  have hs2 : ¬ (200 : Int) < s.size := by omega
  have hv0 := Lib.hid hv
  have hu2 := Lib.hid u2
  clear hv hf hN u2
  go_wp2_with (first
    | (go_at_call 13; refine Calls.mono (rmany_some _ x _ hmem) ?_; rintro e w3 ⟨rfl, rfl⟩)
    | fail)
  have R0 : Hid (RSI w (w2.alloc (.cells #[.int .i64 0, .int .i64 0, .int .i64 0] 53)) (.slice (some ⟨g, o2, none⟩) 2 cap) (x :: args) w2.heap.size args 0 []) := ⟨hu2.out.alloc _, hv0.out.alloc _, arr3_row w2, hu2.out.size, rfl, rfl⟩
  clear hv0 hu2 hc lg hsi hs2
  generalize w2.alloc (.cells #[.int .i64 0, .int .i64 0, .int .i64 0] 53) = w4 at R0 ⊢
  generalize w2.heap.size = gb at R0 ⊢
  go_loopw [7] (fun i wr => ∃ (k j : Nat) (ns : List Int), k = j + 1 ∧ j ≤ 1 ∧ i = .int .i64 k ∧ Hid (RSI w wr (.slice (some ⟨g, o2, none⟩) 2 cap) (x :: args) gb args j ns)) (fun i _ => 2 - (intOf i).toNat)
  case atStart => exact ⟨1, 0, [], rfl, Nat.zero_le _, rfl, R0.out⟩
  case round =>
    clear R0
    obtain ⟨k, j, ns, hk, hj, rfl, hT⟩ := hrel
    by_cases hlt : j < 1
    · have hk1 : (k : Int) < 2 := by omega
      have e5 : IntKind.i64.wrap ((k : Int) - 1) = (j : Int) := by rw [IntWalk.i64_in _ (by constructor <;> omega)]; omega
      have hja : j < args.length := by omega
      obtain ⟨lgr, hcells⟩ := srow_cell hT.out.sr
      have hE := hcells k (args[j]) (by rw [hk, List.getElem?_cons_succ]; exact List.getElem?_eq_getElem hja)
      have hts := Lib.hid (show args.take (j + 1) = args.take j ++ [args[j]] from List.take_succ_eq_append_getElem hja)
      have hmem2 := Lib.hid (List.getElem_mem hja)
      have hys : (args[j]).size ≤ 300 := hsz.out _ (List.getElem_mem hja)
      have hj3 : (j : Int) < 3 := by omega
      have hk0 := Lib.hid hk
      clear hcells hk
      generalize args[j] = y at hE hts hmem2 hys
      cases hn : numL y.data.toList with
      | none =>
        have HB := Lib.hid (csayN_bad (H := H) (k := .remove) (numsOf_bad args hmem2.out hn))
        go_wp2_with (first
          | (go_at_call 15; refine Calls.mono (rfigures_any _ y hys) ?_; unfold FigPost; rw [hn]; rintro e w5 ⟨z0, rfl, _, u5⟩)
          | (go_at_call 14; refine Calls.mono (rfault_any _ 9 (by omega)) ?_; rintro e w6 ⟨rfl, u6⟩)
          | fail)
        go_ret
        exact ⟨by rw [HB.out]; rfl, _, by rw [HB.out]; exact ((T.out.non hT.out.up).non u5).non u6⟩
      | some z =>
        have hzn := Lib.hid hn
        go_wp2_with (first
          | (go_at_call 15; refine Calls.mono (rfigures_any _ y hys) ?_; unfold FigPost; rw [hn]; rintro e w5 ⟨z0, rfl, hz, u5⟩; obtain rfl := hz z rfl; have hT5 := Lib.hid (hT.out.non u5); have cj := hT5.out.row.cell (i := j) (by omega); have fj := hT5.out.row.frozen j; have lj := hT5.out.row.lt)
          | fail)
        go_roundw
        case rel => exact ⟨k + 1, j + 1, _, by have := hk0.out; omega, by omega, by go_num, hT5.out.step hts.out hzn.out⟩
        case measure => have := hk0.out; simp [intOf]; omega
    · obtain rfl : j = 1 := by omega
      subst hk
      obtain ⟨lgr, hcells⟩ := srow_cell hT.out.sr
      have cx : _ = _ := hcells 0 x rfl
      have cx : wr.cell? ⟨g, o2, none⟩ = some (.string x) := cx
      have his := hT.out.is
      rw [List.take_of_length_le (by omega)] at his
      have HC0 := csayN_nums (H := H) (k := .remove) his
      have hll := hT.out.len
      have a0 := hT.out.row.cell (i := 0) (by omega)
      have a1 := hT.out.row.cell (i := 1) (by omega)
      have a2 := hT.out.row.cell (i := 2) (by omega)
      have lb := hT.out.row.lt
      (try dsimp only at a0 a1 a2)
      have TT := Lib.hid (T.out.non hT.out.up)
      clear hT hcells his hll hlt hj
      generalize ns.getD 0 0 = a at a0 HC0
      generalize ns.getD 1 0 = b at a1 HC0
      generalize ns.getD 2 0 = c at a2 HC0
      have HC : csayN H .remove args = ((hremove H a).1, doneS (hremove H a).2) := HC0
      have he := hremove_le H a
      have hc := Lib.hid (fun W (r : RHRep W o m R H) => rremove_any r hI.out a)
      clear HC0
      generalize hremove H a = y at he hc HC
      obtain ⟨H2, e⟩ := y
      have HC := Lib.hid HC
      unfold RHActPost at hc
      (try dsimp only at he hc)
      go_wp2_with (first
        | (go_at_call 24; refine Calls.mono (hc.out _ TT.out.rep) ?_; rintro e w5 ⟨rfl, R5, s5⟩; have T5 := TT.out.trans s5)
        | (go_at_call 23; refine Calls.mono (rdone_any _ e (by omega)) ?_; rintro e w6 ⟨rfl, u6⟩)
        | fail)
      go_ret
      exact ⟨by rw [HC.out]; rfl, _, by rw [HC.out]; exact T5.non u6⟩
set_option maxRecDepth 100000 in
set_option maxHeartbeats 16000000 in
theorem rsay_plug (r : RHRep w o m R H) (hI0 : HInv H) (s : ByteArray) (hs : s.size ≤ 300) {x : ByteArray} {args : List ByteArray} (hw : wordsB s = x :: args) (hx : x.data.toList = [112, 108, 117, 103]) (hl : args.length = 2) (hsi : s.size ≤ 200) :
    Calls Tryz.prog 8 #[.pointer (some ⟨o, 0, none⟩), .string s] w (RDoPost w o m R H (csayN H .plug args)) := by
  have hI := Lib.hid hI0
  have hmem : (x.data.toList, (CK.plug, 2)) ∈ ckL := by rw [hx]; simp [ckL]
  have hsz := Lib.hid (words_size hw hs)
  have T := Lib.hid (RH.start r)
  have h0 := test_codes2 hx (m := [97, 100, 100]) (b := false) rfl
  have h1 := test_codes2 hx (m := [114, 101, 109, 111, 118, 101]) (b := false) rfl
  have h2 := test_codes2 hx (m := [112, 108, 117, 103]) (b := true) rfl
  have h3 := test_codes2 hx (m := [117, 110, 112, 108, 117, 103]) (b := false) rfl
  have h4 := test_codes2 hx (m := [103, 105, 118, 101]) (b := false) rfl
  have h5 := test_codes2 hx (m := [98, 97, 99, 107]) (b := false) rfl
  have h6 := test_codes2 hx (m := [108, 111, 97, 100]) (b := false) rfl
  have h7 := test_codes2 hx (m := [115, 116, 111, 114, 101]) (b := false) rfl
  have h8 := test_codes2 hx (m := [114, 111, 111, 116]) (b := false) rfl
  have h9 := test_codes2 hx (m := [102, 111, 114, 103, 101, 116]) (b := false) rfl
  have h10 := test_codes2 hx (m := [100, 114, 111, 112]) (b := false) rfl
  have h11 := test_codes2 hx (m := [115, 99, 97, 110]) (b := false) rfl
  have h12 := test_codes2 hx (m := [115, 99, 97, 110, 97, 108, 108]) (b := false) rfl
  have h13 := test_codes2 hx (m := [103, 117, 101, 115, 116, 115]) (b := false) rfl
  have h14 := test_codes2 hx (m := [108, 101, 102, 116]) (b := false) rfl
  have h15 := test_codes2 hx (m := [112, 114, 111, 109, 105, 115, 101, 100]) (b := false) rfl
  have h16 := test_codes2 hx (m := [102, 114, 97, 109, 101]) (b := false) rfl
  have h17 := test_codes2 hx (m := [112, 97, 103, 101]) (b := false) rfl
  have hsx := Lib.hid hx
  clear hx hI0
  go_enter Tryz.func8, Tryz.ntmps8
  go_upto_region 2 with (first
    | (go_at_call 12; refine Calls.mono (rwords_any _ s hs) ?_; rintro e w2 ⟨v, rfl, hv, hf, u2⟩)
    | fail)
  rw [hw] at hv
  obtain ⟨g, o2, cap, rfl, lg, hc⟩ := hv.at_ (i := 0) (by simp)
  have hc : w2.cell? ⟨g, o2, none⟩ = some (.string x) := hc
  have hN : (x :: args).length = 3 := by simp [hl]
  rw [hN] at hv ⊢
  have hs2 : ¬ (200 : Int) < s.size := by omega
  have hv0 := Lib.hid hv
  have hu2 := Lib.hid u2
  clear hv hf hN u2
  go_wp2_with (first
    | (go_at_call 13; refine Calls.mono (rmany_some _ x _ hmem) ?_; rintro e w3 ⟨rfl, rfl⟩)
    | fail)
  have R0 : Hid (RSI w (w2.alloc (.cells #[.int .i64 0, .int .i64 0, .int .i64 0] 53)) (.slice (some ⟨g, o2, none⟩) 3 cap) (x :: args) w2.heap.size args 0 []) := ⟨hu2.out.alloc _, hv0.out.alloc _, arr3_row w2, hu2.out.size, rfl, rfl⟩
  clear hv0 hu2 hc lg hsi hs2
  generalize w2.alloc (.cells #[.int .i64 0, .int .i64 0, .int .i64 0] 53) = w4 at R0 ⊢
  generalize w2.heap.size = gb at R0 ⊢
  go_loopw [7] (fun i wr => ∃ (k j : Nat) (ns : List Int), k = j + 1 ∧ j ≤ 2 ∧ i = .int .i64 k ∧ Hid (RSI w wr (.slice (some ⟨g, o2, none⟩) 3 cap) (x :: args) gb args j ns)) (fun i _ => 3 - (intOf i).toNat)
  case atStart => exact ⟨1, 0, [], rfl, Nat.zero_le _, rfl, R0.out⟩
  case round =>
    clear R0
    obtain ⟨k, j, ns, hk, hj, rfl, hT⟩ := hrel
    by_cases hlt : j < 2
    · have hk1 : (k : Int) < 3 := by omega
      have e5 : IntKind.i64.wrap ((k : Int) - 1) = (j : Int) := by rw [IntWalk.i64_in _ (by constructor <;> omega)]; omega
      have hja : j < args.length := by omega
      obtain ⟨lgr, hcells⟩ := srow_cell hT.out.sr
      have hE := hcells k (args[j]) (by rw [hk, List.getElem?_cons_succ]; exact List.getElem?_eq_getElem hja)
      have hts := Lib.hid (show args.take (j + 1) = args.take j ++ [args[j]] from List.take_succ_eq_append_getElem hja)
      have hmem2 := Lib.hid (List.getElem_mem hja)
      have hys : (args[j]).size ≤ 300 := hsz.out _ (List.getElem_mem hja)
      have hj3 : (j : Int) < 3 := by omega
      have hk0 := Lib.hid hk
      clear hcells hk
      generalize args[j] = y at hE hts hmem2 hys
      cases hn : numL y.data.toList with
      | none =>
        have HB := Lib.hid (csayN_bad (H := H) (k := .plug) (numsOf_bad args hmem2.out hn))
        go_wp2_with (first
          | (go_at_call 15; refine Calls.mono (rfigures_any _ y hys) ?_; unfold FigPost; rw [hn]; rintro e w5 ⟨z0, rfl, _, u5⟩)
          | (go_at_call 14; refine Calls.mono (rfault_any _ 9 (by omega)) ?_; rintro e w6 ⟨rfl, u6⟩)
          | fail)
        go_ret
        exact ⟨by rw [HB.out]; rfl, _, by rw [HB.out]; exact ((T.out.non hT.out.up).non u5).non u6⟩
      | some z =>
        have hzn := Lib.hid hn
        go_wp2_with (first
          | (go_at_call 15; refine Calls.mono (rfigures_any _ y hys) ?_; unfold FigPost; rw [hn]; rintro e w5 ⟨z0, rfl, hz, u5⟩; obtain rfl := hz z rfl; have hT5 := Lib.hid (hT.out.non u5); have cj := hT5.out.row.cell (i := j) (by omega); have fj := hT5.out.row.frozen j; have lj := hT5.out.row.lt)
          | fail)
        go_roundw
        case rel => exact ⟨k + 1, j + 1, _, by have := hk0.out; omega, by omega, by go_num, hT5.out.step hts.out hzn.out⟩
        case measure => have := hk0.out; simp [intOf]; omega
    · obtain rfl : j = 2 := by omega
      subst hk
      obtain ⟨lgr, hcells⟩ := srow_cell hT.out.sr
      have cx : _ = _ := hcells 0 x rfl
      have cx : wr.cell? ⟨g, o2, none⟩ = some (.string x) := cx
      have his := hT.out.is
      rw [List.take_of_length_le (by omega)] at his
      have HC0 := csayN_nums (H := H) (k := .plug) his
      have hll := hT.out.len
      have a0 := hT.out.row.cell (i := 0) (by omega)
      have a1 := hT.out.row.cell (i := 1) (by omega)
      have a2 := hT.out.row.cell (i := 2) (by omega)
      have lb := hT.out.row.lt
      (try dsimp only at a0 a1 a2)
      have TT := Lib.hid (T.out.non hT.out.up)
      clear hT hcells his hll hlt hj
      generalize ns.getD 0 0 = a at a0 HC0
      generalize ns.getD 1 0 = b at a1 HC0
      generalize ns.getD 2 0 = c at a2 HC0
      have HC : csayN H .plug args = ((hplug H a b).1, doneS (hplug H a b).2) := HC0
      have he := hplug_le H a b
      have hc := Lib.hid (fun W (r : RHRep W o m R H) => rplug_h_any r hI.out a b)
      clear HC0
      generalize hplug H a b = y at he hc HC
      obtain ⟨H2, e⟩ := y
      have HC := Lib.hid HC
      unfold RHActPost at hc
      (try dsimp only at he hc)
      go_wp2_with (first
        | (go_at_call 26; refine Calls.mono (hc.out _ TT.out.rep) ?_; rintro e w5 ⟨rfl, R5, s5⟩; have T5 := TT.out.trans s5)
        | (go_at_call 23; refine Calls.mono (rdone_any _ e (by omega)) ?_; rintro e w6 ⟨rfl, u6⟩)
        | fail)
      go_ret
      exact ⟨by rw [HC.out]; rfl, _, by rw [HC.out]; exact T5.non u6⟩
set_option maxRecDepth 100000 in
set_option maxHeartbeats 16000000 in
theorem rsay_unplug (r : RHRep w o m R H) (hI0 : HInv H) (s : ByteArray) (hs : s.size ≤ 300) {x : ByteArray} {args : List ByteArray} (hw : wordsB s = x :: args) (hx : x.data.toList = [117, 110, 112, 108, 117, 103]) (hl : args.length = 2) (hsi : s.size ≤ 200) :
    Calls Tryz.prog 8 #[.pointer (some ⟨o, 0, none⟩), .string s] w (RDoPost w o m R H (csayN H .unplug args)) := by
  have hI := Lib.hid hI0
  have hmem : (x.data.toList, (CK.unplug, 2)) ∈ ckL := by rw [hx]; simp [ckL]
  have hsz := Lib.hid (words_size hw hs)
  have T := Lib.hid (RH.start r)
  have h0 := test_codes2 hx (m := [97, 100, 100]) (b := false) rfl
  have h1 := test_codes2 hx (m := [114, 101, 109, 111, 118, 101]) (b := false) rfl
  have h2 := test_codes2 hx (m := [112, 108, 117, 103]) (b := false) rfl
  have h3 := test_codes2 hx (m := [117, 110, 112, 108, 117, 103]) (b := true) rfl
  have h4 := test_codes2 hx (m := [103, 105, 118, 101]) (b := false) rfl
  have h5 := test_codes2 hx (m := [98, 97, 99, 107]) (b := false) rfl
  have h6 := test_codes2 hx (m := [108, 111, 97, 100]) (b := false) rfl
  have h7 := test_codes2 hx (m := [115, 116, 111, 114, 101]) (b := false) rfl
  have h8 := test_codes2 hx (m := [114, 111, 111, 116]) (b := false) rfl
  have h9 := test_codes2 hx (m := [102, 111, 114, 103, 101, 116]) (b := false) rfl
  have h10 := test_codes2 hx (m := [100, 114, 111, 112]) (b := false) rfl
  have h11 := test_codes2 hx (m := [115, 99, 97, 110]) (b := false) rfl
  have h12 := test_codes2 hx (m := [115, 99, 97, 110, 97, 108, 108]) (b := false) rfl
  have h13 := test_codes2 hx (m := [103, 117, 101, 115, 116, 115]) (b := false) rfl
  have h14 := test_codes2 hx (m := [108, 101, 102, 116]) (b := false) rfl
  have h15 := test_codes2 hx (m := [112, 114, 111, 109, 105, 115, 101, 100]) (b := false) rfl
  have h16 := test_codes2 hx (m := [102, 114, 97, 109, 101]) (b := false) rfl
  have h17 := test_codes2 hx (m := [112, 97, 103, 101]) (b := false) rfl
  have hsx := Lib.hid hx
  clear hx hI0
  go_enter Tryz.func8, Tryz.ntmps8
  go_upto_region 2 with (first
    | (go_at_call 12; refine Calls.mono (rwords_any _ s hs) ?_; rintro e w2 ⟨v, rfl, hv, hf, u2⟩)
    | fail)
  rw [hw] at hv
  obtain ⟨g, o2, cap, rfl, lg, hc⟩ := hv.at_ (i := 0) (by simp)
  have hc : w2.cell? ⟨g, o2, none⟩ = some (.string x) := hc
  have hN : (x :: args).length = 3 := by simp [hl]
  rw [hN] at hv ⊢
  have hs2 : ¬ (200 : Int) < s.size := by omega
  have hv0 := Lib.hid hv
  have hu2 := Lib.hid u2
  clear hv hf hN u2
  go_wp2_with (first
    | (go_at_call 13; refine Calls.mono (rmany_some _ x _ hmem) ?_; rintro e w3 ⟨rfl, rfl⟩)
    | fail)
  have R0 : Hid (RSI w (w2.alloc (.cells #[.int .i64 0, .int .i64 0, .int .i64 0] 53)) (.slice (some ⟨g, o2, none⟩) 3 cap) (x :: args) w2.heap.size args 0 []) := ⟨hu2.out.alloc _, hv0.out.alloc _, arr3_row w2, hu2.out.size, rfl, rfl⟩
  clear hv0 hu2 hc lg hsi hs2
  generalize w2.alloc (.cells #[.int .i64 0, .int .i64 0, .int .i64 0] 53) = w4 at R0 ⊢
  generalize w2.heap.size = gb at R0 ⊢
  go_loopw [7] (fun i wr => ∃ (k j : Nat) (ns : List Int), k = j + 1 ∧ j ≤ 2 ∧ i = .int .i64 k ∧ Hid (RSI w wr (.slice (some ⟨g, o2, none⟩) 3 cap) (x :: args) gb args j ns)) (fun i _ => 3 - (intOf i).toNat)
  case atStart => exact ⟨1, 0, [], rfl, Nat.zero_le _, rfl, R0.out⟩
  case round =>
    clear R0
    obtain ⟨k, j, ns, hk, hj, rfl, hT⟩ := hrel
    by_cases hlt : j < 2
    · have hk1 : (k : Int) < 3 := by omega
      have e5 : IntKind.i64.wrap ((k : Int) - 1) = (j : Int) := by rw [IntWalk.i64_in _ (by constructor <;> omega)]; omega
      have hja : j < args.length := by omega
      obtain ⟨lgr, hcells⟩ := srow_cell hT.out.sr
      have hE := hcells k (args[j]) (by rw [hk, List.getElem?_cons_succ]; exact List.getElem?_eq_getElem hja)
      have hts := Lib.hid (show args.take (j + 1) = args.take j ++ [args[j]] from List.take_succ_eq_append_getElem hja)
      have hmem2 := Lib.hid (List.getElem_mem hja)
      have hys : (args[j]).size ≤ 300 := hsz.out _ (List.getElem_mem hja)
      have hj3 : (j : Int) < 3 := by omega
      have hk0 := Lib.hid hk
      clear hcells hk
      generalize args[j] = y at hE hts hmem2 hys
      cases hn : numL y.data.toList with
      | none =>
        have HB := Lib.hid (csayN_bad (H := H) (k := .unplug) (numsOf_bad args hmem2.out hn))
        go_wp2_with (first
          | (go_at_call 15; refine Calls.mono (rfigures_any _ y hys) ?_; unfold FigPost; rw [hn]; rintro e w5 ⟨z0, rfl, _, u5⟩)
          | (go_at_call 14; refine Calls.mono (rfault_any _ 9 (by omega)) ?_; rintro e w6 ⟨rfl, u6⟩)
          | fail)
        go_ret
        exact ⟨by rw [HB.out]; rfl, _, by rw [HB.out]; exact ((T.out.non hT.out.up).non u5).non u6⟩
      | some z =>
        have hzn := Lib.hid hn
        go_wp2_with (first
          | (go_at_call 15; refine Calls.mono (rfigures_any _ y hys) ?_; unfold FigPost; rw [hn]; rintro e w5 ⟨z0, rfl, hz, u5⟩; obtain rfl := hz z rfl; have hT5 := Lib.hid (hT.out.non u5); have cj := hT5.out.row.cell (i := j) (by omega); have fj := hT5.out.row.frozen j; have lj := hT5.out.row.lt)
          | fail)
        go_roundw
        case rel => exact ⟨k + 1, j + 1, _, by have := hk0.out; omega, by omega, by go_num, hT5.out.step hts.out hzn.out⟩
        case measure => have := hk0.out; simp [intOf]; omega
    · obtain rfl : j = 2 := by omega
      subst hk
      obtain ⟨lgr, hcells⟩ := srow_cell hT.out.sr
      have cx : _ = _ := hcells 0 x rfl
      have cx : wr.cell? ⟨g, o2, none⟩ = some (.string x) := cx
      have his := hT.out.is
      rw [List.take_of_length_le (by omega)] at his
      have HC0 := csayN_nums (H := H) (k := .unplug) his
      have hll := hT.out.len
      have a0 := hT.out.row.cell (i := 0) (by omega)
      have a1 := hT.out.row.cell (i := 1) (by omega)
      have a2 := hT.out.row.cell (i := 2) (by omega)
      have lb := hT.out.row.lt
      (try dsimp only at a0 a1 a2)
      have TT := Lib.hid (T.out.non hT.out.up)
      clear hT hcells his hll hlt hj
      generalize ns.getD 0 0 = a at a0 HC0
      generalize ns.getD 1 0 = b at a1 HC0
      generalize ns.getD 2 0 = c at a2 HC0
      have HC : csayN H .unplug args = ((hunplug H a b).1, doneS (hunplug H a b).2) := HC0
      have he := hunplug_le H a b
      have hc := Lib.hid (fun W (r : RHRep W o m R H) => runplug_h_any r hI.out a b)
      clear HC0
      generalize hunplug H a b = y at he hc HC
      obtain ⟨H2, e⟩ := y
      have HC := Lib.hid HC
      unfold RHActPost at hc
      (try dsimp only at he hc)
      go_wp2_with (first
        | (go_at_call 27; refine Calls.mono (hc.out _ TT.out.rep) ?_; rintro e w5 ⟨rfl, R5, s5⟩; have T5 := TT.out.trans s5)
        | (go_at_call 23; refine Calls.mono (rdone_any _ e (by omega)) ?_; rintro e w6 ⟨rfl, u6⟩)
        | fail)
      go_ret
      exact ⟨by rw [HC.out]; rfl, _, by rw [HC.out]; exact T5.non u6⟩
set_option maxRecDepth 100000 in
set_option maxHeartbeats 16000000 in
theorem rsay_give (r : RHRep w o m R H) (hI0 : HInv H) (s : ByteArray) (hs : s.size ≤ 300) {x : ByteArray} {args : List ByteArray} (hw : wordsB s = x :: args) (hx : x.data.toList = [103, 105, 118, 101]) (hl : args.length = 2) (hsi : s.size ≤ 200) :
    Calls Tryz.prog 8 #[.pointer (some ⟨o, 0, none⟩), .string s] w (RDoPost w o m R H (csayN H .give args)) := by
  have hI := Lib.hid hI0
  have hmem : (x.data.toList, (CK.give, 2)) ∈ ckL := by rw [hx]; simp [ckL]
  have hsz := Lib.hid (words_size hw hs)
  have T := Lib.hid (RH.start r)
  have h0 := test_codes2 hx (m := [97, 100, 100]) (b := false) rfl
  have h1 := test_codes2 hx (m := [114, 101, 109, 111, 118, 101]) (b := false) rfl
  have h2 := test_codes2 hx (m := [112, 108, 117, 103]) (b := false) rfl
  have h3 := test_codes2 hx (m := [117, 110, 112, 108, 117, 103]) (b := false) rfl
  have h4 := test_codes2 hx (m := [103, 105, 118, 101]) (b := true) rfl
  have h5 := test_codes2 hx (m := [98, 97, 99, 107]) (b := false) rfl
  have h6 := test_codes2 hx (m := [108, 111, 97, 100]) (b := false) rfl
  have h7 := test_codes2 hx (m := [115, 116, 111, 114, 101]) (b := false) rfl
  have h8 := test_codes2 hx (m := [114, 111, 111, 116]) (b := false) rfl
  have h9 := test_codes2 hx (m := [102, 111, 114, 103, 101, 116]) (b := false) rfl
  have h10 := test_codes2 hx (m := [100, 114, 111, 112]) (b := false) rfl
  have h11 := test_codes2 hx (m := [115, 99, 97, 110]) (b := false) rfl
  have h12 := test_codes2 hx (m := [115, 99, 97, 110, 97, 108, 108]) (b := false) rfl
  have h13 := test_codes2 hx (m := [103, 117, 101, 115, 116, 115]) (b := false) rfl
  have h14 := test_codes2 hx (m := [108, 101, 102, 116]) (b := false) rfl
  have h15 := test_codes2 hx (m := [112, 114, 111, 109, 105, 115, 101, 100]) (b := false) rfl
  have h16 := test_codes2 hx (m := [102, 114, 97, 109, 101]) (b := false) rfl
  have h17 := test_codes2 hx (m := [112, 97, 103, 101]) (b := false) rfl
  have hsx := Lib.hid hx
  clear hx hI0
  go_enter Tryz.func8, Tryz.ntmps8
  go_upto_region 2 with (first
    | (go_at_call 12; refine Calls.mono (rwords_any _ s hs) ?_; rintro e w2 ⟨v, rfl, hv, hf, u2⟩)
    | fail)
  rw [hw] at hv
  obtain ⟨g, o2, cap, rfl, lg, hc⟩ := hv.at_ (i := 0) (by simp)
  have hc : w2.cell? ⟨g, o2, none⟩ = some (.string x) := hc
  have hN : (x :: args).length = 3 := by simp [hl]
  rw [hN] at hv ⊢
  have hs2 : ¬ (200 : Int) < s.size := by omega
  have hv0 := Lib.hid hv
  have hu2 := Lib.hid u2
  clear hv hf hN u2
  go_wp2_with (first
    | (go_at_call 13; refine Calls.mono (rmany_some _ x _ hmem) ?_; rintro e w3 ⟨rfl, rfl⟩)
    | fail)
  have R0 : Hid (RSI w (w2.alloc (.cells #[.int .i64 0, .int .i64 0, .int .i64 0] 53)) (.slice (some ⟨g, o2, none⟩) 3 cap) (x :: args) w2.heap.size args 0 []) := ⟨hu2.out.alloc _, hv0.out.alloc _, arr3_row w2, hu2.out.size, rfl, rfl⟩
  clear hv0 hu2 hc lg hsi hs2
  generalize w2.alloc (.cells #[.int .i64 0, .int .i64 0, .int .i64 0] 53) = w4 at R0 ⊢
  generalize w2.heap.size = gb at R0 ⊢
  go_loopw [7] (fun i wr => ∃ (k j : Nat) (ns : List Int), k = j + 1 ∧ j ≤ 2 ∧ i = .int .i64 k ∧ Hid (RSI w wr (.slice (some ⟨g, o2, none⟩) 3 cap) (x :: args) gb args j ns)) (fun i _ => 3 - (intOf i).toNat)
  case atStart => exact ⟨1, 0, [], rfl, Nat.zero_le _, rfl, R0.out⟩
  case round =>
    clear R0
    obtain ⟨k, j, ns, hk, hj, rfl, hT⟩ := hrel
    by_cases hlt : j < 2
    · have hk1 : (k : Int) < 3 := by omega
      have e5 : IntKind.i64.wrap ((k : Int) - 1) = (j : Int) := by rw [IntWalk.i64_in _ (by constructor <;> omega)]; omega
      have hja : j < args.length := by omega
      obtain ⟨lgr, hcells⟩ := srow_cell hT.out.sr
      have hE := hcells k (args[j]) (by rw [hk, List.getElem?_cons_succ]; exact List.getElem?_eq_getElem hja)
      have hts := Lib.hid (show args.take (j + 1) = args.take j ++ [args[j]] from List.take_succ_eq_append_getElem hja)
      have hmem2 := Lib.hid (List.getElem_mem hja)
      have hys : (args[j]).size ≤ 300 := hsz.out _ (List.getElem_mem hja)
      have hj3 : (j : Int) < 3 := by omega
      have hk0 := Lib.hid hk
      clear hcells hk
      generalize args[j] = y at hE hts hmem2 hys
      cases hn : numL y.data.toList with
      | none =>
        have HB := Lib.hid (csayN_bad (H := H) (k := .give) (numsOf_bad args hmem2.out hn))
        go_wp2_with (first
          | (go_at_call 15; refine Calls.mono (rfigures_any _ y hys) ?_; unfold FigPost; rw [hn]; rintro e w5 ⟨z0, rfl, _, u5⟩)
          | (go_at_call 14; refine Calls.mono (rfault_any _ 9 (by omega)) ?_; rintro e w6 ⟨rfl, u6⟩)
          | fail)
        go_ret
        exact ⟨by rw [HB.out]; rfl, _, by rw [HB.out]; exact ((T.out.non hT.out.up).non u5).non u6⟩
      | some z =>
        have hzn := Lib.hid hn
        go_wp2_with (first
          | (go_at_call 15; refine Calls.mono (rfigures_any _ y hys) ?_; unfold FigPost; rw [hn]; rintro e w5 ⟨z0, rfl, hz, u5⟩; obtain rfl := hz z rfl; have hT5 := Lib.hid (hT.out.non u5); have cj := hT5.out.row.cell (i := j) (by omega); have fj := hT5.out.row.frozen j; have lj := hT5.out.row.lt)
          | fail)
        go_roundw
        case rel => exact ⟨k + 1, j + 1, _, by have := hk0.out; omega, by omega, by go_num, hT5.out.step hts.out hzn.out⟩
        case measure => have := hk0.out; simp [intOf]; omega
    · obtain rfl : j = 2 := by omega
      subst hk
      obtain ⟨lgr, hcells⟩ := srow_cell hT.out.sr
      have cx : _ = _ := hcells 0 x rfl
      have cx : wr.cell? ⟨g, o2, none⟩ = some (.string x) := cx
      have his := hT.out.is
      rw [List.take_of_length_le (by omega)] at his
      have HC0 := csayN_nums (H := H) (k := .give) his
      have hll := hT.out.len
      have a0 := hT.out.row.cell (i := 0) (by omega)
      have a1 := hT.out.row.cell (i := 1) (by omega)
      have a2 := hT.out.row.cell (i := 2) (by omega)
      have lb := hT.out.row.lt
      (try dsimp only at a0 a1 a2)
      have TT := Lib.hid (T.out.non hT.out.up)
      clear hT hcells his hll hlt hj
      generalize ns.getD 0 0 = a at a0 HC0
      generalize ns.getD 1 0 = b at a1 HC0
      generalize ns.getD 2 0 = c at a2 HC0
      have HC : csayN H .give args = ((hgive H a b).1, doneS (hgive H a b).2) := HC0
      have he := hgive_le H a b
      have hc := Lib.hid (fun W (r : RHRep W o m R H) => rgive_h_any r hI.out a b)
      clear HC0
      generalize hgive H a b = y at he hc HC
      obtain ⟨H2, e⟩ := y
      have HC := Lib.hid HC
      unfold RHActPost at hc
      (try dsimp only at he hc)
      go_wp2_with (first
        | (go_at_call 28; refine Calls.mono (hc.out _ TT.out.rep) ?_; rintro e w5 ⟨rfl, R5, s5⟩; have T5 := TT.out.trans s5)
        | (go_at_call 23; refine Calls.mono (rdone_any _ e (by omega)) ?_; rintro e w6 ⟨rfl, u6⟩)
        | fail)
      go_ret
      exact ⟨by rw [HC.out]; rfl, _, by rw [HC.out]; exact T5.non u6⟩
set_option maxRecDepth 100000 in
set_option maxHeartbeats 16000000 in
theorem rsay_back (r : RHRep w o m R H) (hI0 : HInv H) (s : ByteArray) (hs : s.size ≤ 300) {x : ByteArray} {args : List ByteArray} (hw : wordsB s = x :: args) (hx : x.data.toList = [98, 97, 99, 107]) (hl : args.length = 2) (hsi : s.size ≤ 200) :
    Calls Tryz.prog 8 #[.pointer (some ⟨o, 0, none⟩), .string s] w (RDoPost w o m R H (csayN H .back args)) := by
  have hI := Lib.hid hI0
  have hmem : (x.data.toList, (CK.back, 2)) ∈ ckL := by rw [hx]; simp [ckL]
  have hsz := Lib.hid (words_size hw hs)
  have T := Lib.hid (RH.start r)
  have h0 := test_codes2 hx (m := [97, 100, 100]) (b := false) rfl
  have h1 := test_codes2 hx (m := [114, 101, 109, 111, 118, 101]) (b := false) rfl
  have h2 := test_codes2 hx (m := [112, 108, 117, 103]) (b := false) rfl
  have h3 := test_codes2 hx (m := [117, 110, 112, 108, 117, 103]) (b := false) rfl
  have h4 := test_codes2 hx (m := [103, 105, 118, 101]) (b := false) rfl
  have h5 := test_codes2 hx (m := [98, 97, 99, 107]) (b := true) rfl
  have h6 := test_codes2 hx (m := [108, 111, 97, 100]) (b := false) rfl
  have h7 := test_codes2 hx (m := [115, 116, 111, 114, 101]) (b := false) rfl
  have h8 := test_codes2 hx (m := [114, 111, 111, 116]) (b := false) rfl
  have h9 := test_codes2 hx (m := [102, 111, 114, 103, 101, 116]) (b := false) rfl
  have h10 := test_codes2 hx (m := [100, 114, 111, 112]) (b := false) rfl
  have h11 := test_codes2 hx (m := [115, 99, 97, 110]) (b := false) rfl
  have h12 := test_codes2 hx (m := [115, 99, 97, 110, 97, 108, 108]) (b := false) rfl
  have h13 := test_codes2 hx (m := [103, 117, 101, 115, 116, 115]) (b := false) rfl
  have h14 := test_codes2 hx (m := [108, 101, 102, 116]) (b := false) rfl
  have h15 := test_codes2 hx (m := [112, 114, 111, 109, 105, 115, 101, 100]) (b := false) rfl
  have h16 := test_codes2 hx (m := [102, 114, 97, 109, 101]) (b := false) rfl
  have h17 := test_codes2 hx (m := [112, 97, 103, 101]) (b := false) rfl
  have hsx := Lib.hid hx
  clear hx hI0
  go_enter Tryz.func8, Tryz.ntmps8
  go_upto_region 2 with (first
    | (go_at_call 12; refine Calls.mono (rwords_any _ s hs) ?_; rintro e w2 ⟨v, rfl, hv, hf, u2⟩)
    | fail)
  rw [hw] at hv
  obtain ⟨g, o2, cap, rfl, lg, hc⟩ := hv.at_ (i := 0) (by simp)
  have hc : w2.cell? ⟨g, o2, none⟩ = some (.string x) := hc
  have hN : (x :: args).length = 3 := by simp [hl]
  rw [hN] at hv ⊢
  have hs2 : ¬ (200 : Int) < s.size := by omega
  have hv0 := Lib.hid hv
  have hu2 := Lib.hid u2
  clear hv hf hN u2
  go_wp2_with (first
    | (go_at_call 13; refine Calls.mono (rmany_some _ x _ hmem) ?_; rintro e w3 ⟨rfl, rfl⟩)
    | fail)
  have R0 : Hid (RSI w (w2.alloc (.cells #[.int .i64 0, .int .i64 0, .int .i64 0] 53)) (.slice (some ⟨g, o2, none⟩) 3 cap) (x :: args) w2.heap.size args 0 []) := ⟨hu2.out.alloc _, hv0.out.alloc _, arr3_row w2, hu2.out.size, rfl, rfl⟩
  clear hv0 hu2 hc lg hsi hs2
  generalize w2.alloc (.cells #[.int .i64 0, .int .i64 0, .int .i64 0] 53) = w4 at R0 ⊢
  generalize w2.heap.size = gb at R0 ⊢
  go_loopw [7] (fun i wr => ∃ (k j : Nat) (ns : List Int), k = j + 1 ∧ j ≤ 2 ∧ i = .int .i64 k ∧ Hid (RSI w wr (.slice (some ⟨g, o2, none⟩) 3 cap) (x :: args) gb args j ns)) (fun i _ => 3 - (intOf i).toNat)
  case atStart => exact ⟨1, 0, [], rfl, Nat.zero_le _, rfl, R0.out⟩
  case round =>
    clear R0
    obtain ⟨k, j, ns, hk, hj, rfl, hT⟩ := hrel
    by_cases hlt : j < 2
    · have hk1 : (k : Int) < 3 := by omega
      have e5 : IntKind.i64.wrap ((k : Int) - 1) = (j : Int) := by rw [IntWalk.i64_in _ (by constructor <;> omega)]; omega
      have hja : j < args.length := by omega
      obtain ⟨lgr, hcells⟩ := srow_cell hT.out.sr
      have hE := hcells k (args[j]) (by rw [hk, List.getElem?_cons_succ]; exact List.getElem?_eq_getElem hja)
      have hts := Lib.hid (show args.take (j + 1) = args.take j ++ [args[j]] from List.take_succ_eq_append_getElem hja)
      have hmem2 := Lib.hid (List.getElem_mem hja)
      have hys : (args[j]).size ≤ 300 := hsz.out _ (List.getElem_mem hja)
      have hj3 : (j : Int) < 3 := by omega
      have hk0 := Lib.hid hk
      clear hcells hk
      generalize args[j] = y at hE hts hmem2 hys
      cases hn : numL y.data.toList with
      | none =>
        have HB := Lib.hid (csayN_bad (H := H) (k := .back) (numsOf_bad args hmem2.out hn))
        go_wp2_with (first
          | (go_at_call 15; refine Calls.mono (rfigures_any _ y hys) ?_; unfold FigPost; rw [hn]; rintro e w5 ⟨z0, rfl, _, u5⟩)
          | (go_at_call 14; refine Calls.mono (rfault_any _ 9 (by omega)) ?_; rintro e w6 ⟨rfl, u6⟩)
          | fail)
        go_ret
        exact ⟨by rw [HB.out]; rfl, _, by rw [HB.out]; exact ((T.out.non hT.out.up).non u5).non u6⟩
      | some z =>
        have hzn := Lib.hid hn
        go_wp2_with (first
          | (go_at_call 15; refine Calls.mono (rfigures_any _ y hys) ?_; unfold FigPost; rw [hn]; rintro e w5 ⟨z0, rfl, hz, u5⟩; obtain rfl := hz z rfl; have hT5 := Lib.hid (hT.out.non u5); have cj := hT5.out.row.cell (i := j) (by omega); have fj := hT5.out.row.frozen j; have lj := hT5.out.row.lt)
          | fail)
        go_roundw
        case rel => exact ⟨k + 1, j + 1, _, by have := hk0.out; omega, by omega, by go_num, hT5.out.step hts.out hzn.out⟩
        case measure => have := hk0.out; simp [intOf]; omega
    · obtain rfl : j = 2 := by omega
      subst hk
      obtain ⟨lgr, hcells⟩ := srow_cell hT.out.sr
      have cx : _ = _ := hcells 0 x rfl
      have cx : wr.cell? ⟨g, o2, none⟩ = some (.string x) := cx
      have his := hT.out.is
      rw [List.take_of_length_le (by omega)] at his
      have HC0 := csayN_nums (H := H) (k := .back) his
      have hll := hT.out.len
      have a0 := hT.out.row.cell (i := 0) (by omega)
      have a1 := hT.out.row.cell (i := 1) (by omega)
      have a2 := hT.out.row.cell (i := 2) (by omega)
      have lb := hT.out.row.lt
      (try dsimp only at a0 a1 a2)
      have TT := Lib.hid (T.out.non hT.out.up)
      clear hT hcells his hll hlt hj
      generalize ns.getD 0 0 = a at a0 HC0
      generalize ns.getD 1 0 = b at a1 HC0
      generalize ns.getD 2 0 = c at a2 HC0
      have HC : csayN H .back args = ((hback H a b).1, doneS (hback H a b).2) := HC0
      have he := hback_le H a b
      have hc := Lib.hid (fun W (r : RHRep W o m R H) => rback_h_any r hI.out a b)
      clear HC0
      generalize hback H a b = y at he hc HC
      obtain ⟨H2, e⟩ := y
      have HC := Lib.hid HC
      unfold RHActPost at hc
      (try dsimp only at he hc)
      go_wp2_with (first
        | (go_at_call 28; refine Calls.mono (hc.out _ TT.out.rep) ?_; rintro e w5 ⟨rfl, R5, s5⟩; have T5 := TT.out.trans s5)
        | (go_at_call 23; refine Calls.mono (rdone_any _ e (by omega)) ?_; rintro e w6 ⟨rfl, u6⟩)
        | fail)
      go_ret
      exact ⟨by rw [HC.out]; rfl, _, by rw [HC.out]; exact T5.non u6⟩
set_option maxRecDepth 100000 in
set_option maxHeartbeats 16000000 in
theorem rsay_add (r : RHRep w o m R H) (hI0 : HInv H) (s : ByteArray) (hs : s.size ≤ 300) {x : ByteArray} {args : List ByteArray} (hw : wordsB s = x :: args) (hx : x.data.toList = [97, 100, 100]) (hl : args.length = 0) (hsi : s.size ≤ 200) :
    Calls Tryz.prog 8 #[.pointer (some ⟨o, 0, none⟩), .string s] w (RDoPost w o m R H (csayN H .add args)) := by
  have hI := Lib.hid hI0
  have hmem : (x.data.toList, (CK.add, 0)) ∈ ckL := by rw [hx]; simp [ckL]
  have hsz := Lib.hid (words_size hw hs)
  have T := Lib.hid (RH.start r)
  have h0 := test_codes2 hx (m := [97, 100, 100]) (b := true) rfl
  have h1 := test_codes2 hx (m := [114, 101, 109, 111, 118, 101]) (b := false) rfl
  have h2 := test_codes2 hx (m := [112, 108, 117, 103]) (b := false) rfl
  have h3 := test_codes2 hx (m := [117, 110, 112, 108, 117, 103]) (b := false) rfl
  have h4 := test_codes2 hx (m := [103, 105, 118, 101]) (b := false) rfl
  have h5 := test_codes2 hx (m := [98, 97, 99, 107]) (b := false) rfl
  have h6 := test_codes2 hx (m := [108, 111, 97, 100]) (b := false) rfl
  have h7 := test_codes2 hx (m := [115, 116, 111, 114, 101]) (b := false) rfl
  have h8 := test_codes2 hx (m := [114, 111, 111, 116]) (b := false) rfl
  have h9 := test_codes2 hx (m := [102, 111, 114, 103, 101, 116]) (b := false) rfl
  have h10 := test_codes2 hx (m := [100, 114, 111, 112]) (b := false) rfl
  have h11 := test_codes2 hx (m := [115, 99, 97, 110]) (b := false) rfl
  have h12 := test_codes2 hx (m := [115, 99, 97, 110, 97, 108, 108]) (b := false) rfl
  have h13 := test_codes2 hx (m := [103, 117, 101, 115, 116, 115]) (b := false) rfl
  have h14 := test_codes2 hx (m := [108, 101, 102, 116]) (b := false) rfl
  have h15 := test_codes2 hx (m := [112, 114, 111, 109, 105, 115, 101, 100]) (b := false) rfl
  have h16 := test_codes2 hx (m := [102, 114, 97, 109, 101]) (b := false) rfl
  have h17 := test_codes2 hx (m := [112, 97, 103, 101]) (b := false) rfl
  have hsx := Lib.hid hx
  clear hx hI0
  go_enter Tryz.func8, Tryz.ntmps8
  go_upto_region 2 with (first
    | (go_at_call 12; refine Calls.mono (rwords_any _ s hs) ?_; rintro e w2 ⟨v, rfl, hv, hf, u2⟩)
    | fail)
  rw [hw] at hv
  obtain ⟨g, o2, cap, rfl, lg, hc⟩ := hv.at_ (i := 0) (by simp)
  have hc : w2.cell? ⟨g, o2, none⟩ = some (.string x) := hc
  have hN : (x :: args).length = 1 := by simp [hl]
  rw [hN] at hv ⊢
  have hs2 : ¬ (200 : Int) < s.size := by omega
  have hv0 := Lib.hid hv
  have hu2 := Lib.hid u2
  clear hv hf hN u2
  go_wp2_with (first
    | (go_at_call 13; refine Calls.mono (rmany_some _ x _ hmem) ?_; rintro e w3 ⟨rfl, rfl⟩)
    | fail)
  have R0 : Hid (RSI w (w2.alloc (.cells #[.int .i64 0, .int .i64 0, .int .i64 0] 53)) (.slice (some ⟨g, o2, none⟩) 1 cap) (x :: args) w2.heap.size args 0 []) := ⟨hu2.out.alloc _, hv0.out.alloc _, arr3_row w2, hu2.out.size, rfl, rfl⟩
  clear hv0 hu2 hc lg hsi hs2
  generalize w2.alloc (.cells #[.int .i64 0, .int .i64 0, .int .i64 0] 53) = w4 at R0 ⊢
  generalize w2.heap.size = gb at R0 ⊢
  go_loopw [7] (fun i wr => ∃ (k j : Nat) (ns : List Int), k = j + 1 ∧ j ≤ 0 ∧ i = .int .i64 k ∧ Hid (RSI w wr (.slice (some ⟨g, o2, none⟩) 1 cap) (x :: args) gb args j ns)) (fun i _ => 1 - (intOf i).toNat)
  case atStart => exact ⟨1, 0, [], rfl, Nat.zero_le _, rfl, R0.out⟩
  case round =>
    clear R0
    obtain ⟨k, j, ns, hk, hj, rfl, hT⟩ := hrel
    by_cases hlt : j < 0
    · exact absurd hlt (by omega)
    · obtain rfl : j = 0 := by omega
      subst hk
      obtain ⟨lgr, hcells⟩ := srow_cell hT.out.sr
      have cx : _ = _ := hcells 0 x rfl
      have cx : wr.cell? ⟨g, o2, none⟩ = some (.string x) := cx
      have his := hT.out.is
      rw [List.take_of_length_le (by omega)] at his
      have HC0 := csayN_nums (H := H) (k := .add) his
      have hll := hT.out.len
      have a0 := hT.out.row.cell (i := 0) (by omega)
      have a1 := hT.out.row.cell (i := 1) (by omega)
      have a2 := hT.out.row.cell (i := 2) (by omega)
      have lb := hT.out.row.lt
      (try dsimp only at a0 a1 a2)
      have TT := Lib.hid (T.out.non hT.out.up)
      clear hT hcells his hll hlt hj
      generalize ns.getD 0 0 = a at a0 HC0
      generalize ns.getD 1 0 = b at a1 HC0
      generalize ns.getD 2 0 = c at a2 HC0
      have HC : csayN H .add args = ((hadd H).1, toldS (hadd H).2.1.toNat (hadd H).2.2) := HC0
      clear HC0
      obtain ⟨⟨q, hq, hq2⟩, he⟩ := hadd_le H
      have hc := Lib.hid (fun W (r : RHRep W o m R H) => radd_any r)
      generalize hadd H = y at hq he hc HC
      obtain ⟨H2, v, e⟩ := y
      unfold RHAddPost at hc
      (try dsimp only at hq he hc HC)
      subst hq
      cases e with
      | zero =>
        rw [Int.toNat_natCast, told_zero] at HC
        have HC := Lib.hid HC
        go_wp2_with (first
          | (go_at_call 16; refine Calls.mono (hc.out _ TT.out.rep) ?_; rintro e w5 ⟨rfl, R5, s5⟩; have T5 := TT.out.trans s5)
          | (go_at_call 17; refine Calls.mono (rdecimal_any q q (Nat.le_refl _) (by omega) _) ?_; rintro e w6 ⟨rfl, u6⟩)
          | fail)
        go_ret
        exact ⟨by rw [HC.out]; rfl, _, by rw [HC.out]; exact T5.non u6⟩
      | succ e =>
        rw [told_pos] at HC
        have HC := Lib.hid HC
        have hp : (0 : Int) < ((e + 1 : Nat) : Int) := by omega
        generalize e + 1 = e at hp he hc HC
        go_wp2_with (first
          | (go_at_call 16; refine Calls.mono (hc.out _ TT.out.rep) ?_; rintro e w5 ⟨rfl, R5, s5⟩; have T5 := TT.out.trans s5)
          | (go_at_call 14; refine Calls.mono (rfault_any _ e (by omega)) ?_; rintro e w6 ⟨rfl, u6⟩)
          | fail)
        go_ret
        exact ⟨by rw [HC.out]; rfl, _, by rw [HC.out]; exact T5.non u6⟩
set_option maxRecDepth 100000 in
set_option maxHeartbeats 16000000 in
theorem rsay_scanall (r : RHRep w o m R H) (hI0 : HInv H) (s : ByteArray) (hs : s.size ≤ 300) {x : ByteArray} {args : List ByteArray} (hw : wordsB s = x :: args) (hx : x.data.toList = [115, 99, 97, 110, 97, 108, 108]) (hl : args.length = 0) (hsi : s.size ≤ 200) :
    Calls Tryz.prog 8 #[.pointer (some ⟨o, 0, none⟩), .string s] w (RDoPost w o m R H (csayN H .scanall args)) := by
  have hI := Lib.hid hI0
  have hmem : (x.data.toList, (CK.scanall, 0)) ∈ ckL := by rw [hx]; simp [ckL]
  have hsz := Lib.hid (words_size hw hs)
  have T := Lib.hid (RH.start r)
  have h0 := test_codes2 hx (m := [97, 100, 100]) (b := false) rfl
  have h1 := test_codes2 hx (m := [114, 101, 109, 111, 118, 101]) (b := false) rfl
  have h2 := test_codes2 hx (m := [112, 108, 117, 103]) (b := false) rfl
  have h3 := test_codes2 hx (m := [117, 110, 112, 108, 117, 103]) (b := false) rfl
  have h4 := test_codes2 hx (m := [103, 105, 118, 101]) (b := false) rfl
  have h5 := test_codes2 hx (m := [98, 97, 99, 107]) (b := false) rfl
  have h6 := test_codes2 hx (m := [108, 111, 97, 100]) (b := false) rfl
  have h7 := test_codes2 hx (m := [115, 116, 111, 114, 101]) (b := false) rfl
  have h8 := test_codes2 hx (m := [114, 111, 111, 116]) (b := false) rfl
  have h9 := test_codes2 hx (m := [102, 111, 114, 103, 101, 116]) (b := false) rfl
  have h10 := test_codes2 hx (m := [100, 114, 111, 112]) (b := false) rfl
  have h11 := test_codes2 hx (m := [115, 99, 97, 110]) (b := false) rfl
  have h12 := test_codes2 hx (m := [115, 99, 97, 110, 97, 108, 108]) (b := true) rfl
  have h13 := test_codes2 hx (m := [103, 117, 101, 115, 116, 115]) (b := false) rfl
  have h14 := test_codes2 hx (m := [108, 101, 102, 116]) (b := false) rfl
  have h15 := test_codes2 hx (m := [112, 114, 111, 109, 105, 115, 101, 100]) (b := false) rfl
  have h16 := test_codes2 hx (m := [102, 114, 97, 109, 101]) (b := false) rfl
  have h17 := test_codes2 hx (m := [112, 97, 103, 101]) (b := false) rfl
  have hsx := Lib.hid hx
  clear hx hI0
  go_enter Tryz.func8, Tryz.ntmps8
  go_upto_region 2 with (first
    | (go_at_call 12; refine Calls.mono (rwords_any _ s hs) ?_; rintro e w2 ⟨v, rfl, hv, hf, u2⟩)
    | fail)
  rw [hw] at hv
  obtain ⟨g, o2, cap, rfl, lg, hc⟩ := hv.at_ (i := 0) (by simp)
  have hc : w2.cell? ⟨g, o2, none⟩ = some (.string x) := hc
  have hN : (x :: args).length = 1 := by simp [hl]
  rw [hN] at hv ⊢
  have hs2 : ¬ (200 : Int) < s.size := by omega
  have hv0 := Lib.hid hv
  have hu2 := Lib.hid u2
  clear hv hf hN u2
  go_wp2_with (first
    | (go_at_call 13; refine Calls.mono (rmany_some _ x _ hmem) ?_; rintro e w3 ⟨rfl, rfl⟩)
    | fail)
  have R0 : Hid (RSI w (w2.alloc (.cells #[.int .i64 0, .int .i64 0, .int .i64 0] 53)) (.slice (some ⟨g, o2, none⟩) 1 cap) (x :: args) w2.heap.size args 0 []) := ⟨hu2.out.alloc _, hv0.out.alloc _, arr3_row w2, hu2.out.size, rfl, rfl⟩
  clear hv0 hu2 hc lg hsi hs2
  generalize w2.alloc (.cells #[.int .i64 0, .int .i64 0, .int .i64 0] 53) = w4 at R0 ⊢
  generalize w2.heap.size = gb at R0 ⊢
  go_loopw [7] (fun i wr => ∃ (k j : Nat) (ns : List Int), k = j + 1 ∧ j ≤ 0 ∧ i = .int .i64 k ∧ Hid (RSI w wr (.slice (some ⟨g, o2, none⟩) 1 cap) (x :: args) gb args j ns)) (fun i _ => 1 - (intOf i).toNat)
  case atStart => exact ⟨1, 0, [], rfl, Nat.zero_le _, rfl, R0.out⟩
  case round =>
    clear R0
    obtain ⟨k, j, ns, hk, hj, rfl, hT⟩ := hrel
    by_cases hlt : j < 0
    · exact absurd hlt (by omega)
    · obtain rfl : j = 0 := by omega
      subst hk
      obtain ⟨lgr, hcells⟩ := srow_cell hT.out.sr
      have cx : _ = _ := hcells 0 x rfl
      have cx : wr.cell? ⟨g, o2, none⟩ = some (.string x) := cx
      have his := hT.out.is
      rw [List.take_of_length_le (by omega)] at his
      have HC0 := csayN_nums (H := H) (k := .scanall) his
      have hll := hT.out.len
      have a0 := hT.out.row.cell (i := 0) (by omega)
      have a1 := hT.out.row.cell (i := 1) (by omega)
      have a2 := hT.out.row.cell (i := 2) (by omega)
      have lb := hT.out.row.lt
      (try dsimp only at a0 a1 a2)
      have TT := Lib.hid (T.out.non hT.out.up)
      clear hT hcells his hll hlt hj
      generalize ns.getD 0 0 = a at a0 HC0
      generalize ns.getD 1 0 = b at a1 HC0
      generalize ns.getD 2 0 = c at a2 HC0
      have HC : csayN H .scanall args = ((hscanAll H).1, numS (hscanAll H).2) := HC0
      clear HC0
      have he := hscanAll_le H
      have hc := Lib.hid (fun W (r : RHRep W o m R H) => rscanAll_any r hI.out)
      generalize hscanAll H = y at he hc HC
      obtain ⟨H2, n⟩ := y
      have HC := Lib.hid HC
      unfold RHAllPost at hc
      (try dsimp only at he hc)
      go_wp2_with (first
        | (go_at_call 18; refine Calls.mono (hc.out _ TT.out.rep) ?_; rintro e w5 ⟨rfl, R5, s5⟩; have T5 := TT.out.trans s5)
        | (go_at_call 17; refine Calls.mono (rdecimal_any n n (Nat.le_refl _) (by omega) _) ?_; rintro e w6 ⟨rfl, u6⟩)
        | fail)
      go_ret
      exact ⟨by rw [HC.out]; rfl, _, by rw [HC.out]; exact T5.non u6⟩
end

end U
end Go.Proofs.YtnhplapcdgnaaaaGreatDoor
