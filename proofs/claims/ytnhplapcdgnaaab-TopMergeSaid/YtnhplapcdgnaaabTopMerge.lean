import Derived.Test.YtnhplapcdgnaaabMergeL
set_option linter.unusedVariables false
set_option linter.unusedSimpArgs false
namespace Go.Proofs.Ytnhplapcdgnaaab
open Go.RowKit
namespace U

/-! The law TopMerge. -/
structure MQ (w W : World) (h : Nat) (L : PoolAt) (K : Nat → GAt) (H : HostM) (ab : Nat) (vg : Value) (l : List Int) (S : Nat → ByteArray) : Prop where
  a : HW w W h L K H
  g : NRow W vg l
  q : Row W ab 36 64 (strs S)
  n : w.heap.size ≤ ab
theorem MQ.non {w W W' : World} {h : Nat} {L : PoolAt} {K : Nat → GAt} {H : HostM} {ab : Nat} {vg : Value} {l : List Int} {S : Nat → ByteArray} (t : MQ w W h L K H ab vg l S) (u : Upd Non W W') : MQ w W' h L K H ab vg l S :=
  ⟨t.a.non u, t.g.upd_ u (fun _ _ => (fun h => h)), t.q.upd_ u (fun h => h), t.n⟩
theorem MQ.told {w W W' : World} {h : Nat} {L : PoolAt} {K : Nat → GAt} {H : HostM} {ab : Nat} {vg : Value} {l : List Int} {S S' : Nat → ByteArray} (t : MQ w W h L K H ab vg l S) (u : Upd (at1 ab) W W') (q : Row W' ab 36 64 (strs S')) : MQ w W' h L K H ab vg l S' :=
  ⟨⟨t.a.r.upd_ u (fun k h1 h2 => by have h2 : k = ab := h2; subst h2; exact t.a.r.off t.q (by decide) (by decide) (by decide) (by decide) (by decide) (by decide) (by decide) (by decide) h1), t.a.n, t.a.up.over u (by rintro k rfl; exact t.n)⟩, t.g.upd_ u (fun k hk e => by have e : k = ab := e; subst e; exact t.g.ne_row t.q (by decide) hk), q, t.n⟩
theorem repl64s (i : Nat) (hi : i < 64) : (List.replicate 64 (Value.string ⟨#[]⟩)).toArray[i]? = some (.string ⟨#[]⟩) := by simp only [List.getElem?_toArray, List.getElem?_replicate, hi, if_true]
theorem MQ.start {w W : World} {h : Nat} {L : PoolAt} {K : Nat → GAt} {H : HostM} {vg : Value} {l : List Int} (a : HW w W h L K H) (g : NRow W vg l) :
    MQ w (W.alloc (.cells (List.replicate 64 (Value.string ⟨#[]⟩)).toArray 36)) h L K H W.heap.size vg l (fun _ => ⟨#[]⟩) :=
  ⟨a.non ((Upd.refl _ _).alloc _), g.alloc _, ⟨_, heap_alloc_new W _, by simp, fun i hi => repl64s i hi⟩, a.up.size⟩
theorem gl_len4 (H : HostM) : (gl H).length ≤ 4 := by
  unfold gl
  have := List.length_filter_le (fun n => (H.g n).isSome) (List.range 4)
  rwa [List.length_range] at this
theorem page_leaf {H : HostM} {n j : Nat} (hj : j < 16) {G : GuestM} (hg : H.g n = some G) : hleaf H (16 * n + j) = G.m.leaf j ∧ hrow H (16 * n + j) = mpage H.p G.m j := by
  unfold hleaf hrow
  rw [show (16 * n + j) / 16 = n by omega, hg, show (16 * n + j) % 16 = j by omega]
  exact ⟨rfl, rfl⟩
set_option maxRecDepth 100000 in
set_option maxHeartbeats 8000000 in
theorem topMerge_go (w : World) (k : Nat) (hn1 : 1 ≤ (k : Int)) (hn2 : (k : Int) ≤ 64) (Ad : Option Addr) (cap : Nat) (l : List ActM) (hl : ActsAt w Ad l) (h100 : (l.length : Int) ≤ 100) :
    Calls Try.prog 3 #[.int .i64 k, .slice Ad l.length cap] w fun e w' => e = .returned (.bool true) ∧ Upd Non w w' := by
  have K0 : Nat → GAt := fun _ => ⟨0, 0, 0, undef⟩
  go_enter Try.func3, Try.ntmps3
  go_wp2_with (first
    | (go_at_call 6; refine (light_law _ _ _ _ _).mono ?_; rintro e w3 ⟨rfl, rfl⟩)
    | (go_at_call 5; refine (hnew_ok w k (by omega) (by omega) K0).mono ?_; rintro e w1 ⟨h, L, rfl, r1, n1, u1⟩)
    | fail)
  have T0 : Hid (HW w w1 h L K0 (HostM.fresh k)) := ⟨r1, n1, u1⟩
  clear r1 n1 u1
  go_loopw [7] (fun i wr => ∃ (q : Nat) (K : Nat → GAt) (H : HostM), q ≤ l.length ∧ i = .int .i64 q ∧ Hid (HW w wr h L K H) ∧ Hid (HFine H ∧ H.p.n = k)) (fun i _ => l.length - (intOf i).toNat)
  case atStart => exact ⟨0, _, _, Nat.zero_le _, rfl, T0.out, HFine.fresh k, rfl⟩
  case round =>
    clear T0
    obtain ⟨q, K, H, hq, rfl, hT, HI⟩ := hrel
    by_cases hlt : q < l.length
    · obtain ⟨b, oo, rfl, hb, hx⟩ : ∃ b oo, Ad = some ⟨b, oo, none⟩ ∧ b < w.heap.size ∧ ∀ i x, l[i]? = some x → ActAt w b (oo + i * 6) x := by
        rcases hl with rfl | h
        · simp at hlt
        · exact h
      have ha := (hx q l[q] (List.getElem?_eq_getElem hlt)).upd_ hT.out.up (fun h => h)
      clear hx hl
      generalize l[q] = x at ha
      have T := hT.out
      have hf2 := HI.out.1.did (kindOf x.kind) x
      have hn3 := (hdid_n HI.out.1.inv (kindOf x.kind) x).trans HI.out.2
      have hd := did_any T.r HI.out.1.inv x
      generalize hdid H (kindOf x.kind) x = Y at hf2 hn3 hd
      obtain ⟨H2, y, er⟩ := Y
      dsimp only at hf2 hn3
      unfold DidPost at hd
      dsimp only at hd
      obtain ⟨kind, xn, xa, xb, xv, on⟩ := x
      obtain ⟨a0, a1, a2, a3, a4, a5⟩ := ha
      dsimp only at a0 a1 a2 a3 a4 a5 hd
      have HD := Lib.hid hd
      have HF := Lib.hid hf2
      have HN := Lib.hid hn3
      have TT := Lib.hid T
      clear hd hf2 hn3
      go_wp2_with (first
        | (go_at_call 7; refine HD.out.mono ?_; rintro e w4 ⟨rfl, K2, t4⟩; have T4 := TT.out.act t4)
        | fail)
      go_roundw
      case rel => exact ⟨q + 1, _, _, by omega, by go_num, T4, HF.out, HN.out⟩
      case measure => simp [intOf]; omega
    · have hm := merge_law HI.out.1
      have hsc := hscanAll_any hT.out.r HI.out.1.inv
      have hfn : HFine (hscanAll H).1 := HI.out.1.scanAll
      have hpn : (hscanAll H).1.p.n = H.p.n := hscanAll_n HI.out.1.inv
      generalize hscanAll H = X at hm hsc hfn hpn
      obtain ⟨H2, cnt⟩ := X
      dsimp only at hm hfn hpn
      obtain ⟨hM, hle, h2⟩ := hm
      unfold HAllPost at hsc
      dsimp only at hsc
      have HSC := Lib.hid hsc
      have HM := Lib.hid hM
      have H22 := Lib.hid h2
      have T := Lib.hid hT.out
      have HF2 := Lib.hid hfn
      have hnk : H2.p.n ≤ 64 := by rw [hpn, HI.out.2]; omega
      have hle2 : ((H.p.left : Nat) : Int) ≤ (H2.p.left : Nat) := by omega
      clear hM h2 hT hsc hfn hle
      go_upto_region 12 with (first
        | (go_at_call 8; refine (hleft_any T.out.r).mono ?_; rintro e w5 ⟨rfl, rfl⟩)
        | (go_at_call 9; refine HSC.out.mono ?_; rintro e w6 ⟨rfl, K2, t2⟩; have T2 := T.out.act t2)
        | fail)
      have TT2 := Lib.hid T2
      clear T2 t2
      go_upto_region 16 with (first
        | (go_at_call 8; refine (hleft_any TT2.out.r).mono ?_; rintro e w7 ⟨rfl, rfl⟩)
        | (go_at_call 9; refine (hscanAll_any TT2.out.r HF2.out.inv).mono ?_; rw [H22.out]; unfold HAllPost; rintro e w8 ⟨rfl, K3, t3⟩; have T3 := Lib.hid (TT2.out.act t3))
        | (go_at_call 10; refine (hguests_any T3.out.r).mono ?_; rintro e w9 ⟨vg, rfl, g9, f9, u9⟩; have T9 := Lib.hid (T3.out.non u9))
        | fail)
      obtain ⟨Ag, capg, rfl⟩ := g9.form
      have hgl := gl_len4 H2
      have hli : Hid ((ints_of (gl H2)).length = (gl H2).length) := by show _ = _; unfold ints_of; rw [List.length_map]
      rw [hli.out] at g9 ⊢
      have Q0 := Lib.hid (MQ.start T9.out g9)
      clear g9 f9 u9
      generalize w9.heap.size = ab at Q0 ⊢
      go_wp2_with fail
      go_loopw [12] (fun i wi => ∃ q2 : Nat, q2 ≤ (gl H2).length ∧ i = .int .i64 q2 ∧ Hid (∃ S, MQ w wi h L K3 H2 ab (.slice Ag (gl H2).length capg) (ints_of (gl H2)) S ∧ TI H2 S)) (fun i _ => (gl H2).length - (intOf i).toNat)
      case atStart => exact ⟨0, Nat.zero_le _, rfl, _, Q0.out, TI.nil H2⟩
      case round =>
        clear Q0
        obtain ⟨q2, hq2, rfl, hI⟩ := hrel
        by_cases hlt2 : q2 < (gl H2).length
        · as_aux_lemma =>
            obtain ⟨nn, hnn⟩ : ∃ nn, (gl H2)[q2] = nn := ⟨_, rfl⟩
            obtain ⟨hn4, G, hg⟩ := gl_mem (H := H2) (n := (gl H2)[q2]) (List.getElem_mem hlt2)
            rw [hnn] at hn4 hg
            have hin : ∀ W, NRow W (.slice Ag (gl H2).length capg) (ints_of (gl H2)) → ∃ g o, Ag = some ⟨g, o, none⟩ ∧ g < W.heap.size ∧ W.cell? ⟨g, o + q2, none⟩ = some (.int .i64 (nn : Int)) := fun W hN => by
              obtain ⟨g, o, cap', hv, hgW, hc⟩ := hN.at_ (i := q2) (by rw [hli.out]; exact hlt2)
              obtain ⟨rfl, _⟩ : Ag = some ⟨g, o, none⟩ ∧ _ := by simpa using hv
              refine ⟨g, o, rfl, hgW, ?_⟩
              rw [hc]
              unfold ints_of
              rw [List.getElem_map, hnn]
            obtain ⟨S0, M0, _⟩ := hI.out
            obtain ⟨g, o, rfl, _, _⟩ := hin _ M0.g
            have hc : Hid (∀ W, NRow W (.slice (some ⟨g, o, none⟩) (gl H2).length capg) (ints_of (gl H2)) → g < W.heap.size ∧ W.cell? ⟨g, o + q2, none⟩ = some (.int .i64 (nn : Int))) := fun W hN => by
              obtain ⟨g', o', e, h1, h2⟩ := hin W hN
              obtain ⟨rfl, rfl⟩ : g = g' ∧ o = o' := by simpa using e
              exact ⟨h1, h2⟩
            clear hin hnn M0
            go_wp2_with fail
            go_loopw [13] (fun k wi => ∃ j : Nat, j ≤ 16 ∧ k = .int .i64 j ∧ Hid (∃ S, MQ w wi h L K3 H2 ab (.slice (some ⟨g, o, none⟩) (gl H2).length capg) (ints_of (gl H2)) S ∧ TI H2 S)) (fun k _ => 16 - (intOf k).toNat)
            case atStart => exact ⟨0, Nat.zero_le _, rfl, hI.out⟩
            case round =>
              clear hI
              obtain ⟨j, hj, rfl, hJ⟩ := hrel
              by_cases hjl : j < 16
              · have hj2 : (j : Int) < 16 := by omega
                obtain ⟨S, M, tI⟩ := hJ.out
                clear hJ
                have cg := (hc.out _ M.g).2
                have lg := (hc.out _ M.g).1
                have rM := Lib.hid M
                have TT := Lib.hid tI
                have hlf0 := mleaf_in (M := G.m) hjl
                have hin := leaf_in HF2.out.inv hn4 hg hjl hnk
                have hpl := page_leaf hjl hg
                cases hlf : G.m.leaf j with
                | mk there wrt fr =>
                rw [hlf] at hlf0 hin hpl
                dsimp only at hin
                have HL := Lib.hid hlf0
                obtain ⟨f0, f1, f2⟩ := hin
                clear hlf0 hlf tI
                cases there with
                | false =>
                  clear hpl f2
                  go_wp2_with (first
                    | (go_at_call 11; refine (hleafC_some rM.out.a.r hn4 hg (j : Int)).mono ?_; rw [HL.out]; rintro e w6 ⟨rfl, u6⟩; unfold LeafM.val errv; have M6 := (rM.out.non u6))
                    | fail)
                  go_roundw
                  case rel => first | exact ⟨j + 1, by omega, by go_num, S, M6.non ((Upd.refl _ _).alloc _), TT.out⟩ | ((repeat apply Exists.intro); refine ⟨?_, rfl⟩; exact ⟨j + 1, by omega, by go_num, S, M6.non ((Upd.refl _ _).alloc _), TT.out⟩)
                  case measure => simp [intOf]; omega
                | true =>
                  have hst := f2 rfl
                  have told := TT.out.told (k := 16 * nn + j) (by omega) (by rw [hpl.1]) (f := fr.toNat) (by rw [hpl.1]; show fr = _; omega) (by omega)
                  rw [hpl.2] at told
                  have HT := Lib.hid told
                  have hal := Lib.hid (fun W (r : HRep W h L K3 H2) (q : Row W ab 36 64 (strs S)) => alike_any r HF2.out hn4 hg hjl hst f0 f1 q)
                  rw [HT.out.1] at hal
                  clear told hpl f2 hst
                  go_upto_region 24 with (first
                    | (go_at_call 11; refine (hleafC_some rM.out.a.r hn4 hg (j : Int)).mono ?_; rw [HL.out]; rintro e w6 ⟨rfl, u6⟩; unfold LeafM.val errv; have M6 := ((rM.out.non u6).non ((Upd.refl Non w6).alloc (.cells #[.bool true, .bool wrt, .int .i64 fr] 38))); have bx := HBox.new w6 true wrt fr)
                    | fail)
                  clear cg lg u6
                  generalize w6.alloc (.cells #[.bool true, .bool wrt, .int .i64 fr] 38) = wA at M6 bx ⊢
                  generalize w6.heap.size = Bx at bx ⊢
                  have cg6 := (hc.out _ M6.g).2
                  have lg6 := (hc.out _ M6.g).1
                  have b2 := bx.c2
                  have lb := bx.lt
                  dsimp only at b2
                  have Md := Lib.hid (M6.non ((Upd.refl Non _).drew))
                  clear M6 bx
                  go_still_tail 8, (by kernel_rfl)
                  change wpList _ _ _ _ _ (World.drew _)
                  have hz := Lib.hid (hal.out _ Md.out.a.r Md.out.q)
                  clear hal
                  go_wp2_with (first
                    | (go_at_call 12; refine Calls.mono hz.out ?_; rintro e w7 ⟨rfl, q7, u7⟩; have M7 := Md.out.told u7 q7)
                    | fail)
                  all_goals go_roundw
                  all_goals first
                    | exact ⟨j + 1, by omega, by go_num, _, M7, HT.out.2⟩
                    | ((repeat apply Exists.intro); refine ⟨?_, rfl⟩; exact ⟨j + 1, by omega, by go_num, _, M7, HT.out.2⟩)
                    | (simp [intOf]; omega)
              · have hj3 : ¬ (j : Int) < 16 := by omega
                have HJ := Lib.hid hJ.out
                clear hJ
                go_wp2_with fail
                go_roundw
                case rel => first | exact ⟨q2 + 1, by omega, by go_num, HJ.out⟩ | ((repeat apply Exists.intro); refine ⟨?_, rfl⟩; exact ⟨q2 + 1, by omega, by go_num, HJ.out⟩)
                case measure => simp [intOf]; omega
        · as_aux_lemma =>
            obtain ⟨S, M, tI⟩ := hI.out
            have QU := Lib.hid (And.intro M.q M.a.up)
            have TI2 := Lib.hid tI
            have hk64 : k ≤ 64 := by omega
            obtain rfl : q2 = (gl H2).length := by omega
            clear hI M tI
            go_wp2_with fail
            go_loopw [17] (fun i wi => ∃ f : Nat, f ≤ k ∧ i = .int .i64 f ∧ Hid (Row wi ab 36 64 (strs S) ∧ Upd Non w wi)) (fun i _ => k - (intOf i).toNat)
            case atStart => exact ⟨0, Nat.zero_le _, rfl, QU.out⟩
            case round =>
              obtain ⟨f, hf, rfl, hN⟩ := hrel
              by_cases hfk : f < k
              · have hfk2 : (f : Int) < (k : Int) := by omega
                go_wp2_with fail
                go_loopw [18] (fun i wi => ∃ g : Nat, g ≤ f ∧ i = .int .i64 g ∧ Hid (Row wi ab 36 64 (strs S) ∧ Upd Non w wi)) (fun i _ => f - (intOf i).toNat)
                case atStart => exact ⟨0, Nat.zero_le _, rfl, hN.out⟩
                case round =>
                  clear hN
                  obtain ⟨g, hg, rfl, hN⟩ := hrel
                  by_cases hgf : g < f
                  · have hgf2 : (g : Int) < (f : Int) := by omega
                    have QD := hN.out.1
                    have HN := Lib.hid hN.out
                    have cf := QD.cell (i := f) (by omega)
                    have cg := QD.cell (i := g) (by omega)
                    unfold strs at cf cg
                    have lq := QD.lt
                    have f64 : (f : Int) < 64 := by omega
                    have g64 : (g : Int) < 64 := by omega
                    cases hS : (S f).toList.isEmpty with
                    | true =>
                      have hS2 : (!(S f).toList.isEmpty) = false := by rw [hS]; rfl
                      clear hN QD
                      go_upto_region 33 with fail
                      go_quiet (fail)
                      go_wp2_with fail
                      go_roundw
                      case rel => first | exact ⟨g + 1, by omega, by go_num, HN.out.1.drewN _, HN.out.2.drewN _⟩ | ((repeat apply Exists.intro); refine ⟨?_, rfl⟩; exact ⟨g + 1, by omega, by go_num, HN.out.1.drewN _, HN.out.2.drewN _⟩)
                      case measure => simp [intOf]; omega
                    | false =>
                      have hS2 : (!(S f).toList.isEmpty) = true := by rw [hS]; rfl
                      have hap := TI2.out.apart HM.out (f := f) (g := g) (by omega) hgf hS
                      clear hN QD
                      go_upto_region 33 with fail
                      go_quiet (fail)
                      go_wp2_with fail
                      go_roundw
                      case rel => first | exact ⟨g + 1, by omega, by go_num, HN.out.1.drewN _, HN.out.2.drewN _⟩ | ((repeat apply Exists.intro); refine ⟨?_, rfl⟩; exact ⟨g + 1, by omega, by go_num, HN.out.1.drewN _, HN.out.2.drewN _⟩)
                      case measure => simp [intOf]; omega
                  · have hgf3 : ¬ (g : Int) < (f : Int) := by omega
                    have HN := Lib.hid hN.out
                    clear hN
                    go_wp2_with fail
                    go_roundw
                    case rel => first | exact ⟨f + 1, by omega, by go_num, HN.out⟩ | ((repeat apply Exists.intro); refine ⟨?_, rfl⟩; exact ⟨f + 1, by omega, by go_num, HN.out⟩)
                    case measure => simp [intOf]; omega
              · have hfk3 : ¬ (f : Int) < (k : Int) := by omega
                have HN := Lib.hid hN.out
                clear hN
                go_wp2_with fail
                go_ret
                exact ⟨rfl, HN.out.2⟩
set_option maxRecDepth 100000 in
set_option maxHeartbeats 400000 in
theorem topMerge_law (w : World) (n : Int) (A : Option Addr) (cap : Nat) (l : List ActM) (hl : ActsAt w A l) :
    Calls Try.prog 3 #[.int .i64 n, .slice A l.length cap] w fun e w' => e = .returned (.bool true) ∧ Upd Non w w' := by
  have hz : Hid (errv 1 = .iface 61 (.int .i64 1)) := rfl
  by_cases h1 : n < 1
  · go_enter Try.func3, Try.ntmps3
    go_wp2_with (first
      | (go_at_call 5; refine (hnew_bad _ n (.inl h1)).mono ?_; rw [hz.out]; rintro e w1 ⟨rfl, rfl⟩))
    go_ret
    exact ⟨rfl, Upd.refl _ _⟩
  · by_cases h2 : 64 < n
    · go_enter Try.func3, Try.ntmps3
      go_wp2_with (first
        | (go_at_call 5; refine (hnew_bad _ n (.inr h2)).mono ?_; rw [hz.out]; rintro e w1 ⟨rfl, rfl⟩))
      go_ret
      exact ⟨rfl, Upd.refl _ _⟩
    · obtain ⟨k, rfl⟩ := Int.eq_ofNat_of_zero_le (by omega : 0 ≤ n)
      by_cases h100 : (l.length : Int) ≤ 100
      · exact topMerge_go w k (by omega) (by omega) A cap l hl h100
      · have K0 : Nat → GAt := fun _ => ⟨0, 0, 0, undef⟩
        have hd := Lib.hid (show decide ((l.length : Int) ≤ 100) = false from decide_eq_false (by omega))
        go_enter Try.func3, Try.ntmps3
        go_wp2_with (first
          | (go_at_call 5; refine (hnew_ok w k (by omega) (by omega) K0).mono ?_; rintro e w1 ⟨h, L, rfl, r1, n1, u1⟩)
          | (go_at_call 6; refine (light_law _ _ _ _ _).mono ?_; rw [hd.out]; rintro e w3 ⟨rfl, rfl⟩))
        go_ret
        exact ⟨rfl, u1⟩

end U
end Go.Proofs.Ytnhplapcdgnaaab
