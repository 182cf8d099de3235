import Derived.Test.YtnhplapcdgnaaaaFlatC
import Derived.Test.YtnhplapcdgnaaaaFlatE
set_option linter.unusedVariables false
set_option linter.unusedSimpArgs false
namespace Go.Proofs.Ytnhplapcdgnaaaa
open Go.RowKit
namespace U

/-! The law TopFlat (written by gen_topflat.py). -/
theorem wpl_buildF {P : Program} {ops : Array Oper} {rest : List Oper} {o : Oper} {a : Act} {w : World} {Q : Exit → Act → World → Prop} (hg : o.guard = none) (ty : TypeId) (parts : Array (Nat × Operand))
    (ho : o.op = .build ty parts) (vals : Array (Nat × Value)) (hv : (parts.map fun (i, x) => (i, a.eval x)) = vals) (v : Value) (hl : (Instr.build ty vals).run P w = .ok v w) (h : wpList P ops Q rest (a.put o.dst v) w) : wpList P ops Q (o :: rest) a w := by
  refine wpList_plain hg fun K hK => ?_
  unfold Oper.wp execOp
  simp only [ho, hv, Sem.run_bind, hl, Result.andThen_ok, Sem.run_pure, Oper.upon_value]
  exact hK _ _ h
theorem wpl_moveF {P : Program} {ops : Array Oper} {rest : List Oper} {o : Oper} {a : Act} {w : World} {Q : Exit → Act → World → Prop} (hg : o.guard = none) (x : Operand) (ho : o.op = .move x) (v : Value) (hx : a.eval x = v)
    (h : wpList P ops Q rest (a.put o.dst v) w) : wpList P ops Q (o :: rest) a w := by
  refine wpList_plain hg fun K hK => ?_
  unfold Oper.wp execOp
  simp only [ho, hx, Sem.run_bind, Result.andThen_ok, Sem.run_pure, Oper.upon_value]
  exact hK _ _ h
def flatC : List Value := (List.range 274).map (fcells ViewM.fresh (.slice none 0 0))
theorem build_flat (w : World) : (Instr.build 122 #[(2, .int .i64 (-1))]).run Try.prog w = .ok (.agg flatC.toArray) w := by kernel_rfl
theorem flat_new (w : World) : FRep (w.alloc (.cells flatC.toArray 122)) w.heap.size (.slice none 0 0) ViewM.fresh := by
  refine ⟨⟨_, heap_alloc_new w _, by unfold flatC; simp, fun i hi => ?_⟩, ERow.nil⟩
  have hi : i < 274 := hi
  unfold flatC
  rw [List.getElem?_toArray, List.getElem?_map, List.getElem?_range hi]
  rfl
theorem not_add {s : ByteArray} {h : HK} (hk : kindOf s = h) (hn : h ≠ .add) : (s.toList == [97, 100, 100]) = false := by
  cases e : (s.toList == [97, 100, 100]) with
  | false => rfl
  | true => exact absurd ((kind_add e).symm.trans hk).symm hn
theorem not_remove {s : ByteArray} {h : HK} (hk : kindOf s = h) (hn : h ≠ .remove) : (s.toList == [114, 101, 109, 111, 118, 101]) = false := by
  cases e : (s.toList == [114, 101, 109, 111, 118, 101]) with
  | false => rfl
  | true => exact absurd ((kind_remove e).symm.trans hk).symm hn
theorem kind_not_add {s : ByteArray} (h : (s.toList == [97, 100, 100]) = false) : kindOf s ≠ .add := by
  unfold kindOf kindL
  rw [if_neg (by rw [h]; simp)]
  by_cases h_remove : (s.toList == [114, 101, 109, 111, 118, 101]) = true
  · rw [if_pos h_remove]; intro e; cases e
  rw [if_neg h_remove]
  by_cases h_plug : (s.toList == [112, 108, 117, 103]) = true
  · rw [if_pos h_plug]; intro e; cases e
  rw [if_neg h_plug]
  by_cases h_unplug : (s.toList == [117, 110, 112, 108, 117, 103]) = true
  · rw [if_pos h_unplug]; intro e; cases e
  rw [if_neg h_unplug]
  by_cases h_give : (s.toList == [103, 105, 118, 101]) = true
  · rw [if_pos h_give]; intro e; cases e
  rw [if_neg h_give]
  by_cases h_back : (s.toList == [98, 97, 99, 107]) = true
  · rw [if_pos h_back]; intro e; cases e
  rw [if_neg h_back]
  by_cases h_load : (s.toList == [108, 111, 97, 100]) = true
  · rw [if_pos h_load]; intro e; cases e
  rw [if_neg h_load]
  by_cases h_store : (s.toList == [115, 116, 111, 114, 101]) = true
  · rw [if_pos h_store]; intro e; cases e
  rw [if_neg h_store]
  by_cases h_root : (s.toList == [114, 111, 111, 116]) = true
  · rw [if_pos h_root]; intro e; cases e
  rw [if_neg h_root]
  by_cases h_forget : (s.toList == [102, 111, 114, 103, 101, 116]) = true
  · rw [if_pos h_forget]; intro e; cases e
  rw [if_neg h_forget]
  by_cases h_drop : (s.toList == [100, 114, 111, 112]) = true
  · rw [if_pos h_drop]; intro e; cases e
  rw [if_neg h_drop]
  by_cases h_scan : (s.toList == [115, 99, 97, 110]) = true
  · rw [if_pos h_scan]; intro e; cases e
  rw [if_neg h_scan]
  by_cases h_scanall : (s.toList == [115, 99, 97, 110, 97, 108, 108]) = true
  · rw [if_pos h_scanall]; intro e; cases e
  rw [if_neg h_scanall]
  intro e; cases e
theorem kind_not_remove {s : ByteArray} (h : (s.toList == [114, 101, 109, 111, 118, 101]) = false) : kindOf s ≠ .remove := by
  unfold kindOf kindL
  by_cases h_add : (s.toList == [97, 100, 100]) = true
  · rw [if_pos h_add]; intro e; cases e
  rw [if_neg h_add]
  rw [if_neg (by rw [h]; simp)]
  by_cases h_plug : (s.toList == [112, 108, 117, 103]) = true
  · rw [if_pos h_plug]; intro e; cases e
  rw [if_neg h_plug]
  by_cases h_unplug : (s.toList == [117, 110, 112, 108, 117, 103]) = true
  · rw [if_pos h_unplug]; intro e; cases e
  rw [if_neg h_unplug]
  by_cases h_give : (s.toList == [103, 105, 118, 101]) = true
  · rw [if_pos h_give]; intro e; cases e
  rw [if_neg h_give]
  by_cases h_back : (s.toList == [98, 97, 99, 107]) = true
  · rw [if_pos h_back]; intro e; cases e
  rw [if_neg h_back]
  by_cases h_load : (s.toList == [108, 111, 97, 100]) = true
  · rw [if_pos h_load]; intro e; cases e
  rw [if_neg h_load]
  by_cases h_store : (s.toList == [115, 116, 111, 114, 101]) = true
  · rw [if_pos h_store]; intro e; cases e
  rw [if_neg h_store]
  by_cases h_root : (s.toList == [114, 111, 111, 116]) = true
  · rw [if_pos h_root]; intro e; cases e
  rw [if_neg h_root]
  by_cases h_forget : (s.toList == [102, 111, 114, 103, 101, 116]) = true
  · rw [if_pos h_forget]; intro e; cases e
  rw [if_neg h_forget]
  by_cases h_drop : (s.toList == [100, 114, 111, 112]) = true
  · rw [if_pos h_drop]; intro e; cases e
  rw [if_neg h_drop]
  by_cases h_scan : (s.toList == [115, 99, 97, 110]) = true
  · rw [if_pos h_scan]; intro e; cases e
  rw [if_neg h_scan]
  by_cases h_scanall : (s.toList == [115, 99, 97, 110, 97, 108, 108]) = true
  · rw [if_pos h_scanall]; intro e; cases e
  rw [if_neg h_scanall]
  intro e; cases e
theorem hdid_in {H : HostM} {n : Nat} {G : GuestM} (hn : n < 4) (hg : H.g n = some G) {x : ActM} (e : x.n = n) (k : HK) :
    ((k = .plug ∨ k = .unplug) → (hdid H k x).2.2 = 0 → 0 ≤ x.a ∧ x.a ≤ 3) ∧ ((k = .give ∨ k = .back) → (hdid H k x).2.2 = 0 → 0 ≤ x.a ∧ x.a < 16) := by
  refine ⟨?_, ?_⟩
  · rintro (rfl | rfl) h
    · have h2 : (hplug H x.n x.a).2 = 0 := h
      unfold hplug at h2
      rw [e, hon_some hn hg] at h2
      unfold hplugF at h2
      by_cases hb : x.a < 0 ∨ 3 < x.a
      · rw [if_pos hb] at h2; cases h2
      · omega
    · have h2 : (hunplug H x.n x.a).2 = 0 := h
      unfold hunplug at h2
      rw [e, hon_some hn hg] at h2
      unfold hunplugF at h2
      by_cases hb : x.a < 0 ∨ 3 < x.a
      · rw [if_pos hb] at h2; cases h2
      · omega
  · rintro (rfl | rfl) h
    · have h2 : (hgive H x.n x.a).2 = 0 := h
      unfold hgive at h2
      rw [e, hon_some hn hg] at h2
      unfold gact mgive at h2
      by_cases hb : onB x.a = true
      · have := onB_iff.1 hb; omega
      · rw [if_neg hb] at h2; cases h2
    · have h2 : (hback H x.n x.a).2 = 0 := h
      unfold hback at h2
      rw [e, hon_some hn hg] at h2
      unfold hbackF gact mback at h2
      by_cases hb : onB x.a = true
      · have := onB_iff.1 hb; omega
      · rw [if_neg (fun h => hb h.1), if_neg hb] at h2; cases h2
section
variable {H : HostM} {F : Nat → Option ViewM}
theorem Flats.add2 (t : Flats H F) (x : ActM) : (∃ (H2 : HostM) (n : Nat), hdid H .add x = (H2, (n : Int), 0) ∧ n < 4 ∧ F n = none ∧ Flats H2 (setF F n (some ViewM.fresh))) ∨ ∃ H2 y er, hdid H .add x = (H2, y, er) ∧ er ≠ 0 ∧ Flats H2 F := by
  by_cases he : (hadd H).2.2 = 0
  · obtain ⟨n, hn, h1, h2, h3⟩ := t.add he
    exact .inl ⟨(hadd H).1, n, Prod.ext rfl (Prod.ext h1 he), hn, h2, h3⟩
  · exact .inr ⟨(hadd H).1, (hadd H).2.1, (hadd H).2.2, rfl, he, t.noAdd he⟩
theorem Flats.remove2 (t : Flats H F) (x : ActM) : (∃ (H2 : HostM) (n : Nat), hdid H .remove x = (H2, 0, 0) ∧ n < 4 ∧ x.n = n ∧ Flats H2 (setF F n none)) ∨ ∃ H2 er, hdid H .remove x = (H2, 0, er) ∧ er ≠ 0 ∧ Flats H2 F := by
  by_cases he : (hremove H x.n).2 = 0
  · obtain ⟨n, hn, h1, h3⟩ := t.remove he
    exact .inl ⟨(hremove H x.n).1, n, Prod.ext rfl (Prod.ext rfl he), hn, h1, h3⟩
  · exact .inr ⟨(hremove H x.n).1, (hremove H x.n).2, rfl, he, t.noRemove he⟩
theorem Flats.rest2 (t : Flats H F) (k : HK) (x : ActM) (h1 : k ≠ .add) (h2 : k ≠ .remove) (ho : k.own = false) : ∃ H2 y er, hdid H k x = (H2, y, er) ∧ Flats H2 F := by
  cases k with
  | add => exact absurd rfl h1
  | remove => exact absurd rfl h2
  | scan => exact ⟨(hscan H x.n x.a).1, 0, (hscan H x.n x.a).2.2, rfl, t.scan _ _⟩
  | scanall => exact ⟨(hscanAll H).1, 0, 0, hdid_scanall H x, t.scanAll⟩
  | other => exact ⟨H, 0, 0, rfl, t⟩
  | plug => cases ho
  | unplug => cases ho
  | give => cases ho
  | back => cases ho
  | load => cases ho
  | store => cases ho
  | root => cases ho
  | forget => cases ho
  | drop => cases ho
theorem Flats.ownNot2 (t : Flats H F) (k : HK) (x : ActM) (hn : ∀ n : Nat, n < 4 → x.n = n → F n = none) (ho : k.own = true) : ∃ H2 y er, hdid H k x = (H2, y, er) ∧ Flats H2 F :=
  ⟨_, _, _, rfl, t.ownNot hn ho⟩
theorem Flats.own2 (t : Flats H F) (k : HK) (x : ActM) {n : Nat} {V : ViewM} (hn : n < 4) (e : x.n = n) (hV : F n = some V) (ho : k.own = true) :
    ∃ H2 y er V2, hdid H k x = (H2, y, er) ∧ vdid V k x (y, er) = (V2, y, er) ∧ er ≠ 3 ∧ VInv V ∧ Flats H2 (setF F n (some V2)) ∧ ((k = .plug ∨ k = .unplug) → er = 0 → 0 ≤ x.a ∧ x.a ≤ 3) ∧ ((k = .give ∨ k = .back) → er = 0 → 0 ≤ x.a ∧ x.a < 16) := by
  obtain ⟨h1, h2, h3, h4⟩ := t.own hn e hV ho
  obtain ⟨G, hg, _⟩ := t.see n hn V hV
  exact ⟨_, _, _, (vdid V k x (hdid H k x).2).1, rfl, Prod.ext rfl h1.symm, h2, h3, h4, hdid_in hn hg e k⟩
theorem TF.start {w w1 : World} {h : Nat} {L : PoolAt} {K : Nat → GAt} {H : HostM} (r : HRep w1 h L K H) (n : ∀ k, ownH h L K H k → w.heap.size ≤ k) (u : Upd Non w w1) (A : Nat → Nat × Value) :
    TF w (w1.alloc (.cells #[.pointer none, .pointer none, .pointer none, .pointer none] 118)) h w1.heap.size L K H A (fun _ => none) := by
  refine ⟨⟨r.non ((Upd.refl _ _).alloc _), n, u.alloc _⟩, (Row.new w1 118 #[.pointer none, .pointer none, .pointer none, .pointer none]).congr fun i hi => ?_, fun i hi V hV => (by cases hV), fun i j hi hj hij si sj => (by cases si), fun i hi si => (by cases si), fun i hi si => (by cases si), u.size⟩
  have hi : i < 4 := hi
  have : i = 0 ∨ i = 1 ∨ i = 2 ∨ i = 3 := by omega
  rcases this with rfl | rfl | rfl | rfl <;> rfl
end
set_option maxRecDepth 100000 in
set_option maxHeartbeats 8000000 in
theorem topFlat_go (w : World) (k : Nat) (hn1 : 1 ≤ (k : Int)) (hn2 : (k : Int) ≤ 64) (Ad : Option Addr) (cap : Nat) (l : List ActM) (hl : ActsAt w Ad l) (h100 : (l.length : Int) ≤ 100) :
    Calls Try.prog 10 #[.int .i64 k, .slice Ad l.length cap] w fun e w' => e = .returned (.bool true) ∧ Upd Non w w' := by
  have K0 : Nat → GAt := fun _ => ⟨0, 0, 0, undef⟩
  have A0 : Nat → Nat × Value := fun _ => (0, undef)
  go_enter Try.func10, Try.ntmps10
  go_wp2_with (first
    | (go_at_call 13; refine (light_law _ _ _ _ _).mono ?_; rintro e w3 ⟨rfl, rfl⟩)
    | (go_at_call 69; refine (hnew_ok w k (by omega) (by omega) K0).mono ?_; rintro e w1 ⟨h, L, rfl, r1, n1, u1⟩)
    | fail)
  have T0 := Lib.hid (TF.start r1 n1 u1 A0)
  clear r1 n1 u1
  generalize w1.heap.size = fb at T0 ⊢
  go_loopw [8] (fun i wr => ∃ (q : Nat) (K : Nat → GAt) (H : HostM) (A : Nat → Nat × Value) (F : Nat → Option ViewM), q ≤ l.length ∧ i = .int .i64 q ∧ Hid (TF w wr h fb L K H A F) ∧ Hid (Flats H F)) (fun i _ => l.length - (intOf i).toNat)
  case atStart => exact ⟨0, _, _, _, _, Nat.zero_le _, rfl, T0.out, Flats.fresh k⟩
  case round =>
    clear T0
    obtain ⟨q, K, H, A, F, hq, rfl, hT, HI⟩ := hrel
    by_cases hlt : q < l.length
    · obtain ⟨b, oo, rfl, hb, hx⟩ : ∃ b oo, Ad = some ⟨b, oo, none⟩ ∧ b < w.heap.size ∧ ∀ i x, l[i]? = some x → ActAt w b (oo + i * 6) x := by
        rcases hl with rfl | h
        · simp at hlt
        · exact h
      have ha := (hx q l[q] (List.getElem?_eq_getElem hlt)).upd_ hT.out.a.up (fun h => h)
      clear hx hl
      generalize l[q] = x at ha
      obtain ⟨kind, xn, xa, xb, xv, on⟩ := x
      obtain ⟨a0, a1, a2, a3, a4, a5⟩ := ha
      dsimp only at a0 a1 a2 a3 a4 a5
      have T := hT.out
      have X0 := ARow.new wr ⟨kind, xn, xa, xb, xv, on⟩
      have TA := T.alloc (.cells #[.string kind, .int .i64 xn, .int .i64 xa, .int .i64 xb, .int .u8 xv.toNat, .bool on] 31)
      dsimp only at X0
      have cH := Lib.hid (show ∀ W, HRep W h L K H → Calls Try.prog 70 #[.pointer (some ⟨h, 0, none⟩), .agg #[.string kind, .int .i64 xn, .int .i64 xa, .int .i64 xb, .int .u8 xv.toNat, .bool on]] W (DidPost W h L K H (hdid H (kindOf kind) ⟨kind, xn, xa, xb, xv, on⟩)) from fun W r => did_any r HI.out.fine.inv ⟨kind, xn, xa, xb, xv, on⟩)
      go_upto_region 11 with fail
      have y0 := X0.a0
      have y1 := X0.a1
      have y2 := X0.a2
      have y3 := X0.a3
      have y4 := X0.a4
      have y5 := X0.a5
      have lx := X0.lt
      clear a0 a1 a2 a3 a4 a5 T
      generalize wr.alloc (.cells #[.string kind, .int .i64 xn, .int .i64 xa, .int .i64 xb, .int .u8 xv.toNat, .bool on] 31) = wx at TA X0 y0 y1 y2 y3 y4 y5 lx ⊢
      generalize wr.heap.size = bx at X0 y0 y1 y2 y3 y4 y5 lx ⊢
      cases h_add : (kind.toList == [97, 100, 100]) with
      | true =>
        have q_remove : (kind.toList == [114, 101, 109, 111, 118, 101]) = false := by rw [list_of h_add]; rfl
        have HO := Lib.hid (show (kindOf kind).own = false by rw [kind_add h_add]; rfl)
        rw [kind_add h_add] at cH
        rcases HI.out.add2 ⟨kind, xn, xa, xb, xv, on⟩ with ⟨H2, n, e1, hn, hFn, hF⟩ | ⟨H2, y, er, e1, he, hF⟩
        · rw [e1] at cH
          have HF := Lib.hid hF
          have n4 : (n : Int) < 4 := by omega
          clear e1 hF
          go_upto_region 15 with (first
            | (go_at_call 70; refine Calls.mono (cH.out _ (HW.r (TF.a ((by repeat (first | assumption | apply TF.drew | apply TF.drewN | apply TF.alloc)) : TF w _ h fb L K H A F)))) ?_; unfold DidPost; dsimp only; rintro e w4 ⟨rfl, K2, t4⟩; have T4 := TF.act ((by repeat (first | assumption | apply TF.drew | apply TF.drewN | apply TF.alloc)) : TF w _ h fb L K H A F) t4; have X4 := ARow.act ((by repeat (first | assumption | apply ARow.drewN)) : ARow _ bx ⟨kind, xn, xa, xb, xv, on⟩) (HW.r (TF.a ((by repeat (first | assumption | apply TF.drew | apply TF.drewN | apply TF.alloc)) : TF w _ h fb L K H A F))) t4.up; have z0 := X4.a0; have z1 := X4.a1; have z2 := X4.a2; have z3 := X4.a3; have z4 := X4.a4; have z5 := X4.a5; have lz := X4.lt; have lf := T4.row.lt; clear cH; have cf := T4.fc (i := n) (by omega); unfold fptr at cf; rw [hFn] at cf)
            | fail)
          refine wp_region_lit ?_
          refine wpl_moveF rfl (.tmp 10) rfl (.int .i64 n) rfl ?_
          refine wpl_buildF rfl 122 _ rfl #[(2, .int .i64 (-1))] (by simp only [List.map_toArray, List.map_cons, List.map_nil]; rfl) _ (build_flat _) ?_
          simp only [Act.put, List.setIfInBounds_toArray, List.set_cons_succ, List.set_cons_zero]
          have T5 := T4.come hn ((Upd.refl Non w4).alloc (.cells flatC.toArray 122)) (flat_new w4) (by
            rintro k (rfl | h)
            · exact Nat.le_refl _
            · cases h)
          have fz := T4.row.frozen n
          have X5 := ARow.upd (ARow.non X4 ((Upd.refl Non w4).alloc (.cells flatC.toArray 122))) ((Upd.refl (at1 fb) _).setCell (p := ⟨fb, n, none⟩) (fun _ => at1_self) (.pointer (some ⟨w4.heap.size, 0, none⟩))) (fun e => X4.ne_ T4.row (by decide) e)
          rw [World.setCell_alloc_past _ _ _ _ lf] at T5 X5
          have m0 := X5.a0
          have ml := X5.lt
          dsimp only at m0
          go_wp2_with (first
            | (go_at_call 71; refine (own_any _ _).mono ?_; rw [HO.out]; rintro e w5 ⟨rfl, rfl⟩)
            | fail)
          go_roundw
          case rel => exact ⟨q + 1, _, _, _, _, by omega, by go_num, T5, HF.out⟩
          case measure => simp [intOf]; omega
        · rw [e1] at cH
          have HF := Lib.hid hF
          have he1 : ((er : Int) == 0) = false := by simp; omega
          have he2 : ¬ (er : Int) = 0 := by omega
          clear e1 hF he
          go_wp2_with (first
            | (go_at_call 70; refine Calls.mono (cH.out _ (HW.r (TF.a ((by repeat (first | assumption | apply TF.drew | apply TF.drewN | apply TF.alloc)) : TF w _ h fb L K H A F)))) ?_; unfold DidPost; dsimp only; rintro e w4 ⟨rfl, K2, t4⟩; have T4 := TF.act ((by repeat (first | assumption | apply TF.drew | apply TF.drewN | apply TF.alloc)) : TF w _ h fb L K H A F) t4; have X4 := ARow.act ((by repeat (first | assumption | apply ARow.drewN)) : ARow _ bx ⟨kind, xn, xa, xb, xv, on⟩) (HW.r (TF.a ((by repeat (first | assumption | apply TF.drew | apply TF.drewN | apply TF.alloc)) : TF w _ h fb L K H A F))) t4.up; have z0 := X4.a0; have z1 := X4.a1; have z2 := X4.a2; have z3 := X4.a3; have z4 := X4.a4; have z5 := X4.a5; have lz := X4.lt; have lf := T4.row.lt; clear cH)
            | (go_at_call 71; refine (own_any _ _).mono ?_; rw [HO.out]; rintro e w5 ⟨rfl, rfl⟩)
            | fail)
          go_roundw
          case rel => exact ⟨q + 1, _, _, _, _, by omega, by go_num, T4, HF.out⟩
          case measure => simp [intOf]; omega
      | false =>
      cases h_remove : (kind.toList == [114, 101, 109, 111, 118, 101]) with
      | true =>
        have HO := Lib.hid (show (kindOf kind).own = false by rw [kind_remove h_remove]; rfl)
        rw [kind_remove h_remove] at cH
        rcases HI.out.remove2 ⟨kind, xn, xa, xb, xv, on⟩ with ⟨H2, n, e1, hn, hxn, hF⟩ | ⟨H2, er, e1, he, hF⟩
        · rw [e1] at cH
          have HF := Lib.hid hF
          have hxn : xn = n := hxn
          subst hxn
          have n4 : (n : Int) < 4 := by omega
          clear e1 hF
          go_wp2_with (first
            | (go_at_call 70; refine Calls.mono (cH.out _ (HW.r (TF.a ((by repeat (first | assumption | apply TF.drew | apply TF.drewN | apply TF.alloc)) : TF w _ h fb L K H A F)))) ?_; unfold DidPost; dsimp only; rintro e w4 ⟨rfl, K2, t4⟩; have T4 := TF.act ((by repeat (first | assumption | apply TF.drew | apply TF.drewN | apply TF.alloc)) : TF w _ h fb L K H A F) t4; have X4 := ARow.act ((by repeat (first | assumption | apply ARow.drewN)) : ARow _ bx ⟨kind, (n : Int), xa, xb, xv, on⟩) (HW.r (TF.a ((by repeat (first | assumption | apply TF.drew | apply TF.drewN | apply TF.alloc)) : TF w _ h fb L K H A F))) t4.up; have z0 := X4.a0; have z1 := X4.a1; have z2 := X4.a2; have z3 := X4.a3; have z4 := X4.a4; have z5 := X4.a5; have lz := X4.lt; have lf := T4.row.lt; clear cH; have fz := T4.row.frozen n; have cf := T4.fc (i := n) hn; have T5 := T4.drop hn; have X5 := ARow.upd X4 ((Upd.refl (at1 fb) _).setCell (p := ⟨fb, n, none⟩) (fun _ => at1_self) (.pointer none)) (fun e => X4.ne_ T4.row (by decide) e); have m0 := X5.a0; have m1 := X5.a1; have ml := X5.lt; dsimp only at m0 m1)
            | (go_at_call 71; refine (own_any _ _).mono ?_; rw [HO.out]; rintro e w5 ⟨rfl, rfl⟩)
            | fail)
          go_roundw
          case rel => exact ⟨q + 1, _, _, _, _, by omega, by go_num, T5, HF.out⟩
          case measure => simp [intOf]; omega
        · rw [e1] at cH
          have HF := Lib.hid hF
          have he1 : ((er : Int) == 0) = false := by simp; omega
          have he2 : ¬ (er : Int) = 0 := by omega
          clear e1 hF he
          go_wp2_with (first
            | (go_at_call 70; refine Calls.mono (cH.out _ (HW.r (TF.a ((by repeat (first | assumption | apply TF.drew | apply TF.drewN | apply TF.alloc)) : TF w _ h fb L K H A F)))) ?_; unfold DidPost; dsimp only; rintro e w4 ⟨rfl, K2, t4⟩; have T4 := TF.act ((by repeat (first | assumption | apply TF.drew | apply TF.drewN | apply TF.alloc)) : TF w _ h fb L K H A F) t4; have X4 := ARow.act ((by repeat (first | assumption | apply ARow.drewN)) : ARow _ bx ⟨kind, xn, xa, xb, xv, on⟩) (HW.r (TF.a ((by repeat (first | assumption | apply TF.drew | apply TF.drewN | apply TF.alloc)) : TF w _ h fb L K H A F))) t4.up; have z0 := X4.a0; have z1 := X4.a1; have z2 := X4.a2; have z3 := X4.a3; have z4 := X4.a4; have z5 := X4.a5; have lz := X4.lt; have lf := T4.row.lt; clear cH)
            | (go_at_call 71; refine (own_any _ _).mono ?_; rw [HO.out]; rintro e w5 ⟨rfl, rfl⟩)
            | fail)
          go_roundw
          case rel => exact ⟨q + 1, _, _, _, _, by omega, by go_num, T4, HF.out⟩
          case measure => simp [intOf]; omega
      | false =>
      cases ho : (kindOf kind).own with
      | false =>
        have HO := Lib.hid ho
        obtain ⟨H2, y, er, e1, hF⟩ := HI.out.rest2 (kindOf kind) ⟨kind, xn, xa, xb, xv, on⟩ (kind_not_add h_add) (kind_not_remove h_remove) ho
        rw [e1] at cH
        have HF := Lib.hid hF
        clear e1 hF ho
        go_wp2_with (first
          | (go_at_call 70; refine Calls.mono (cH.out _ (HW.r (TF.a ((by repeat (first | assumption | apply TF.drew | apply TF.drewN | apply TF.alloc)) : TF w _ h fb L K H A F)))) ?_; unfold DidPost; dsimp only; rintro e w4 ⟨rfl, K2, t4⟩; have T4 := TF.act ((by repeat (first | assumption | apply TF.drew | apply TF.drewN | apply TF.alloc)) : TF w _ h fb L K H A F) t4; have X4 := ARow.act ((by repeat (first | assumption | apply ARow.drewN)) : ARow _ bx ⟨kind, xn, xa, xb, xv, on⟩) (HW.r (TF.a ((by repeat (first | assumption | apply TF.drew | apply TF.drewN | apply TF.alloc)) : TF w _ h fb L K H A F))) t4.up; have z0 := X4.a0; have z1 := X4.a1; have z2 := X4.a2; have z3 := X4.a3; have z4 := X4.a4; have z5 := X4.a5; have lz := X4.lt; have lf := T4.row.lt; clear cH)
          | (go_at_call 71; refine (own_any _ _).mono ?_; rw [HO.out]; rintro e w5 ⟨rfl, rfl⟩)
          | fail)
        go_roundw
        case rel => exact ⟨q + 1, _, _, _, _, by omega, by go_num, T4, HF.out⟩
        case measure => simp [intOf]; omega
      | true =>
        have HO := Lib.hid ho
        by_cases g0 : xn < 0
        · obtain ⟨H2, y, er, e1, hF⟩ := HI.out.ownNot2 (kindOf kind) ⟨kind, xn, xa, xb, xv, on⟩ (fun n hn e => by have e : xn = n := e; omega) ho
          rw [e1] at cH
          have HF := Lib.hid hF
          clear e1 hF ho
          go_wp2_with (first
            | (go_at_call 70; refine Calls.mono (cH.out _ (HW.r (TF.a ((by repeat (first | assumption | apply TF.drew | apply TF.drewN | apply TF.alloc)) : TF w _ h fb L K H A F)))) ?_; unfold DidPost; dsimp only; rintro e w4 ⟨rfl, K2, t4⟩; have T4 := TF.act ((by repeat (first | assumption | apply TF.drew | apply TF.drewN | apply TF.alloc)) : TF w _ h fb L K H A F) t4; have X4 := ARow.act ((by repeat (first | assumption | apply ARow.drewN)) : ARow _ bx ⟨kind, xn, xa, xb, xv, on⟩) (HW.r (TF.a ((by repeat (first | assumption | apply TF.drew | apply TF.drewN | apply TF.alloc)) : TF w _ h fb L K H A F))) t4.up; have z0 := X4.a0; have z1 := X4.a1; have z2 := X4.a2; have z3 := X4.a3; have z4 := X4.a4; have z5 := X4.a5; have lz := X4.lt; have lf := T4.row.lt; clear cH)
            | (go_at_call 71; refine (own_any _ _).mono ?_; rw [HO.out]; rintro e w5 ⟨rfl, rfl⟩)
            | fail)
          go_roundw
          case rel => exact ⟨q + 1, _, _, _, _, by omega, by go_num, T4, HF.out⟩
          case measure => simp [intOf]; omega
        · by_cases g1 : 3 < xn
          · obtain ⟨H2, y, er, e1, hF⟩ := HI.out.ownNot2 (kindOf kind) ⟨kind, xn, xa, xb, xv, on⟩ (fun n hn e => by have e : xn = n := e; omega) ho
            rw [e1] at cH
            have HF := Lib.hid hF
            clear e1 hF ho
            go_wp2_with (first
              | (go_at_call 70; refine Calls.mono (cH.out _ (HW.r (TF.a ((by repeat (first | assumption | apply TF.drew | apply TF.drewN | apply TF.alloc)) : TF w _ h fb L K H A F)))) ?_; unfold DidPost; dsimp only; rintro e w4 ⟨rfl, K2, t4⟩; have T4 := TF.act ((by repeat (first | assumption | apply TF.drew | apply TF.drewN | apply TF.alloc)) : TF w _ h fb L K H A F) t4; have X4 := ARow.act ((by repeat (first | assumption | apply ARow.drewN)) : ARow _ bx ⟨kind, xn, xa, xb, xv, on⟩) (HW.r (TF.a ((by repeat (first | assumption | apply TF.drew | apply TF.drewN | apply TF.alloc)) : TF w _ h fb L K H A F))) t4.up; have z0 := X4.a0; have z1 := X4.a1; have z2 := X4.a2; have z3 := X4.a3; have z4 := X4.a4; have z5 := X4.a5; have lz := X4.lt; have lf := T4.row.lt; clear cH)
              | (go_at_call 71; refine (own_any _ _).mono ?_; rw [HO.out]; rintro e w5 ⟨rfl, rfl⟩)
              | fail)
            go_roundw
            case rel => exact ⟨q + 1, _, _, _, _, by omega, by go_num, T4, HF.out⟩
            case measure => simp [intOf]; omega
          · obtain ⟨n, rfl⟩ := Int.eq_ofNat_of_zero_le (by omega : 0 ≤ xn)
            have hn : n < 4 := by omega
            have n4 : (n : Int) < 4 := by omega
            clear g0 g1
            cases hV : F n with
            | none =>
              obtain ⟨H2, y, er, e1, hF⟩ := HI.out.ownNot2 (kindOf kind) ⟨kind, (n : Int), xa, xb, xv, on⟩ (fun m hm e => by have e : (n : Int) = m := e; have : m = n := (by omega); rw [this]; exact hV) ho
              rw [e1] at cH
              have HF := Lib.hid hF
              clear e1 hF ho
              go_wp2_with (first
                | (go_at_call 70; refine Calls.mono (cH.out _ (HW.r (TF.a ((by repeat (first | assumption | apply TF.drew | apply TF.drewN | apply TF.alloc)) : TF w _ h fb L K H A F)))) ?_; unfold DidPost; dsimp only; rintro e w4 ⟨rfl, K2, t4⟩; have T4 := TF.act ((by repeat (first | assumption | apply TF.drew | apply TF.drewN | apply TF.alloc)) : TF w _ h fb L K H A F) t4; have X4 := ARow.act ((by repeat (first | assumption | apply ARow.drewN)) : ARow _ bx ⟨kind, (n : Int), xa, xb, xv, on⟩) (HW.r (TF.a ((by repeat (first | assumption | apply TF.drew | apply TF.drewN | apply TF.alloc)) : TF w _ h fb L K H A F))) t4.up; have z0 := X4.a0; have z1 := X4.a1; have z2 := X4.a2; have z3 := X4.a3; have z4 := X4.a4; have z5 := X4.a5; have lz := X4.lt; have lf := T4.row.lt; clear cH; have cf := T4.fc (i := n) hn; unfold fptr at cf; rw [hV] at cf)
                | (go_at_call 71; refine (own_any _ _).mono ?_; rw [HO.out]; rintro e w5 ⟨rfl, rfl⟩)
                | fail)
              go_roundw
              case rel => exact ⟨q + 1, _, _, _, _, by omega, by go_num, T4, HF.out⟩
              case measure => simp [intOf]; omega
            | some V =>
              obtain ⟨H2, y, er, V2, e1, e2, he3, hVI, hF, hy1, hy2⟩ := HI.out.own2 (kindOf kind) ⟨kind, (n : Int), xa, xb, xv, on⟩ hn rfl hV ho
              rw [e1] at cH
              have HF := Lib.hid hF
              have he4 : ((er : Int) == 3) = false := by simp; omega
              have he5 : ¬ (er : Int) = 3 := by omega
              have cF := Lib.hid (show ∀ W, FRep W (A n).1 (A n).2 V → Calls Try.prog 72 #[.pointer (some ⟨(A n).1, 0, none⟩), .agg #[.string kind, .int .i64 n, .int .i64 xa, .int .i64 xb, .int .u8 xv.toNat, .bool on], .int .i64 y, .int .i64 er] W (FlatPost W (A n).1 (A n).2 (V2, y, er)) from fun W r => by
                have := flat_any r hVI ⟨kind, (n : Int), xa, xb, xv, on⟩ (y, er) ho ⟨hy1, hy2⟩
                rw [e2] at this
                exact this)
              clear e1 e2 hF ho he3 hVI hy1 hy2
              go_upto_region 20 with (first
                | (go_at_call 70; refine Calls.mono (cH.out _ (HW.r (TF.a ((by repeat (first | assumption | apply TF.drew | apply TF.drewN | apply TF.alloc)) : TF w _ h fb L K H A F)))) ?_; unfold DidPost; dsimp only; rintro e w4 ⟨rfl, K2, t4⟩; have T4 := TF.act ((by repeat (first | assumption | apply TF.drew | apply TF.drewN | apply TF.alloc)) : TF w _ h fb L K H A F) t4; have X4 := ARow.act ((by repeat (first | assumption | apply ARow.drewN)) : ARow _ bx ⟨kind, (n : Int), xa, xb, xv, on⟩) (HW.r (TF.a ((by repeat (first | assumption | apply TF.drew | apply TF.drewN | apply TF.alloc)) : TF w _ h fb L K H A F))) t4.up; have z0 := X4.a0; have z1 := X4.a1; have z2 := X4.a2; have z3 := X4.a3; have z4 := X4.a4; have z5 := X4.a5; have lz := X4.lt; have lf := T4.row.lt; clear cH; have cf := T4.fc (i := n) hn; unfold fptr at cf; rw [hV] at cf; dsimp only at cf)
                | (go_at_call 71; refine (own_any _ _).mono ?_; rw [HO.out]; rintro e w5 ⟨rfl, rfl⟩)
                | fail)
              go_region_with (go_at_call 72; refine Calls.mono (cF.out _ (TF.f ((by repeat (first | assumption | apply TF.drew | apply TF.drewN | apply TF.alloc)) : TF w _ h fb L K2 H2 A F) n hn V hV)) ?_; unfold FlatPost; dsimp only; rintro e w6 ⟨rfl, v6, t6⟩; have T6 := TF.flat ((by repeat (first | assumption | apply TF.drew | apply TF.drewN | apply TF.alloc)) : TF w _ h fb L K2 H2 A F) hn hV t6)
              all_goals go_wp2_with fail
              all_goals go_roundw
              all_goals first
                | exact ⟨q + 1, _, _, _, _, by omega, by go_num, (by repeat (first | assumption | apply TF.drew | apply TF.drewN | apply TF.alloc)), HF.out⟩
                | (simp [intOf]; omega)
    · go_wp2
      go_ret
      exact ⟨rfl, hT.out.a.up⟩
set_option maxRecDepth 100000 in
set_option maxHeartbeats 400000 in
theorem topFlat_law (w : World) (n : Int) (A : Option Addr) (cap : Nat) (l : List ActM) (hl : ActsAt w A l) :
    Calls Try.prog 10 #[.int .i64 n, .slice A l.length cap] w fun e w' => e = .returned (.bool true) ∧ Upd Non w w' := by
  have hz : Hid (errv 1 = .iface 130 (.int .i64 1)) := rfl
  by_cases h1 : n < 1
  · go_enter Try.func10, Try.ntmps10
    go_wp2_with (first
      | (go_at_call 69; refine (hnew_bad _ n (.inl h1)).mono ?_; rw [hz.out]; rintro e w1 ⟨rfl, rfl⟩))
    go_ret
    exact ⟨rfl, Upd.refl _ _⟩
  · by_cases h2 : 64 < n
    · go_enter Try.func10, Try.ntmps10
      go_wp2_with (first
        | (go_at_call 69; refine (hnew_bad _ n (.inr h2)).mono ?_; rw [hz.out]; rintro e w1 ⟨rfl, rfl⟩))
      go_ret
      exact ⟨rfl, Upd.refl _ _⟩
    · obtain ⟨k, rfl⟩ := Int.eq_ofNat_of_zero_le (by omega : 0 ≤ n)
      by_cases h100 : (l.length : Int) ≤ 100
      · exact topFlat_go w k (by omega) (by omega) A cap l hl h100
      · have K0 : Nat → GAt := fun _ => ⟨0, 0, 0, undef⟩
        have hd := Lib.hid (show decide ((l.length : Int) ≤ 100) = false from decide_eq_false (by omega))
        go_enter Try.func10, Try.ntmps10
        go_wp2_with (first
          | (go_at_call 69; refine (hnew_ok w k (by omega) (by omega) K0).mono ?_; rintro e w1 ⟨h, L, rfl, r1, n1, u1⟩)
          | (go_at_call 13; refine (light_law _ _ _ _ _).mono ?_; rw [hd.out]; rintro e w3 ⟨rfl, rfl⟩))
        go_ret
        exact ⟨rfl, u1⟩

end U
end Go.Proofs.Ytnhplapcdgnaaaa
