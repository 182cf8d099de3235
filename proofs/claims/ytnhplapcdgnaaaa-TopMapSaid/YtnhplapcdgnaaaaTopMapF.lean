import Derived.Test.YtnhplapcdgnaaaaTopMapG
set_option linter.unusedVariables false
set_option linter.unusedSimpArgs false
namespace Go.Proofs.Ytnhplapcdgnaaaa
open Go.RowKit
namespace U

theorem zero99 : Try.zeroCells99 = (List.replicate 512 (Value.int .u8 0)).toArray := by kernel_rfl
structure S0 (w W : World) (L : PoolAt) (k mb g0 : Nat) (A : MapM) : Prop where
  rp : PoolRep W L (PoolM.fresh k)
  a : MRep W g0 146 65 L.p A
  mr : Row W mb 87 2 (fun i => if i = 0 then .pointer (some ⟨g0, 0, none⟩) else .pointer none)
  up : Upd Non w W
  l0 : w.heap.size ≤ g0
  lm : w.heap.size ≤ mb
theorem S0.map {w W W' : World} {L : PoolAt} {k mb g0 : Nat} {A A' : MapM} (t : S0 w W L k mb g0 A) (r : MRep W' g0 146 65 L.p A') (u : Upd (at1 g0) W W') : S0 w W' L k mb g0 A' := by
  have n0 := map_ne t.rp t.a (by decide) (by decide) (by decide)
  obtain ⟨_, ha, _⟩ := t.a.row
  exact ⟨t.rp.upd_ u (fun h => n0.1 h.symm) (fun h => n0.2.1 h.symm) (fun h => n0.2.2 h.symm), r, t.mr.upd_ u (fun h => t.mr.ne_ ha (by decide) h), t.up.over u (by rintro i rfl; exact t.l0), t.l0, t.lm⟩
theorem S0.non {w W W' : World} {L : PoolAt} {k mb g0 : Nat} {A : MapM} (t : S0 w W L k mb g0 A) (u : Upd Non W W') : S0 w W' L k mb g0 A :=
  ⟨t.rp.upd_ u (fun h => h) (fun h => h) (fun h => h), t.a.upd_ u (fun h => h), t.mr.upd_ u (fun h => h), t.up.trans u, t.l0, t.lm⟩
structure S1 (w W : World) (L : PoolAt) (k mb g0 g1 : Nat) (B : MapM) : Prop where
  rp : PoolRep W L (PoolM.fresh k)
  a : MRep W g0 146 65 L.p (plugged 16)
  b : MRep W g1 146 65 L.p B
  mr : Row W mb 87 2 (fun i => if i = 0 then .pointer (some ⟨g0, 0, none⟩) else .pointer (some ⟨g1, 0, none⟩))
  ne : g0 ≠ g1
  up : Upd Non w W
  l0 : w.heap.size ≤ g0
  l1 : w.heap.size ≤ g1
  lm : w.heap.size ≤ mb
theorem S1.map {w W W' : World} {L : PoolAt} {k mb g0 g1 : Nat} {A A' : MapM} (t : S1 w W L k mb g0 g1 A) (r : MRep W' g1 146 65 L.p A') (u : Upd (at1 g1) W W') : S1 w W' L k mb g0 g1 A' := by
  have n0 := map_ne t.rp t.b (by decide) (by decide) (by decide)
  obtain ⟨_, ha, _⟩ := t.b.row
  exact ⟨t.rp.upd_ u (fun h => n0.1 h.symm) (fun h => n0.2.1 h.symm) (fun h => n0.2.2 h.symm), t.a.upd_ u (fun h => t.ne h), r, t.mr.upd_ u (fun h => t.mr.ne_ ha (by decide) h), t.ne, t.up.over u (by rintro i rfl; exact t.l1), t.l0, t.l1, t.lm⟩
theorem S0.start {w w1 w2 : World} {L : PoolAt} {k g0 : Nat} (u : Upd Non w w1) (r : PoolRep w1 L (PoolM.fresh k)) (u2 : Upd Non (w1.alloc (.cells #[.pointer none, .pointer none] 87)) w2) (q : MRep w2 g0 146 65 L.p MapM.fresh) (hg : w1.heap.size + 1 ≤ g0) :
    S0 w (w2.setCell ⟨w1.heap.size, 0, none⟩ (.pointer (some ⟨g0, 0, none⟩))) L k w1.heap.size g0 (plugged 0) := by
  have rm := (row_2 w1 87 (.pointer none) (.pointer none)).upd_ u2 (fun h => h)
  have ub : Upd (at1 w1.heap.size) w2 (w2.setCell ⟨w1.heap.size, 0, none⟩ (.pointer (some ⟨g0, 0, none⟩))) := (Upd.refl _ _).setCell (p := ⟨w1.heap.size, 0, none⟩) (fun _ => at1_self) _
  obtain ⟨_, hq, _⟩ := q.row
  have r2 := (r.alloc (.cells #[.pointer none, .pointer none] 87)).upd_ u2 (fun h => h) (fun h => h) (fun h => h)
  obtain ⟨_, _, hB, _⟩ := r2.bytes
  obtain ⟨_, _, hR, _⟩ := r2.counts
  have z := u.size
  rw [plugged_zero]
  refine ⟨r2.upd_ ub (fun h => rm.ne_ r2.st (by decide) h.symm) (fun h => rm.ne_ hB (by decide) h.symm) (fun h => rm.ne_ hR (by decide) h.symm), q.upd_ ub (fun h => rm.ne_ hq (by decide) h.symm), (rm.set_ (i := 0) _).congr fun i hi => ?_, (((u.alloc _).trans u2)).over ub (by rintro i rfl; exact z), by omega, z⟩
  have : i = 0 ∨ i = 1 := by omega
  rcases this with rfl | rfl <;> simp [upd]
theorem S1.start {w W w2 : World} {L : PoolAt} {k mb g0 g1 : Nat} (t : S0 w W L k mb g0 (plugged 16)) (u2 : Upd Non W w2) (q : MRep w2 g1 146 65 L.p MapM.fresh) (hg : W.heap.size ≤ g1) :
    S1 w (w2.setCell ⟨mb, 1, none⟩ (.pointer (some ⟨g1, 0, none⟩))) L k mb g0 g1 (plugged 0) := by
  have t2 := t.non u2
  have ub : Upd (at1 mb) w2 (w2.setCell ⟨mb, 1, none⟩ (.pointer (some ⟨g1, 0, none⟩))) := (Upd.refl _ _).setCell (p := ⟨mb, 1, none⟩) (fun _ => at1_self) _
  obtain ⟨_, hq, _⟩ := q.row
  obtain ⟨_, ha, _⟩ := t2.a.row
  obtain ⟨_, _, hB, _⟩ := t2.rp.bytes
  obtain ⟨_, _, hR, _⟩ := t2.rp.counts
  have z := t.up.size
  have lt := t.a.lt
  rw [plugged_zero]
  refine ⟨t2.rp.upd_ ub (fun h => t2.mr.ne_ t2.rp.st (by decide) h.symm) (fun h => t2.mr.ne_ hB (by decide) h.symm) (fun h => t2.mr.ne_ hR (by decide) h.symm), t2.a.upd_ ub (fun h => t2.mr.ne_ ha (by decide) h.symm), q.upd_ ub (fun h => t2.mr.ne_ hq (by decide) h.symm), (t2.mr.set_ (i := 1) _).congr fun i hi => ?_, by omega, t2.up.over ub (by rintro i rfl; exact t.lm), t.l0, by omega, t.lm⟩
  have : i = 0 ∨ i = 1 := by omega
  rcases this with rfl | rfl <;> simp [upd]
theorem TM.start {w W : World} {L : PoolAt} {k mb g0 g1 : Nat} (t : S1 w W L k mb g0 g1 (plugged 16)) (lb : w.heap.size ≤ L.bb) (lr : w.heap.size ≤ L.rb) :
    TM w (W.alloc (.cells Try.zeroCells99 99)) L g0 g1 mb W.heap.size (PoolM.fresh k) (plugged 16) (plugged 16) (fun _ _ => 0) := by
  have z := t.up.size
  refine ⟨t.rp.alloc _, t.a.alloc _, t.b.alloc _, t.mr.alloc _, ⟨fun _ => .int .u8 0, ⟨_, heap_alloc_new W _, by rw [zero99, List.size_toArray, List.length_replicate], fun i hi => by rw [zero99]; exact repl_at _ _ _ hi⟩, by omega, fun i j _ _ => rfl⟩, t.ne, t.up.alloc _, lb, lr, t.l0, t.l1, z⟩

theorem wpl_mv {P : Program} {ops : Array Oper} {rest : List Oper} {o : Oper} {a : Act} {w : World} {Q : Exit → Act → World → Prop} (hg : o.guard = none) (x : Operand) (ho : o.op = .move x) (v : Value) (hx : a.eval x = v)
    (h : wpList P ops Q rest (a.put o.dst v) w) : wpList P ops Q (o :: rest) a w := by
  refine wpList_plain hg fun K hK => ?_
  unfold Oper.wp execOp
  simp only [ho, hx, Sem.run_bind, Result.andThen_ok, Sem.run_pure, Oper.upon_value]
  exact hK _ _ h
theorem TM.loadM {w W : World} {L : PoolAt} {g0 g1 mb bb : Nat} {P : PoolM} {A B : MapM} {f : Nat → Nat → UInt8} (t : TM w W L g0 g1 mb bb P A B f) :
    (Instr.loadAt 87 (.pointer (some ⟨mb, 0, none⟩))).run Try.prog W = .ok (.agg #[.pointer (some ⟨g0, 0, none⟩), .pointer (some ⟨g1, 0, none⟩)]) W :=
  load_row (P := Try.prog) t.mr 87 0 2 _ (by omega) Try.underlying87 rfl (by kernel_rfl)
theorem TM.loadB {w W : World} {L : PoolAt} {g0 g1 mb bb : Nat} {P : PoolM} {A B : MapM} {f : Nat → Nat → UInt8} (t : TM w W L g0 g1 mb bb P A B f) :
    (Instr.loadAt 99 (.pointer (some ⟨bb, 0, none⟩))).run Try.prog W = .ok (.agg (btabL f).toArray) W := by
  obtain ⟨c, h1, h2, h3⟩ := t.bt.ex
  rw [load_row (P := Try.prog) h1 99 0 512 _ (by omega) Try.underlying99 rfl (by kernel_rfl)]
  have e : seg c 0 512 = btabL f := by
    unfold seg btabL
    refine List.map_congr_left fun i hi => ?_
    have := List.mem_range.1 hi
    have h4 := h3 (i / 16) (i % 16) (by omega) (by omega)
    rw [show 0 + i / 16 * 16 + i % 16 = 0 + i by omega] at h4
    exact h4
  rw [e]

theorem held_set0 {P : PoolM} {A B : MapM} {f : Nat → Nat → UInt8} {n j : Nat} {v : UInt8} (hn : n < 16) (h : HeldG P A B (bset f n j v) (fun i => f (16 + i))) : HeldI P A B (bset f n j v) :=
  ⟨h.a, h.b, h.wa, h.wb, h.pa, fun i hi q hq => (h.pb i hi q hq).trans (by unfold bset; rw [if_neg (by omega)])⟩
theorem held_set1 {P : PoolM} {A B : MapM} {f : Nat → Nat → UInt8} {n j : Nat} {v : UInt8} (hn : n < 16) (h : HeldG P B A (bset (fun i => f (16 + i)) n j v) f) : HeldI P A B (bset f (16 + n) j v) :=
  ⟨h.b, h.a, h.wb.swap, h.wa.swap, fun i hi q hq => (h.pb i hi q hq).trans (by unfold bset; rw [if_neg (by omega)]), fun i hi q hq => (h.pa i hi q hq).trans (by
    unfold bset
    by_cases e : i = n
    · subst e; simp
    · rw [if_neg e, if_neg (by omega)])⟩

set_option maxRecDepth 100000 in
set_option maxHeartbeats 20000000 in
theorem topMap_go (w : World) (k : Nat) (hn1 : 1 ≤ (k : Int)) (hn2 : (k : Int) ≤ 64) (Ad : Option Addr) (cap : Nat) (l : List ActM) (hl : ActsAt w Ad l) (h80 : (l.length : Int) ≤ 80) :
    Calls Try.prog 8 #[.int .i64 k, .slice Ad l.length cap] w fun e w' => e = .returned (.bool true) ∧ Upd Non w w' := by
  go_enter Try.func8, Try.ntmps8
  go_wp2_with (first
    | (go_at_call 13; refine (light_law _ _ _ _ _).mono ?_; rintro e w2 ⟨rfl, rfl⟩)
    | (go_at_call 28; refine (new_ok _ k (by omega) (by omega)).mono ?_; rintro e w1 ⟨L, rfl, r, u, l1, l2, l3⟩)
    | fail)
  refine wp_loop_rounds 3 ?_
  rw [rounds_succ]
  go_wp2_with (first
    | (go_at_call 48; refine (mapNew_any _ L.p).mono ?_; rintro e w2 ⟨g0, rfl, q0, h0, u2⟩; have rM2 := (row_2 w1 87 (.pointer none) (.pointer none)).upd_ u2 (fun h => h); have m0 := rM2.cell (i := 0) (by omega); have fm := rM2.frozen 0; have lm := rM2.lt)
    | fail)
  rw [World.size_alloc] at h0
  have T0 := Lib.hid (S0.start u r u2 q0 h0)
  clear r u2 q0 h0 rM2 m0 fm lm
  go_loopw [11] (fun i wi => ∃ j : Nat, j ≤ 16 ∧ i = .int .i64 j ∧ Hid (S0 w wi L k w1.heap.size g0 (plugged j))) (fun i _ => 16 - (intOf i).toNat)
  case atStart => exact ⟨0, Nat.zero_le _, rfl, T0.out⟩
  case round =>
    clear T0
    obtain ⟨j, hj, rfl, hJ⟩ := hrel
    have t := hJ.out
    by_cases hjl : j < 16
    · have hj2 : (j : Int) < 16 := by omega
      have hp := Lib.hid (plugged_succ hjl)
      go_wp2_with (first
        | (go_at_call 54; refine (plug_any _ g0 65 L.p _ t.a j).mono ?_; rw [hp.out]; rintro e w3 ⟨rfl, q3, u3⟩; unfold errv; have t3 := t.map q3 u3)
        | fail)
      go_roundw
      case rel => exact ⟨j + 1, by omega, by go_num, t3⟩
      case measure => simp [intOf]; omega
    · obtain rfl : j = 16 := by omega
      go_wp2_with fail
      rw [rounds_succ]
      clear hJ
      go_wp2_with (first
        | (go_at_call 48; refine (mapNew_any _ L.p).mono ?_; rintro e w3 ⟨g1, rfl, q1, h1, u3⟩; have rM3 := t.mr.upd_ u3 (fun h => h); have m1 := rM3.cell (i := 1) (by omega); have fm := rM3.frozen 1; have lm := rM3.lt)
        | fail)
      have T1 := Lib.hid (S1.start t u3 q1 h1)
      clear t q1 h1 u3 rM3 m1 fm lm
      go_loopw [11] (fun i wi => ∃ j : Nat, j ≤ 16 ∧ i = .int .i64 j ∧ Hid (S1 w wi L k w1.heap.size g0 g1 (plugged j))) (fun i _ => 16 - (intOf i).toNat)
      case atStart => exact ⟨0, Nat.zero_le _, rfl, T1.out⟩
      case round =>
        clear T1
        obtain ⟨j, hj, rfl, hJ⟩ := hrel
        have t := hJ.out
        by_cases hjl : j < 16
        · have hj2 : (j : Int) < 16 := by omega
          have hp := Lib.hid (plugged_succ hjl)
          go_wp2_with (first
            | (go_at_call 54; refine (plug_any _ g1 65 L.p _ t.b j).mono ?_; rw [hp.out]; rintro e w4 ⟨rfl, q4, u4⟩; unfold errv; have t3 := t.map q4 u4)
            | fail)
          go_roundw
          case rel => first | exact ⟨j + 1, by omega, by go_num, t3⟩ | ((repeat apply Exists.intro); exact ⟨⟨by omega, by go_num, t3⟩, rfl⟩) | ((repeat apply Exists.intro); exact ⟨⟨j + 1, by omega, by go_num, t3⟩, rfl⟩)
          case measure => simp [intOf]; omega
        · obtain rfl : j = 16 := by omega
          go_wp2_with fail
          rw [rounds_succ]
          clear hJ
          go_wp2_with fail
          have T2 := Lib.hid (TM.start t l2 l3)
          clear t u
          generalize wr.heap.size = bb at T2 ⊢
          go_loopw [13] (fun i wi => ∃ (q : Nat) (P : PoolM) (A B : MapM) (f : Nat → Nat → UInt8), q ≤ l.length ∧ i = .int .i64 q ∧ Hid (TM w wi L g0 g1 w1.heap.size bb P A B f ∧ HeldI P A B f)) (fun i _ => l.length - (intOf i).toNat)
          case atStart => exact ⟨0, _, _, _, _, Nat.zero_le _, rfl, T2.out, HeldI.start k⟩
          case round =>
            clear T2
            obtain ⟨q, P, A, B, f, hq, rfl, hI⟩ := hrel
            by_cases hlt : q < l.length
            · obtain ⟨b, o, rfl, hb, hx⟩ : ∃ b o, Ad = some ⟨b, o, none⟩ ∧ b < w.heap.size ∧ ∀ i x, l[i]? = some x → ActAt w b (o + i * 6) x := by
                rcases hl with rfl | h
                · simp at hlt
                · exact h
              have ha := (hx q l[q] (List.getElem?_eq_getElem hlt)).upd_ hI.out.1.up (fun h => h)
              clear hx hl
              generalize l[q] = x at ha
              obtain ⟨kind, xn, xa, xb, xv, on⟩ := x
              obtain ⟨a0, a1, a2, a3, a4, a5⟩ := ha
              dsimp only at a0 a1 a2 a3 a4 a5
              have T := TMX.new hI.out.1 ⟨kind, xn, xa, xb, xv, on⟩
              have hbl := hI.out.1.bt.lt
              have hml := hI.out.1.mr.lt
              have HF := Lib.hid hI.out.2
              cases on with
              | false =>
                  go_upto_region 24 with fail
                  clear a0 a1 a2 a3 a4 a5 hbl hml
                  generalize wr.alloc (.cells #[.string kind, .int .i64 xn, .int .i64 xa, .int .i64 xb, .int .u8 xv.toNat, .bool false] 31) = wx at T ⊢
                  generalize wr.heap.size = bx at T ⊢
                  have y0 := T.a0
                  have y4 := T.a4
                  have y5 := T.a5
                  have hml := T.mr.lt
                  have hbl := T.bt.lt
                  have m0 := T.m0
                  have m1 := T.m1
                  have y2 := T.a2
                  have y3 := T.a3
                  have lbx := T.ax.lt
                  have mr5 := T.ax.lt
                  go_upto_block 6 with (fail)
                  go_cut [] from 89 to 215 (fun wc => Hid (∃ (P : PoolM) (A B : MapM) (f : Nat → Nat → UInt8), TM w wc L g0 g1 w1.heap.size bb P A B f ∧ HeldI P A B f))
                  case first => as_aux_lemma =>
                    by_cases hj : (kind.toList == [106, 111, 105, 110]) = true
                    · as_aux_lemma =>
                      by_cases hbr : 0 ≤ xb ∧ xb < 16
                      · as_aux_lemma =>
                        obtain ⟨hb0, hb1⟩ := hbr
                        generalize hX : mleaf B xb = X
                        generalize hY : mleaf A xa = Y
                        obtain ⟨⟨tx, wrx, fx⟩, ex⟩ := X
                        obtain ⟨⟨ty, wry, fy⟩, ey⟩ := Y
                        have HX := Lib.hid hX
                        have HY := Lib.hid hY
                        clear hX hY
                        have hwr1 : IntKind.i64.wrap 1 = 1 := by decide
                        go_upto_region 31 with fail
                        go_cut [16, 17] from 112 to 121 (fun b e wc => ∃ Bx, b = .pointer (some ⟨Bx, 0, none⟩) ∧ e = errv ex ∧ Hid (TMX w wc L g0 g1 w1.heap.size bb P A B f bx ⟨kind, xn, xa, xb, xv, false⟩ ∧ LBox wc Bx ⟨tx, wrx, fx⟩))
                        case first => as_aux_lemma =>
                          go_region_held3 (fun w' => w'.cell? ⟨w1.heap.size, 1, none⟩ = some (.pointer (some ⟨g1, 0, none⟩)) ∧ w'.cell? ⟨bx, 3, none⟩ = some (.int .i64 xb)) (first | exact ⟨m1, y3⟩ | exact ⟨(TMX.non T (by repeat (first | assumption | exact Upd.refl _ _ | apply Upd.alloc | apply Upd.drew | apply Upd.drewN | refine Upd.tbox ?_ (Nat.le_refl _) _ _ _ | refine Upd.trans ?_ u5))).m1, (TMX.non T (by repeat (first | assumption | exact Upd.refl _ _ | apply Upd.alloc | apply Upd.drew | apply Upd.drewN | refine Upd.tbox ?_ (Nat.le_refl _) _ _ _ | refine Upd.trans ?_ u5))).a3⟩) (first
                            | (go_at_call 55; refine Calls.mono (mleaf_any _ g1 65 L.p B (TM.b (TMX.toTM (TMX.non T (by repeat (first | assumption | apply Upd.alloc | apply Upd.drew | apply Upd.drewN | exact Upd.refl _ _))))) xb) ?_; rw [HX.out]; rintro e w5 ⟨rfl, u5⟩; unfold LeafM.val; obtain ⟨hcc, hff⟩ := u5.cells; have hz := u5.size; simp at hz))
                          all_goals go_wp2_with fail
                          all_goals go_meet
                          all_goals refine ⟨_, rfl, rfl, ?_⟩
                          all_goals with_reducible first
                            | exact tbox_a (T.non u5)
                            | exact tbox_a (T.drew.non u5)
                            | exact tbox_b T u5 rfl
                            | exact tbox_b T ((Upd.refl Non _).drew.trans u5) rfl
                            | exact tbox_b T ((Upd.refl Non _).drew.drew.trans u5) rfl
                            | exact tbox_b T.drew u5 rfl
                            | exact tbox_b T.drew ((Upd.refl Non _).drew.trans u5) rfl
                        case rest => as_aux_lemma =>
                          obtain ⟨Bx, rfl, rfl, hH⟩ := hcut
                          clear m0 m1 y0 y2 y3 y4 y5 hml hbl lbx T
                          have T := hH.out.1
                          have LX := hH.out.2
                          clear hH
                          generalize wc = we at T LX ⊢
                          have m0 := T.m0
                          have m1 := T.m1
                          have y2 := T.a2
                          have y3 := T.a3
                          have lbx := T.ax.lt
                          have hml := T.mr.lt
                          have hbl := T.bt.lt
                          go_upto_region 32 with fail
                          go_cut [18, 19] from 122 to 130 (fun b e wc => ∃ By, b = .pointer (some ⟨By, 0, none⟩) ∧ e = errv ey ∧ Hid (TMX w wc L g0 g1 w1.heap.size bb P A B f bx ⟨kind, xn, xa, xb, xv, false⟩ ∧ LBox wc Bx ⟨tx, wrx, fx⟩ ∧ LBox wc By ⟨ty, wry, fy⟩))
                          case first => as_aux_lemma =>
                            go_region_held3 (fun w' => w'.cell? ⟨w1.heap.size, 0, none⟩ = some (.pointer (some ⟨g0, 0, none⟩)) ∧ w'.cell? ⟨bx, 2, none⟩ = some (.int .i64 xa)) (first | exact ⟨m0, y2⟩ | exact ⟨(TMX.non T (by repeat (first | assumption | exact Upd.refl _ _ | apply Upd.alloc | apply Upd.drew | apply Upd.drewN | refine Upd.tbox ?_ (Nat.le_refl _) _ _ _ | refine Upd.trans ?_ u5))).m0, (TMX.non T (by repeat (first | assumption | exact Upd.refl _ _ | apply Upd.alloc | apply Upd.drew | apply Upd.drewN | refine Upd.tbox ?_ (Nat.le_refl _) _ _ _ | refine Upd.trans ?_ u5))).a2⟩) (first
                              | (go_at_call 55; refine Calls.mono (mleaf_any _ g0 65 L.p A (TM.a (TMX.toTM (TMX.non T (by repeat (first | assumption | apply Upd.alloc | apply Upd.drew | apply Upd.drewN | exact Upd.refl _ _))))) xa) ?_; rw [HY.out]; rintro e w5 ⟨rfl, u5⟩; unfold LeafM.val; obtain ⟨hcc, hff⟩ := u5.cells; have hz := u5.size; simp at hz))
                            all_goals go_wp2_with fail
                            all_goals go_meet
                            all_goals refine ⟨_, rfl, rfl, ?_⟩
                            all_goals with_reducible first
                              | exact tbox2_a (T.non u5) (LX.non u5)
                              | exact tbox2_a (T.drew.non u5) (LX.drew.non u5)
                              | exact tbox2_b T LX u5 rfl
                              | exact tbox2_b T LX ((Upd.refl Non _).drew.trans u5) rfl
                              | exact tbox2_b T LX ((Upd.refl Non _).drew.drew.trans u5) rfl
                              | exact tbox2_b T.drew LX.drew u5 rfl
                              | exact tbox2_b T.drew LX.drew ((Upd.refl Non _).drew.trans u5) rfl
                          case rest => as_aux_lemma =>
                            obtain ⟨By, rfl, rfl, hH⟩ := hcut
                            clear m0 m1 y2 y3 hml hbl lbx T LX
                            have T := hH.out.1
                            have LX := hH.out.2.1
                            have LY := hH.out.2.2
                            clear hH
                            generalize wc = wx at T LX LY ⊢
                            have x0 := LX.c0
                            have x2 := LX.c2
                            have z0 := LY.c0
                            have z2 := LY.c2
                            have lx := LX.lt
                            have ly := LY.lt
                            dsimp only at x0 x2 z0 z2
                            cases tx with
                            | false =>
                              go_wp2_with fail
                              go_meet
                              exact ⟨_, _, _, _, (TMX.toTM T), HF.out⟩
                            | true =>
                              cases ty with
                              | false =>
                                go_wp2_with fail
                                go_meet
                                exact ⟨_, _, _, _, (TMX.toTM T), HF.out⟩
                              | true =>
                                have hsm := same_any wx L P (TMX.toTM T).rp fx fy
                                cases hs : P.same fx fy with
                                | false =>
                                  rw [hs] at hsm
                                  have hsm := Lib.hid hsm; clear hs
                                  go_wp2_with (first | (go_at_call 41; refine Calls.mono hsm.out ?_; rintro e w6 ⟨rfl, q6, rfl⟩; have T6 := T.drewN q6) | fail)
                                  go_meet
                                  exact ⟨_, _, _, _, (TMX.toTM T6), HF.out⟩
                                | true =>
                                  rw [hs] at hsm
                                  have hsm := Lib.hid hsm
                                  by_cases hne : fx = fy
                                  · as_aux_lemma =>
                                    subst hne
                                    clear hs
                                    go_wp2_with (first | (go_at_call 41; refine Calls.mono hsm.out ?_; rintro e w6 ⟨rfl, q6, rfl⟩; have T6 := T.drewN q6; have LX6 := LX.drewN q6; have LY6 := LY.drewN q6; have x2' := LX6.c2; have z2' := LY6.c2; have lx' := LX6.lt; have ly' := LY6.lt) | fail)
                                    go_meet
                                    exact ⟨_, _, _, _, (TMX.toTM T6), HF.out⟩
                                  · as_aux_lemma =>
                                    have hyl := mleaf_there HY.out
                                    obtain ⟨n, hn16, hxa, hleaf⟩ := hyl
                                    subst hxa
                                    have HJ0 := join_ok (P := P) (A := A) hn16 hleaf hne hs
                                    have HG0 := ((HF.out.toG.sealAll fx).join (n : Int) fx (fun i hi ht hf => sealM_off hi ht hf) (fun i hi ht hf => sealM_off hi ht hf)).1
                                    generalize hJ : mjoin P (sealM A fx 16) (n : Int) fx = J at HJ0 HG0
                                    obtain ⟨P8, M8, e8⟩ := J
                                    obtain rfl : e8 = 0 := congrArg (fun y => y.2.2) HJ0
                                    have hez := Lib.hid (show errv 0 = Value.nilIface from rfl)
                                    have HJ := Lib.hid hJ
                                    have HG := Lib.hid HG0
                                    clear HJ0 HG0 hJ
                                    clear hs hleaf
                                    go_upto_region 34 with (first | (go_at_call 41; refine Calls.mono hsm.out ?_; rintro e w6 ⟨rfl, q6, rfl⟩; have T6 := T.drewN q6; have LX6 := LX.drewN q6; have LY6 := LY.drewN q6; have x2' := LX6.c2; have z2' := LY6.c2; have lx' := LX6.lt; have ly' := LY6.lt) | fail)
                                    go_upto_region 35 with (first
                                      | (refine wpl_load rfl 87 _ rfl _ _ rfl (TM.loadM (TMX.toTM T6)) ?_)
                                      | (go_at_call 56; refine Calls.mono (seal_law _ g0 g1 L.p A B (TM.a (TMX.toTM T6)) (TM.b (TMX.toTM T6)) (TM.ne (TMX.toTM T6)) fx) ?_; rintro e w7 ⟨rfl, ra7, rb7, u7⟩; have T7 := TMX.seals T6 ra7 rb7 u7; have LX7 := lbox_seals T6 LX6 u7)
                                      | fail)
                                    clear x0 x2 z0 z2 x2' z2' lx ly lx' ly'
                                    have m7 := T7.m0
                                    have y7 := T7.a2
                                    have x7 := LX7.c2
                                    have l7 := LX7.lt
                                    have b7 := T7.ax.lt
                                    have k7 := T7.mr.lt
                                    go_region_held3 (fun w' => w'.cell? ⟨w1.heap.size, 0, none⟩ = some (.pointer (some ⟨g0, 0, none⟩)) ∧ w'.cell? ⟨bx, 2, none⟩ = some (.int .i64 n) ∧ w'.cell? ⟨Bx, 2, none⟩ = some (.int .i64 fx)) (first | exact ⟨m7, y7, x7⟩ | exact ⟨T8.m0, T8.a2, LX8.c2⟩) (first
                                      | (go_at_call 57; refine Calls.mono (join_any _ L P g0 65 (sealM A fx 16) (TM.rp (TMX.toTM T7.drew)) (TM.a (TMX.toTM T7.drew)) n fx) ?_; unfold JoinPost; rw [HJ.out]; dsimp only; rw [hez.out]; rintro e w8 ⟨rfl, r8, q8, u8⟩; have T8 := TMX.step0 T7.drew r8 q8 u8; have LX8 := lbox_step0 T7.drew LX7.drew u8))
                                    all_goals have HF5 := Lib.hid (HG.out).toI
                                    all_goals go_wp2_with fail
                                    all_goals (
                                      go_meet
                                      exact ⟨_, _, _, _, (TMX.toTM T8), HF5.out⟩)
                      · as_aux_lemma =>
                        have hbr' : xb < 0 ∨ 15 < xb := by omega
                        rcases hbr' with hbr' | hbr'
                        · as_aux_lemma =>
                          clear hbr
                          go_wp2_with fail
                          go_meet
                          exact ⟨_, _, _, _, (TMX.toTM T), HF.out⟩
                        · as_aux_lemma =>
                          clear hbr
                          have hb0 : 0 ≤ xb := by omega
                          have hb1 : ¬ xb < 16 := by omega
                          go_wp2_with fail
                          go_meet
                          exact ⟨_, _, _, _, (TMX.toTM T), HF.out⟩
                    · as_aux_lemma =>
                      have hj' : (kind.toList == [106, 111, 105, 110]) = false := by simpa using hj
                      clear hj
                      by_cases hs : (kind.toList == [115, 101, 97, 108]) = true
                      · as_aux_lemma =>
                        go_upto_region 38 with fail
                        go_still_tail 5, (by kernel_rfl)
                        have Td := T.drew
                        change wpList _ _ _ _ _ wx.drew
                        go_wp2_with (first | (go_at_call 58; refine Calls.mono (mseal_any _ g0 65 L.p A (TM.a (TMX.toTM Td)) xa) ?_; rintro e w5 ⟨rfl, q5, u5⟩; have T5 := TMX.map0 Td q5 u5) | fail)
                        all_goals have HF5 := Lib.hid (HF.out.toG.seal1 xa).toI
                        all_goals go_wp2_with fail
                        all_goals (
                          go_meet
                          exact ⟨_, _, _, _, (TMX.toTM T5), HF5.out⟩)
                      · as_aux_lemma =>
                        have hs' : (kind.toList == [115, 101, 97, 108]) = false := by simpa using hs
                        clear hs
                        by_cases ht : (kind.toList == [115, 101, 116]) = true
                        · as_aux_lemma =>
                          have HG := Lib.hid (HF.out.toG.touch xa true).1
                          have hcs := mtouch_cases P A xa true
                          have htc := Lib.hid (touch_any wx.drew L P g0 65 A (TM.rp (TMX.toTM T.drew)) (TM.a (TMX.toTM T.drew)) xa true (fun k hk ht => (HF.out.a.here k hk ht).2))
                          unfold TouchPost at htc
                          generalize mtouch P A xa true = Y at HG hcs htc
                          obtain ⟨P5, M5, f5, mv5, er5⟩ := Y
                          dsimp only at HG hcs htc
                          go_upto_region 40 with fail
                          by_cases he : er5 = 0
                          · as_aux_lemma =>
                            subst he
                            rcases hcs with ⟨h, _⟩ | ⟨_, ho, hth, hfe, hwr⟩
                            · exact absurd rfl h
                            obtain ⟨n, hn⟩ : ∃ n : Nat, xa = n := ⟨xa.toNat, by have := onB_iff.1 ho; omega⟩
                            subst hn
                            have hn16 : n < 16 := by have := onB_iff.1 ho; omega
                            rw [Int.toNat_natCast] at hth hfe hwr
                            have hw := hwr rfl
                            clear ho hwr
                            by_cases hbr : 0 ≤ xb ∧ xb < 16
                            · as_aux_lemma =>
                              obtain ⟨hb0, hb1⟩ := hbr
                              have HS := Lib.hid (HG.out.set_ hn16 hth hw hb0 hb1 xv)
                              rw [← hfe] at HS
                              clear hth hfe hw
                              go_region_held3 (fun w' => w'.cell? ⟨w1.heap.size, 0, none⟩ = some (.pointer (some ⟨g0, 0, none⟩)) ∧ w'.cell? ⟨bx, 2, none⟩ = some (.int .i64 n)) (first | exact ⟨m0, y2⟩ | exact ⟨T5.m0, T5.a2⟩) (first
                                | (go_at_call 51; refine Calls.mono htc.out ?_; unfold errv; rintro e w5 ⟨rfl, r5, q5, u5⟩; have T5 := TMX.step0 T.drew r5 q5 u5; have z3 := T5.a3; have z4 := T5.a4; have lz := T5.ax.lt))
                              all_goals go_upto_region 44 with (first
                                | (go_at_call 37; refine Calls.mono (set_any _ L P5 T5.rp f5 xb xv) ?_; rw [HS.out.1]; rintro e w6 ⟨rfl, r6, u6⟩; unfold errv; have T6 := T5.pool r6 u6; have t2' := T6.a2; have t3' := T6.a3; have t4' := T6.a4; have lt' := T6.ax.lt; have lbt := T6.bt.lt; have cb := T6.bt.cellA (i := n) (j := xb.toNat) (a := n * 16 + xb.toNat) (by omega) (by omega) (by omega); have fb := T6.bt.fr (n * 16 + xb.toNat))
                                | fail)
                              all_goals have HF5 := Lib.hid (held_set0 (f := f) hn16 (HS.out.2))
                              all_goals go_region
                              all_goals go_wp2_with fail
                              all_goals (have T7 := (TM.setB (TMX.toTM T6) (i := n) (j := xb.toNat) (a := n * 16 + xb.toNat) (v := xv) (by omega) (by omega) (by omega)).non ((Upd.refl Non _).drew))
                              all_goals (
                                go_meet
                                exact ⟨_, _, _, _, T7, HF5.out⟩)
                            · as_aux_lemma =>
                              have HF5 := Lib.hid (HG.out).toI
                              have hbr' : xb < 0 ∨ (0 ≤ xb ∧ ¬ xb < 16) := by omega
                              clear hth hfe hw hbr
                              go_region_held3 (fun w' => w'.cell? ⟨w1.heap.size, 0, none⟩ = some (.pointer (some ⟨g0, 0, none⟩)) ∧ w'.cell? ⟨bx, 2, none⟩ = some (.int .i64 n)) (first | exact ⟨m0, y2⟩ | exact ⟨T5.m0, T5.a2⟩) (first
                                | (go_at_call 51; refine Calls.mono htc.out ?_; unfold errv; rintro e w5 ⟨rfl, r5, q5, u5⟩; have T5 := TMX.step0 T.drew r5 q5 u5; have z3 := T5.a3; have lz := T5.ax.lt))
                              all_goals rcases hbr' with hb0 | ⟨hb0, hb1⟩
                              all_goals go_wp2_with fail
                              all_goals (
                                go_meet
                                exact ⟨_, _, _, _, (TMX.toTM T5), HF5.out⟩)
                          · as_aux_lemma =>
                            have hz := Lib.hid (errv_pos he)
                            clear hcs he
                            go_region_held3 (fun w' => w'.cell? ⟨w1.heap.size, 0, none⟩ = some (.pointer (some ⟨g0, 0, none⟩)) ∧ w'.cell? ⟨bx, 2, none⟩ = some (.int .i64 xa)) (first | exact ⟨m0, y2⟩ | exact ⟨T5.m0, T5.a2⟩) (first
                              | (go_at_call 51; refine Calls.mono htc.out ?_; rw [hz.out]; rintro e w5 ⟨rfl, r5, q5, u5⟩; have T5 := TMX.step0 T.drew r5 q5 u5))
                            all_goals have HF5 := Lib.hid (HG.out).toI
                            all_goals go_wp2_with fail
                            all_goals (
                              go_meet
                              exact ⟨_, _, _, _, (TMX.toTM T5), HF5.out⟩)
                        · as_aux_lemma =>
                          have ht' : (kind.toList == [115, 101, 116]) = false := by simpa using ht
                          clear ht
                          go_upto_region 28 with fail
                          go_region_held3 (fun w' => w'.cell? ⟨w1.heap.size, 0, none⟩ = some (.pointer (some ⟨g0, 0, none⟩)) ∧ w'.cell? ⟨bx, 2, none⟩ = some (.int .i64 xa) ∧ w'.cell? ⟨bx, 3, none⟩ = some (.int .i64 xb)) (first | exact ⟨m0, y2, y3⟩ | exact ⟨T5.m0, T5.a2, T5.a3⟩) (first
                            | (go_at_call 51; refine Calls.mono (touch_any _ L P g0 65 A (TM.rp (TMX.toTM T.drew)) (TM.a (TMX.toTM T.drew)) xa _ (fun k hk ht => (HF.out.a.here k hk ht).2)) ?_; rintro e w5 ⟨rfl, r5, q5, u5⟩; have T5 := TMX.step0 T.drew r5 q5 u5))
                          all_goals have HF5 := Lib.hid ((HF.out.toG.touch xa (decide (0 < xb))).1).toI
                          all_goals go_wp2_with fail
                          all_goals (
                            go_meet
                            exact ⟨_, _, _, _, (TMX.toTM T5), HF5.out⟩)
                  case rest => as_aux_lemma =>
                    obtain ⟨P, A, B, f, T9, H9⟩ := hcut.out
                    clear T HF hI hcut
                    go_upto_region 45 with fail
                    refine wp_region_lit ?_
                    refine wpl_mv rfl (.tmp 5) rfl (.pointer (some ⟨L.p, 0, none⟩)) rfl ?_
                    refine wpl_load rfl 87 (.tmp 7) rfl (.pointer (some ⟨w1.heap.size, 0, none⟩)) _ rfl (TM.loadM T9) ?_
                    refine wpl_load rfl 99 (.tmp 12) rfl (.pointer (some ⟨bb, 0, none⟩)) _ rfl (TM.loadB T9) ?_
                    simp only [Act.put, List.setIfInBounds_toArray, List.set_cons_succ, List.set_cons_zero]
                    go_wp2_with (first | (go_at_call 59; refine Calls.mono (held_law _ L g0 g1 _ _ _ _ (TM.rp T9) (TM.a T9) (TM.b T9) H9) ?_; rintro e w9 ⟨rfl, u9⟩; have T10 := TM.non T9 u9) | fail)
                    go_roundw
                    case rel => (repeat apply Exists.intro); exact ⟨⟨q + 1, _, _, _, _, by omega, by go_num, T10, H9⟩, rfl⟩
                    case measure => simp [intOf]; omega
              | true =>
                  go_upto_region 24 with fail
                  clear a0 a1 a2 a3 a4 a5 hbl hml
                  generalize wr.alloc (.cells #[.string kind, .int .i64 xn, .int .i64 xa, .int .i64 xb, .int .u8 xv.toNat, .bool true] 31) = wx at T ⊢
                  generalize wr.heap.size = bx at T ⊢
                  have y0 := T.a0
                  have y4 := T.a4
                  have y5 := T.a5
                  have hml := T.mr.lt
                  have hbl := T.bt.lt
                  have m1 := T.m1
                  have m0 := T.m0
                  have y2 := T.a2
                  have y3 := T.a3
                  have lbx := T.ax.lt
                  have mr5 := T.ax.lt
                  go_upto_block 6 with (fail)
                  go_cut [] from 89 to 215 (fun wc => Hid (∃ (P : PoolM) (A B : MapM) (f : Nat → Nat → UInt8), TM w wc L g0 g1 w1.heap.size bb P A B f ∧ HeldI P A B f))
                  case first => as_aux_lemma =>
                    by_cases hj : (kind.toList == [106, 111, 105, 110]) = true
                    · as_aux_lemma =>
                      by_cases hbr : 0 ≤ xb ∧ xb < 16
                      · as_aux_lemma =>
                        obtain ⟨hb0, hb1⟩ := hbr
                        generalize hX : mleaf A xb = X
                        generalize hY : mleaf B xa = Y
                        obtain ⟨⟨tx, wrx, fx⟩, ex⟩ := X
                        obtain ⟨⟨ty, wry, fy⟩, ey⟩ := Y
                        have HX := Lib.hid hX
                        have HY := Lib.hid hY
                        clear hX hY
                        have hwr0 : IntKind.i64.wrap 0 = 0 := by decide
                        go_upto_region 31 with fail
                        go_cut [16, 17] from 112 to 121 (fun b e wc => ∃ Bx, b = .pointer (some ⟨Bx, 0, none⟩) ∧ e = errv ex ∧ Hid (TMX w wc L g0 g1 w1.heap.size bb P A B f bx ⟨kind, xn, xa, xb, xv, true⟩ ∧ LBox wc Bx ⟨tx, wrx, fx⟩))
                        case first => as_aux_lemma =>
                          go_region_held3 (fun w' => w'.cell? ⟨w1.heap.size, 0, none⟩ = some (.pointer (some ⟨g0, 0, none⟩)) ∧ w'.cell? ⟨bx, 3, none⟩ = some (.int .i64 xb)) (first | exact ⟨m0, y3⟩ | exact ⟨(TMX.non T (by repeat (first | assumption | exact Upd.refl _ _ | apply Upd.alloc | apply Upd.drew | apply Upd.drewN | refine Upd.tbox ?_ (Nat.le_refl _) _ _ _ | refine Upd.trans ?_ u5))).m0, (TMX.non T (by repeat (first | assumption | exact Upd.refl _ _ | apply Upd.alloc | apply Upd.drew | apply Upd.drewN | refine Upd.tbox ?_ (Nat.le_refl _) _ _ _ | refine Upd.trans ?_ u5))).a3⟩) (first
                            | (go_at_call 55; refine Calls.mono (mleaf_any _ g0 65 L.p A (TM.a (TMX.toTM (TMX.non T (by repeat (first | assumption | apply Upd.alloc | apply Upd.drew | apply Upd.drewN | exact Upd.refl _ _))))) xb) ?_; rw [HX.out]; rintro e w5 ⟨rfl, u5⟩; unfold LeafM.val; obtain ⟨hcc, hff⟩ := u5.cells; have hz := u5.size; simp at hz))
                          all_goals go_wp2_with fail
                          all_goals go_meet
                          all_goals refine ⟨_, rfl, rfl, ?_⟩
                          all_goals with_reducible first
                            | exact tbox_a (T.non u5)
                            | exact tbox_a (T.drew.non u5)
                            | exact tbox_b T u5 rfl
                            | exact tbox_b T ((Upd.refl Non _).drew.trans u5) rfl
                            | exact tbox_b T ((Upd.refl Non _).drew.drew.trans u5) rfl
                            | exact tbox_b T.drew u5 rfl
                            | exact tbox_b T.drew ((Upd.refl Non _).drew.trans u5) rfl
                        case rest => as_aux_lemma =>
                          obtain ⟨Bx, rfl, rfl, hH⟩ := hcut
                          clear m1 m0 y0 y2 y3 y4 y5 hml hbl lbx T
                          have T := hH.out.1
                          have LX := hH.out.2
                          clear hH
                          generalize wc = we at T LX ⊢
                          have m1 := T.m1
                          have m0 := T.m0
                          have y2 := T.a2
                          have y3 := T.a3
                          have lbx := T.ax.lt
                          have hml := T.mr.lt
                          have hbl := T.bt.lt
                          go_upto_region 32 with fail
                          go_cut [18, 19] from 122 to 130 (fun b e wc => ∃ By, b = .pointer (some ⟨By, 0, none⟩) ∧ e = errv ey ∧ Hid (TMX w wc L g0 g1 w1.heap.size bb P A B f bx ⟨kind, xn, xa, xb, xv, true⟩ ∧ LBox wc Bx ⟨tx, wrx, fx⟩ ∧ LBox wc By ⟨ty, wry, fy⟩))
                          case first => as_aux_lemma =>
                            go_region_held3 (fun w' => w'.cell? ⟨w1.heap.size, 1, none⟩ = some (.pointer (some ⟨g1, 0, none⟩)) ∧ w'.cell? ⟨bx, 2, none⟩ = some (.int .i64 xa)) (first | exact ⟨m1, y2⟩ | exact ⟨(TMX.non T (by repeat (first | assumption | exact Upd.refl _ _ | apply Upd.alloc | apply Upd.drew | apply Upd.drewN | refine Upd.tbox ?_ (Nat.le_refl _) _ _ _ | refine Upd.trans ?_ u5))).m1, (TMX.non T (by repeat (first | assumption | exact Upd.refl _ _ | apply Upd.alloc | apply Upd.drew | apply Upd.drewN | refine Upd.tbox ?_ (Nat.le_refl _) _ _ _ | refine Upd.trans ?_ u5))).a2⟩) (first
                              | (go_at_call 55; refine Calls.mono (mleaf_any _ g1 65 L.p B (TM.b (TMX.toTM (TMX.non T (by repeat (first | assumption | apply Upd.alloc | apply Upd.drew | apply Upd.drewN | exact Upd.refl _ _))))) xa) ?_; rw [HY.out]; rintro e w5 ⟨rfl, u5⟩; unfold LeafM.val; obtain ⟨hcc, hff⟩ := u5.cells; have hz := u5.size; simp at hz))
                            all_goals go_wp2_with fail
                            all_goals go_meet
                            all_goals refine ⟨_, rfl, rfl, ?_⟩
                            all_goals with_reducible first
                              | exact tbox2_a (T.non u5) (LX.non u5)
                              | exact tbox2_a (T.drew.non u5) (LX.drew.non u5)
                              | exact tbox2_b T LX u5 rfl
                              | exact tbox2_b T LX ((Upd.refl Non _).drew.trans u5) rfl
                              | exact tbox2_b T LX ((Upd.refl Non _).drew.drew.trans u5) rfl
                              | exact tbox2_b T.drew LX.drew u5 rfl
                              | exact tbox2_b T.drew LX.drew ((Upd.refl Non _).drew.trans u5) rfl
                          case rest => as_aux_lemma =>
                            obtain ⟨By, rfl, rfl, hH⟩ := hcut
                            clear m1 m0 y2 y3 hml hbl lbx T LX
                            have T := hH.out.1
                            have LX := hH.out.2.1
                            have LY := hH.out.2.2
                            clear hH
                            generalize wc = wx at T LX LY ⊢
                            have x0 := LX.c0
                            have x2 := LX.c2
                            have z0 := LY.c0
                            have z2 := LY.c2
                            have lx := LX.lt
                            have ly := LY.lt
                            dsimp only at x0 x2 z0 z2
                            cases tx with
                            | false =>
                              go_wp2_with fail
                              go_meet
                              exact ⟨_, _, _, _, (TMX.toTM T), HF.out⟩
                            | true =>
                              cases ty with
                              | false =>
                                go_wp2_with fail
                                go_meet
                                exact ⟨_, _, _, _, (TMX.toTM T), HF.out⟩
                              | true =>
                                have hsm := same_any wx L P (TMX.toTM T).rp fx fy
                                cases hs : P.same fx fy with
                                | false =>
                                  rw [hs] at hsm
                                  have hsm := Lib.hid hsm; clear hs
                                  go_wp2_with (first | (go_at_call 41; refine Calls.mono hsm.out ?_; rintro e w6 ⟨rfl, q6, rfl⟩; have T6 := T.drewN q6) | fail)
                                  go_meet
                                  exact ⟨_, _, _, _, (TMX.toTM T6), HF.out⟩
                                | true =>
                                  rw [hs] at hsm
                                  have hsm := Lib.hid hsm
                                  by_cases hne : fx = fy
                                  · as_aux_lemma =>
                                    subst hne
                                    clear hs
                                    go_wp2_with (first | (go_at_call 41; refine Calls.mono hsm.out ?_; rintro e w6 ⟨rfl, q6, rfl⟩; have T6 := T.drewN q6; have LX6 := LX.drewN q6; have LY6 := LY.drewN q6; have x2' := LX6.c2; have z2' := LY6.c2; have lx' := LX6.lt; have ly' := LY6.lt) | fail)
                                    go_meet
                                    exact ⟨_, _, _, _, (TMX.toTM T6), HF.out⟩
                                  · as_aux_lemma =>
                                    have hyl := mleaf_there HY.out
                                    obtain ⟨n, hn16, hxa, hleaf⟩ := hyl
                                    subst hxa
                                    have HJ0 := join_ok (P := P) (A := B) hn16 hleaf hne hs
                                    have HG0 := ((HF.out.toG.swap.sealAll fx).join (n : Int) fx (fun i hi ht hf => sealM_off hi ht hf) (fun i hi ht hf => sealM_off hi ht hf)).1
                                    generalize hJ : mjoin P (sealM B fx 16) (n : Int) fx = J at HJ0 HG0
                                    obtain ⟨P8, M8, e8⟩ := J
                                    obtain rfl : e8 = 0 := congrArg (fun y => y.2.2) HJ0
                                    have hez := Lib.hid (show errv 0 = Value.nilIface from rfl)
                                    have HJ := Lib.hid hJ
                                    have HG := Lib.hid HG0
                                    clear HJ0 HG0 hJ
                                    clear hs hleaf
                                    go_upto_region 34 with (first | (go_at_call 41; refine Calls.mono hsm.out ?_; rintro e w6 ⟨rfl, q6, rfl⟩; have T6 := T.drewN q6; have LX6 := LX.drewN q6; have LY6 := LY.drewN q6; have x2' := LX6.c2; have z2' := LY6.c2; have lx' := LX6.lt; have ly' := LY6.lt) | fail)
                                    go_upto_region 35 with (first
                                      | (refine wpl_load rfl 87 _ rfl _ _ rfl (TM.loadM (TMX.toTM T6)) ?_)
                                      | (go_at_call 56; refine Calls.mono (seal_law _ g0 g1 L.p A B (TM.a (TMX.toTM T6)) (TM.b (TMX.toTM T6)) (TM.ne (TMX.toTM T6)) fx) ?_; rintro e w7 ⟨rfl, ra7, rb7, u7⟩; have T7 := TMX.seals T6 ra7 rb7 u7; have LX7 := lbox_seals T6 LX6 u7)
                                      | fail)
                                    clear x0 x2 z0 z2 x2' z2' lx ly lx' ly'
                                    have m7 := T7.m1
                                    have y7 := T7.a2
                                    have x7 := LX7.c2
                                    have l7 := LX7.lt
                                    have b7 := T7.ax.lt
                                    have k7 := T7.mr.lt
                                    go_region_held3 (fun w' => w'.cell? ⟨w1.heap.size, 1, none⟩ = some (.pointer (some ⟨g1, 0, none⟩)) ∧ w'.cell? ⟨bx, 2, none⟩ = some (.int .i64 n) ∧ w'.cell? ⟨Bx, 2, none⟩ = some (.int .i64 fx)) (first | exact ⟨m7, y7, x7⟩ | exact ⟨T8.m1, T8.a2, LX8.c2⟩) (first
                                      | (go_at_call 57; refine Calls.mono (join_any _ L P g1 65 (sealM B fx 16) (TM.rp (TMX.toTM T7.drew)) (TM.b (TMX.toTM T7.drew)) n fx) ?_; unfold JoinPost; rw [HJ.out]; dsimp only; rw [hez.out]; rintro e w8 ⟨rfl, r8, q8, u8⟩; have T8 := TMX.step1 T7.drew r8 q8 u8; have LX8 := lbox_step1 T7.drew LX7.drew u8))
                                    all_goals have HF5 := Lib.hid (HeldG.toI (HeldG.swap (HG.out)))
                                    all_goals go_wp2_with fail
                                    all_goals (
                                      go_meet
                                      exact ⟨_, _, _, _, (TMX.toTM T8), HF5.out⟩)
                      · as_aux_lemma =>
                        have hbr' : xb < 0 ∨ 15 < xb := by omega
                        rcases hbr' with hbr' | hbr'
                        · as_aux_lemma =>
                          clear hbr
                          go_wp2_with fail
                          go_meet
                          exact ⟨_, _, _, _, (TMX.toTM T), HF.out⟩
                        · as_aux_lemma =>
                          clear hbr
                          have hb0 : 0 ≤ xb := by omega
                          have hb1 : ¬ xb < 16 := by omega
                          go_wp2_with fail
                          go_meet
                          exact ⟨_, _, _, _, (TMX.toTM T), HF.out⟩
                    · as_aux_lemma =>
                      have hj' : (kind.toList == [106, 111, 105, 110]) = false := by simpa using hj
                      clear hj
                      by_cases hs : (kind.toList == [115, 101, 97, 108]) = true
                      · as_aux_lemma =>
                        go_upto_region 38 with fail
                        go_still_tail 5, (by kernel_rfl)
                        have Td := T.drew
                        change wpList _ _ _ _ _ wx.drew
                        go_wp2_with (first | (go_at_call 58; refine Calls.mono (mseal_any _ g1 65 L.p B (TM.b (TMX.toTM Td)) xa) ?_; rintro e w5 ⟨rfl, q5, u5⟩; have T5 := TMX.map1 Td q5 u5) | fail)
                        all_goals have HF5 := Lib.hid (HeldG.toI (HeldG.swap (HF.out.toG.swap.seal1 xa)))
                        all_goals go_wp2_with fail
                        all_goals (
                          go_meet
                          exact ⟨_, _, _, _, (TMX.toTM T5), HF5.out⟩)
                      · as_aux_lemma =>
                        have hs' : (kind.toList == [115, 101, 97, 108]) = false := by simpa using hs
                        clear hs
                        by_cases ht : (kind.toList == [115, 101, 116]) = true
                        · as_aux_lemma =>
                          have HG := Lib.hid (HF.out.toG.swap.touch xa true).1
                          have hcs := mtouch_cases P B xa true
                          have htc := Lib.hid (touch_any wx.drew L P g1 65 B (TM.rp (TMX.toTM T.drew)) (TM.b (TMX.toTM T.drew)) xa true (fun k hk ht => (HF.out.b.here k hk ht).2))
                          unfold TouchPost at htc
                          generalize mtouch P B xa true = Y at HG hcs htc
                          obtain ⟨P5, M5, f5, mv5, er5⟩ := Y
                          dsimp only at HG hcs htc
                          go_upto_region 40 with fail
                          by_cases he : er5 = 0
                          · as_aux_lemma =>
                            subst he
                            rcases hcs with ⟨h, _⟩ | ⟨_, ho, hth, hfe, hwr⟩
                            · exact absurd rfl h
                            obtain ⟨n, hn⟩ : ∃ n : Nat, xa = n := ⟨xa.toNat, by have := onB_iff.1 ho; omega⟩
                            subst hn
                            have hn16 : n < 16 := by have := onB_iff.1 ho; omega
                            rw [Int.toNat_natCast] at hth hfe hwr
                            have hw := hwr rfl
                            clear ho hwr
                            by_cases hbr : 0 ≤ xb ∧ xb < 16
                            · as_aux_lemma =>
                              obtain ⟨hb0, hb1⟩ := hbr
                              have HS := Lib.hid (HG.out.set_ hn16 hth hw hb0 hb1 xv)
                              rw [← hfe] at HS
                              clear hth hfe hw
                              go_region_held3 (fun w' => w'.cell? ⟨w1.heap.size, 1, none⟩ = some (.pointer (some ⟨g1, 0, none⟩)) ∧ w'.cell? ⟨bx, 2, none⟩ = some (.int .i64 n)) (first | exact ⟨m1, y2⟩ | exact ⟨T5.m1, T5.a2⟩) (first
                                | (go_at_call 51; refine Calls.mono htc.out ?_; unfold errv; rintro e w5 ⟨rfl, r5, q5, u5⟩; have T5 := TMX.step1 T.drew r5 q5 u5; have z3 := T5.a3; have z4 := T5.a4; have lz := T5.ax.lt))
                              all_goals go_upto_region 44 with (first
                                | (go_at_call 37; refine Calls.mono (set_any _ L P5 T5.rp f5 xb xv) ?_; rw [HS.out.1]; rintro e w6 ⟨rfl, r6, u6⟩; unfold errv; have T6 := T5.pool r6 u6; have t2' := T6.a2; have t3' := T6.a3; have t4' := T6.a4; have lt' := T6.ax.lt; have lbt := T6.bt.lt; have cb := T6.bt.cellA (i := (16 + n)) (j := xb.toNat) (a := (16 + n) * 16 + xb.toNat) (by omega) (by omega) (by omega); have fb := T6.bt.fr ((16 + n) * 16 + xb.toNat))
                                | fail)
                              all_goals have HF5 := Lib.hid (held_set1 (f := f) hn16 (HS.out.2))
                              all_goals go_region
                              all_goals go_wp2_with fail
                              all_goals (have T7 := (TM.setB (TMX.toTM T6) (i := (16 + n)) (j := xb.toNat) (a := (16 + n) * 16 + xb.toNat) (v := xv) (by omega) (by omega) (by omega)).non ((Upd.refl Non _).drew))
                              all_goals (
                                go_meet
                                exact ⟨_, _, _, _, T7, HF5.out⟩)
                            · as_aux_lemma =>
                              have HF5 := Lib.hid (HeldG.toI (HeldG.swap (HG.out)))
                              have hbr' : xb < 0 ∨ (0 ≤ xb ∧ ¬ xb < 16) := by omega
                              clear hth hfe hw hbr
                              go_region_held3 (fun w' => w'.cell? ⟨w1.heap.size, 1, none⟩ = some (.pointer (some ⟨g1, 0, none⟩)) ∧ w'.cell? ⟨bx, 2, none⟩ = some (.int .i64 n)) (first | exact ⟨m1, y2⟩ | exact ⟨T5.m1, T5.a2⟩) (first
                                | (go_at_call 51; refine Calls.mono htc.out ?_; unfold errv; rintro e w5 ⟨rfl, r5, q5, u5⟩; have T5 := TMX.step1 T.drew r5 q5 u5; have z3 := T5.a3; have lz := T5.ax.lt))
                              all_goals rcases hbr' with hb0 | ⟨hb0, hb1⟩
                              all_goals go_wp2_with fail
                              all_goals (
                                go_meet
                                exact ⟨_, _, _, _, (TMX.toTM T5), HF5.out⟩)
                          · as_aux_lemma =>
                            have hz := Lib.hid (errv_pos he)
                            clear hcs he
                            go_region_held3 (fun w' => w'.cell? ⟨w1.heap.size, 1, none⟩ = some (.pointer (some ⟨g1, 0, none⟩)) ∧ w'.cell? ⟨bx, 2, none⟩ = some (.int .i64 xa)) (first | exact ⟨m1, y2⟩ | exact ⟨T5.m1, T5.a2⟩) (first
                              | (go_at_call 51; refine Calls.mono htc.out ?_; rw [hz.out]; rintro e w5 ⟨rfl, r5, q5, u5⟩; have T5 := TMX.step1 T.drew r5 q5 u5))
                            all_goals have HF5 := Lib.hid (HeldG.toI (HeldG.swap (HG.out)))
                            all_goals go_wp2_with fail
                            all_goals (
                              go_meet
                              exact ⟨_, _, _, _, (TMX.toTM T5), HF5.out⟩)
                        · as_aux_lemma =>
                          have ht' : (kind.toList == [115, 101, 116]) = false := by simpa using ht
                          clear ht
                          go_upto_region 28 with fail
                          go_region_held3 (fun w' => w'.cell? ⟨w1.heap.size, 1, none⟩ = some (.pointer (some ⟨g1, 0, none⟩)) ∧ w'.cell? ⟨bx, 2, none⟩ = some (.int .i64 xa) ∧ w'.cell? ⟨bx, 3, none⟩ = some (.int .i64 xb)) (first | exact ⟨m1, y2, y3⟩ | exact ⟨T5.m1, T5.a2, T5.a3⟩) (first
                            | (go_at_call 51; refine Calls.mono (touch_any _ L P g1 65 B (TM.rp (TMX.toTM T.drew)) (TM.b (TMX.toTM T.drew)) xa _ (fun k hk ht => (HF.out.b.here k hk ht).2)) ?_; rintro e w5 ⟨rfl, r5, q5, u5⟩; have T5 := TMX.step1 T.drew r5 q5 u5))
                          all_goals have HF5 := Lib.hid (HeldG.toI (HeldG.swap ((HF.out.toG.swap.touch xa (decide (0 < xb))).1)))
                          all_goals go_wp2_with fail
                          all_goals (
                            go_meet
                            exact ⟨_, _, _, _, (TMX.toTM T5), HF5.out⟩)
                  case rest => as_aux_lemma =>
                    obtain ⟨P, A, B, f, T9, H9⟩ := hcut.out
                    clear T HF hI hcut
                    go_upto_region 45 with fail
                    refine wp_region_lit ?_
                    refine wpl_mv rfl (.tmp 5) rfl (.pointer (some ⟨L.p, 0, none⟩)) rfl ?_
                    refine wpl_load rfl 87 (.tmp 7) rfl (.pointer (some ⟨w1.heap.size, 0, none⟩)) _ rfl (TM.loadM T9) ?_
                    refine wpl_load rfl 99 (.tmp 12) rfl (.pointer (some ⟨bb, 0, none⟩)) _ rfl (TM.loadB T9) ?_
                    simp only [Act.put, List.setIfInBounds_toArray, List.set_cons_succ, List.set_cons_zero]
                    go_wp2_with (first | (go_at_call 59; refine Calls.mono (held_law _ L g0 g1 _ _ _ _ (TM.rp T9) (TM.a T9) (TM.b T9) H9) ?_; rintro e w9 ⟨rfl, u9⟩; have T10 := TM.non T9 u9) | fail)
                    go_roundw
                    case rel => (repeat apply Exists.intro); exact ⟨⟨q + 1, _, _, _, _, by omega, by go_num, T10, H9⟩, rfl⟩
                    case measure => simp [intOf]; omega
            · go_wp2
              go_ret
              exact ⟨rfl, hI.out.1.up⟩

end U
end Go.Proofs.Ytnhplapcdgnaaaa
