import Derived.Test.YtnhplapcdgnaaaaTopMapB
set_option linter.unusedVariables false
set_option linter.unusedSimpArgs false
namespace Go.Proofs.Ytnhplapcdgnaaaa
open Go.RowKit
namespace U

def btabL (f : Nat → Nat → UInt8) : List Value := (List.range 512).map fun i => Value.int .u8 (f (i / 16) (i % 16)).toNat
theorem btabL_length (f : Nat → Nat → UInt8) : (btabL f).length = 512 := by simp [btabL]
theorem btab_new (w : World) (f : Nat → Nat → UInt8) : BTab (w.alloc (.cells (btabL f).toArray 99)) w.heap.size 99 512 0 32 f := by
  refine ⟨fun i => .int .u8 (f (i / 16) (i % 16)).toNat, ⟨_, heap_alloc_new w _, by rw [List.size_toArray, btabL_length], fun i hi => ?_⟩, by omega, fun i j hi hj => ?_⟩
  · rw [List.getElem?_toArray]; unfold btabL; rw [List.getElem?_map, List.getElem?_range hi]; rfl
  · dsimp only
    rw [show (0 + i * 16 + j) / 16 = i by omega, show (0 + i * 16 + j) % 16 = j by omega]
theorem repl_at (z : Value) (n i : Nat) (h : i < n) : (List.replicate n z).toArray[i]? = some z := by simp [h]
theorem repl64 (i : Nat) (h : i < 64) : (List.replicate 64 (Value.int .i64 0)).toArray[i]? = some (Value.int .i64 0) := repl_at _ _ _ h

theorem eq_zero16 (w : World) : (Op.equalIn 10000 59 (.agg #[.int .u8 0, .int .u8 0, .int .u8 0, .int .u8 0, .int .u8 0, .int .u8 0, .int .u8 0, .int .u8 0, .int .u8 0, .int .u8 0, .int .u8 0, .int .u8 0, .int .u8 0, .int .u8 0, .int .u8 0, .int .u8 0]) (.agg #[.int .u8 0, .int .u8 0, .int .u8 0, .int .u8 0, .int .u8 0, .int .u8 0, .int .u8 0, .int .u8 0, .int .u8 0, .int .u8 0, .int .u8 0, .int .u8 0, .int .u8 0, .int .u8 0, .int .u8 0, .int .u8 0])).run Try.prog w = .ok true w := by kernel_rfl

set_option maxRecDepth 100000 in
set_option maxHeartbeats 4000000 in
theorem held_law (w : World) (L : PoolAt) (g0 g1 : Nat) (P : PoolM) (A B : MapM) (f : Nat → Nat → UInt8) (rp : PoolRep w L P) (ha : MRep w g0 146 65 L.p A) (hb : MRep w g1 146 65 L.p B) (hI : HeldI P A B f) :
    Calls Try.prog 59 #[.pointer (some ⟨L.p, 0, none⟩), .agg #[.pointer (some ⟨g0, 0, none⟩), .pointer (some ⟨g1, 0, none⟩)], .agg (btabL f).toArray] w fun e w' => e = .returned (.bool true) ∧ Upd Non w w' := by
  have T0 : HL w (((w.alloc (.cells #[.pointer (some ⟨g0, 0, none⟩), .pointer (some ⟨g1, 0, none⟩)] 87)).alloc (.cells (btabL f).toArray 99)).alloc (.cells (List.replicate 64 (Value.int .i64 0)).toArray 61)) L g0 g1 w.heap.size (w.heap.size + 1) (w.heap.size + 1 + 1) P A B f (fun i => (pcnt A B i 0 : Nat)) := by
    have h1 := btab_new (w.alloc (.cells #[.pointer (some ⟨g0, 0, none⟩), .pointer (some ⟨g1, 0, none⟩)] 87)) f
    have h2 := heap_alloc_new ((w.alloc (.cells #[.pointer (some ⟨g0, 0, none⟩), .pointer (some ⟨g1, 0, none⟩)] 87)).alloc (.cells (btabL f).toArray 99)) (.cells (List.replicate 64 (Value.int .i64 0)).toArray 61)
    rw [World.size_alloc] at h1
    rw [World.size_alloc, World.size_alloc] at h2
    exact ⟨((rp.alloc _).alloc _).alloc _, ((ha.alloc _).alloc _).alloc _, ((hb.alloc _).alloc _).alloc _, ((row_2 w _ _ _).alloc _).alloc _, h1.upd_ ((Upd.refl Non _).alloc _) (fun h => h), ⟨_, h2, by simp, fun i hi => repl64 i hi⟩, (((Upd.refl _ _).alloc _).alloc _).alloc _, by omega⟩
  have H0 := Lib.hid T0
  have HI := Lib.hid hI
  have hn64 : P.n ≤ 64 := rp.n64
  clear T0 hI rp ha hb
  go_enter Try.func59, Try.ntmps59
  go_wp2_with fail
  go_loopw [8] (fun i wr => ∃ k : Nat, k ≤ 32 ∧ i = .int .i64 k ∧ Hid (HL w wr L g0 g1 w.heap.size (w.heap.size + 1) (w.heap.size + 1 + 1) P A B f (fun i => (pcnt A B i k : Nat)))) (fun i _ => 32 - (intOf i).toNat)
  case atStart => exact ⟨0, Nat.zero_le _, rfl, H0.out⟩
  case round =>
    clear H0
    obtain ⟨k, hk, rfl, hT⟩ := hrel
    have t := hT.out
    have lm := t.mr.lt
    have lb := t.bt.lt
    have lr := t.rt.lt
    by_cases hlt : k < 32
    · obtain ⟨g, hg, hleaf⟩ := t.leaf hlt
      have hl := Lib.hid hleaf
      have hk2 : (k : Int) < 32 := by omega
      have q0 : (0 : Int) ≤ (k : Int) / 16 := by omega
      have q1 : (k : Int) / 16 < 2 := by omega
      have q2 : ((k : Int) / 16).toNat = k / 16 := by omega
      generalize hle : pmap A B k = le at hl
      obtain ⟨there, write, fr⟩ := le
      have HE := Lib.hid hle
      clear hle hleaf
      cases there with
      | false =>
        have hz := HI.out.gone hlt (by rw [HE.out])
        go_upto_region 8 with (first
          | (go_at_call 55; refine Calls.mono hl.out ?_; rintro e w2 ⟨rfl, u2⟩; unfold LeafM.val; have t2 := t.non u2)
          | fail)
        have z0 := t2.bt.cellA (i := k) (j := 0) (a := k * 16) (by omega) (by omega) (by omega)
        rw [hz 0 (by omega)] at z0
        have z1 := t2.bt.cellA (i := k) (j := 1) (a := k * 16 + 1) (by omega) (by omega) (by omega)
        rw [hz 1 (by omega)] at z1
        have z2 := t2.bt.cellA (i := k) (j := 2) (a := k * 16 + 2) (by omega) (by omega) (by omega)
        rw [hz 2 (by omega)] at z2
        have z3 := t2.bt.cellA (i := k) (j := 3) (a := k * 16 + 3) (by omega) (by omega) (by omega)
        rw [hz 3 (by omega)] at z3
        have z4 := t2.bt.cellA (i := k) (j := 4) (a := k * 16 + 4) (by omega) (by omega) (by omega)
        rw [hz 4 (by omega)] at z4
        have z5 := t2.bt.cellA (i := k) (j := 5) (a := k * 16 + 5) (by omega) (by omega) (by omega)
        rw [hz 5 (by omega)] at z5
        have z6 := t2.bt.cellA (i := k) (j := 6) (a := k * 16 + 6) (by omega) (by omega) (by omega)
        rw [hz 6 (by omega)] at z6
        have z7 := t2.bt.cellA (i := k) (j := 7) (a := k * 16 + 7) (by omega) (by omega) (by omega)
        rw [hz 7 (by omega)] at z7
        have z8 := t2.bt.cellA (i := k) (j := 8) (a := k * 16 + 8) (by omega) (by omega) (by omega)
        rw [hz 8 (by omega)] at z8
        have z9 := t2.bt.cellA (i := k) (j := 9) (a := k * 16 + 9) (by omega) (by omega) (by omega)
        rw [hz 9 (by omega)] at z9
        have z10 := t2.bt.cellA (i := k) (j := 10) (a := k * 16 + 10) (by omega) (by omega) (by omega)
        rw [hz 10 (by omega)] at z10
        have z11 := t2.bt.cellA (i := k) (j := 11) (a := k * 16 + 11) (by omega) (by omega) (by omega)
        rw [hz 11 (by omega)] at z11
        have z12 := t2.bt.cellA (i := k) (j := 12) (a := k * 16 + 12) (by omega) (by omega) (by omega)
        rw [hz 12 (by omega)] at z12
        have z13 := t2.bt.cellA (i := k) (j := 13) (a := k * 16 + 13) (by omega) (by omega) (by omega)
        rw [hz 13 (by omega)] at z13
        have z14 := t2.bt.cellA (i := k) (j := 14) (a := k * 16 + 14) (by omega) (by omega) (by omega)
        rw [hz 14 (by omega)] at z14
        have z15 := t2.bt.cellA (i := k) (j := 15) (a := k * 16 + 15) (by omega) (by omega) (by omega)
        rw [hz 15 (by omega)] at z15
        have lb2 := t2.bt.lt
        have heq := eq_zero16
        have hno : Hid (∀ i, pcnt A B i (k + 1) = pcnt A B i k) := fun i => by
          rw [pcnt_succ]
          unfold pin
          rw [HE.out]
          rfl
        go_wp2_with fail
        go_roundw
        case rel => exact ⟨k + 1, by omega, by go_num, by simp only [hno.out]; exact t2.non ((Upd.refl _ _).alloc _)⟩
        case measure => simp [intOf]; omega
      | true =>
        have hh := HI.out.here hlt (by rw [HE.out])
        rw [HE.out] at hh
        dsimp only at hh
        obtain ⟨f0, f1, hu, hby⟩ := hh
        obtain ⟨fn, rfl⟩ := Int.eq_ofNat_of_zero_le f0
        have f2 : fn < 64 := by omega
        have hp := pcnt_le A B fn k
        have hr : fset (fun i => ((pcnt A B i k : Nat) : Int)) fn ((pcnt A B fn k : Nat) + 1) = fun i => ((pcnt A B i (k + 1) : Nat) : Int) := by
          funext i
          unfold fset
          rw [pcnt_succ]
          unfold pin
          rw [HE.out]
          by_cases e : i = fn
          · subst e; simp
          · have : ¬ ((fn : Int) == (i : Int)) = true := by simp; omega
            simp [e, this]
        have HR := Lib.hid hr
        have HU := Lib.hid hu
        have HB := Lib.hid hby
        have f64 : (fn : Int) < 64 := by omega
        clear hu hby hr f0 f1
        go_upto_region 13 with (first
          | (go_at_call 55; refine Calls.mono hl.out ?_; rintro e w2 ⟨rfl, u2⟩; unfold LeafM.val; have t2 := t.non u2)
          | fail)
        have t3 := t2.non ((Upd.refl _ _).alloc (.cells #[.bool true, .bool write, .int .i64 fn] 33))
        have bx := (Row.new w2 33 #[.bool true, .bool write, .int .i64 fn])
        have bx : Row (w2.alloc (.cells #[.bool true, .bool write, .int .i64 fn] 33)) w2.heap.size 33 3 (fun i => [Value.bool true, .bool write, .int .i64 fn].getD i undef) := bx.congr fun i hi => by
          have hi : i < 3 := hi
          have : i = 0 ∨ i = 1 ∨ i = 2 := by omega
          rcases this with rfl | rfl | rfl <;> rfl
        generalize w2.alloc (.cells #[.bool true, .bool write, .int .i64 fn] 33) = w3 at t3 bx ⊢
        have c3 := t3.rt.cell (i := fn) f2
        unfold ints at c3
        have fz := t3.rt.frozen fn
        have lr3 := t3.rt.lt
        have b2 := bx.cell (i := 2) (by omega)
        have t4 := t3.setI (i := fn) ((pcnt A B fn k : Nat) + 1)
        rw [HR.out] at t4
        have bx4 := bx.far (p := ⟨w.heap.size + 1 + 1, fn, none⟩) (bx.ne_ t3.rt (by decide)) (.int .i64 ((pcnt A B fn k : Nat) + 1))
        clear t t2 u2 hl
        go_upto_region 14 with fail
        clear c3 fz lr3 b2 t3 bx
        generalize w3.setCell ⟨w.heap.size + 1 + 1, fn, none⟩ (.int .i64 ((pcnt A B fn k : Nat) + 1)) = w4 at t4 bx4 ⊢
        go_wp2_with fail
        go_loopw [11] (fun i wi => ∃ j : Nat, j ≤ 16 ∧ i = .int .i64 j ∧ Hid (HL w wi L g0 g1 w.heap.size (w.heap.size + 1) (w.heap.size + 1 + 1) P A B f (fun i => (pcnt A B i (k + 1) : Nat)) ∧ Row wi w2.heap.size 33 3 (fun i => [Value.bool true, .bool write, .int .i64 fn].getD i undef))) (fun i _ => 16 - (intOf i).toNat)
        case atStart => exact ⟨0, Nat.zero_le _, rfl, t4, bx4⟩
        case round =>
          clear t4 bx4
          obtain ⟨j, hj, rfl, hJ⟩ := hrel
          by_cases hjl : j < 16
          · have t5 := hJ.out.1
            have b2 := hJ.out.2.cell (i := 2) (by omega)
            have lb5 := hJ.out.2.lt
            have hg2 : Hid (P.get fn j = (f k j, 0)) := by
              show _ = _
              unfold PoolM.get
              have hb := HB.out j hjl
              rw [Int.toNat_natCast] at hb
              rw [if_neg (by omega), if_pos HU.out, Int.toNat_natCast, Int.toNat_natCast, hb]
            have cb := t5.bt.cellA (i := k) (j := j) (a := k * 16 + j) (by omega) (by omega) (by omega)
            have lbb := t5.bt.lt
            have hj2 : (j : Int) < 16 := by omega
            go_wp2_with (first
              | (go_at_call 35; refine (get_any _ L P t5.rp fn j).mono ?_; rw [hg2.out]; rintro e w5 ⟨rfl, rfl⟩; unfold errv)
              | fail)
            go_roundw
            case rel => exact ⟨j + 1, by omega, by go_num, hJ.out⟩
            case measure => simp [intOf]; omega
          · go_wp2_with fail
            exact ⟨⟨k + 1, by omega, by go_num, hJ.out.1⟩, by simp [intOf]; omega⟩
    · obtain rfl : k = 32 := by omega
      have HT := Lib.hid hT.out.up
      go_wp2_with fail
      go_loopw [14] (fun i wi => ∃ j : Nat, j ≤ 32 ∧ i = .int .i64 j ∧ Hid (HL w wi L g0 g1 w.heap.size (w.heap.size + 1) (w.heap.size + 1 + 1) P A B f (fun i => (pcnt A B i 32 : Nat)))) (fun i _ => 32 - (intOf i).toNat)
      case atStart => exact ⟨0, Nat.zero_le _, rfl, hT.out⟩
      case round =>
        obtain ⟨j, hj, rfl, hJ⟩ := hrel
        clear t lm lb lr hT
        have t := hJ.out
        have lm := t.mr.lt
        have lr := t.rt.lt
        by_cases hjl : j < 32
        · obtain ⟨g, hg, hleaf⟩ := t.leaf hjl
          have hl := Lib.hid hleaf
          have hk2 : (j : Int) < 32 := by omega
          have q0 : (0 : Int) ≤ (j : Int) / 16 := by omega
          have q1 : (j : Int) / 16 < 2 := by omega
          have q2 : ((j : Int) / 16).toNat = j / 16 := by omega
          generalize hle : pmap A B j = le at hl
          obtain ⟨there, write, fr⟩ := le
          have HE := Lib.hid hle
          clear hle hleaf
          cases there with
          | false =>
            go_wp2_with (first
              | (go_at_call 55; refine Calls.mono hl.out ?_; rintro e w2 ⟨rfl, u2⟩; unfold LeafM.val; have t2 := t.non u2)
              | fail)
            go_roundw
            case rel => first | exact ⟨j + 1, by omega, by go_num, t2.non ((Upd.refl _ _).alloc _)⟩ | ((repeat apply Exists.intro); exact ⟨⟨by omega, by go_num, t2.non ((Upd.refl _ _).alloc _)⟩, rfl⟩) | ((repeat apply Exists.intro); exact ⟨⟨j + 1, by omega, by go_num, t2.non ((Upd.refl _ _).alloc _)⟩, rfl⟩)
            case measure => simp [intOf]; omega
          | true =>
            cases write with
            | false =>
              go_wp2_with (first
                | (go_at_call 55; refine Calls.mono hl.out ?_; rintro e w2 ⟨rfl, u2⟩; unfold LeafM.val; have t2 := t.non u2)
                | fail)
              go_roundw
              case rel => first | exact ⟨j + 1, by omega, by go_num, t2.non ((Upd.refl _ _).alloc _)⟩ | ((repeat apply Exists.intro); exact ⟨⟨by omega, by go_num, t2.non ((Upd.refl _ _).alloc _)⟩, rfl⟩) | ((repeat apply Exists.intro); exact ⟨⟨j + 1, by omega, by go_num, t2.non ((Upd.refl _ _).alloc _)⟩, rfl⟩)
              case measure => simp [intOf]; omega
            | true =>
              have hh := HI.out.here hjl (by rw [HE.out])
              have h1 := HI.out.one hjl (by rw [HE.out]) (by rw [HE.out])
              rw [HE.out] at hh h1
              dsimp only at hh h1
              obtain ⟨f0, f1, _, _⟩ := hh
              obtain ⟨fn, rfl⟩ := Int.eq_ofNat_of_zero_le f0
              rw [Int.toNat_natCast] at h1
              have f64 : (fn : Int) < 64 := by omega
              have c3 := t.rt.cell (i := fn) (by omega)
              unfold ints at c3
              dsimp only at c3
              rw [h1] at c3
              clear h1 f0 f1
              go_wp2_with (first
                | (go_at_call 55; refine Calls.mono hl.out ?_; rintro e w2 ⟨rfl, u2⟩; unfold LeafM.val; have t2 := t.non u2; have d3 := u2.cell c3 (fun h => h); have ld3 := t2.rt.lt)
                | fail)
              go_roundw
              case rel => first | exact ⟨j + 1, by omega, by go_num, t2.non ((Upd.refl _ _).alloc _)⟩ | ((repeat apply Exists.intro); exact ⟨⟨by omega, by go_num, t2.non ((Upd.refl _ _).alloc _)⟩, rfl⟩) | ((repeat apply Exists.intro); exact ⟨⟨j + 1, by omega, by go_num, t2.non ((Upd.refl _ _).alloc _)⟩, rfl⟩)
              case measure => simp [intOf]; omega
        · obtain rfl : j = 32 := by omega
          go_wp2_with fail
          go_loopw [17] (fun i wi => ∃ q : Nat, q ≤ P.n ∧ i = .int .i64 q ∧ Hid (HL w wi L g0 g1 w.heap.size (w.heap.size + 1) (w.heap.size + 1 + 1) P A B f (fun i => (pcnt A B i 32 : Nat)))) (fun i _ => P.n - (intOf i).toNat)
          case atStart => exact ⟨0, Nat.zero_le _, rfl, hJ.out⟩
          case round =>
            obtain ⟨q, hq, rfl, hQ⟩ := hrel
            clear t lm lr hJ
            have t := hQ.out
            have lr := t.rt.lt
            by_cases hql : q < P.n
            · have hql2 : (q : Int) < P.n := by omega
              have hrf : P.refs q = (pcnt A B q 32 : Nat) := by rw [pcnt_all]; exact HI.out.a.cnt q hql
              have c3 := t.rt.cell (i := q) (by omega)
              unfold ints at c3
              dsimp only at c3
              rw [← hrf] at c3
              have hof : Hid (P.of q = (min (P.refs q) 2, P.refs q, 0)) := by show _ = _; unfold PoolM.of; rw [if_neg (by omega)]; rfl
              have hq64 : (q : Int) < 64 := by omega
              clear hrf
              go_wp2_with (first
                | (go_at_call 78; refine (size_any _ L P t.rp).mono ?_; rintro e w2 ⟨rfl, rfl⟩)
                | (go_at_call 46; refine (of_any _ L P t.rp _).mono ?_; rw [hof.out]; rintro e w2 ⟨rfl, u2⟩; unfold frameV errv; have t2 := t.non u2; have d3 := u2.cell c3 (fun h => h); have ld3 := t2.rt.lt)
                | fail)
              go_quiet (fail)
              go_wp2
              go_roundw
              case rel => first | exact ⟨q + 1, by omega, by go_num, t2.non (((Upd.refl _ _).alloc _).drewN _)⟩ | ((repeat apply Exists.intro); exact ⟨⟨by omega, by go_num, t2.non (((Upd.refl _ _).alloc _).drewN _)⟩, rfl⟩) | ((repeat apply Exists.intro); exact ⟨⟨q + 1, by omega, by go_num, t2.non (((Upd.refl _ _).alloc _).drewN _)⟩, rfl⟩)
              case measure => simp [intOf]; omega
            · go_wp2_with (first
                | (go_at_call 78; refine (size_any _ L P t.rp).mono ?_; rintro e w2 ⟨rfl, rfl⟩)
                | fail)
              go_ret
              exact ⟨rfl, t.up⟩

end U
end Go.Proofs.Ytnhplapcdgnaaaa
