import Derived.Test.YtnhplapcdgnaaaaMapSays
import Derived.Test.YtnhplapcdgnaaaaRPoolZ
set_option linter.unusedVariables false
set_option linter.unusedSimpArgs false
namespace Go.Proofs.Ytnhplapcdgnaaaa
open Go.RowKit
namespace U

theorem zeroRMap : Try.zeroCells93 = (Value.pointer none :: (List.replicate 16 (Value.int .i64 0) ++ (List.replicate 16 [Value.bool false, Value.bool false, Value.int .i64 0]).flatten)).toArray := by kernel_rfl
theorem zeroRMap_s : Try.zeroCells93.size = 65 := by rw [zeroRMap]; rfl
theorem rmap_new (w : World) (m : Nat) : RMRep (w.alloc (.cells (Try.zeroCells93.setIfInBounds 0 (.pointer (some ⟨m, 0, none⟩))) 93)) w.heap.size 93 65 m MapM.fresh xn := by
  refine ⟨⟨fun i => (Try.zeroCells93.setIfInBounds 0 (.pointer (some ⟨m, 0, none⟩))).getD i undef, ⟨_, heap_alloc_new w _, by rw [Array.size_setIfInBounds]; exact zeroRMap_s, fun i hi => ?_⟩, ?_, fun i hi => ?_, fun i h1 h2 => by omega⟩, by omega⟩
  · show _ = some ((Array.setIfInBounds _ _ _).getD i undef)
    rw [Array.getD_eq_getD_getElem?, Array.getElem?_eq_getElem (by rw [Array.size_setIfInBounds, zeroRMap_s]; exact hi)]; rfl
  · show (Array.setIfInBounds _ _ _).getD 0 undef = _
    rw [Array.getD_eq_getD_getElem?, Array.getElem?_setIfInBounds_self_of_lt (by rw [zeroRMap_s]; omega)]; rfl
  · have hz : Try.zeroCells93 = Try.zeroCells146 := by rw [zeroRMap, zeroMap]
    obtain ⟨z1, z2, z3, z4⟩ := zeroMap_get i hi
    refine ⟨?_, ?_, ?_, ?_⟩ <;> (show (Array.setIfInBounds _ _ _).getD _ undef = _; rw [Array.getD_eq_getD_getElem?, Array.getElem?_setIfInBounds_ne (by omega), hz])
    · rw [z1]; rfl
    · rw [z2]; rfl
    · rw [z3]; rfl
    · rw [z4]; rfl
theorem row_two (w : World) (t : TypeId) (v v' : Value) : Row (w.alloc (.cells #[v, v'] t)) w.heap.size t 2 (fun i => if i = 0 then v else v') :=
  ⟨#[v, v'], heap_alloc_new w _, rfl, fun i hi => by have h0 : i = 0 ∨ i = 1 := by omega
                                                     rcases h0 with rfl | rfl <;> rfl⟩

theorem MM.start {w w1 w2 w3 : World} {L : PoolAt} {k g0 g1 : Nat} (hk1 : 1 ≤ k) (hk2 : k ≤ 64) (uw : Upd Non w w1) (r : PoolRep w1 L (PoolM.fresh k)) (l1 : w.heap.size ≤ L.p) (l2 : w.heap.size ≤ L.bb) (l3 : w.heap.size ≤ L.rb)
    (q0 : MRep w2 g0 146 65 L.p MapM.fresh) (h0 : w1.heap.size ≤ g0) (u2 : Upd Non (((w1.alloc (.cells (Try.zeroCells63.setIfInBounds 0 (.int .i64 k)) 63)).alloc (.cells #[.pointer none, .pointer none] 87)).alloc (.cells #[.pointer none, .pointer none] 89)) w2) (q1 : MRep w3 g1 146 65 L.p MapM.fresh) (h1 : w2.heap.size ≤ g1) (u3 : Upd Non (((w2.setCell ⟨w1.heap.size + 1, 0, none⟩ (.pointer (some ⟨g0, 0, none⟩))).setCell ⟨w1.heap.size + 1 + 1, 0, none⟩ (.pointer (some ⟨w2.heap.size, 0, none⟩))).alloc (.cells (Try.zeroCells93.setIfInBounds 0 (.pointer (some ⟨w1.heap.size, 0, none⟩))) 93)) w3) :
    MM w (((w3.setCell ⟨w1.heap.size + 1, 1, none⟩ (.pointer (some ⟨g1, 0, none⟩))).setCell ⟨w1.heap.size + 1 + 1, 1, none⟩ (.pointer (some ⟨w3.heap.size, 0, none⟩))).alloc (.cells (Try.zeroCells93.setIfInBounds 0 (.pointer (some ⟨w1.heap.size, 0, none⟩))) 93)) L w1.heap.size g0 g1 w2.heap.size w3.heap.size (w1.heap.size + 1) (w1.heap.size + 1 + 1) (PoolM.fresh k) MapM.fresh MapM.fresh := by
  have hz := uw.size
  have hz2 : w1.heap.size + 3 ≤ w2.heap.size := by have := u2.size; simp at this; omega
  have hz3 : w2.heap.size + 1 ≤ w3.heap.size := by have := u3.size; simp [World.setCell] at this; omega
  have rM := (row_two (w1.alloc (.cells (Try.zeroCells63.setIfInBounds 0 (.int .i64 k)) 63)) 87 (.pointer none) (.pointer none)).alloc (.cells #[.pointer none, .pointer none] 89)
  have rR := row_two ((w1.alloc (.cells (Try.zeroCells63.setIfInBounds 0 (.int .i64 k)) 63)).alloc (.cells #[.pointer none, .pointer none] 87)) 89 (.pointer none) (.pointer none)
  have rL := ((r.alloc (.cells (Try.zeroCells63.setIfInBounds 0 (.int .i64 k)) 63)).alloc (.cells #[.pointer none, .pointer none] 87)).alloc (.cells #[.pointer none, .pointer none] 89)
  have rm := ((rpool_new w1 k hk1 hk2).alloc (.cells #[.pointer none, .pointer none] 87)).alloc (.cells #[.pointer none, .pointer none] 89)
  simp only [World.size_alloc] at rM rR
  have uS : ∀ {a b : World}, Upd Non a b → Upd (fun i => i = w1.heap.size + 1 ∨ i = w1.heap.size + 1 + 1) a b := fun u => u.mono fun _ _ h => h.elim
  have x1 : Upd (fun i => i = w1.heap.size + 1 ∨ i = w1.heap.size + 1 + 1) w2 (((w2.setCell ⟨w1.heap.size + 1, 0, none⟩ (.pointer (some ⟨g0, 0, none⟩))).setCell ⟨w1.heap.size + 1 + 1, 0, none⟩ (.pointer (some ⟨w2.heap.size, 0, none⟩))).alloc (.cells (Try.zeroCells93.setIfInBounds 0 (.pointer (some ⟨w1.heap.size, 0, none⟩))) 93)) :=
    (((Upd.refl _ _).setCell (p := ⟨w1.heap.size + 1, 0, none⟩) (fun _ => .inl rfl) _).setCell (p := ⟨w1.heap.size + 1 + 1, 0, none⟩) (fun _ => .inr rfl) _).alloc _
  have x2 : Upd (fun i => i = w1.heap.size + 1 ∨ i = w1.heap.size + 1 + 1) w3 (((w3.setCell ⟨w1.heap.size + 1, 1, none⟩ (.pointer (some ⟨g1, 0, none⟩))).setCell ⟨w1.heap.size + 1 + 1, 1, none⟩ (.pointer (some ⟨w3.heap.size, 0, none⟩))).alloc (.cells (Try.zeroCells93.setIfInBounds 0 (.pointer (some ⟨w1.heap.size, 0, none⟩))) 93)) :=
    (((Upd.refl _ _).setCell (p := ⟨w1.heap.size + 1, 1, none⟩) (fun _ => .inl rfl) _).setCell (p := ⟨w1.heap.size + 1 + 1, 1, none⟩) (fun _ => .inr rfl) _).alloc _
  have y1 := ((uS u2).trans x1).trans ((uS u3).trans x2)
  have y2 := x1.trans ((uS u3).trans x2)
  have y3 := (uS u3).trans x2
  have hl := r.lts
  obtain ⟨_, hA0, _⟩ := q0.row
  obtain ⟨_, hA1, _⟩ := q1.row
  have rM2 := rM.upd_ u2 (fun h => h)
  have rR2 := rR.upd_ u2 (fun h => h)
  have rM3 := (((rM2.set_ (i := 0) (.pointer (some ⟨g0, 0, none⟩))).far (p := ⟨w1.heap.size + 1 + 1, 0, none⟩) (by simp) (.pointer (some ⟨w2.heap.size, 0, none⟩))).alloc (.cells (Try.zeroCells93.setIfInBounds 0 (.pointer (some ⟨w1.heap.size, 0, none⟩))) 93)).upd_ u3 (fun h => h)
  have rR3 := (((rR2.far (p := ⟨w1.heap.size + 1, 0, none⟩) (by simp) (.pointer (some ⟨g0, 0, none⟩))).set_ (i := 0) (.pointer (some ⟨w2.heap.size, 0, none⟩))).alloc (.cells (Try.zeroCells93.setIfInBounds 0 (.pointer (some ⟨w1.heap.size, 0, none⟩))) 93)).upd_ u3 (fun h => h)
  have rM4 := ((rM3.set_ (i := 1) (.pointer (some ⟨g1, 0, none⟩))).far (p := ⟨w1.heap.size + 1 + 1, 1, none⟩) (by simp) (.pointer (some ⟨w3.heap.size, 0, none⟩))).alloc (.cells (Try.zeroCells93.setIfInBounds 0 (.pointer (some ⟨w1.heap.size, 0, none⟩))) 93)
  have rR4 := ((rR3.far (p := ⟨w1.heap.size + 1, 1, none⟩) (by simp) (.pointer (some ⟨g1, 0, none⟩))).set_ (i := 1) (.pointer (some ⟨w3.heap.size, 0, none⟩))).alloc (.cells (Try.zeroCells93.setIfInBounds 0 (.pointer (some ⟨w1.heap.size, 0, none⟩))) 93)
  have sz : ∀ (a : World) (p q : Addr) (x y : Value), ((a.setCell p x).setCell q y).heap.size = a.heap.size := fun a p q x y => by simp [World.setCell]
  have ra := rmap_new ((w2.setCell ⟨w1.heap.size + 1, 0, none⟩ (.pointer (some ⟨g0, 0, none⟩))).setCell ⟨w1.heap.size + 1 + 1, 0, none⟩ (.pointer (some ⟨w2.heap.size, 0, none⟩))) w1.heap.size
  have rb := rmap_new ((w3.setCell ⟨w1.heap.size + 1, 1, none⟩ (.pointer (some ⟨g1, 0, none⟩))).setCell ⟨w1.heap.size + 1 + 1, 1, none⟩ (.pointer (some ⟨w3.heap.size, 0, none⟩))) w1.heap.size
  rw [sz] at ra rb
  refine ⟨rL.upd_ y1 (by omega) (by omega) (by omega), rm.upd_ y1 (by omega), q0.upd_ y2 ?_, q1.upd_ x2 ?_, ra.upd_ y3 (by omega), rb, rM4.congr fun i hi => ?_, rR4.congr fun i hi => ?_, ?_, ?_, ?_, l1, l2, l3, hz, by omega, by omega, by omega, by omega, by omega, by omega⟩
  · rintro (h | h)
    · exact hA0.ne_ rM2 (by decide) h
    · exact hA0.ne_ rR2 (by decide) h
  · rintro (h | h)
    · exact hA1.ne_ rM3 (by decide) h
    · exact hA1.ne_ rR3 (by decide) h
  · have : i = 0 ∨ i = 1 := by omega
    rcases this with rfl | rfl <;> simp [upd]
  · have : i = 0 ∨ i = 1 := by omega
    rcases this with rfl | rfl <;> simp [upd]
  · have := q0.lt; omega
  · omega
  · exact (((uw.alloc _).alloc _).alloc _).over y1 (fun i hi => by omega)

set_option maxRecDepth 100000 in
set_option maxHeartbeats 4000000 in
theorem mapSays_go (w : World) (k : Nat) (hn1 : 1 ≤ (k : Int)) (hn2 : (k : Int) ≤ 64) (Ad : Option Addr) (cap : Nat) (l : List ActM) (hl : ActsAt w Ad l) (h80 : (l.length : Int) ≤ 80) :
    Calls Try.prog 7 #[.int .i64 k, .slice Ad l.length cap] w fun e w' => e = .returned (.bool true) ∧ Upd Non w w' := by
  go_enter Try.func7, Try.ntmps7
  go_wp2_with (first
    | (go_at_call 47; refine (maps_law _).mono ?_; rintro e ws ⟨rfl, u1⟩)
    | (go_at_call 13; refine (light_law _ _ _ _ _).mono ?_; rintro e w2 ⟨rfl, rfl⟩)
    | (go_at_call 48; refine (mapNew_nil _).mono ?_; rintro e w2 ⟨rfl, rfl⟩)
    | (go_at_call 29; refine (same_law _ 2 2).mono ?_; rintro e w9 ⟨rfl, rfl⟩)
    | (go_at_call 28; refine (new_ok _ k (by omega) (by omega)).mono ?_; rintro e w1 ⟨L, rfl, r, u, l1, l2, l3⟩)
    | fail)
  have hz := u.size
  have hz1 := u1.size
  have rM := (row_two (w1.alloc (.cells (Try.zeroCells63.setIfInBounds 0 (.int .i64 k)) 63)) 87 (.pointer none) (.pointer none)).alloc (.cells #[.pointer none, .pointer none] 89)
  have rR := row_two ((w1.alloc (.cells (Try.zeroCells63.setIfInBounds 0 (.int .i64 k)) 63)).alloc (.cells #[.pointer none, .pointer none] 87)) 89 (.pointer none) (.pointer none)
  have rL := ((r.alloc (.cells (Try.zeroCells63.setIfInBounds 0 (.int .i64 k)) 63)).alloc (.cells #[.pointer none, .pointer none] 87)).alloc (.cells #[.pointer none, .pointer none] 89)
  have rm := ((rpool_new w1 k (by omega) (by omega)).alloc (.cells #[.pointer none, .pointer none] 87)).alloc (.cells #[.pointer none, .pointer none] 89)
  simp only [World.size_alloc] at rM rR
  refine wp_loop_rounds 3 ?_
  rw [rounds_succ]
  go_wp2_with (first
    | (go_at_call 48; refine (mapNew_any _ L.p).mono ?_; rintro e w2 ⟨g0, rfl, q0, h0, u2⟩; have rM2 := rM.upd_ u2 (fun h => h); have rR2 := rR.upd_ u2 (fun h => h); have m0 := rM2.cell (i := 0) (by omega); have fm := rM2.frozen 0; have s0 := rR2.cell (i := 0) (by omega); have fs := rR2.frozen 0; have lm := rM2.lt; have ls := rR2.lt)
    | fail)
  rw [rounds_succ]
  have rM3 := (((rM2.set_ (i := 0) (.pointer (some ⟨g0, 0, none⟩))).far (p := ⟨w1.heap.size + 1 + 1, 0, none⟩) (by simp) (.pointer (some ⟨w2.heap.size, 0, none⟩))).alloc (.cells (Try.zeroCells93.setIfInBounds 0 (.pointer (some ⟨w1.heap.size, 0, none⟩))) 93))
  have rR3 := (((rR2.far (p := ⟨w1.heap.size + 1, 0, none⟩) (by simp) (.pointer (some ⟨g0, 0, none⟩))).set_ (i := 0) (.pointer (some ⟨w2.heap.size, 0, none⟩))).alloc (.cells (Try.zeroCells93.setIfInBounds 0 (.pointer (some ⟨w1.heap.size, 0, none⟩))) 93))
  go_wp2_with (first
    | (go_at_call 48; refine (mapNew_any _ L.p).mono ?_; rintro e w3 ⟨g1, rfl, q1, h1, u3⟩; have rM4 := rM3.upd_ u3 (fun h => h); have rR4 := rR3.upd_ u3 (fun h => h); have m4 := rM4.cell (i := 1) (by omega); have fm4 := rM4.frozen 1; have s4 := rR4.cell (i := 1) (by omega); have fs4 := rR4.frozen 1; have lm4 := rM4.lt; have ls4 := rR4.lt)
    | fail)
  rw [rounds_succ]
  go_wp2_with fail
  have H0 := Lib.hid (MM.start (by omega) (by omega) (u1.trans u) r (by omega) (by omega) (by omega) q0 (by simp at h0; omega) u2 q1 (by simp [World.setCell] at h1; omega) u3)
  generalize hmbe : w1.heap.size + 1 = mb at H0
  have HMB := Lib.hid hmbe
  subst hmbe
  clear r u u1 l1 l2 l3 q0 h0 u2 q1 h1 u3 rM rR rL rm rM2 rR2 rM3 rR3 rM4 rR4 m0 fm s0 fs lm ls m4 fm4 s4 fs4 lm4 ls4 hz hz1
  go_loopw [8, 15] (fun p i wr => ∃ (q : Nat) (L : PoolAt) (g0 g1 : Nat) (P : PoolM) (A B : MapM), q ≤ l.length ∧ i = .int .i64 q ∧ p = .pointer (some ⟨L.p, 0, none⟩) ∧ Hid (MM w wr L w1.heap.size g0 g1 w2.heap.size w3.heap.size (w1.heap.size + 1) (w1.heap.size + 1 + 1) P A B ∧ MMI k P A B)) (fun _ i _ => l.length - (intOf i).toNat)
  case atStart => exact ⟨0, L, g0, g1, _, _, _, Nat.zero_le _, rfl, rfl, H0.out, ⟨rfl, MInv.fresh k, MInv.fresh k⟩⟩
  case round =>
    clear H0
    obtain ⟨q, L, g0, g1, P, A, B, hq, rfl, rfl, hI⟩ := hrel
    by_cases hlt : q < l.length
    · obtain ⟨b, o, rfl, hb, hx⟩ : ∃ b o, Ad = some ⟨b, o, none⟩ ∧ b < w.heap.size ∧ ∀ i x, l[i]? = some x → ActAt w b (o + i * 6) x := by
        rcases hl with rfl | h
        · simp at hlt
        · exact h
      have ha := (hx q l[q] (List.getElem?_eq_getElem hlt)).upd_ hI.out.1.up (fun h => h)
      clear hx hl
      generalize l[q] = x at ha
      obtain ⟨kind, xn, xa, xb, xv, on⟩ := x
      obtain ⟨a0, a1, a2, a3, a4, a5⟩ := ha
      dsimp only at a0 a1 a2 a3 a4 a5
      have t := hI.out.1
      have m0 := t.m0
      have m1 := t.m1
      have q0 := t.q0
      have q1 := t.q1
      have lmb := t.ma.lt
      have lrb := t.mr.lt
      cases on with
      | false =>
        go_wp2_with fail
        · -- copy
          go_wp2_with (first
            | (go_at_call 43; refine (copy_any _ L P (MM.rp (by repeat (first | assumption | apply MM.alloc | apply MM.drew | apply MM.drewN) : MM w _ L w1.heap.size g0 g1 w2.heap.size w3.heap.size (w1.heap.size + 1) (w1.heap.size + 1 + 1) P A B))).mono ?_; rintro e c2 ⟨L', rfl, p2, u2, n1, n2, n3⟩; have v2 := Upd.trans ((Upd.refl Non wr).alloc _) u2; have t2 := MM.non (by repeat (first | assumption | apply MM.alloc | apply MM.drew | apply MM.drewN) : MM w _ L w1.heap.size g0 g1 w2.heap.size w3.heap.size (w1.heap.size + 1) (w1.heap.size + 1 + 1) P A B) u2; have x2 := t2.m0; have y2 := t2.m1; rw [World.size_alloc] at n1 n2 n3)
            | (go_at_call 49; (with_reducible refine (mapCopy_any c2 g0 L.p L'.p A t2.a).mono ?_); rintro e c3 ⟨h0, rfl, c3a, k3, u3⟩; have t3 := t2.non u3; have p3 := p2.upd_ u3 (fun h => h) (fun h => h) (fun h => h); have x3 := t3.m0; have y3 := t3.m1; have hz3 := u2.size; rw [World.size_alloc] at hz3)
            | (go_at_call 49; (with_reducible refine (mapCopy_any c3 g1 L.p L'.p B t3.b).mono ?_); rintro e c4 ⟨h1, rfl, c4a, k4, u4⟩; have t4 := t3.non u4; have p4 := p3.upd_ u4 (fun h => h) (fun h => h) (fun h => h); have a4 := c3a.upd_ u4 (fun h => h); have x4 := t4.m0; have y4 := t4.m1; have hz4 := u3.size; have hl4 := c3a.lt)
            | (go_at_call 50; refine (unplug_any c4 L P g0 65 A t4.rp t4.a 0).mono ?_; rintro e c5 ⟨rfl, r5, a5', u5⟩; have F5 := t4.first u5; have y5 := F5.2)
            | (go_at_call 51; refine (touch_any c5 L _ g1 65 B r5 F5.1 1 true (fun k hk ht => by have := (hI.out.2.b.here k hk ht).2; rw [(hI.out.2.a.unplug 0).n]; exact this)).mono ?_; rintro e c6 ⟨rfl, r6, b6, u6⟩; have T6 := Lib.hid (t.copy (v2.trans (u3.trans u4)) p4 a4 c4a (by omega) (by omega) (by omega) (by omega) (by omega) (by omega) u5 u6); have M6 := (t4.ma.upd_ u5 (fun h => (t4.rows (.inl rfl) (.inl rfl)).1 (.inl h))).upd_ u6 (fun h => (t4.rows (.inr rfl) (.inl rfl)).1 (.inl h)); have z0 := M6.cell (i := 0) (by omega); have z1 := M6.cell (i := 1) (by omega); have f0 := M6.frozen 0; have f1 := M6.frozen 1)
            | fail)
          exact ⟨⟨q + 1, L', h0, h1, P, A, B, by omega, by go_num, rfl, T6.out, hI.out.2⟩, by simp [intOf]; omega⟩
        · -- another act
          go_region_with (go_at_call 52; refine (mapped_law _ L w1.heap.size g0 g1 w2.heap.size w3.heap.size P A B hI.out.2.a (MM.d0 (by repeat (first | assumption | apply MM.alloc | apply MM.drew | apply MM.drewN) : MM w _ L w1.heap.size g0 g1 w2.heap.size w3.heap.size (w1.heap.size + 1) (w1.heap.size + 1 + 1) P A B)) ⟨kind, xn, xa, xb, xv, false⟩).mono ?_; rintro e w4 ⟨rfl, P', A', d4, n4, i4⟩; have t4 := MM.step0 (by repeat (first | assumption | apply MM.alloc | apply MM.drew | apply MM.drewN) : MM w _ L w1.heap.size g0 g1 w2.heap.size w3.heap.size (w1.heap.size + 1) (w1.heap.size + 1 + 1) P A B) d4)
          all_goals go_wp2
          all_goals exact ⟨⟨q + 1, L, g0, g1, P', A', B, by omega, by go_num, rfl, t4, ⟨n4.trans hI.out.2.n, i4, hI.out.2.b.other i4 n4⟩⟩, by simp [intOf]; omega⟩
      | true =>
        go_wp2_with fail
        · -- copy
          go_wp2_with (first
            | (go_at_call 43; refine (copy_any _ L P (MM.rp (by repeat (first | assumption | apply MM.alloc | apply MM.drew | apply MM.drewN) : MM w _ L w1.heap.size g0 g1 w2.heap.size w3.heap.size (w1.heap.size + 1) (w1.heap.size + 1 + 1) P A B))).mono ?_; rintro e c2 ⟨L', rfl, p2, u2, n1, n2, n3⟩; have v2 := Upd.trans ((Upd.refl Non wr).alloc _) u2; have t2 := MM.non (by repeat (first | assumption | apply MM.alloc | apply MM.drew | apply MM.drewN) : MM w _ L w1.heap.size g0 g1 w2.heap.size w3.heap.size (w1.heap.size + 1) (w1.heap.size + 1 + 1) P A B) u2; have x2 := t2.m0; have y2 := t2.m1; rw [World.size_alloc] at n1 n2 n3)
            | (go_at_call 49; (with_reducible refine (mapCopy_any c2 g0 L.p L'.p A t2.a).mono ?_); rintro e c3 ⟨h0, rfl, c3a, k3, u3⟩; have t3 := t2.non u3; have p3 := p2.upd_ u3 (fun h => h) (fun h => h) (fun h => h); have x3 := t3.m0; have y3 := t3.m1; have hz3 := u2.size; rw [World.size_alloc] at hz3)
            | (go_at_call 49; (with_reducible refine (mapCopy_any c3 g1 L.p L'.p B t3.b).mono ?_); rintro e c4 ⟨h1, rfl, c4a, k4, u4⟩; have t4 := t3.non u4; have p4 := p3.upd_ u4 (fun h => h) (fun h => h) (fun h => h); have a4 := c3a.upd_ u4 (fun h => h); have x4 := t4.m0; have y4 := t4.m1; have hz4 := u3.size; have hl4 := c3a.lt)
            | (go_at_call 50; refine (unplug_any c4 L P g0 65 A t4.rp t4.a 0).mono ?_; rintro e c5 ⟨rfl, r5, a5', u5⟩; have F5 := t4.first u5; have y5 := F5.2)
            | (go_at_call 51; refine (touch_any c5 L _ g1 65 B r5 F5.1 1 true (fun k hk ht => by have := (hI.out.2.b.here k hk ht).2; rw [(hI.out.2.a.unplug 0).n]; exact this)).mono ?_; rintro e c6 ⟨rfl, r6, b6, u6⟩; have T6 := Lib.hid (t.copy (v2.trans (u3.trans u4)) p4 a4 c4a (by omega) (by omega) (by omega) (by omega) (by omega) (by omega) u5 u6); have M6 := (t4.ma.upd_ u5 (fun h => (t4.rows (.inl rfl) (.inl rfl)).1 (.inl h))).upd_ u6 (fun h => (t4.rows (.inr rfl) (.inl rfl)).1 (.inl h)); have z0 := M6.cell (i := 0) (by omega); have z1 := M6.cell (i := 1) (by omega); have f0 := M6.frozen 0; have f1 := M6.frozen 1)
            | fail)
          exact ⟨⟨q + 1, L', h0, h1, P, A, B, by omega, by go_num, rfl, T6.out, hI.out.2⟩, by simp [intOf]; omega⟩
        · -- another act
          go_region_with (go_at_call 52; refine (mapped_law _ L w1.heap.size g1 g0 w3.heap.size w2.heap.size P B A hI.out.2.b (MM.d1 (by repeat (first | assumption | apply MM.alloc | apply MM.drew | apply MM.drewN) : MM w _ L w1.heap.size g0 g1 w2.heap.size w3.heap.size (w1.heap.size + 1) (w1.heap.size + 1 + 1) P A B)) ⟨kind, xn, xa, xb, xv, true⟩).mono ?_; rintro e w4 ⟨rfl, P', B', d4, n4, i4⟩; have t4 := MM.step1 (by repeat (first | assumption | apply MM.alloc | apply MM.drew | apply MM.drewN) : MM w _ L w1.heap.size g0 g1 w2.heap.size w3.heap.size (w1.heap.size + 1) (w1.heap.size + 1 + 1) P A B) d4)
          all_goals go_wp2
          all_goals exact ⟨⟨q + 1, L, g0, g1, P', A, B', by omega, by go_num, rfl, t4, ⟨n4.trans hI.out.2.n, hI.out.2.a.other i4 n4, i4⟩⟩, by simp [intOf]; omega⟩
    · -- end
      have t := hI.out.1
      have m0 := t.m0
      have m1 := t.m1
      have q0 := t.q0
      have q1 := t.q1
      go_wp2_with (first
        | (go_at_call 53; (with_reducible refine (asMap_law wr g0 L.p w2.heap.size w1.heap.size 65 A xn t.a t.ra).mono ?_); rintro e c2 ⟨rfl, u2⟩; have t2 := t.non u2; have x2 := t2.m1; have y2 := t2.q1)
        | (go_at_call 53; (with_reducible refine (asMap_law c2 g1 L.p w3.heap.size w1.heap.size 65 B xn t2.b t2.rb_).mono ?_); rintro e c3 ⟨rfl, u3⟩; have t3 := t2.non u3)
        | (go_at_call 44; refine (asPool_law c3 L _ P.norm t3.rp.norm t3.rm.norm (norm_pos fun i hi => (hI.out.2.a.bound hi).1)).mono ?_; rintro e c4 ⟨rfl, u4⟩)
        | fail)
      go_ret
      exact ⟨rfl, t3.up.trans u4⟩

set_option maxRecDepth 100000 in
set_option maxHeartbeats 400000 in
theorem mapSays_law (w : World) (n : Int) (A : Option Addr) (cap : Nat) (l : List ActM) (hl : ActsAt w A l) :
    Calls Try.prog 7 #[.int .i64 n, .slice A l.length cap] w fun e w' => e = .returned (.bool true) ∧ Upd Non w w' := by
  by_cases h80 : (l.length : Int) ≤ 80
  · by_cases h1 : 1 ≤ n ∧ n ≤ 64
    · obtain ⟨k, rfl⟩ := Int.eq_ofNat_of_zero_le (by omega : 0 ≤ n)
      exact mapSays_go w k h1.1 h1.2 A cap l hl h80
    · have h2 : n < 1 ∨ 64 < n := by omega
      clear h1
      go_enter Try.func7, Try.ntmps7
      go_wp2_with (first
        | (go_at_call 47; refine (maps_law _).mono ?_; rintro e ws ⟨rfl, u1⟩)
        | (go_at_call 13; refine (light_law _ _ _ _ _).mono ?_; rintro e w2 ⟨rfl, rfl⟩)
        | (go_at_call 48; refine (mapNew_nil _).mono ?_; rintro e w2 ⟨rfl, rfl⟩)
        | (go_at_call 29; refine (same_law _ 2 2).mono ?_; rintro e w9 ⟨rfl, rfl⟩)
        | (go_at_call 28; refine (new_bad _ n h2).mono ?_; rw [show errv 1 = .iface 130 (.int .i64 1) from rfl]; rintro e w1 ⟨rfl, rfl⟩)
        | fail)
      go_ret
      exact ⟨rfl, u1⟩
  · go_enter Try.func7, Try.ntmps7
    go_wp2_with (first
      | (go_at_call 47; refine (maps_law _).mono ?_; rintro e ws ⟨rfl, u1⟩)
      | (go_at_call 13; refine (light_law _ _ _ _ _).mono ?_; rw [show decide ((l.length : Int) ≤ 80) = false from decide_eq_false (by omega)]; rintro e w2 ⟨rfl, rfl⟩))
    go_ret
    exact ⟨rfl, u1⟩

end U
end Go.Proofs.Ytnhplapcdgnaaaa
