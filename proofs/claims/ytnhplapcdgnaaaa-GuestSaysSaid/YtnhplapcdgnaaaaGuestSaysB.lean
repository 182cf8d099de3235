import Derived.Test.YtnhplapcdgnaaaaGuestSays
import Derived.Test.YtnhplapcdgnaaaaRPoolX
set_option linter.unusedVariables false
set_option linter.unusedSimpArgs false
namespace Go.Proofs.Ytnhplapcdgnaaaa
open Go.RowKit
namespace U

theorem wpl_buildP {P : Program} {ops : Array Oper} {rest : List Oper} {o : Oper} {a : Act} {w : World} {Q : Exit → Act → World → Prop} (hg : o.guard = none) (ty : TypeId) (parts : Array (Nat × Operand))
    (ho : o.op = .build ty parts) (vals : Array (Nat × Value)) (hv : (parts.map fun (i, x) => (i, a.eval x)) = vals) (v : Value) (hl : (Instr.build ty vals).run P w = .ok v w) (h : wpList P ops Q rest (a.put o.dst v) w) : wpList P ops Q (o :: rest) a w := by
  refine wpList_plain hg fun K hK => ?_
  unfold Oper.wp execOp
  simp only [ho, hv, Sem.run_bind, hl, Result.andThen_ok, Sem.run_pure, Oper.upon_value]
  exact hK _ _ h
theorem wpl_move {P : Program} {ops : Array Oper} {rest : List Oper} {o : Oper} {a : Act} {w : World} {Q : Exit → Act → World → Prop} (hg : o.guard = none) (x : Operand) (ho : o.op = .move x) (v : Value) (hx : a.eval x = v)
    (h : wpList P ops Q rest (a.put o.dst v) w) : wpList P ops Q (o :: rest) a w := by
  refine wpList_plain hg fun K hK => ?_
  unfold Oper.wp execOp
  simp only [ho, hx, Sem.run_bind, Result.andThen_ok, Sem.run_pure, Oper.upon_value]
  exact hK _ _ h
/-- A new map, a new guest of the reference's: their cells. -/
def rmapC (m : Nat) : List Value := Value.pointer (some ⟨m, 0, none⟩) :: (List.replicate 16 (Value.int .i64 0) ++ (List.replicate 16 [Value.bool false, Value.bool false, Value.int .i64 0]).flatten)
def rguestC (m : Nat) : List Value := rmapC m ++ [.slice none 0 0, .int .i64 (-1), .int .i64 0]
theorem build_map (w : World) (m : Nat) : (Instr.build 93 #[(0, .pointer (some ⟨m, 0, none⟩))]).run Try.prog w = .ok (.agg (rmapC m).toArray) w := by kernel_rfl
theorem build_guest (w : World) (m : Nat) : (Instr.build 109 #[(0, .agg (rmapC m).toArray), (2, .int .i64 (-1))]).run Try.prog w = .ok (.agg (rguestC m).toArray) w := by kernel_rfl
theorem rguestC_get (m i : Nat) (hi : i < 16) : (rguestC m)[1 + i]? = some (.int .i64 0) ∧ (rguestC m)[17 + i * 3]? = some (.bool false) ∧ (rguestC m)[17 + i * 3 + 1]? = some (.bool false) ∧ (rguestC m)[17 + i * 3 + 2]? = some (.int .i64 0) := by
  have : i = 0 ∨ i = 1 ∨ i = 2 ∨ i = 3 ∨ i = 4 ∨ i = 5 ∨ i = 6 ∨ i = 7 ∨ i = 8 ∨ i = 9 ∨ i = 10 ∨ i = 11 ∨ i = 12 ∨ i = 13 ∨ i = 14 ∨ i = 15 := by omega
  rcases this with rfl | rfl | rfl | rfl | rfl | rfl | rfl | rfl | rfl | rfl | rfl | rfl | rfl | rfl | rfl | rfl <;> exact ⟨rfl, rfl, rfl, rfl⟩
theorem rguest_new (w : World) (m : Nat) : RMRep (w.alloc (.cells (rguestC m).toArray 109)) w.heap.size 109 68 m MapM.fresh (xg (.slice none 0 0) (-1) 0) := by
  refine ⟨⟨fun i => (rguestC m).getD i undef, ⟨_, heap_alloc_new w _, rfl, fun i hi => ?_⟩, rfl, fun i hi => ?_, fun i h1 h2 => ?_⟩, by omega⟩
  · have hl : i < (rguestC m).length := hi
    show (rguestC m).toArray[i]? = some ((rguestC m).getD i undef)
    rw [List.getElem?_toArray]
    simp [List.getD, List.getElem?_eq_getElem hl]
  · obtain ⟨z1, z2, z3, z4⟩ := rguestC_get m i hi
    simp only [List.getD_eq_getElem?_getD, z1, z2, z3, z4]
    exact ⟨rfl, rfl, rfl, rfl⟩
  · have : i = 65 ∨ i = 66 ∨ i = 67 := by omega
    rcases this with rfl | rfl | rfl <;> rfl

theorem GS.start {w ws w1 w3 : World} {L : PoolAt} {K : GAt} {k : Nat} (u1 : Upd Non w ws) (u : Upd Non ws w1) (r3 : PoolRep w3 L (PoolM.fresh k)) (g3 : GRep w3 L.p K GuestM.fresh) (u3 : Upd Non w1 w3) (l1 : ws.heap.size ≤ L.p) (l2 : ws.heap.size ≤ L.bb) (l3 : ws.heap.size ≤ L.rb)
    (k3 : ∀ x, K.own x → w1.heap.size ≤ x) (h1 : 1 ≤ (k : Int)) (h2 : (k : Int) ≤ 64) :
    GS w ((w3.alloc (.cells (Try.zeroCells63.setIfInBounds 0 (.int .i64 k)) 63)).alloc (.cells (rguestC w3.heap.size).toArray 109)) L K w3.heap.size (w3.heap.size + 1) (.slice none 0 0) (PoolM.fresh k) GuestM.fresh := by
  have z1 := u1.size
  have z2 := u.size
  have z3 := u3.size
  have rg := rguest_new (w3.alloc (.cells (Try.zeroCells63.setIfInBounds 0 (.int .i64 k)) 63)) w3.heap.size
  rw [World.size_alloc] at rg
  refine ⟨(r3.alloc _).alloc _, GRw.alloc (GRw.alloc g3 _) _, (rpool_new w3 k (by omega) (by omega)).alloc _, rg, ERow.nil, (fun g _ h => by cases h), (((u1.trans u).trans u3).alloc _).alloc _, by omega, by omega, by omega, fun x hx => by have := k3 x hx; omega, by omega, by omega, fun g h => by cases h⟩

set_option maxRecDepth 100000 in
set_option maxHeartbeats 4000000 in
theorem guestSays_go (w : World) (k : Nat) (hn1 : 1 ≤ (k : Int)) (hn2 : (k : Int) ≤ 64) (Ad : Option Addr) (cap : Nat) (l : List ActM) (hl : ActsAt w Ad l) (h80 : (l.length : Int) ≤ 80) :
    Calls Try.prog 9 #[.int .i64 k, .slice Ad l.length cap] w fun e w' => e = .returned (.bool true) ∧ Upd Non w w' := by
  go_enter Try.func9, Try.ntmps9
  go_upto_region 14 with (first
    | (go_at_call 60; refine (runs_law _).mono ?_; rintro e ws ⟨rfl, u1⟩)
    | (go_at_call 13; refine (light_law _ _ _ _ _).mono ?_; rintro e w2 ⟨rfl, rfl⟩)
    | (go_at_call 61; (with_reducible refine (gnew_nil _).mono ?_); rintro e w2 ⟨rfl, rfl⟩)
    | (go_at_call 29; refine (same_law _ 2 2).mono ?_; rintro e w9 ⟨rfl, rfl⟩)
    | (go_at_call 28; refine (new_ok _ k (by omega) (by omega)).mono ?_; rintro e w1 ⟨L, rfl, r, u, l1, l2, l3⟩)
    | (go_at_call 61; (with_reducible refine (gnew_any _ L.p).mono ?_); rintro e w3 ⟨K, rfl, g3, k3, u3⟩; have r3 := r.upd_ u3 (fun h => h) (fun h => h) (fun h => h))
    | fail)
  refine wp_region_lit ?_
  refine wpl_move rfl (.tmp 10) rfl (.pointer (some ⟨w3.heap.size, 0, none⟩)) rfl ?_
  refine wpl_buildP rfl 93 _ rfl #[(0, .pointer (some ⟨w3.heap.size, 0, none⟩))] (by simp only [List.map_toArray, List.map_cons, List.map_nil]; rfl) _ (build_map _ _) ?_
  refine wpl_buildP rfl 109 _ rfl #[(0, .agg (rmapC w3.heap.size).toArray), (2, .int .i64 (-1))] (by simp only [List.map_toArray, List.map_cons, List.map_nil]; rfl) _ (build_guest _ _) ?_
  simp only [Act.put, List.setIfInBounds_toArray, List.set_cons_succ, List.set_cons_zero]
  go_wp2_with fail
  have H0 := Lib.hid (GS.start u1 u r3 g3 u3 l1 l2 l3 k3 hn1 hn2)
  generalize hmw : w3.heap.size = m at H0
  have HM := Lib.hid hmw
  subst hmw
  clear r u l1 l2 l3 g3 k3 u3 r3 u1
  go_loopw [6, 9, 12] (fun p g i wr => ∃ (q : Nat) (L : PoolAt) (K : GAt) (vr : Value) (P : PoolM) (G : GuestM), q ≤ l.length ∧ p = .pointer (some ⟨L.p, 0, none⟩) ∧ g = .pointer (some ⟨K.g, 0, none⟩) ∧ i = .int .i64 q ∧ Hid (GS w wr L K w3.heap.size (w3.heap.size + 1) vr P G ∧ P.n = k ∧ GInv P G (fun _ => 0))) (fun _ _ i _ => l.length - (intOf i).toNat)
  case atStart => exact ⟨0, L, K, _, _, _, Nat.zero_le _, rfl, rfl, rfl, H0.out, rfl, GInv.fresh k⟩
  case round =>
    clear H0
    obtain ⟨q, L, K, vr, P, G, hq, rfl, rfl, rfl, hI⟩ := hrel
    by_cases hlt : q < l.length
    · obtain ⟨b, o, rfl, hb, hx⟩ : ∃ b o, Ad = some ⟨b, o, none⟩ ∧ b < w.heap.size ∧ ∀ i x, l[i]? = some x → ActAt w b (o + i * 6) x := by
        rcases hl with rfl | h
        · simp at hlt
        · exact h
      have ha := (hx q l[q] (List.getElem?_eq_getElem hlt)).upd_ hI.out.1.up (fun h => h)
      clear hx hl
      generalize l[q] = x at ha
      obtain ⟨a0, a1, a2, a3, a4, a5⟩ := ha
      have t := hI.out.1
      obtain ⟨P4, G4, e4, x4⟩ : ∃ P4 G4 e4, Hid (gstore P G 3 77 = (P4, G4, e4)) := ⟨_, _, _, rfl⟩
      obtain ⟨P5, M5, e5, x5⟩ : ∃ P5 M5 e5, Hid (munplug P4 G4.m 0 = (P5, M5, e5)) := ⟨_, _, _, rfl⟩
      have x6 : Hid (groot { G4 with m := M5 } 2 = ({ G4 with m := M5, root := 2 }, 0)) := by show _ = _; unfold groot; rw [if_neg (by omega)]
      have h1 := hI.out.2.2.store 3 77
      rw [x4.out] at h1
      have h2 := h1.inv.map (h1.inv.m.unplug 0)
      rw [x5.out] at h2
      have h3 := h2.inv.setRoot 2
      dsimp only at h3
      rw [x6.out] at h3
      have h1 := Lib.hid h1
      have h3 := Lib.hid h3
      go_wp2_with fail
      · -- copy
        go_wp2_with (first
          | (go_at_call 43; refine (copy_any _ L P t.rp).mono ?_; rintro e c2 ⟨L', rfl, p2, u2, n1, n2, n3⟩; have t2 := t.non u2; have g2 := GRw.upd_ t.gr u2 (fun _ _ => (fun h => h)))
          | (go_at_call 62; refine (gcopy_any t2.pg (by rw [withLeaf_length]; have := hI.out.2.2.c.len; omega) L'.p).mono ?_; rintro e c3 ⟨K', rfl, k3, m3, u3⟩; have t3 := t2.non u3; have p3 := p2.upd_ u3 (fun h => h) (fun h => h) (fun h => h); have hz3 := u2.size)
          | (go_at_call 63; refine (gstore_any t3.pg hI.out.2.2 3 77).mono ?_; unfold ActPost; rw [x4.out]; rintro e c4 ⟨rfl, v4, s4⟩)
          | (go_at_call 64; refine (gunplug_any (G := G4) s4 h1.out.inv 0).mono ?_; unfold ActPost gact; rw [x5.out]; rintro e c5 ⟨rfl, v5, s5⟩)
          | (go_at_call 65; refine (gsetRoot_any (G := { G4 with m := M5 }) s5 2).mono ?_; unfold ActPost; rw [x6.out]; rintro e c6 ⟨rfl, v6, s6⟩)
          | (go_at_call 66; refine (gforgetAll_any (G := { G4 with m := M5, root := 2 }) s6 h3.out 1).mono ?_; unfold ActPost; rintro e c7 ⟨rfl, v7, s7⟩)
          | fail)
        exact ⟨⟨q + 1, L', K', vr, P, G, by omega, rfl, rfl, by go_num, t.copy (u2.trans u3) p3 k3 n1 n2 n3 (fun k hk => Nat.le_trans hz3 (m3 k hk)) s7.up, hI.out.2⟩, by simp [intOf]; omega⟩
      · -- another act
        go_wp2_with (first
          | (go_at_call 67; refine (guested_law _ L K _ _ vr K.v vr P G hI.out.2.2 t.d x).mono ?_; unfold GuestedPost; rintro e w4 ⟨rfl, v4, vr4, P4, G4, d4, n4, i4⟩; have t4 := t.step d4)
          | (go_at_call 68; refine (asGuest_law _ L (K.vv v4) _ _ vr4 v4 vr4 P4 G4 i4 t4.d).mono ?_; rintro e w5 ⟨rfl, u5⟩; have t5 := t4.non u5)
          | fail)
        all_goals first
          | exact ⟨⟨q + 1, L, K.vv v4, vr4, P4, G4, by omega, rfl, rfl, by go_num, t5, n4.trans hI.out.2.1, i4⟩, by simp [intOf]; omega⟩
          | exact ⟨⟨q + 1, L, K.vv v4, vr4, P4, G4, by omega, rfl, rfl, by go_num, t4, n4.trans hI.out.2.1, i4⟩, by simp [intOf]; omega⟩
    · -- end
      have t := hI.out.1
      obtain rfl : q = l.length := by omega
      go_wp2_with (first
        | (go_at_call 68; refine (asGuest_law _ L K _ _ vr K.v vr P G hI.out.2.2 t.d).mono ?_; rintro e c2 ⟨rfl, u2⟩; have t2 := t.non u2)
        | (go_at_call 44; refine (asPool_law _ L _ P.norm t2.rp.norm t2.rm.norm (norm_pos fun i hi => (hI.out.2.2.m.bound hi).1)).mono ?_; rintro e c4 ⟨rfl, u4⟩)
        | fail)
      go_ret
      exact ⟨rfl, t2.up.trans u4⟩

set_option maxRecDepth 100000 in
set_option maxHeartbeats 400000 in
theorem guestSays_law (w : World) (n : Int) (A : Option Addr) (cap : Nat) (l : List ActM) (hl : ActsAt w A l) :
    Calls Try.prog 9 #[.int .i64 n, .slice A l.length cap] w fun e w' => e = .returned (.bool true) ∧ Upd Non w w' := by
  by_cases h80 : (l.length : Int) ≤ 80
  · by_cases h1 : 1 ≤ n ∧ n ≤ 64
    · obtain ⟨k, rfl⟩ := Int.eq_ofNat_of_zero_le (by omega : 0 ≤ n)
      exact guestSays_go w k h1.1 h1.2 A cap l hl h80
    · have h2 : n < 1 ∨ 64 < n := by omega
      clear h1
      go_enter Try.func9, Try.ntmps9
      go_wp2_with (first
        | (go_at_call 60; refine (runs_law _).mono ?_; rintro e ws ⟨rfl, u1⟩)
        | (go_at_call 13; refine (light_law _ _ _ _ _).mono ?_; rintro e w2 ⟨rfl, rfl⟩)
        | (go_at_call 28; refine (new_bad _ n h2).mono ?_; rw [show errv 1 = .iface 130 (.int .i64 1) from rfl]; rintro e w1 ⟨rfl, rfl⟩)
        | fail)
      go_ret
      exact ⟨rfl, u1⟩
  · go_enter Try.func9, Try.ntmps9
    go_wp2_with (first
      | (go_at_call 60; refine (runs_law _).mono ?_; rintro e ws ⟨rfl, u1⟩)
      | (go_at_call 13; refine (light_law _ _ _ _ _).mono ?_; rw [show decide ((l.length : Int) ≤ 80) = false from decide_eq_false (by omega)]; rintro e w2 ⟨rfl, rfl⟩))
    go_ret
    exact ⟨rfl, u1⟩

end U
end Go.Proofs.Ytnhplapcdgnaaaa
