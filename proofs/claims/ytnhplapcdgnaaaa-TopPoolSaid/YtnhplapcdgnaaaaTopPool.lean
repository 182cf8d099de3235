import Derived.Test.YtnhplapcdgnaaaaTabs
import Derived.Test.YtnhplapcdgnaaaaMapL
import Derived.Test.YtnhplapcdgnaaaaCacheC
import Derived.Deep.RegionHeld3
import Derived.Deep.Cut
import Derived.Deep.CutBlock
import Derived.Outline
set_option linter.unusedVariables false
set_option linter.unusedSimpArgs false
namespace Go.Proofs.Ytnhplapcdgnaaaa
open Go.RowKit
namespace U

/-- A pool beside two local arrays. -/
structure TP (w W : World) (L : PoolAt) (bb rb : Nat) (P : PoolM) (f : Nat → Nat → UInt8) (r : Nat → Int) : Prop where
  rp : PoolRep W L P
  bt : BTab W bb 60 1024 0 64 f
  rt : Row W rb 61 64 (ints r)
  up : Upd Non w W
  lp : w.heap.size ≤ L.p
  lb : w.heap.size ≤ L.bb
  lr : w.heap.size ≤ L.rb
  lbb : w.heap.size ≤ bb
  lrb : w.heap.size ≤ rb
structure TPX (w W : World) (L : PoolAt) (bb rb : Nat) (P : PoolM) (f : Nat → Nat → UInt8) (r : Nat → Int) (B : Nat) (x : ActM) : Prop extends TP w W L bb rb P f r where
  ax : Row W B 31 6 (fun i => [Value.string x.kind, .int .i64 x.n, .int .i64 x.a, .int .i64 x.b, .int .u8 x.v.toNat, .bool x.on].getD i undef)
section
variable {w W W' : World} {L : PoolAt} {bb rb B : Nat} {P P' : PoolM} {f : Nat → Nat → UInt8} {r : Nat → Int} {x : ActM}
theorem TP.nes (t : TP w W L bb rb P f r) : (bb ≠ L.p ∧ bb ≠ L.bb ∧ bb ≠ L.rb) ∧ (rb ≠ L.p ∧ rb ≠ L.bb ∧ rb ≠ L.rb) ∧ bb ≠ rb := by
  obtain ⟨_, _, hB, _⟩ := t.rp.bytes
  obtain ⟨_, _, hR, _⟩ := t.rp.counts
  obtain ⟨_, hb, _⟩ := t.bt.ex
  exact ⟨⟨hb.ne_ t.rp.st (by decide), hb.ne_ hB (by decide), hb.ne_ hR (by decide)⟩, ⟨t.rt.ne_ t.rp.st (by decide), t.rt.ne_ hB (by decide), t.rt.ne_ hR (by decide)⟩, hb.ne_ t.rt (by decide)⟩
theorem TP.non (t : TP w W L bb rb P f r) (u : Upd Non W W') : TP w W' L bb rb P f r :=
  ⟨t.rp.upd_ u (fun h => h) (fun h => h) (fun h => h), t.bt.upd_ u (fun h => h), t.rt.upd_ u (fun h => h), t.up.trans u, t.lp, t.lb, t.lr, t.lbb, t.lrb⟩
theorem TP.pool (t : TP w W L bb rb P f r) (h : PoolRep W' L P') (u : Upd L.own W W') : TP w W' L bb rb P' f r := by
  obtain ⟨⟨_, b1, b2⟩, ⟨_, r1, r2⟩, _⟩ := t.nes
  refine ⟨h, t.bt.upd_ u (fun h => h.elim b1 b2), t.rt.upd_ u (fun h => h.elim r1 r2), t.up.over u ?_, t.lp, t.lb, t.lr, t.lbb, t.lrb⟩
  rintro i (rfl | rfl)
  · exact t.lb
  · exact t.lr
theorem TP.setI (t : TP w W L bb rb P f r) {i : Nat} (v : Int) : TP w (W.setCell ⟨rb, i, none⟩ (.int .i64 v)) L bb rb P f (fset r i v) := by
  obtain ⟨_, ⟨r0, r1, r2⟩, h⟩ := t.nes
  have u : Upd (at1 rb) W (W.setCell ⟨rb, i, none⟩ (.int .i64 v)) := (Upd.refl _ _).setCell (p := ⟨rb, i, none⟩) (fun _ => at1_self) _
  exact ⟨t.rp.upd_ u (fun h => r0 h.symm) (fun h => r1 h.symm) (fun h => r2 h.symm), t.bt.upd_ u (fun e => h e), ints_set t.rt v, t.up.over u (by rintro i rfl; exact t.lrb), t.lp, t.lb, t.lr, t.lbb, t.lrb⟩
theorem TP.setB (t : TP w W L bb rb P f r) {i j a : Nat} {v : UInt8} (hi : i < 64) (hj : j < 16) (ha : a = 0 + i * 16 + j) : TP w (W.setCell ⟨bb, a, none⟩ (.int .u8 v.toNat)) L bb rb P (bset f i j v) r := by
  subst ha
  obtain ⟨⟨b0, b1, b2⟩, _, h⟩ := t.nes
  have u : Upd (at1 bb) W (W.setCell ⟨bb, 0 + i * 16 + j, none⟩ (.int .u8 v.toNat)) := (Upd.refl _ _).setCell (p := ⟨bb, 0 + i * 16 + j, none⟩) (fun _ => at1_self) _
  exact ⟨t.rp.upd_ u (fun h => b0 h.symm) (fun h => b1 h.symm) (fun h => b2 h.symm), t.bt.set_ hi hj, t.rt.upd_ u (fun e => h e.symm), t.up.over u (by rintro i rfl; exact t.lbb), t.lp, t.lb, t.lr, t.lbb, t.lrb⟩
theorem TP.setR (t : TP w W L bb rb P f r) {i a : Nat} (hi : i < 64) (R : Nat → UInt8) (ha : a = 0 + i * 16) : TP w (W.setCells bb a (rowL R)) L bb rb P (bsetR f i R) r := by
  subst ha
  obtain ⟨⟨b0, b1, b2⟩, _, h⟩ := t.nes
  have u : Upd (at1 bb) W (W.setCells bb (0 + i * 16) (rowL R)) := Upd.setCells (fun _ => at1_self) _ _ _ (Upd.refl _ _)
  exact ⟨t.rp.upd_ u (fun h => b0 h.symm) (fun h => b1 h.symm) (fun h => b2 h.symm), t.bt.setR hi R, t.rt.upd_ u (fun e => h e.symm), t.up.over u (by rintro i rfl; exact t.lbb), t.lp, t.lb, t.lr, t.lbb, t.lrb⟩
theorem TPX.ane (t : TPX w W L bb rb P f r B x) : B ≠ L.p ∧ B ≠ L.bb ∧ B ≠ L.rb ∧ B ≠ bb ∧ B ≠ rb := by
  obtain ⟨_, _, hB, _⟩ := t.rp.bytes
  obtain ⟨_, _, hR, _⟩ := t.rp.counts
  obtain ⟨_, hb, _⟩ := t.bt.ex
  exact ⟨t.ax.ne_ t.rp.st (by decide), t.ax.ne_ hB (by decide), t.ax.ne_ hR (by decide), t.ax.ne_ hb (by decide), t.ax.ne_ t.rt (by decide)⟩
theorem TPX.non (t : TPX w W L bb rb P f r B x) (u : Upd Non W W') : TPX w W' L bb rb P f r B x := ⟨t.toTP.non u, t.ax.upd_ u (fun h => h)⟩
theorem TPX.pool (t : TPX w W L bb rb P f r B x) (h : PoolRep W' L P') (u : Upd L.own W W') : TPX w W' L bb rb P' f r B x :=
  ⟨t.toTP.pool h u, t.ax.upd_ u (fun h => h.elim t.ane.2.1 t.ane.2.2.1)⟩
theorem TPX.new (t : TP w W L bb rb P f r) (x : ActM) : TPX w (W.alloc (.cells #[.string x.kind, .int .i64 x.n, .int .i64 x.a, .int .i64 x.b, .int .u8 x.v.toNat, .bool x.on] 31)) L bb rb P f r W.heap.size x :=
  ⟨t.non ((Upd.refl _ _).alloc _), ⟨_, heap_alloc_new W _, rfl, fun i hi => by
    have : i = 0 ∨ i = 1 ∨ i = 2 ∨ i = 3 ∨ i = 4 ∨ i = 5 := by omega
    rcases this with rfl | rfl | rfl | rfl | rfl | rfl <;> rfl⟩⟩
theorem TPX.drewN (t : TPX w W L bb rb P f r B x) (n : Nat) : TPX w (W.drewN n) L bb rb P f r B x := t.non ((Upd.refl _ _).drewN n)
theorem TPX.drew (t : TPX w W L bb rb P f r B x) : TPX w W.drew L bb rb P f r B x := t.non (Upd.refl _ _).drew
theorem TPX.a2 (t : TPX w W L bb rb P f r B x) : W.cell? ⟨B, 2, none⟩ = some (.int .i64 x.a) := t.ax.cell (i := 2) (by omega)
theorem TPX.a3 (t : TPX w W L bb rb P f r B x) : W.cell? ⟨B, 3, none⟩ = some (.int .i64 x.b) := t.ax.cell (i := 3) (by omega)
theorem TPX.a4 (t : TPX w W L bb rb P f r B x) : W.cell? ⟨B, 4, none⟩ = some (.int .u8 x.v.toNat) := t.ax.cell (i := 4) (by omega)
end
/-- The arrays have what the pool has. -/
structure PM (k q : Nat) (P : PoolM) (f : Nat → Nat → UInt8) (r : Nat → Int) : Prop where
  n : P.n = k
  s : Small q P
  r : ∀ i, i < k → r i = P.refs i
  b : ∀ i, i < k → 0 < P.refs i → ∀ j, j < 16 → f i j = P.b i j
section
variable {k q : Nat} {P : PoolM} {f : Nat → Nat → UInt8} {r : Nat → Int}
theorem PM.stay (h : PM k q P f r) : PM k (q + 1) P f r := ⟨h.n, h.s.mono (by omega), h.r, h.b⟩
theorem PM.take_ (h : PM k q P f r) {i : Nat} : PM k (q + 1) ((P.setRef i 1).setRow i fun _ => 0) (bsetR f i fun _ => 0) (fset r i 1) := by
  refine ⟨h.n, fun a => ?_, fun a ha => ?_, fun a ha hp j hj => ?_⟩
  · show 0 ≤ (if a = i then 1 else P.refs a) ∧ (if a = i then 1 else P.refs a) ≤ _
    have := h.s a
    split <;> omega
  · show (if a = i then 1 else r a) = (if a = i then 1 else P.refs a)
    split
    · rfl
    · exact h.r a ha
  · have hp' : 0 < (if a = i then 1 else P.refs a) := hp
    show (if a = i then 0 else f a j) = (if a = i then 0 else P.b a j)
    split
    · rfl
    · rename_i e
      rw [if_neg e] at hp'
      exact h.b a ha hp' j hj
theorem PM.ref_ (h : PM k q P f r) {i : Nat} {v : Int} (hi : i < k) (h0 : 0 < P.refs i) (hv : v = P.refs i + 1 ∨ v = P.refs i - 1) : PM k (q + 1) (P.setRef i v) f (fset r i v) := by
  refine ⟨h.n, fun a => ?_, fun a ha => ?_, fun a ha hp j hj => ?_⟩
  · show 0 ≤ (if a = i then v else P.refs a) ∧ (if a = i then v else P.refs a) ≤ _
    have := h.s a
    have := h.s i
    split <;> omega
  · show (if a = i then v else r a) = (if a = i then v else P.refs a)
    split
    · rfl
    · exact h.r a ha
  · have hp' : 0 < (if a = i then v else P.refs a) := hp
    refine h.b a ha ?_ j hj
    by_cases e : a = i
    · subst e; exact h0
    · rwa [if_neg e] at hp'
theorem PM.set_ (h : PM k q P f r) {i j : Nat} {v : UInt8} (h0 : 0 < P.refs i) (hi : i < k) : PM k (q + 1) (P.setByte i j v) (bset f i j v) r := by
  refine ⟨h.n, fun a => h.s.mono (by omega) a, h.r, fun a ha hp j' hj => ?_⟩
  show (if a = i then (if j' = j then v else f i j') else f a j') = (if a = i then (if j' = j then v else P.b i j') else P.b a j')
  have := h.b a ha hp j' hj
  split
  · rename_i e; subst e; rw [this]
  · exact this
end
theorem repl_get (z : Value) (n i : Nat) (h : i < n) : (List.replicate n z).toArray[i]? = some z := by simp [h]
theorem zero60 : Try.zeroCells60 = (List.replicate 1024 (Value.int .u8 0)).toArray := by kernel_rfl

theorem TP.start {w w1 : World} {L : PoolAt} {k : Nat} (u : Upd Non w w1) (r : PoolRep w1 L (PoolM.fresh k)) (l1 : w.heap.size ≤ L.p) (l2 : w.heap.size ≤ L.bb) (l3 : w.heap.size ≤ L.rb) :
    TP w ((w1.alloc (.cells Try.zeroCells60 60)).alloc (.cells (List.replicate 64 (Value.int .i64 0)).toArray 61)) L w1.heap.size (w1.heap.size + 1) (PoolM.fresh k) (fun _ _ => 0) (fun _ => 0) := by
  have hz := u.size
  refine ⟨(r.alloc _).alloc _, ⟨fun _ => .int .u8 0, (Row.alloc ⟨_, heap_alloc_new w1 _, by rw [zero60, List.size_toArray, List.length_replicate], fun i hi => by rw [zero60]; exact repl_get _ _ _ hi⟩ _), by omega, fun i j _ _ => rfl⟩, ?_, (u.alloc _).alloc _, l1, l2, l3, hz, by omega⟩
  have h := heap_alloc_new (w1.alloc (.cells Try.zeroCells60 60)) (.cells (List.replicate 64 (Value.int .i64 0)).toArray 61)
  rw [World.size_alloc] at h
  exact ⟨_, h, by simp, fun i hi => repl_get _ _ _ hi⟩

set_option maxRecDepth 100000 in
set_option maxHeartbeats 4000000 in
theorem topPool_go (w : World) (k : Nat) (hn1 : 1 ≤ (k : Int)) (hn2 : (k : Int) ≤ 64) (A : Option Addr) (cap : Nat) (l : List ActM) (hl : ActsAt w A l) (h80 : (l.length : Int) ≤ 80) :
    Calls Try.prog 6 #[.int .i64 k, .slice A l.length cap] w fun e w' => e = .returned (.bool true) ∧ Upd Non w w' := by
  go_enter Try.func6, Try.ntmps6
  go_wp2_with (first
    | (go_at_call 13; refine (light_law _ _ _ _ _).mono ?_; rintro e w2 ⟨rfl, rfl⟩)
    | (go_at_call 28; refine (new_ok _ k (by omega) (by omega)).mono ?_; rintro e w1 ⟨L, rfl, r, u, l1, l2, l3⟩)
    | fail)
  have hz1 := u.size
  have T0 : TP w _ L w1.heap.size (w1.heap.size + 1) (PoolM.fresh k) (fun _ _ => 0) (fun _ => 0) := TP.start u r l1 l2 l3
  have HT := Lib.hid T0
  clear r u l1 l2 l3 T0
  have hwz : w.heap.size ≤ w1.heap.size := by omega
  go_loopw [9] (fun i wr => ∃ (q : Nat) (P : PoolM) (f : Nat → Nat → UInt8) (r : Nat → Int), q ≤ l.length ∧ i = .int .i64 q ∧ Hid (TP w wr L w1.heap.size (w1.heap.size + 1) P f r ∧ PM k q P f r)) (fun i _ => l.length - (intOf i).toNat)
  case atStart => exact ⟨0, PoolM.fresh k, _, _, Nat.zero_le _, rfl, HT.out, ⟨rfl, fun i => ⟨Int.le_refl _, Int.le_refl _⟩, fun _ _ => rfl, fun i hi h => absurd h (by simp [PoolM.fresh])⟩⟩
  case round =>
    clear HT
    obtain ⟨q, P, f, r, hq, rfl, hI⟩ := hrel
    by_cases hlt : q < l.length
    · obtain ⟨b, o, rfl, hb, hx⟩ : ∃ b o, A = some ⟨b, o, none⟩ ∧ b < w.heap.size ∧ ∀ i x, l[i]? = some x → ActAt w b (o + i * 6) x := by
        rcases hl with rfl | h
        · simp at hlt
        · exact h
      have ha := (hx q l[q] (List.getElem?_eq_getElem hlt)).upd_ hI.out.1.up (fun h => h)
      clear hx hl
      generalize l[q] = x at ha
      obtain ⟨a0, a1, a2, a3, a4, a5⟩ := ha
      have T := TPX.new hI.out.1 x
      have b1 : L.bb < wr.heap.size := hI.out.1.rp.lts.2.1
      have hbl := hI.out.1.bt.lt
      have hrl := hI.out.1.rt.lt
      go_upto_block 2 with (fail)
      go_cut [] from 43 to 183 (fun wc => Hid (∃ (P : PoolM) (f : Nat → Nat → UInt8) (r : Nat → Int), TP w wc L w1.heap.size (w1.heap.size + 1) P f r ∧ PM k (q + 1) P f r))
      case first =>
        go_wp2_with fail
        · -- take
          cases hfr : P.free with
          | none =>
            have hl0 := Lib.hid (left_zero hfr)
            have HR := Lib.hid hfr
            clear hfr
            go_wp2_with (first
              | (go_at_call 30; refine (take_no T.rp HR.out).mono ?_; rintro e w2 ⟨rfl, r2, u2⟩; have T2 := T.pool r2 u2)
              | (go_at_call 45; refine (left_any _ L P T2.rp).mono ?_; rw [hl0.out]; rintro e w2 ⟨rfl, rfl⟩)
              | fail)
            go_roundw
            case rel => exact ⟨q + 1, P, f, r, by omega, by go_num, T2.toTP, hI.out.2.stay⟩
            case measure => simp [intOf]; omega
          | some i =>
            obtain ⟨hi1, hi2⟩ := free_is hfr
            have hik : i < k := by rw [← hI.out.2.n]; exact hi1
            have HR := Lib.hid hfr
            have hri := hI.out.2.r i hik
            have hrz : r i = 0 := by rw [hri, hi2]
            have HZ := Lib.hid hrz
            clear hfr hi1 hi2 hri hrz
            go_wp2_with (first
              | (go_at_call 30; refine (take_yes T.rp HR.out).mono ?_; rintro e w2 ⟨rfl, r2, u2⟩; have T2 := T.pool r2 u2; have c2 := T2.rt.cell (i := i) (by omega); have f2 := T2.rt.frozen i; unfold ints at c2; rw [HZ.out] at c2; have T3 := T2.toTP.setI (i := i) 1)
              | (refine wpl_build rfl 59 rfl _ (buildArr _) ?_)
              | (refine wpl_store rfl 59 _ _ rfl _ _ rfl rfl (T3.bt.storeA (i := i) (by omega) _ (by omega)) ?_)
              | fail)
            go_meet
            case rel => exact ⟨_, _, _, T3.setR (by omega) _ (by omega), hI.out.2.take_⟩
        · -- share
          by_cases hu : P.used x.a = true
          · obtain ⟨hi0, hu3, hr0⟩ := used_cast.1 hu
            have HU := Lib.hid hu
            have hik : x.a.toNat < k := by rw [← hI.out.2.n]; exact hu3
            have hi64 : x.a < 64 := by omega
            have hrb : P.refs x.a.toNat ≤ q := (hI.out.2.s _).2
            have HR := Lib.hid (hI.out.2.r _ hik)
            have hs : P.refs x.a.toNat ≤ 1000000 := by omega
            clear hu hu3
            go_wp2_with (first
              | (go_at_call 32; refine (share_yes T.rp HU.out hs).mono ?_; rintro e w2 ⟨rfl, r2, u2⟩; have T2 := T.pool r2 u2; have c2 := T2.rt.cell (i := x.a.toNat) (by omega); have f2 := T2.rt.frozen x.a.toNat; unfold ints at c2; rw [HR.out] at c2; have tb := T2.a2; have T3 := T2.toTP.setI (i := x.a.toNat) (P.refs x.a.toNat + 1))
              | fail)
            go_meet
            case rel => exact ⟨_, _, _, T3, hI.out.2.ref_ hik hr0 (.inl rfl)⟩
          · have hu' : P.used x.a = false := by simpa using hu
            have HU := Lib.hid hu'
            clear hu hu'
            go_wp2_with (first
              | (go_at_call 32; refine (share_no T.rp HU.out).mono ?_; rintro e w2 ⟨rfl, r2, u2⟩; have T2 := T.pool r2 u2)
              | fail)
            go_meet
            case rel => exact ⟨_, _, _, T2.toTP, hI.out.2.stay⟩
        · -- drop
          by_cases hu : P.used x.a = true
          · obtain ⟨hi0, hu3, hr0⟩ := used_cast.1 hu
            have HU := Lib.hid hu
            have hik : x.a.toNat < k := by rw [← hI.out.2.n]; exact hu3
            have hi64 : x.a < 64 := by omega
            have hrb : P.refs x.a.toNat ≤ q := (hI.out.2.s _).2
            have HR := Lib.hid (hI.out.2.r _ hik)
            have hs : P.refs x.a.toNat ≤ 1000000 := by omega
            clear hu hu3
            go_wp2_with (first
              | (go_at_call 34; refine (drop_yes T.rp HU.out hs).mono ?_; rintro e w2 ⟨rfl, r2, u2⟩; have T2 := T.pool r2 u2; have c2 := T2.rt.cell (i := x.a.toNat) (by omega); have f2 := T2.rt.frozen x.a.toNat; unfold ints at c2; rw [HR.out] at c2; have tb := T2.a2; have T3 := T2.toTP.setI (i := x.a.toNat) (P.refs x.a.toNat - 1))
              | fail)
            go_meet
            case rel => exact ⟨_, _, _, T3, hI.out.2.ref_ hik hr0 (.inr rfl)⟩
          · have hu' : P.used x.a = false := by simpa using hu
            have HU := Lib.hid hu'
            clear hu hu'
            go_wp2_with (first
              | (go_at_call 34; refine (drop_no T.rp HU.out).mono ?_; rintro e w2 ⟨rfl, r2, u2⟩; have T2 := T.pool r2 u2)
              | fail)
            go_meet
            case rel => exact ⟨_, _, _, T2.toTP, hI.out.2.stay⟩
        · -- set
          cases hu : P.mayset x.a x.b with
          | true =>
            have hu2 := hu
            unfold PoolM.mayset at hu2
            simp only [Bool.and_eq_true, decide_eq_true_eq] at hu2
            obtain ⟨hb0, hb1, hu3, hu4⟩ := hu2
            obtain ⟨hi0, hu5, hr0⟩ := used_cast.1 hu3
            have hik : x.a.toNat < k := by rw [← hI.out.2.n]; exact hu5
            have hi64 : x.a < 64 := by omega
            have hr1 : r x.a.toNat = 1 := by rw [hI.out.2.r _ hik]; omega
            have HU := Lib.hid hu
            have HR := Lib.hid hr1
            clear hu hu3 hu4 hu5 hr1
            go_wp2_with (first
              | (go_at_call 37; refine (set_yes T.rp x.v HU.out).mono ?_; rintro e w2 ⟨rfl, r2, u2⟩; have T2 := T.pool r2 u2; have c2 := T2.rt.cell (i := x.a.toNat) (by omega); unfold ints at c2; rw [HR.out] at c2; have td := T2.a2; have te := T2.a3; have tf := T2.a4; have bc := T2.bt.cellA (i := x.a.toNat) (j := x.b.toNat) (a := x.a.toNat * 16 + x.b.toNat) (by omega) (by omega) (by omega); have bf := T2.bt.fr (x.a.toNat * 16 + x.b.toNat))
              | fail)
            go_region
            all_goals go_wp2
            all_goals go_meet
            all_goals exact ⟨_, _, _, (T2.toTP.setB (i := x.a.toNat) (j := x.b.toNat) (a := x.a.toNat * 16 + x.b.toNat) (by omega) (by omega) (by omega)).non ((Upd.refl Non _).drew), hI.out.2.set_ hr0 hik⟩
          | false =>
            have HU := Lib.hid hu
            clear hu
            go_wp2_with (first
              | (go_at_call 37; refine (set_no T.rp x.v HU.out).mono ?_; rintro e w2 ⟨⟨kk, rfl⟩, r2, u2⟩; have T2 := T.pool r2 u2)
              | fail)
            go_meet
            case rel => exact ⟨_, _, _, T2.toTP, hI.out.2.stay⟩
      case rest =>
        obtain ⟨P', f', r', T1, M1⟩ := hcut.out
        have H1 := Lib.hid (show TP w wc L w1.heap.size (w1.heap.size + 1) P' f' r' ∧ PM k (q + 1) P' f' r' from ⟨T1, M1⟩)
        clear hcut T1 M1 T hI
        have hn := H1.out.2.n
        go_wp2_with fail
        go_loopw [13, 14] (fun z i wr' => ∃ j : Nat, j ≤ k ∧ i = .int .i64 j ∧ z = .int .i64 (P'.leftTo j) ∧ Hid (Upd Non wc wr')) (fun _ i _ => k - (intOf i).toNat)
        case atStart => exact ⟨0, Nat.zero_le _, rfl, rfl, Upd.refl _ _⟩
        case round =>
          obtain ⟨j, hj, rfl, rfl, hU⟩ := hrel
          rename_i wj _
          have Tj := H1.out.1.non hU.out
          have hlj := PoolM.leftTo_le P' j
          have HJ := Lib.hid (PoolM.leftTo_succ P' j)
          by_cases hlk : j < k
          · have hrj := H1.out.2.r j hlk
            have hs0 := (H1.out.2.s j).1
            have cr := Tj.rt.cell (i := j) (by omega)
            unfold ints at cr
            rw [hrj] at cr
            have hof : Hid (P'.of j = (min (P'.refs j) 2, P'.refs j, 0)) := by show _ = _; unfold PoolM.of; rw [if_neg (by rw [hn]; omega)]; rfl
            go_wp2_with (first
              | (go_at_call 46; refine (of_any _ L P' Tj.rp _).mono ?_; rw [hof.out]; rintro e w2 ⟨rfl, u2⟩; unfold frameV errv; have T2 := Tj.non u2; have cr2 := T2.rt.cell (i := j) (by omega); unfold ints at cr2; rw [H1.out.2.r j hlk] at cr2; have lr2 := T2.rt.lt)
              | fail)
            go_quiet (fail)
            by_cases hz : P'.refs j = 0
            · have hz' : (P'.refs j == 0) = true := by simpa using hz
              have HK := Lib.hid (show P'.leftTo (j + 1) = P'.leftTo j + 1 by rw [HJ.out, if_pos hz'])
              clear hz
              go_wp2
              go_roundw
              case rel => exact ⟨j + 1, by omega, by go_num, by rw [HK.out]; go_num, (hU.out.trans u2).alloc _ |>.drewN _⟩
              case measure => simp [intOf]; omega
            · have hz' : (P'.refs j == 0) = false := by simpa using hz
              have HK := Lib.hid (show P'.leftTo (j + 1) = P'.leftTo j by rw [HJ.out, if_neg (by simpa using hz)]; rfl)
              have hp : 0 < P'.refs j := by omega
              have hg : Hid (P'.get j ((q % 16 : Nat) : Int) = (P'.b j (q % 16), 0)) := by
                show _ = _
                unfold PoolM.get
                rw [if_neg (by omega), if_pos (used_iff.2 ⟨by rw [hn]; exact hlk, hp⟩)]
                show (P'.b (j : Int).toNat ((q % 16 : Nat) : Int).toNat, 0) = _
                rw [Int.toNat_natCast, Int.toNat_natCast]
              have hb16 := T2.bt.cellA (i := j) (j := q % 16) (a := j * 16 + q % 16) (by omega) (by omega) (by omega)
              rw [H1.out.2.b j hlk hp (q % 16) (by omega)] at hb16
              have lb2 := T2.bt.lt
              clear hz
              go_wp2_with (first
                | (go_at_call 35; refine (get_any _ L P' ((T2.rp.alloc _).drewN _) _ ((q % 16 : Nat) : Int)).mono ?_; rw [hg.out]; rintro e w3 ⟨rfl, rfl⟩; unfold errv)
                | fail)
              go_roundw
              case rel => exact ⟨j + 1, by omega, by go_num, by rw [HK.out], (hU.out.trans u2).alloc _ |>.drewN _⟩
              case measure => simp [intOf]; omega
          · obtain rfl : j = k := by omega
            have HL : Hid (P'.left = P'.leftTo j) := by show _ = _; unfold PoolM.left; rw [hn]
            go_wp2_with (first
              | (go_at_call 45; refine (left_any _ L P' Tj.rp).mono ?_; rw [HL.out]; rintro e w2 ⟨rfl, rfl⟩)
              | fail)
            exact ⟨⟨q + 1, P', f', r', by omega, by go_num, Tj, H1.out.2⟩, by simp [intOf]; omega⟩
    · go_wp2
      go_ret
      exact ⟨rfl, hI.out.1.up⟩

set_option maxRecDepth 100000 in
set_option maxHeartbeats 400000 in
theorem topPool_law (w : World) (n : Int) (A : Option Addr) (cap : Nat) (l : List ActM) (hl : ActsAt w A l) :
    Calls Try.prog 6 #[.int .i64 n, .slice A l.length cap] w fun e w' => e = .returned (.bool true) ∧ Upd Non w w' := by
  by_cases h1 : n < 1
  · go_enter Try.func6, Try.ntmps6
    go_wp2_with (first
      | (go_at_call 28; refine (new_bad _ n (.inl h1)).mono ?_; rw [show errv 1 = .iface 130 (.int .i64 1) from rfl]; rintro e w1 ⟨rfl, rfl⟩))
    go_ret
    exact ⟨rfl, Upd.refl _ _⟩
  · by_cases h2 : 64 < n
    · go_enter Try.func6, Try.ntmps6
      go_wp2_with (first
        | (go_at_call 28; refine (new_bad _ n (.inr h2)).mono ?_; rw [show errv 1 = .iface 130 (.int .i64 1) from rfl]; rintro e w1 ⟨rfl, rfl⟩))
      go_ret
      exact ⟨rfl, Upd.refl _ _⟩
    · obtain ⟨k, rfl⟩ := Int.eq_ofNat_of_zero_le (by omega : 0 ≤ n)
      by_cases h80 : (l.length : Int) ≤ 80
      · exact topPool_go w k (by omega) (by omega) A cap l hl h80
      · go_enter Try.func6, Try.ntmps6
        go_wp2_with (first
          | (go_at_call 28; refine (new_ok _ k (by omega) (by omega)).mono ?_; rintro e w1 ⟨L, rfl, r, u, l1, l2, l3⟩)
          | (go_at_call 13; refine (light_law _ _ _ _ _).mono ?_; rw [show decide ((l.length : Int) ≤ 80) = false from decide_eq_false (by omega)]; rintro e w2 ⟨rfl, rfl⟩))
        go_ret
        exact ⟨rfl, u⟩

end U
end Go.Proofs.Ytnhplapcdgnaaaa
