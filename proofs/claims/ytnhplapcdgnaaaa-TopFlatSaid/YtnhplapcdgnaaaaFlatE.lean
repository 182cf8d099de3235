import Derived.Test.YtnhplapcdgnaaaaFlatD
import Derived.Test.YtnhplapcdgnaaaaHostQm
set_option linter.unusedVariables false
set_option linter.unusedSimpArgs false
namespace Go.Proofs.Ytnhplapcdgnaaaa
open Go.RowKit
namespace U

/-! What an act does to a flat memory (written by gen_flate.py). -/
theorem own_none {s : ByteArray} (h_load : (s.toList == [108, 111, 97, 100]) = false) (h_store : (s.toList == [115, 116, 111, 114, 101]) = false) (h_root : (s.toList == [114, 111, 111, 116]) = false) (h_forget : (s.toList == [102, 111, 114, 103, 101, 116]) = false) (h_drop : (s.toList == [100, 114, 111, 112]) = false) (h_plug : (s.toList == [112, 108, 117, 103]) = false) (h_unplug : (s.toList == [117, 110, 112, 108, 117, 103]) = false) (h_give : (s.toList == [103, 105, 118, 101]) = false) (h_back : (s.toList == [98, 97, 99, 107]) = false) : (kindOf s).own = false := by
  unfold kindOf kindL
  simp only [h_load, h_store, h_root, h_forget, h_drop, h_plug, h_unplug, h_give, h_back, Bool.false_eq_true, if_false]
  (repeat' split) <;> rfl
set_option maxRecDepth 100000 in
theorem own_any (W : World) (kind : ByteArray) : Calls Try.prog 71 #[.string kind] W fun e w' => e = .returned (.bool (kindOf kind).own) ∧ W = w' := by
  cases h_load : (kind.toList == [108, 111, 97, 100]) with
  | true =>
    have hk := Lib.hid (kind_load h_load)
    go_enter Try.func71, Try.ntmps71
    go_wp2_with fail
    go_ret
    rw [hk.out]
    exact ⟨rfl, rfl⟩
  | false =>
  cases h_store : (kind.toList == [115, 116, 111, 114, 101]) with
  | true =>
    have hk := Lib.hid (kind_store h_store)
    go_enter Try.func71, Try.ntmps71
    go_wp2_with fail
    go_ret
    rw [hk.out]
    exact ⟨rfl, rfl⟩
  | false =>
  cases h_root : (kind.toList == [114, 111, 111, 116]) with
  | true =>
    have hk := Lib.hid (kind_root h_root)
    go_enter Try.func71, Try.ntmps71
    go_wp2_with fail
    go_ret
    rw [hk.out]
    exact ⟨rfl, rfl⟩
  | false =>
  cases h_forget : (kind.toList == [102, 111, 114, 103, 101, 116]) with
  | true =>
    have hk := Lib.hid (kind_forget h_forget)
    go_enter Try.func71, Try.ntmps71
    go_wp2_with fail
    go_ret
    rw [hk.out]
    exact ⟨rfl, rfl⟩
  | false =>
  cases h_drop : (kind.toList == [100, 114, 111, 112]) with
  | true =>
    have hk := Lib.hid (kind_drop h_drop)
    go_enter Try.func71, Try.ntmps71
    go_wp2_with fail
    go_ret
    rw [hk.out]
    exact ⟨rfl, rfl⟩
  | false =>
  cases h_plug : (kind.toList == [112, 108, 117, 103]) with
  | true =>
    have hk := Lib.hid (kind_plug h_plug)
    go_enter Try.func71, Try.ntmps71
    go_wp2_with fail
    go_ret
    rw [hk.out]
    exact ⟨rfl, rfl⟩
  | false =>
  cases h_unplug : (kind.toList == [117, 110, 112, 108, 117, 103]) with
  | true =>
    have hk := Lib.hid (kind_unplug h_unplug)
    go_enter Try.func71, Try.ntmps71
    go_wp2_with fail
    go_ret
    rw [hk.out]
    exact ⟨rfl, rfl⟩
  | false =>
  cases h_give : (kind.toList == [103, 105, 118, 101]) with
  | true =>
    have hk := Lib.hid (kind_give h_give)
    go_enter Try.func71, Try.ntmps71
    go_wp2_with fail
    go_ret
    rw [hk.out]
    exact ⟨rfl, rfl⟩
  | false =>
  cases h_back : (kind.toList == [98, 97, 99, 107]) with
  | true =>
    have hk := Lib.hid (kind_back h_back)
    go_enter Try.func71, Try.ntmps71
    go_wp2_with fail
    go_ret
    rw [hk.out]
    exact ⟨rfl, rfl⟩
  | false =>
  have hk := Lib.hid (own_none h_load h_store h_root h_forget h_drop h_plug h_unplug h_give h_back)
  go_enter Try.func71, Try.ntmps71
  go_wp2_with fail
  go_ret
  rw [hk.out]
  exact ⟨rfl, rfl⟩
def FlatPost (w : World) (f : Nat) (v0 : Value) (x : ViewM × Int × Nat) (e : Ending) (w' : World) : Prop :=
  e = .returned (.tuple #[.int .i64 x.2.1, .int .i64 x.2.2]) ∧ ∃ v', FM w w' f v0 v' x.1
theorem vat_in {V : ViewM} {a : Int} {wr : Bool} (h : (vat V a wr).2.2 = 0) : 0 ≤ a ∧ a ≤ 255 := by
  by_cases ha : a < 0 ∨ 255 < a
  · unfold vat at h; rw [if_pos ha] at h; cases h
  · omega
section
variable {w : World} {f : Nat} {v : Value} {V : ViewM}
theorem FM.box_off {w W : World} {f bx T N : Nat} {v0 v : Value} {V : ViewM} {c : Nat → Value} (t : FM w W f v0 v V) (q : Row W bx T N c) (h1 : T ≠ 122) (h2 : T ≠ 35) : ¬ ownF f v bx := t.r.off q h1 h2
set_option maxRecDepth 100000 in
set_option maxHeartbeats 1000000 in
theorem flat_load (r : FRep w f v V) (hV : VInv V) (kind : ByteArray) (n a b : Int) (x : UInt8) (on : Bool) (yn : Int) (ye : Nat) (h_load : (kind.toList == [108, 111, 97, 100]) = true) :
    Calls Try.prog 72 #[.pointer (some ⟨f, 0, none⟩), .agg #[.string kind, .int .i64 n, .int .i64 a, .int .i64 b, .int .u8 x.toNat, .bool on], .int .i64 yn, .int .i64 ye] w (FlatPost w f v (vdid V .load ⟨kind, n, a, b, x, on⟩ (yn, ye))) := by
  have q_store : (kind.toList == [115, 116, 111, 114, 101]) = false := by rw [list_of h_load]; rfl
  have q_root : (kind.toList == [114, 111, 111, 116]) = false := by rw [list_of h_load]; rfl
  have q_forget : (kind.toList == [102, 111, 114, 103, 101, 116]) = false := by rw [list_of h_load]; rfl
  have q_drop : (kind.toList == [100, 114, 111, 112]) = false := by rw [list_of h_load]; rfl
  have q_plug : (kind.toList == [112, 108, 117, 103]) = false := by rw [list_of h_load]; rfl
  have q_unplug : (kind.toList == [117, 110, 112, 108, 117, 103]) = false := by rw [list_of h_load]; rfl
  have q_give : (kind.toList == [103, 105, 118, 101]) = false := by rw [list_of h_load]; rfl
  have q_back : (kind.toList == [98, 97, 99, 107]) = false := by rw [list_of h_load]; rfl
  have t0 := (FM.start r).alloc (.cells #[.string kind, .int .i64 n, .int .i64 a, .int .i64 b, .int .u8 x.toNat, .bool on] 31)
  have X0 := ARow.new w ⟨kind, n, a, b, x, on⟩
  have hF : vdid V .load ⟨kind, n, a, b, x, on⟩ (yn, ye) = ((vload V a).1, (((vload V a).2.1.toNat : Nat) : Int), (vload V a).2.2) := rfl
  unfold vload at hF
  have hp := vat_page hV a false
  have hi := vat_in (V := V) (a := a) (wr := false)
  go_enter Try.func72, Try.ntmps72
  go_upto_region 1 with fail
  generalize w.alloc (.cells #[.string kind, .int .i64 n, .int .i64 a, .int .i64 b, .int .u8 x.toNat, .bool on] 31) = W at t0 X0 ⊢
  generalize w.heap.size = bx at X0 ⊢
  have y0 := X0.a0
  have y2 := X0.a2
  have y4 := X0.a4
  have lx := X0.lt
  have ob := t0.box_off X0 (by decide) (by decide)
  dsimp only at y0 y2 y4
  have hc := fat_any (FM.start t0.r) hV a false
  unfold FatPost at hc
  generalize vat V a false = Y at hF hp hi hc
  obtain ⟨V2, p, er⟩ := Y
  dsimp only at hF hp hi hc
  have HC := Lib.hid hc
  clear hc
  by_cases he : er = 0
  · subst he
    obtain ⟨p0, p1⟩ := hp rfl
    obtain ⟨a0, a1⟩ := hi rfl
    rw [if_neg (by simp)] at hF
    have HF := Lib.hid hF
    clear hF hp hi
    go_upto_region 6 with (first
      | (go_at_call 129; refine HC.out.mono ?_; rintro e w2 ⟨rfl, v2, t2⟩; have X2 := X0.upd t2.up ob; have z2 := X2.a2; have l2 := X2.lt; have lf := t2.r.lt; have cb := t2.r.bt.cellA (i := p.toNat) (j := (a % 16).toNat) (a := 16 + p.toNat * 16 + (a % 16).toNat) (by omega) (by omega) (by omega); dsimp only at z2)
      | fail)
    have j0 : 0 ≤ a % 16 := by omega
    have j1 : a % 16 < 16 := by omega
    go_quiet (fail)
    go_wp2_with fail
    go_ret2
    rw [HF.out]
    refine ⟨?_, v2, (t0.trans t2).drewN _⟩
    first
      | rfl
      | (show Ending.returned (.tuple #[.int .i64 (wrap64 ((V2.b p.toNat (a % 16).toNat).toNat : Int)), .int .i64 0]) = _; rw [wrap_byte]; rfl)
  · rw [if_pos he] at hF
    have HF := Lib.hid hF
    have hpos : (0 : Int) < er := by omega
    clear hF hp hi he
    go_wp2_with (first
      | (go_at_call 129; refine HC.out.mono ?_; rintro e w2 ⟨rfl, v2, t2⟩)
      | fail)
    go_ret2
    rw [HF.out]
    exact ⟨rfl, v2, t0.trans t2⟩
set_option maxRecDepth 100000 in
set_option maxHeartbeats 1000000 in
theorem flat_store (r : FRep w f v V) (hV : VInv V) (kind : ByteArray) (n a b : Int) (x : UInt8) (on : Bool) (yn : Int) (ye : Nat) (h_store : (kind.toList == [115, 116, 111, 114, 101]) = true) :
    Calls Try.prog 72 #[.pointer (some ⟨f, 0, none⟩), .agg #[.string kind, .int .i64 n, .int .i64 a, .int .i64 b, .int .u8 x.toNat, .bool on], .int .i64 yn, .int .i64 ye] w (FlatPost w f v (vdid V .store ⟨kind, n, a, b, x, on⟩ (yn, ye))) := by
  have q_load : (kind.toList == [108, 111, 97, 100]) = false := by rw [list_of h_store]; rfl
  have q_root : (kind.toList == [114, 111, 111, 116]) = false := by rw [list_of h_store]; rfl
  have q_forget : (kind.toList == [102, 111, 114, 103, 101, 116]) = false := by rw [list_of h_store]; rfl
  have q_drop : (kind.toList == [100, 114, 111, 112]) = false := by rw [list_of h_store]; rfl
  have q_plug : (kind.toList == [112, 108, 117, 103]) = false := by rw [list_of h_store]; rfl
  have q_unplug : (kind.toList == [117, 110, 112, 108, 117, 103]) = false := by rw [list_of h_store]; rfl
  have q_give : (kind.toList == [103, 105, 118, 101]) = false := by rw [list_of h_store]; rfl
  have q_back : (kind.toList == [98, 97, 99, 107]) = false := by rw [list_of h_store]; rfl
  have t0 := (FM.start r).alloc (.cells #[.string kind, .int .i64 n, .int .i64 a, .int .i64 b, .int .u8 x.toNat, .bool on] 31)
  have X0 := ARow.new w ⟨kind, n, a, b, x, on⟩
  have hF : vdid V .store ⟨kind, n, a, b, x, on⟩ (yn, ye) = vnat (vstore V a x) := rfl
  unfold vnat vstore at hF
  have hp := vat_page hV a true
  have hi := vat_in (V := V) (a := a) (wr := true)
  go_enter Try.func72, Try.ntmps72
  go_upto_region 1 with fail
  generalize w.alloc (.cells #[.string kind, .int .i64 n, .int .i64 a, .int .i64 b, .int .u8 x.toNat, .bool on] 31) = W at t0 X0 ⊢
  generalize w.heap.size = bx at X0 ⊢
  have y0 := X0.a0
  have y2 := X0.a2
  have y4 := X0.a4
  have lx := X0.lt
  have ob := t0.box_off X0 (by decide) (by decide)
  dsimp only at y0 y2 y4
  have hc := fat_any (FM.start t0.r) hV a true
  unfold FatPost at hc
  generalize vat V a true = Y at hF hp hi hc
  obtain ⟨V2, p, er⟩ := Y
  dsimp only at hF hp hi hc
  have HC := Lib.hid hc
  clear hc
  by_cases he : er = 0
  · subst he
    obtain ⟨p0, p1⟩ := hp rfl
    obtain ⟨a0, a1⟩ := hi rfl
    rw [if_neg (by simp)] at hF
    have HF := Lib.hid hF
    clear hF hp hi
    go_upto_region 10 with (first
      | (go_at_call 129; refine HC.out.mono ?_; rintro e w2 ⟨rfl, v2, t2⟩; have X2 := X0.upd t2.up ob; have z2 := X2.a2; have z4 := X2.a4; have l2 := X2.lt; have lf := t2.r.lt; have cb := t2.r.bt.cellA (i := p.toNat) (j := (a % 16).toNat) (a := 16 + p.toNat * 16 + (a % 16).toNat) (by omega) (by omega) (by omega); have fb := t2.r.fr (16 + p.toNat * 16 + (a % 16).toNat); dsimp only at z2 z4)
      | fail)
    have j0 : 0 ≤ a % 16 := by omega
    have j1 : a % 16 < 16 := by omega
    go_region
    all_goals go_wp2_with fail
    all_goals go_ret2
    all_goals rw [HF.out]
    all_goals exact ⟨rfl, v2, ((t0.trans t2).at_ (t2.r.setB (k := p.toNat) (j := (a % 16).toNat) (a := 16 + p.toNat * 16 + (a % 16).toNat) (by omega) (by omega) (by omega) x) ((Upd.refl _ _).setCell (p := ⟨f, 16 + p.toNat * 16 + (a % 16).toNat, none⟩) (fun _ => at1_self) _)).drew⟩
  · rw [if_pos he] at hF
    have HF := Lib.hid hF
    have hpos : ((er : Int) == 0) = false := by simp; omega
    have hne : ¬ (er : Int) = 0 := by omega
    clear hF hp hi he
    go_wp2_with (first
      | (go_at_call 129; refine HC.out.mono ?_; rintro e w2 ⟨rfl, v2, t2⟩)
      | fail)
    go_ret2
    rw [HF.out]
    exact ⟨rfl, v2, t0.trans t2⟩
set_option maxRecDepth 100000 in
set_option maxHeartbeats 1000000 in
theorem flat_root (r : FRep w f v V) (hV : VInv V) (kind : ByteArray) (n a b : Int) (x : UInt8) (on : Bool) (yn : Int) (ye : Nat) (h_root : (kind.toList == [114, 111, 111, 116]) = true) :
    Calls Try.prog 72 #[.pointer (some ⟨f, 0, none⟩), .agg #[.string kind, .int .i64 n, .int .i64 a, .int .i64 b, .int .u8 x.toNat, .bool on], .int .i64 yn, .int .i64 ye] w (FlatPost w f v (vdid V .root ⟨kind, n, a, b, x, on⟩ (yn, ye))) := by
  have q_load : (kind.toList == [108, 111, 97, 100]) = false := by rw [list_of h_root]; rfl
  have q_store : (kind.toList == [115, 116, 111, 114, 101]) = false := by rw [list_of h_root]; rfl
  have q_forget : (kind.toList == [102, 111, 114, 103, 101, 116]) = false := by rw [list_of h_root]; rfl
  have q_drop : (kind.toList == [100, 114, 111, 112]) = false := by rw [list_of h_root]; rfl
  have q_plug : (kind.toList == [112, 108, 117, 103]) = false := by rw [list_of h_root]; rfl
  have q_unplug : (kind.toList == [117, 110, 112, 108, 117, 103]) = false := by rw [list_of h_root]; rfl
  have q_give : (kind.toList == [103, 105, 118, 101]) = false := by rw [list_of h_root]; rfl
  have q_back : (kind.toList == [98, 97, 99, 107]) = false := by rw [list_of h_root]; rfl
  have t0 := (FM.start r).alloc (.cells #[.string kind, .int .i64 n, .int .i64 a, .int .i64 b, .int .u8 x.toNat, .bool on] 31)
  have X0 := ARow.new w ⟨kind, n, a, b, x, on⟩
  have hF : vdid V .root ⟨kind, n, a, b, x, on⟩ (yn, ye) = vnat (vroot V a) := rfl
  unfold vnat vroot at hF
  go_enter Try.func72, Try.ntmps72
  go_upto_region 1 with fail
  generalize w.alloc (.cells #[.string kind, .int .i64 n, .int .i64 a, .int .i64 b, .int .u8 x.toNat, .bool on] 31) = W at t0 X0 ⊢
  generalize w.heap.size = bx at X0 ⊢
  have y0 := X0.a0
  have y2 := X0.a2
  have y4 := X0.a4
  have lx := X0.lt
  have ob := t0.box_off X0 (by decide) (by decide)
  dsimp only at y0 y2 y4
  have c272 := t0.r.rt
  have f272 := t0.r.fr 272
  have lf := t0.r.lt
  by_cases h1 : a < -1
  · rw [if_pos (.inl h1)] at hF
    have HF := Lib.hid hF
    clear hF
    go_wp2_with fail
    go_ret2
    rw [HF.out]
    exact ⟨rfl, v, t0⟩
  · by_cases h2 : 15 < a
    · rw [if_pos (.inr h2)] at hF
      have HF := Lib.hid hF
      clear hF
      go_wp2_with fail
      go_ret2
      rw [HF.out]
      exact ⟨rfl, v, t0⟩
    · rw [if_neg (by omega)] at hF
      have HF := Lib.hid hF
      clear hF
      go_wp2_with fail
      go_ret2
      rw [HF.out]
      exact ⟨rfl, v, t0.at_ (t0.r.setRoot a) ((Upd.refl _ _).setCell (p := ⟨f, 272, none⟩) (fun _ => at1_self) _)⟩
set_option maxRecDepth 100000 in
set_option maxHeartbeats 1000000 in
theorem flat_forget (r : FRep w f v V) (hV : VInv V) (kind : ByteArray) (n a b : Int) (x : UInt8) (on : Bool) (yn : Int) (ye : Nat) (h_forget : (kind.toList == [102, 111, 114, 103, 101, 116]) = true) :
    Calls Try.prog 72 #[.pointer (some ⟨f, 0, none⟩), .agg #[.string kind, .int .i64 n, .int .i64 a, .int .i64 b, .int .u8 x.toNat, .bool on], .int .i64 yn, .int .i64 ye] w (FlatPost w f v (vdid V .forget ⟨kind, n, a, b, x, on⟩ (yn, ye))) := by
  have q_load : (kind.toList == [108, 111, 97, 100]) = false := by rw [list_of h_forget]; rfl
  have q_store : (kind.toList == [115, 116, 111, 114, 101]) = false := by rw [list_of h_forget]; rfl
  have q_root : (kind.toList == [114, 111, 111, 116]) = false := by rw [list_of h_forget]; rfl
  have q_drop : (kind.toList == [100, 114, 111, 112]) = false := by rw [list_of h_forget]; rfl
  have q_plug : (kind.toList == [112, 108, 117, 103]) = false := by rw [list_of h_forget]; rfl
  have q_unplug : (kind.toList == [117, 110, 112, 108, 117, 103]) = false := by rw [list_of h_forget]; rfl
  have q_give : (kind.toList == [103, 105, 118, 101]) = false := by rw [list_of h_forget]; rfl
  have q_back : (kind.toList == [98, 97, 99, 107]) = false := by rw [list_of h_forget]; rfl
  have t0 := (FM.start r).alloc (.cells #[.string kind, .int .i64 n, .int .i64 a, .int .i64 b, .int .u8 x.toNat, .bool on] 31)
  have X0 := ARow.new w ⟨kind, n, a, b, x, on⟩
  have hF : vdid V .forget ⟨kind, n, a, b, x, on⟩ (yn, ye) = vnat (vforget V a) := rfl
  unfold vnat vforget at hF
  go_enter Try.func72, Try.ntmps72
  go_upto_region 1 with fail
  generalize w.alloc (.cells #[.string kind, .int .i64 n, .int .i64 a, .int .i64 b, .int .u8 x.toNat, .bool on] 31) = W at t0 X0 ⊢
  generalize w.heap.size = bx at X0 ⊢
  have y0 := X0.a0
  have y2 := X0.a2
  have y4 := X0.a4
  have lx := X0.lt
  have ob := t0.box_off X0 (by decide) (by decide)
  dsimp only at y0 y2 y4
  have c272 := t0.r.rt
  have lf := t0.r.lt
  have hl := hV.c.len
  by_cases h1 : a < 0
  · rw [if_pos (.inl h1)] at hF
    have HF := Lib.hid hF
    clear hF
    go_wp2_with fail
    go_ret2
    rw [HF.out]
    exact ⟨rfl, v, t0⟩
  · by_cases h2 : 255 < a
    · rw [if_pos (.inr h2)] at hF
      have HF := Lib.hid hF
      clear hF
      go_wp2_with fail
      go_ret2
      rw [HF.out]
      exact ⟨rfl, v, t0⟩
    · rw [if_neg (by omega), ← fkeep_two (p := a / 16) (by omega)] at hF
      have HF := Lib.hid hF
      have hc := Lib.hid (fun W (t : FM w W f v v V) => fforget_any t (by omega) V.root (a / 16))
      have j0 : 0 ≤ a := by omega
      have hd0 : IntKind.i64.wrap (a.tdiv 16) = a / 16 := by
        exact IntWalk.i64_quo a 16 ⟨by omega, by omega, by omega⟩
      have hd := Lib.hid hd0
      clear hd0
      clear hF
      go_upto_region 19 with fail
      go_region_with (go_at_call 130; rw [hd.out]; refine (hc.out _ (by repeat (first | assumption | apply FM.alloc | apply FM.drew | apply FM.drewN))).mono ?_; rintro e w2 ⟨rfl, v2, t2⟩)
      all_goals go_wp2_with fail
      all_goals go_ret2
      all_goals rw [HF.out]
      all_goals exact ⟨rfl, v2, (by repeat (first | assumption | apply FM.alloc | apply FM.drew | apply FM.drewN))⟩
set_option maxRecDepth 100000 in
set_option maxHeartbeats 1000000 in
theorem flat_drop (r : FRep w f v V) (hV : VInv V) (kind : ByteArray) (n a b : Int) (x : UInt8) (on : Bool) (yn : Int) (ye : Nat) (h_drop : (kind.toList == [100, 114, 111, 112]) = true) :
    Calls Try.prog 72 #[.pointer (some ⟨f, 0, none⟩), .agg #[.string kind, .int .i64 n, .int .i64 a, .int .i64 b, .int .u8 x.toNat, .bool on], .int .i64 yn, .int .i64 ye] w (FlatPost w f v (vdid V .drop ⟨kind, n, a, b, x, on⟩ (yn, ye))) := by
  have q_load : (kind.toList == [108, 111, 97, 100]) = false := by rw [list_of h_drop]; rfl
  have q_store : (kind.toList == [115, 116, 111, 114, 101]) = false := by rw [list_of h_drop]; rfl
  have q_root : (kind.toList == [114, 111, 111, 116]) = false := by rw [list_of h_drop]; rfl
  have q_forget : (kind.toList == [102, 111, 114, 103, 101, 116]) = false := by rw [list_of h_drop]; rfl
  have q_plug : (kind.toList == [112, 108, 117, 103]) = false := by rw [list_of h_drop]; rfl
  have q_unplug : (kind.toList == [117, 110, 112, 108, 117, 103]) = false := by rw [list_of h_drop]; rfl
  have q_give : (kind.toList == [103, 105, 118, 101]) = false := by rw [list_of h_drop]; rfl
  have q_back : (kind.toList == [98, 97, 99, 107]) = false := by rw [list_of h_drop]; rfl
  have t0 := (FM.start r).alloc (.cells #[.string kind, .int .i64 n, .int .i64 a, .int .i64 b, .int .u8 x.toNat, .bool on] 31)
  have X0 := ARow.new w ⟨kind, n, a, b, x, on⟩
  have hF : vdid V .drop ⟨kind, n, a, b, x, on⟩ (yn, ye) = vnat (vforgetAll V a) := rfl
  unfold vnat vforgetAll at hF
  go_enter Try.func72, Try.ntmps72
  go_upto_region 1 with fail
  generalize w.alloc (.cells #[.string kind, .int .i64 n, .int .i64 a, .int .i64 b, .int .u8 x.toNat, .bool on] 31) = W at t0 X0 ⊢
  generalize w.heap.size = bx at X0 ⊢
  have y0 := X0.a0
  have y2 := X0.a2
  have y4 := X0.a4
  have lx := X0.lt
  have ob := t0.box_off X0 (by decide) (by decide)
  dsimp only at y0 y2 y4
  have lf := t0.r.lt
  have hl := hV.c.len
  by_cases h1 : a < 0
  · rw [if_neg (by rw [onB_iff]; omega)] at hF
    have HF := Lib.hid hF
    clear hF
    go_wp2_with fail
    go_ret2
    rw [HF.out]
    exact ⟨rfl, v, t0⟩
  · by_cases h2 : 15 < a
    · rw [if_neg (by rw [onB_iff]; omega)] at hF
      have HF := Lib.hid hF
      clear hF
      go_wp2_with fail
      go_ret2
      rw [HF.out]
      exact ⟨rfl, v, t0⟩
    · rw [if_pos (by rw [onB_iff]; omega), ← fkeep_one (p := -1) (by omega)] at hF
      have HF := Lib.hid hF
      have hc := Lib.hid (fun W (t : FM w W f v v V) => fforget_any t (by omega) a (-1))
      clear hF
      go_wp2_with (first
        | (go_at_call 130; refine (hc.out _ (by repeat (first | assumption | apply FM.alloc | apply FM.drew | apply FM.drewN))).mono ?_; rintro e w2 ⟨rfl, v2, t2⟩)
        | fail)
      go_ret2
      rw [HF.out]
      exact ⟨rfl, v2, t2⟩
set_option maxRecDepth 100000 in
set_option maxHeartbeats 1000000 in
theorem flat_plug (r : FRep w f v V) (hV : VInv V) (kind : ByteArray) (n a b : Int) (x : UInt8) (on : Bool) (yn : Int) (ye : Nat) (hy : ye = 0 → 0 ≤ a ∧ a ≤ 3) (h_plug : (kind.toList == [112, 108, 117, 103]) = true) :
    Calls Try.prog 72 #[.pointer (some ⟨f, 0, none⟩), .agg #[.string kind, .int .i64 n, .int .i64 a, .int .i64 b, .int .u8 x.toNat, .bool on], .int .i64 yn, .int .i64 ye] w (FlatPost w f v (vdid V .plug ⟨kind, n, a, b, x, on⟩ (yn, ye))) := by
  have q_load : (kind.toList == [108, 111, 97, 100]) = false := by rw [list_of h_plug]; rfl
  have q_store : (kind.toList == [115, 116, 111, 114, 101]) = false := by rw [list_of h_plug]; rfl
  have q_root : (kind.toList == [114, 111, 111, 116]) = false := by rw [list_of h_plug]; rfl
  have q_forget : (kind.toList == [102, 111, 114, 103, 101, 116]) = false := by rw [list_of h_plug]; rfl
  have q_drop : (kind.toList == [100, 114, 111, 112]) = false := by rw [list_of h_plug]; rfl
  have q_unplug : (kind.toList == [117, 110, 112, 108, 117, 103]) = false := by rw [list_of h_plug]; rfl
  have q_give : (kind.toList == [103, 105, 118, 101]) = false := by rw [list_of h_plug]; rfl
  have q_back : (kind.toList == [98, 97, 99, 107]) = false := by rw [list_of h_plug]; rfl
  have t0 := (FM.start r).alloc (.cells #[.string kind, .int .i64 n, .int .i64 a, .int .i64 b, .int .u8 x.toNat, .bool on] 31)
  have X0 := ARow.new w ⟨kind, n, a, b, x, on⟩
  have hF : vdid V .plug ⟨kind, n, a, b, x, on⟩ (yn, ye) = (vblock V a 1 ye, yn, ye) := rfl
  unfold vblock at hF
  go_enter Try.func72, Try.ntmps72
  go_upto_region 1 with fail
  generalize w.alloc (.cells #[.string kind, .int .i64 n, .int .i64 a, .int .i64 b, .int .u8 x.toNat, .bool on] 31) = W at t0 X0 ⊢
  generalize w.heap.size = bx at X0 ⊢
  have y0 := X0.a0
  have y2 := X0.a2
  have y4 := X0.a4
  have lx := X0.lt
  have ob := t0.box_off X0 (by decide) (by decide)
  dsimp only at y0 y2 y4
  by_cases he : ye = 0
  · subst he
    obtain ⟨a0, a1⟩ := hy rfl
    rw [if_pos rfl] at hF
    have HF := Lib.hid hF
    clear hF hy y2
    go_wp2_with fail
    go_loopw [14] (fun i wi => ∃ k : Nat, k ≤ 4 ∧ i = .int .i64 k ∧ Hid (FM w wi f v v (vturnN V (4 * a.toNat) 1 k) ∧ ARow wi bx ⟨kind, n, a, b, x, on⟩)) (fun i _ => 4 - (intOf i).toNat)
    case atStart => exact ⟨0, Nat.zero_le _, rfl, t0, X0⟩
    case round =>
      obtain ⟨k, hk, rfl, hI⟩ := hrel
      by_cases hlt : k < 4
      · have k4 : (k : Int) < 4 := by omega
        have Xk := hI.out.2
        have tk := hI.out.1
        have z0 := Xk.a0
        have z2 := Xk.a2
        have lz := Xk.lt
        have obk := tk.box_off Xk (by decide) (by decide)
        dsimp only at z0 z2
        have hc := fturn_any (FM.start tk.r) (n := 4 * a + k) (by omega) (by omega) 1
        rw [show (4 * a + (k : Int)).toNat = 4 * a.toNat + k by omega] at hc
        have HC := Lib.hid hc
        clear hc
        go_wp2_with (first
          | (go_at_call 131; refine HC.out.mono ?_; rintro e w2 ⟨rfl, t2⟩; have X2 := Xk.upd t2.up obk; have t3 := tk.trans t2)
          | fail)
        go_roundw
        case rel => first | exact ⟨k + 1, by omega, by go_num, t3, X2⟩ | ((repeat apply Exists.intro); exact ⟨⟨k + 1, by omega, by go_num, t3, X2⟩, rfl⟩)
        case measure => simp [intOf]; omega
      · obtain rfl : k = 4 := by omega
        have t4 := Lib.hid hI.out.1
        clear hI
        go_wp2_with fail
        go_ret2
        rw [HF.out]
        exact ⟨rfl, v, t4.out⟩
  · rw [if_neg he] at hF
    have HF := Lib.hid hF
    have hne : ((ye : Int) == 0) = false := by simp; omega
    have hne2 : ¬ (ye : Int) = 0 := by omega
    clear hF hy he
    go_wp2_with fail
    refine wp_loop_rounds 1 ?_
    rw [rounds_succ]
    go_wp2_with fail
    go_ret2
    rw [HF.out]
    exact ⟨rfl, v, t0⟩
set_option maxRecDepth 100000 in
set_option maxHeartbeats 1000000 in
theorem flat_unplug (r : FRep w f v V) (hV : VInv V) (kind : ByteArray) (n a b : Int) (x : UInt8) (on : Bool) (yn : Int) (ye : Nat) (hy : ye = 0 → 0 ≤ a ∧ a ≤ 3) (h_unplug : (kind.toList == [117, 110, 112, 108, 117, 103]) = true) :
    Calls Try.prog 72 #[.pointer (some ⟨f, 0, none⟩), .agg #[.string kind, .int .i64 n, .int .i64 a, .int .i64 b, .int .u8 x.toNat, .bool on], .int .i64 yn, .int .i64 ye] w (FlatPost w f v (vdid V .unplug ⟨kind, n, a, b, x, on⟩ (yn, ye))) := by
  have q_load : (kind.toList == [108, 111, 97, 100]) = false := by rw [list_of h_unplug]; rfl
  have q_store : (kind.toList == [115, 116, 111, 114, 101]) = false := by rw [list_of h_unplug]; rfl
  have q_root : (kind.toList == [114, 111, 111, 116]) = false := by rw [list_of h_unplug]; rfl
  have q_forget : (kind.toList == [102, 111, 114, 103, 101, 116]) = false := by rw [list_of h_unplug]; rfl
  have q_drop : (kind.toList == [100, 114, 111, 112]) = false := by rw [list_of h_unplug]; rfl
  have q_plug : (kind.toList == [112, 108, 117, 103]) = false := by rw [list_of h_unplug]; rfl
  have q_give : (kind.toList == [103, 105, 118, 101]) = false := by rw [list_of h_unplug]; rfl
  have q_back : (kind.toList == [98, 97, 99, 107]) = false := by rw [list_of h_unplug]; rfl
  have t0 := (FM.start r).alloc (.cells #[.string kind, .int .i64 n, .int .i64 a, .int .i64 b, .int .u8 x.toNat, .bool on] 31)
  have X0 := ARow.new w ⟨kind, n, a, b, x, on⟩
  have hF : vdid V .unplug ⟨kind, n, a, b, x, on⟩ (yn, ye) = (vblock V a 0 ye, yn, ye) := rfl
  unfold vblock at hF
  go_enter Try.func72, Try.ntmps72
  go_upto_region 1 with fail
  generalize w.alloc (.cells #[.string kind, .int .i64 n, .int .i64 a, .int .i64 b, .int .u8 x.toNat, .bool on] 31) = W at t0 X0 ⊢
  generalize w.heap.size = bx at X0 ⊢
  have y0 := X0.a0
  have y2 := X0.a2
  have y4 := X0.a4
  have lx := X0.lt
  have ob := t0.box_off X0 (by decide) (by decide)
  dsimp only at y0 y2 y4
  by_cases he : ye = 0
  · subst he
    obtain ⟨a0, a1⟩ := hy rfl
    rw [if_pos rfl] at hF
    have HF := Lib.hid hF
    clear hF hy y2
    go_wp2_with fail
    go_loopw [14] (fun i wi => ∃ k : Nat, k ≤ 4 ∧ i = .int .i64 k ∧ Hid (FM w wi f v v (vturnN V (4 * a.toNat) 0 k) ∧ ARow wi bx ⟨kind, n, a, b, x, on⟩)) (fun i _ => 4 - (intOf i).toNat)
    case atStart => exact ⟨0, Nat.zero_le _, rfl, t0, X0⟩
    case round =>
      obtain ⟨k, hk, rfl, hI⟩ := hrel
      by_cases hlt : k < 4
      · have k4 : (k : Int) < 4 := by omega
        have Xk := hI.out.2
        have tk := hI.out.1
        have z0 := Xk.a0
        have z2 := Xk.a2
        have lz := Xk.lt
        have obk := tk.box_off Xk (by decide) (by decide)
        dsimp only at z0 z2
        have hc := fturn_any (FM.start tk.r) (n := 4 * a + k) (by omega) (by omega) 0
        rw [show (4 * a + (k : Int)).toNat = 4 * a.toNat + k by omega] at hc
        have HC := Lib.hid hc
        clear hc
        go_wp2_with (first
          | (go_at_call 131; refine HC.out.mono ?_; rintro e w2 ⟨rfl, t2⟩; have X2 := Xk.upd t2.up obk; have t3 := tk.trans t2)
          | fail)
        go_roundw
        case rel => first | exact ⟨k + 1, by omega, by go_num, t3, X2⟩ | ((repeat apply Exists.intro); exact ⟨⟨k + 1, by omega, by go_num, t3, X2⟩, rfl⟩)
        case measure => simp [intOf]; omega
      · obtain rfl : k = 4 := by omega
        have t4 := Lib.hid hI.out.1
        clear hI
        go_wp2_with fail
        go_ret2
        rw [HF.out]
        exact ⟨rfl, v, t4.out⟩
  · rw [if_neg he] at hF
    have HF := Lib.hid hF
    have hne : ((ye : Int) == 0) = false := by simp; omega
    have hne2 : ¬ (ye : Int) = 0 := by omega
    clear hF hy he
    go_wp2_with fail
    refine wp_loop_rounds 1 ?_
    rw [rounds_succ]
    go_wp2_with fail
    go_ret2
    rw [HF.out]
    exact ⟨rfl, v, t0⟩
set_option maxRecDepth 100000 in
set_option maxHeartbeats 1000000 in
theorem flat_give (r : FRep w f v V) (hV : VInv V) (kind : ByteArray) (n a b : Int) (x : UInt8) (on : Bool) (yn : Int) (ye : Nat) (hy : ye = 0 → 0 ≤ a ∧ a < 16) (h_give : (kind.toList == [103, 105, 118, 101]) = true) :
    Calls Try.prog 72 #[.pointer (some ⟨f, 0, none⟩), .agg #[.string kind, .int .i64 n, .int .i64 a, .int .i64 b, .int .u8 x.toNat, .bool on], .int .i64 yn, .int .i64 ye] w (FlatPost w f v (vdid V .give ⟨kind, n, a, b, x, on⟩ (yn, ye))) := by
  have q_load : (kind.toList == [108, 111, 97, 100]) = false := by rw [list_of h_give]; rfl
  have q_store : (kind.toList == [115, 116, 111, 114, 101]) = false := by rw [list_of h_give]; rfl
  have q_root : (kind.toList == [114, 111, 111, 116]) = false := by rw [list_of h_give]; rfl
  have q_forget : (kind.toList == [102, 111, 114, 103, 101, 116]) = false := by rw [list_of h_give]; rfl
  have q_drop : (kind.toList == [100, 114, 111, 112]) = false := by rw [list_of h_give]; rfl
  have q_plug : (kind.toList == [112, 108, 117, 103]) = false := by rw [list_of h_give]; rfl
  have q_unplug : (kind.toList == [117, 110, 112, 108, 117, 103]) = false := by rw [list_of h_give]; rfl
  have q_back : (kind.toList == [98, 97, 99, 107]) = false := by rw [list_of h_give]; rfl
  have t0 := (FM.start r).alloc (.cells #[.string kind, .int .i64 n, .int .i64 a, .int .i64 b, .int .u8 x.toNat, .bool on] 31)
  have X0 := ARow.new w ⟨kind, n, a, b, x, on⟩
  have hF : vdid V .give ⟨kind, n, a, b, x, on⟩ (yn, ye) = (vturn1 V a 2 ye, yn, ye) := rfl
  unfold vturn1 at hF
  go_enter Try.func72, Try.ntmps72
  go_upto_region 1 with fail
  generalize w.alloc (.cells #[.string kind, .int .i64 n, .int .i64 a, .int .i64 b, .int .u8 x.toNat, .bool on] 31) = W at t0 X0 ⊢
  generalize w.heap.size = bx at X0 ⊢
  have y0 := X0.a0
  have y2 := X0.a2
  have y4 := X0.a4
  have lx := X0.lt
  have ob := t0.box_off X0 (by decide) (by decide)
  dsimp only at y0 y2 y4
  by_cases he : ye = 0
  · subst he
    obtain ⟨a0, a1⟩ := hy rfl
    rw [if_pos rfl] at hF
    have HF := Lib.hid hF
    clear hF hy
    have HC := Lib.hid (fturn_any t0 (n := a) a0 a1 2)
    go_wp2_with (first
      | (go_at_call 131; refine HC.out.mono ?_; rintro e w2 ⟨rfl, t2⟩)
      | fail)
    go_ret2
    rw [HF.out]
    exact ⟨rfl, v, t2⟩
  · rw [if_neg he] at hF
    have HF := Lib.hid hF
    have hne : ((ye : Int) == 0) = false := by simp; omega
    have hne2 : ¬ (ye : Int) = 0 := by omega
    clear hF hy he
    go_wp2_with fail
    go_ret2
    rw [HF.out]
    exact ⟨rfl, v, t0⟩
set_option maxRecDepth 100000 in
set_option maxHeartbeats 1000000 in
theorem flat_back (r : FRep w f v V) (hV : VInv V) (kind : ByteArray) (n a b : Int) (x : UInt8) (on : Bool) (yn : Int) (ye : Nat) (hy : ye = 0 → 0 ≤ a ∧ a < 16) (h_back : (kind.toList == [98, 97, 99, 107]) = true) :
    Calls Try.prog 72 #[.pointer (some ⟨f, 0, none⟩), .agg #[.string kind, .int .i64 n, .int .i64 a, .int .i64 b, .int .u8 x.toNat, .bool on], .int .i64 yn, .int .i64 ye] w (FlatPost w f v (vdid V .back ⟨kind, n, a, b, x, on⟩ (yn, ye))) := by
  have q_load : (kind.toList == [108, 111, 97, 100]) = false := by rw [list_of h_back]; rfl
  have q_store : (kind.toList == [115, 116, 111, 114, 101]) = false := by rw [list_of h_back]; rfl
  have q_root : (kind.toList == [114, 111, 111, 116]) = false := by rw [list_of h_back]; rfl
  have q_forget : (kind.toList == [102, 111, 114, 103, 101, 116]) = false := by rw [list_of h_back]; rfl
  have q_drop : (kind.toList == [100, 114, 111, 112]) = false := by rw [list_of h_back]; rfl
  have q_plug : (kind.toList == [112, 108, 117, 103]) = false := by rw [list_of h_back]; rfl
  have q_unplug : (kind.toList == [117, 110, 112, 108, 117, 103]) = false := by rw [list_of h_back]; rfl
  have q_give : (kind.toList == [103, 105, 118, 101]) = false := by rw [list_of h_back]; rfl
  have t0 := (FM.start r).alloc (.cells #[.string kind, .int .i64 n, .int .i64 a, .int .i64 b, .int .u8 x.toNat, .bool on] 31)
  have X0 := ARow.new w ⟨kind, n, a, b, x, on⟩
  have hF : vdid V .back ⟨kind, n, a, b, x, on⟩ (yn, ye) = (vturn1 V a 1 ye, yn, ye) := rfl
  unfold vturn1 at hF
  go_enter Try.func72, Try.ntmps72
  go_upto_region 1 with fail
  generalize w.alloc (.cells #[.string kind, .int .i64 n, .int .i64 a, .int .i64 b, .int .u8 x.toNat, .bool on] 31) = W at t0 X0 ⊢
  generalize w.heap.size = bx at X0 ⊢
  have y0 := X0.a0
  have y2 := X0.a2
  have y4 := X0.a4
  have lx := X0.lt
  have ob := t0.box_off X0 (by decide) (by decide)
  dsimp only at y0 y2 y4
  by_cases he : ye = 0
  · subst he
    obtain ⟨a0, a1⟩ := hy rfl
    rw [if_pos rfl] at hF
    have HF := Lib.hid hF
    clear hF hy
    have HC := Lib.hid (fturn_any t0 (n := a) a0 a1 1)
    go_wp2_with (first
      | (go_at_call 131; refine HC.out.mono ?_; rintro e w2 ⟨rfl, t2⟩)
      | fail)
    go_ret2
    rw [HF.out]
    exact ⟨rfl, v, t2⟩
  · rw [if_neg he] at hF
    have HF := Lib.hid hF
    have hne : ((ye : Int) == 0) = false := by simp; omega
    have hne2 : ¬ (ye : Int) = 0 := by omega
    clear hF hy he
    go_wp2_with fail
    go_ret2
    rw [HF.out]
    exact ⟨rfl, v, t0⟩
theorem flat_any (r : FRep w f v V) (hV : VInv V) (x : ActM) (y : Int × Nat) (ho : (kindOf x.kind).own = true) (hy : ((kindOf x.kind = .plug ∨ kindOf x.kind = .unplug) → y.2 = 0 → 0 ≤ x.a ∧ x.a ≤ 3) ∧ ((kindOf x.kind = .give ∨ kindOf x.kind = .back) → y.2 = 0 → 0 ≤ x.a ∧ x.a < 16)) :
    Calls Try.prog 72 #[.pointer (some ⟨f, 0, none⟩), .agg #[.string x.kind, .int .i64 x.n, .int .i64 x.a, .int .i64 x.b, .int .u8 x.v.toNat, .bool x.on], .int .i64 y.1, .int .i64 y.2] w (FlatPost w f v (vdid V (kindOf x.kind) x y)) := by
  obtain ⟨kind, n, a, b, c, on⟩ := x
  obtain ⟨yn, ye⟩ := y
  dsimp only at ho hy ⊢
  cases h_load : (kind.toList == [108, 111, 97, 100]) with
  | true => rw [kind_load h_load]; exact flat_load r hV kind n a b c on yn ye h_load
  | false =>
  cases h_store : (kind.toList == [115, 116, 111, 114, 101]) with
  | true => rw [kind_store h_store]; exact flat_store r hV kind n a b c on yn ye h_store
  | false =>
  cases h_root : (kind.toList == [114, 111, 111, 116]) with
  | true => rw [kind_root h_root]; exact flat_root r hV kind n a b c on yn ye h_root
  | false =>
  cases h_forget : (kind.toList == [102, 111, 114, 103, 101, 116]) with
  | true => rw [kind_forget h_forget]; exact flat_forget r hV kind n a b c on yn ye h_forget
  | false =>
  cases h_drop : (kind.toList == [100, 114, 111, 112]) with
  | true => rw [kind_drop h_drop]; exact flat_drop r hV kind n a b c on yn ye h_drop
  | false =>
  cases h_plug : (kind.toList == [112, 108, 117, 103]) with
  | true => rw [kind_plug h_plug]; exact flat_plug r hV kind n a b c on yn ye (hy.1 (.inl (kind_plug h_plug))) h_plug
  | false =>
  cases h_unplug : (kind.toList == [117, 110, 112, 108, 117, 103]) with
  | true => rw [kind_unplug h_unplug]; exact flat_unplug r hV kind n a b c on yn ye (hy.1 (.inr (kind_unplug h_unplug))) h_unplug
  | false =>
  cases h_give : (kind.toList == [103, 105, 118, 101]) with
  | true => rw [kind_give h_give]; exact flat_give r hV kind n a b c on yn ye (hy.2 (.inl (kind_give h_give))) h_give
  | false =>
  cases h_back : (kind.toList == [98, 97, 99, 107]) with
  | true => rw [kind_back h_back]; exact flat_back r hV kind n a b c on yn ye (hy.2 (.inr (kind_back h_back))) h_back
  | false =>
  rw [own_none h_load h_store h_root h_forget h_drop h_plug h_unplug h_give h_back] at ho
  cases ho
end

end U
end Go.Proofs.Ytnhplapcdgnaaaa
