import Derived.Test.YtnhplapcdgnaaaaHostPl
import Derived.Test.YtnhplapcdgnaaaaTabs
import Derived.Test.YtnhplapcdgnaaaaRCache
import Derived.Test.YtnhplapcdgnaaaaRPoolX
set_option linter.unusedVariables false
set_option linter.unusedSimpArgs false
namespace Go.Proofs.Ytnhplapcdgnaaaa
open Go.RowKit
namespace U

/-! The reference's flat memory of a guest: where it lies; a page; turning one. -/
def fcells (V : ViewM) (v : Value) : Nat → Value := fun i => if i < 16 then .int .i64 (V.state i) else if i < 272 then .int .u8 (V.b ((i - 16) / 16) ((i - 16) % 16)).toNat else if i = 272 then .int .i64 V.root else v
structure FRep (w : World) (f : Nat) (v : Value) (V : ViewM) : Prop where
  row : Row w f 122 274 (fcells V v)
  e : ERow w v V.c
def ownF (f : Nat) (v : Value) : Nat → Prop := fun k => k = f ∨ v.ownBlock = some k
section
variable {w w' W W' : World} {f : Nat} {v v' v0 : Value} {V V' : ViewM} {S : Nat → Prop}
theorem FRep.upd_ (r : FRep w f v V) (u : Upd S w w') (hS : ∀ k, ownF f v k → ¬ S k) : FRep w' f v V := ⟨r.row.upd_ u (hS _ (.inl rfl)), r.e.upd_ u fun k hk => hS k (.inr hk)⟩
theorem FRep.non (r : FRep w f v V) (u : Upd Non w w') : FRep w' f v V := r.upd_ u fun _ _ h => h
theorem FRep.lts (r : FRep w f v V) : ∀ k, ownF f v k → k < w.heap.size := by
  rintro k (rfl | h)
  · exact r.row.lt
  · exact r.e.lt h
theorem FRep.off (r : FRep w f v V) {k T N : Nat} {c : Nat → Value} (q : Row w k T N c) (h1 : T ≠ 122) (h2 : T ≠ 35) : ¬ ownF f v k := by
  rintro (e | h)
  · exact q.ne_ r.row h1 e
  · exact r.e.ne_row q h2 h
theorem FRep.lt (r : FRep w f v V) : f < w.heap.size := r.row.lt
theorem FRep.fr (r : FRep w f v V) (i : Nat) : w.frozen? ⟨f, i, none⟩ = false := r.row.frozen i
theorem FRep.st (r : FRep w f v V) {i : Nat} (hi : i < 16) : w.cell? ⟨f, i, none⟩ = some (.int .i64 (V.state i)) := by
  rw [r.row.cell (by omega)]; unfold fcells; rw [if_pos hi]
theorem FRep.bt (r : FRep w f v V) : BTab w f 122 274 16 16 V.b := ⟨_, r.row, by omega, fun i j hi hj => by
  unfold fcells
  rw [if_neg (by omega), if_pos (by omega), show (16 + i * 16 + j - 16) / 16 = i by omega, show (16 + i * 16 + j - 16) % 16 = j by omega]⟩
theorem FRep.rt (r : FRep w f v V) : w.cell? ⟨f, 272, none⟩ = some (.int .i64 V.root) := by
  rw [r.row.cell (by omega)]; unfold fcells; rw [if_neg (by omega), if_neg (by omega), if_pos rfl]
theorem FRep.cc (r : FRep w f v V) : w.cell? ⟨f, 273, none⟩ = some v := by
  rw [r.row.cell (by omega)]; unfold fcells; rw [if_neg (by omega), if_neg (by omega), if_neg (by omega)]
theorem eset {w : World} {f T N : Nat} {c : Nat → Value} (q : Row w f T N c) {v : Value} {C : List EntryM} (h : ERow w v C) (hT : T ≠ 35) (i : Nat) (x : Value) : ERow (w.setCell ⟨f, i, none⟩ x) v C :=
  h.upd_ ((Upd.refl _ _).setCell (S := at1 f) (p := ⟨f, i, none⟩) (fun _ => at1_self) _) fun k hk e => h.ne_row q hT (by have e : k = f := e; rw [← e]; exact hk)
theorem esets {w : World} {f T N : Nat} {c : Nat → Value} (q : Row w f T N c) {v : Value} {C : List EntryM} (h : ERow w v C) (hT : T ≠ 35) (i : Nat) (x : List Value) : ERow (w.setCells f i x) v C := by
  induction x generalizing w i c with
  | nil => exact h
  | cons a x ih => exact ih (q.set_ (i := i) a) (eset q h hT i a) (i + 1)
theorem FRep.setRoot (r : FRep w f v V) (n : Int) : FRep (w.setCell ⟨f, 272, none⟩ (.int .i64 n)) f v { V with root := n } :=
  ⟨(r.row.set_ _).congr fun i hi => by
    unfold upd fcells
    by_cases e : i = 272
    · subst e; simp
    · simp [e], eset r.row r.e (by decide) _ _⟩
theorem FRep.setSt (r : FRep w f v V) {k : Nat} (hk : k < 16) (n : Int) : FRep (w.setCell ⟨f, k, none⟩ (.int .i64 n)) f v { V with state := fun i => if i = k then n else V.state i } :=
  ⟨(r.row.set_ _).congr fun i hi => by
    unfold upd fcells
    by_cases e : i = k
    · subst e; simp [hk]
    · simp [e], eset r.row r.e (by decide) _ _⟩
theorem FRep.setB (r : FRep w f v V) {k j a : Nat} (hk : k < 16) (hj : j < 16) (ha : a = 16 + k * 16 + j) (x : UInt8) : FRep (w.setCell ⟨f, a, none⟩ (.int .u8 x.toNat)) f v (V.setB k j x) := by
  subst ha
  refine ⟨(r.row.set_ _).congr fun i hi => ?_, eset r.row r.e (by decide) _ _⟩
  unfold upd fcells ViewM.setB
  by_cases e : i = 16 + k * 16 + j
  · subst e
    rw [if_pos rfl, if_neg (by omega), if_pos (by omega)]
    dsimp only
    rw [if_pos ⟨by omega, by omega⟩]
  · rw [if_neg e]
    by_cases h1 : i < 16
    · rw [if_pos h1, if_pos h1]
    · rw [if_neg h1, if_neg h1]
      by_cases h2 : i < 272
      · rw [if_pos h2, if_pos h2]
        dsimp only
        rw [if_neg (by omega)]
      · rw [if_neg h2, if_neg h2]
theorem FRep.zero (r : FRep w f v V) {k a : Nat} (hk : k < 16) (ha : a = 16 + k * 16) : FRep (w.setCells f a (rowL fun _ => 0)) f v { V with b := fun i => if i = k then fun _ => 0 else V.b i } := by
  subst ha
  refine ⟨(Row.setCells _ _ _ _ r.row).congr fun i hi => ?_, esets r.row r.e (by decide) _ _⟩
  unfold updL fcells
  rw [rowL_length]
  by_cases e : 16 + k * 16 ≤ i ∧ i < 16 + k * 16 + 16
  · rw [if_pos e, if_neg (by omega), if_pos (by omega)]
    dsimp only
    rw [if_pos (by omega)]
    simp [rowL_get (fun _ => (0 : UInt8)) (j := i - (16 + k * 16)) (by omega)]
  · rw [if_neg e]
    by_cases h1 : i < 16
    · rw [if_pos h1, if_pos h1]
    · rw [if_neg h1, if_neg h1]
      by_cases h2 : i < 272
      · rw [if_pos h2, if_pos h2]
        dsimp only
        rw [if_neg (by omega)]
      · rw [if_neg h2, if_neg h2]
theorem FRep.setC (r : FRep w f v V) {v2 : Value} {C2 : List EntryM} (h : ERow w v2 C2) : FRep (w.setCell ⟨f, 273, none⟩ v2) f v2 { V with c := C2 } :=
  ⟨(r.row.set_ _).congr fun i hi => by
    unfold upd fcells
    by_cases e : i = 273
    · subst e; simp
    · rw [if_neg e]
      by_cases h1 : i < 16
      · rw [if_pos h1, if_pos h1]
      · rw [if_neg h1, if_neg h1]
        by_cases h2 : i < 272
        · rw [if_pos h2, if_pos h2]
        · rw [if_neg h2, if_neg h2, if_pos (by omega), if_pos (by omega)], eset r.row h (by decide) _ _⟩
/-- A flat memory in a later world. -/
structure FM (w W : World) (f : Nat) (v0 v : Value) (V : ViewM) : Prop where
  r : FRep W f v V
  fv : v.ownBlock = v0.ownBlock ∨ ∀ k, v.ownBlock = some k → w.heap.size ≤ k
  up : Upd (ownF f v0) w W
theorem FM.start (r : FRep w f v V) : FM w w f v v V := ⟨r, .inl rfl, Upd.refl _ _⟩
theorem FM.non (t : FM w W f v0 v V) (u : Upd Non W W') : FM w W' f v0 v V := ⟨t.r.non u, t.fv, t.up.over' u fun _ h => h.elim⟩
theorem FM.at_ (t : FM w W f v0 v V) (r : FRep W' f v V') (u : Upd (at1 f) W W') : FM w W' f v0 v V' := ⟨r, t.fv, t.up.over' u fun k h => .inl (.inl h)⟩
theorem FM.setC (t : FM w W f v0 v V) {v2 : Value} {C2 : List EntryM} (h : ERow W v2 C2) (hv : v2.ownBlock = v0.ownBlock ∨ ∀ k, v2.ownBlock = some k → w.heap.size ≤ k) : FM w (W.setCell ⟨f, 273, none⟩ v2) f v0 v2 { V with c := C2 } :=
  ⟨t.r.setC h, hv, t.up.setCell (p := ⟨f, 273, none⟩) (fun _ => .inl rfl) _⟩
theorem FM.own (t : FM w W f v0 v V) : ∀ k, ownF f v k → ownF f v0 k ∨ w.heap.size ≤ k := by
  rintro k (rfl | h)
  · exact .inl (.inl rfl)
  · rcases t.fv with e | e
    · exact .inl (.inr (e ▸ h))
    · exact .inr (e k h)

set_option maxRecDepth 100000 in
theorem fpage_any (r : FRep W f v V) {n : Int} (h0 : 0 ≤ n) (h1 : n < 16) : Calls Try.prog 142 #[.pointer (some ⟨f, 0, none⟩), .int .i64 n] W fun e w' => e = .returned (.int .i64 (vpage V.state n)) ∧ W = w' := by
  obtain ⟨k, rfl⟩ := Int.eq_ofNat_of_zero_le h0
  have hk : k < 16 := by omega
  have c := r.st hk
  have l := r.lt
  by_cases s0 : V.state k = 0
  · have hF := Lib.hid (show vpage V.state k = 2 by unfold vpage; rw [Int.toNat_natCast, if_pos s0])
    rw [s0] at c
    clear s0
    go_enter Try.func142, Try.ntmps142
    go_wp2
    go_ret
    exact ⟨by rw [hF.out]; rfl, rfl⟩
  · by_cases s2 : V.state k = 2
    · have hF := Lib.hid (show vpage V.state k = 6 by unfold vpage; rw [Int.toNat_natCast, if_neg s0, if_pos s2])
      rw [s2] at c
      clear s0 s2
      go_enter Try.func142, Try.ntmps142
      go_wp2
      go_ret
      exact ⟨by rw [hF.out]; rfl, rfl⟩
    · have hF := Lib.hid (show vpage V.state k = 0 by unfold vpage; rw [Int.toNat_natCast, if_neg s0, if_neg s2])
      generalize V.state k = s at c s0 s2
      have e0 : (s == 0) = false := by simpa using s0
      have e2 : (s == 2) = false := by simpa using s2
      clear s0 s2
      go_enter Try.func142, Try.ntmps142
      go_wp2
      go_ret
      exact ⟨by rw [hF.out]; rfl, rfl⟩
set_option maxRecDepth 100000 in
theorem fturn_any (t : FM w W f v0 v V) {n : Int} (h0 : 0 ≤ n) (h1 : n < 16) (s : Int) : Calls Try.prog 131 #[.pointer (some ⟨f, 0, none⟩), .int .i64 n, .int .i64 s] W fun e w' => e = .returned (.tuple #[]) ∧ FM w w' f v0 v (V.turn n.toNat s) := by
  obtain ⟨k, rfl⟩ := Int.eq_ofNat_of_zero_le h0
  have hk : k < 16 := by omega
  have c := t.r.st hk
  have l := t.r.lt
  have fz := t.r.fr k
  have r2 := t.r.setSt hk s
  have t2 := t.at_ r2 ((Upd.refl _ _).setCell (p := ⟨f, k, none⟩) (fun _ => at1_self) _)
  have r3 := r2.zero (k := k) (a := 16 + k * 16) hk rfl
  have t3 := t2.at_ r3 (Upd.setCells (fun _ => at1_self) _ _ _ (Upd.refl _ _))
  go_enter Try.func131, Try.ntmps131
  go_wp2_with (first
    | (refine wpl_build rfl 59 rfl _ (buildArr _) ?_)
    | (refine wpl_store rfl 59 _ _ rfl _ _ rfl rfl (r2.bt.storeA (i := k) hk _ (by omega)) ?_)
    | fail)
  go_end0
  exact ⟨rfl, t3⟩
end

end U
end Go.Proofs.Ytnhplapcdgnaaaa
