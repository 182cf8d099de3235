import Derived.Test.YtnhplapcdgnaaaaFlatA
import Derived.Test.YtnhplapcdgnaaaaHostQm
import Derived.Test.YtnhplapcdgnaaaaHostF
set_option linter.unusedVariables false
set_option linter.unusedSimpArgs false
namespace Go.Proofs.Ytnhplapcdgnaaaa
open Go.RowKit
namespace U

/-! A host and the flat memories of its guests, in a law. -/
def fptr (A : Nat → Nat × Value) (F : Nat → Option ViewM) (i : Nat) : Value := match F i with | some _ => .pointer (some ⟨(A i).1, 0, none⟩) | none => .pointer none
def setA (A : Nat → Nat × Value) (n : Nat) (a : Nat × Value) : Nat → Nat × Value := fun i => if i = n then a else A i
structure TF (w W : World) (h fb : Nat) (L : PoolAt) (K : Nat → GAt) (H : HostM) (A : Nat → Nat × Value) (F : Nat → Option ViewM) : Prop where
  a : HW w W h L K H
  row : Row W fb 118 4 (fptr A F)
  f : ∀ i, i < 4 → ∀ V, F i = some V → FRep W (A i).1 (A i).2 V
  sep : ∀ i j, i < 4 → j < 4 → i ≠ j → (F i).isSome = true → (F j).isSome = true → ∀ k, ownF (A i).1 (A i).2 k → ¬ ownF (A j).1 (A j).2 k
  sepH : ∀ i, i < 4 → (F i).isSome = true → ∀ k, ownF (A i).1 (A i).2 k → ¬ ownH h L K H k
  n : ∀ i, i < 4 → (F i).isSome = true → ∀ k, ownF (A i).1 (A i).2 k → w.heap.size ≤ k
  nb : w.heap.size ≤ fb
section
variable {w W W' : World} {h fb bx : Nat} {L : PoolAt} {K K2 : Nat → GAt} {H H2 : HostM} {A : Nat → Nat × Value} {F : Nat → Option ViewM} {x : ActM} {V V' : ViewM} {v' : Value} {S : Nat → Prop}
theorem TF.offRow (t : TF w W h fb L K H A F) {i : Nat} (hi : i < 4) (hV : F i = some V) : ¬ ownF (A i).1 (A i).2 fb := (t.f i hi V hV).off t.row (by decide) (by decide)
theorem TF.offRowH (t : TF w W h fb L K H A F) : ¬ ownH h L K H fb := t.a.r.off t.row (by decide) (by decide) (by decide) (by decide) (by decide) (by decide) (by decide) (by decide)
theorem TF.non (t : TF w W h fb L K H A F) (u : Upd Non W W') : TF w W' h fb L K H A F :=
  ⟨t.a.non u, t.row.upd_ u (fun h => h), fun i hi V hV => (t.f i hi V hV).non u, t.sep, t.sepH, t.n, t.nb⟩
theorem TF.alloc (t : TF w W h fb L K H A F) (b : Obj) : TF w (W.alloc b) h fb L K H A F := t.non ((Upd.refl _ _).alloc b)
theorem TF.drew (t : TF w W h fb L K H A F) : TF w W.drew h fb L K H A F := t.non (Upd.refl _ _).drew
theorem TF.drewN (t : TF w W h fb L K H A F) (n : Nat) : TF w (W.drewN n) h fb L K H A F := t.non ((Upd.refl _ _).drewN n)
theorem TF.act (t : TF w W h fb L K H A F) (s : PH (ownH h L K H) W W' h L K2 H2) : TF w W' h fb L K2 H2 A F :=
  ⟨t.a.act s, t.row.upd_ s.up t.offRowH, fun i hi V hV => (t.f i hi V hV).upd_ s.up fun k hk => t.sepH i hi (by rw [hV]; rfl) k hk, t.sep,
    fun i hi hs k hk h2 => (s.own k h2).elim (t.sepH i hi hs k hk) (fun e => by
      obtain ⟨V, hV⟩ := Option.isSome_iff_exists.1 hs
      have := (t.f i hi V hV).lts k hk
      omega), t.n, t.nb⟩
theorem setA_at (A : Nat → Nat × Value) (n : Nat) (a : Nat × Value) : setA A n a n = a := by unfold setA; rw [if_pos rfl]
theorem setA_ne (A : Nat → Nat × Value) {n i : Nat} (e : i ≠ n) (a : Nat × Value) : setA A n a i = A i := by unfold setA; rw [if_neg e]
/-- One flat memory changes. -/
theorem TF.flat (t : TF w W h fb L K H A F) {n : Nat} (hn : n < 4) (hV : F n = some V) (s : FM W W' (A n).1 (A n).2 v' V') :
    TF w W' h fb L K H (setA A n ((A n).1, v')) (setF F n (some V')) := by
  have hso : (F n).isSome = true := by rw [hV]; rfl
  have hsome : ∀ i, (setF F n (some V') i).isSome = true → (F i).isSome = true := fun i hi => by
    by_cases e : i = n
    · rw [e]; exact hso
    · rw [setF_ne F e] at hi; exact hi
  have hown : ∀ i, i < 4 → ∀ k, ownF (setA A n ((A n).1, v') i).1 (setA A n ((A n).1, v') i).2 k → ownF (A i).1 (A i).2 k ∨ W.heap.size ≤ k := fun i hi k hk => by
    by_cases e : i = n
    · subst e; rw [setA_at] at hk; exact s.own k hk
    · rw [setA_ne A e] at hk; exact .inl hk
  refine ⟨⟨t.a.r.upd_ s.up fun k h1 h2 => t.sepH n hn hso k h2 h1, t.a.n, t.a.up.over s.up (t.n n hn hso)⟩, ?_, fun i hi V2 hV2 => ?_, fun i j hi hj hij si sj k hki hkj => ?_, fun i hi si k hk h2 => ?_, fun i hi si k hk => ?_, t.nb⟩
  · refine (t.row.upd_ s.up (t.offRow hn hV)).congr fun i hi => ?_
    unfold fptr
    by_cases e : i = n
    · subst e; rw [setF_at, hV, setA_at]
    · rw [setF_ne F e, setA_ne A e]
  · by_cases e : i = n
    · subst e
      rw [setF_at] at hV2
      cases hV2
      rw [setA_at]
      exact s.r
    · rw [setF_ne F e] at hV2
      rw [setA_ne A e]
      exact (t.f i hi V2 hV2).upd_ s.up fun k hk h2 => t.sep i n hi hn e (by rw [hV2]; rfl) hso k hk h2
  · have si := hsome i si
    have sj := hsome j sj
    by_cases ei : i = n
    · have ej : j ≠ n := fun e => hij (ei.trans e.symm)
      rw [setA_ne A ej] at hkj
      obtain ⟨Vj, hVj⟩ := Option.isSome_iff_exists.1 sj
      have lj := (t.f j hj Vj hVj).lts k hkj
      rcases hown i hi k hki with o | o
      · exact t.sep i j hi hj hij si sj k o hkj
      · omega
    · rw [setA_ne A ei] at hki
      obtain ⟨Vi, hVi⟩ := Option.isSome_iff_exists.1 si
      have li := (t.f i hi Vi hVi).lts k hki
      rcases hown j hj k hkj with o | o
      · exact t.sep i j hi hj hij si sj k hki o
      · omega
  · have si := hsome i si
    have lh := t.a.r.lts k h2
    rcases hown i hi k hk with o | o
    · exact t.sepH i hi si k o h2
    · omega
  · have si := hsome i si
    rcases hown i hi k hk with o | o
    · exact t.n i hi si k o
    · exact Nat.le_trans t.a.up.size o
/-- One goes. -/
theorem TF.drop (t : TF w W h fb L K H A F) {n : Nat} (hn : n < 4) : TF w (W.setCell ⟨fb, n, none⟩ (.pointer none)) h fb L K H A (setF F n none) := by
  have u : Upd (at1 fb) W (W.setCell ⟨fb, n, none⟩ (.pointer none)) := (Upd.refl _ _).setCell (p := ⟨fb, n, none⟩) (fun _ => at1_self) _
  have hsome : ∀ i, (setF F n none i).isSome = true → i ≠ n ∧ (F i).isSome = true := fun i hi => by
    by_cases e : i = n
    · subst e; rw [setF_at] at hi; cases hi
    · rw [setF_ne F e] at hi; exact ⟨e, hi⟩
  refine ⟨⟨t.a.r.upd_ u fun k h1 h2 => t.offRowH (by have h2 : k = fb := h2; rw [← h2]; exact h1), t.a.n, t.a.up.over u (fun k e => by have e : k = fb := e; rw [e]; exact t.nb)⟩, (t.row.set_ _).congr fun i hi => ?_, fun i hi V2 hV2 => ?_, fun i j hi hj hij si sj k hki hkj => t.sep i j hi hj hij (hsome i si).2 (hsome j sj).2 k hki hkj, fun i hi si k hk h2 => t.sepH i hi (hsome i si).2 k hk h2, fun i hi si k hk => t.n i hi (hsome i si).2 k hk, t.nb⟩
  · unfold U.upd fptr
    by_cases e : i = n
    · subst e; rw [if_pos rfl, setF_at]
    · rw [if_neg e, setF_ne F e]
  · have h1 := hsome i (by rw [hV2]; rfl)
    rw [setF_ne F h1.1] at hV2
    exact (t.f i hi V2 hV2).upd_ u fun k hk e => t.offRow hi hV2 (by have e : k = fb := e; rw [← e]; exact hk)
/-- One comes. -/
theorem TF.come (t : TF w W h fb L K H A F) {n : Nat} (hn : n < 4) {a : Nat} (u : Upd Non W W') (q : FRep W' a v' V') (hq : ∀ k, ownF a v' k → W.heap.size ≤ k) :
    TF w (W'.setCell ⟨fb, n, none⟩ (.pointer (some ⟨a, 0, none⟩))) h fb L K H (setA A n (a, v')) (setF F n (some V')) := by
  have t2 := t.non u
  have u2 : Upd (at1 fb) W' (W'.setCell ⟨fb, n, none⟩ (.pointer (some ⟨a, 0, none⟩))) := (Upd.refl _ _).setCell (p := ⟨fb, n, none⟩) (fun _ => at1_self) _
  have hsome : ∀ i, i ≠ n → (setF F n (some V') i).isSome = true → (F i).isSome = true := fun i e hi => by rw [setF_ne F e] at hi; exact hi
  have hlt : fb < W.heap.size := t.row.lt
  refine ⟨⟨t2.a.r.upd_ u2 fun k h1 h2 => t2.offRowH (by have h2 : k = fb := h2; rw [← h2]; exact h1), t2.a.n, t2.a.up.over u2 (fun k e => by have e : k = fb := e; rw [e]; exact t.nb)⟩, (t2.row.set_ _).congr fun i hi => ?_, fun i hi V2 hV2 => ?_, fun i j hi hj hij si sj k hki hkj => ?_, fun i hi si k hk h2 => ?_, fun i hi si k hk => ?_, t.nb⟩
  · unfold U.upd fptr
    by_cases e : i = n
    · subst e; rw [if_pos rfl, setF_at, setA_at]
    · rw [if_neg e, setF_ne F e, setA_ne A e]
  · by_cases e : i = n
    · subst e
      rw [setF_at] at hV2
      cases hV2
      rw [setA_at]
      exact q.upd_ u2 fun k hk e => by have e : k = fb := e; have := hq k hk; omega
    · rw [setF_ne F e] at hV2
      rw [setA_ne A e]
      exact (t2.f i hi V2 hV2).upd_ u2 fun k hk e => t2.offRow hi hV2 (by have e : k = fb := e; rw [← e]; exact hk)
  · by_cases ei : i = n
    · have ej : j ≠ n := fun e => hij (ei.trans e.symm)
      subst ei
      rw [setA_at] at hki
      rw [setA_ne A ej] at hkj
      obtain ⟨Vj, hVj⟩ := Option.isSome_iff_exists.1 (hsome j ej sj)
      have := (t.f j hj Vj hVj).lts k hkj
      have := hq k hki
      omega
    · rw [setA_ne A ei] at hki
      have si2 := hsome i ei si
      clear si
      have si := si2
      by_cases ej : j = n
      · subst ej
        rw [setA_at] at hkj
        obtain ⟨Vi, hVi⟩ := Option.isSome_iff_exists.1 si2
        have := (t.f i hi Vi hVi).lts k hki
        have := hq k hkj
        omega
      · rw [setA_ne A ej] at hkj
        exact t.sep i j hi hj hij si (hsome j ej sj) k hki hkj
  · by_cases ei : i = n
    · subst ei
      rw [setA_at] at hk
      have := t.a.r.lts k h2
      have := hq k hk
      omega
    · rw [setA_ne A ei] at hk
      exact t.sepH i hi (hsome i ei si) k hk h2
  · by_cases ei : i = n
    · subst ei
      rw [setA_at] at hk
      exact Nat.le_trans t.a.up.size (hq k hk)
    · rw [setA_ne A ei] at hk
      exact t.n i hi (hsome i ei si) k hk
theorem TF.fc (t : TF w W h fb L K H A F) {i : Nat} (hi : i < 4) : W.cell? ⟨fb, i, none⟩ = some (fptr A F i) := t.row.cell hi
end

end U
end Go.Proofs.Ytnhplapcdgnaaaa
