import Derived.Test.YtnhplapcdgnaaaaGreatDoorHostAX
import Derived.Test.YtnhplapcdgnaaaaGreatDoorGuestJX
import Derived.Test.YtnhplapcdgnaaaaGreatDoorHostPl
set_option linter.unusedVariables false
set_option linter.unusedSimpArgs false
namespace Go.Proofs.YtnhplapcdgnaaaaGreatDoor
open Go.RowKit
namespace U

/-! The program's host: where it lies. -/
def hptr (K : Nat → GAt) (o : Nat → Option GuestM) (i : Nat) : Value := match o i with | some _ => .pointer (some ⟨(K i).g, 0, none⟩) | none => .pointer none
def hcells (L : PoolAt) (K : Nat → GAt) (H : HostM) : Nat → Value := fun i => if i = 0 then .pointer (some ⟨L.p, 0, none⟩) else hptr K H.g (i - 1)
def ownH (h : Nat) (L : PoolAt) (K : Nat → GAt) (H : HostM) : Nat → Prop := fun k => (k = h ∨ (k = L.p ∨ L.own k)) ∨ ∃ i, i < 4 ∧ (H.g i).isSome = true ∧ (K i).own k
structure HRep (w : World) (h : Nat) (L : PoolAt) (K : Nat → GAt) (H : HostM) : Prop where
  rp : PoolRep w L H.p
  row : Row w h 80 5 (hcells L K H)
  g : ∀ i, i < 4 → ∀ G, H.g i = some G → GRep w L.p (K i) G
  sep : ∀ i j, i < 4 → j < 4 → i ≠ j → (H.g i).isSome = true → (H.g j).isSome = true → ∀ k, (K i).own k → ¬ (K j).own k
section
variable {w w' W W' : World} {h : Nat} {L : PoolAt} {K K' : Nat → GAt} {H H' : HostM} {S : Nat → Prop}
theorem HRep.lts (r : HRep w h L K H) : ∀ k, ownH h L K H k → k < w.heap.size := by
  obtain ⟨l1, l2, l3⟩ := r.rp.lts'
  rintro k ((rfl | (rfl | (rfl | rfl))) | ⟨i, hi, hs, ho⟩)
  · exact r.row.lt
  · exact l1
  · exact l2
  · exact l3
  · obtain ⟨G, hG⟩ := Option.isSome_iff_exists.1 hs
    exact GRw.lts (r.g i hi G hG) k ho
theorem HRep.upd_ (r : HRep w h L K H) (u : Upd S w w') (hS : ∀ k, ownH h L K H k → ¬ S k) : HRep w' h L K H :=
  ⟨r.rp.upd_ u (hS _ (.inl (.inr (.inl rfl)))) (hS _ (.inl (.inr (.inr (.inl rfl))))) (hS _ (.inl (.inr (.inr (.inr rfl))))), r.row.upd_ u (hS _ (.inl (.inl rfl))),
    fun i hi G hG => GRw.upd_ (r.g i hi G hG) u fun k hk => hS k (.inr ⟨i, hi, by rw [hG]; rfl, hk⟩), r.sep⟩
theorem HRep.non (r : HRep w h L K H) (u : Upd Non w w') : HRep w' h L K H := r.upd_ u fun _ _ h => h
theorem HRep.off (r : HRep w h L K H) {k T N : Nat} {f : Nat → Value} (q : Row w k T N f) (h1 : T ≠ 80) (h2 : T ≠ 105) (h3 : T ≠ 41) (h4 : T ≠ 3)
    (h5 : T ≠ 158) (h6 : T ≠ 175) (h7 : T ≠ 156) (h8 : T ≠ 144) : ¬ ownH h L K H k := by
  obtain ⟨_, _, hB, _⟩ := r.rp.bytes
  obtain ⟨_, _, hR, _⟩ := r.rp.counts
  rintro ((e | (e | (e | e))) | ⟨i, hi, hs, ho⟩)
  · exact q.ne_ r.row h1 e
  · exact q.ne_ r.rp.st h2 e
  · exact q.ne_ hB h3 e
  · exact q.ne_ hR h4 e
  · obtain ⟨G, hG⟩ := Option.isSome_iff_exists.1 hs
    exact GRw.off (r.g i hi G hG) q h5 h6 h7 h8 ho
theorem HRep.pg (r : HRep w h L K H) {i : Nat} (hi : i < 4) {G : GuestM} (hG : H.g i = some G) : PG w w L (K i) (K i).v H.p G.m (withLeaf G.m G.c) G.root G.walks := PG.start r.rp (r.g i hi G hG)
theorem HRep.h0 (r : HRep w h L K H) : w.cell? ⟨h, 0, none⟩ = some (.pointer (some ⟨L.p, 0, none⟩)) := r.row.cell (i := 0) (by omega)
theorem HRep.hg (r : HRep w h L K H) {i : Nat} (hi : i < 4) : w.cell? ⟨h, 1 + i, none⟩ = some (hptr K H.g i) := by
  rw [r.row.cell (i := 1 + i) (by omega)]
  unfold hcells
  rw [if_neg (by omega), show 1 + i - 1 = i by omega]
theorem HRep.hsome (r : HRep w h L K H) {i : Nat} (hi : i < 4) {G : GuestM} (hG : H.g i = some G) : w.cell? ⟨h, 1 + i, none⟩ = some (.pointer (some ⟨(K i).g, 0, none⟩)) := by
  rw [r.hg hi]; unfold hptr; rw [hG]
theorem HRep.hnone (r : HRep w h L K H) {i : Nat} (hi : i < 4) (hG : H.g i = none) : w.cell? ⟨h, 1 + i, none⟩ = some (.pointer none) := by
  rw [r.hg hi]; unfold hptr; rw [hG]
theorem HRep.hlt (r : HRep w h L K H) : h < w.heap.size := r.row.lt
theorem HRep.hfr (r : HRep w h L K H) (i : Nat) : w.frozen? ⟨h, i, none⟩ = false := r.row.frozen i

/-- The host in a later world: what was written is its own or new. -/
structure PH (S : Nat → Prop) (w W : World) (h : Nat) (L : PoolAt) (K : Nat → GAt) (H : HostM) : Prop where
  rep : HRep W h L K H
  own : ∀ k, ownH h L K H k → S k ∨ w.heap.size ≤ k
  up : Upd S w W
theorem PH.start (r : HRep w h L K H) : PH (ownH h L K H) w w h L K H := ⟨r, fun _ h => .inl h, Upd.refl _ _⟩
theorem PH.trans (t : PH S w W h L K H) (s : PH (ownH h L K H) W W' h L K' H') : PH S w W' h L K' H' :=
  ⟨s.rep, fun k hk => (s.own k hk).elim (t.own k) (fun h => .inr (Nat.le_trans t.up.size h)), t.up.over' s.up t.own⟩
theorem PH.non (t : PH S w W h L K H) (u : Upd Non W W') : PH S w W' h L K H := ⟨t.rep.non u, t.own, t.up.over' u fun _ h => h.elim⟩
theorem PH.alloc (t : PH S w W h L K H) (o : Obj) : PH S w (W.alloc o) h L K H := t.non ((Upd.refl _ _).alloc o)
theorem PH.drew (t : PH S w W h L K H) : PH S w W.drew h L K H := t.non (Upd.refl _ _).drew
theorem PH.drewN (t : PH S w W h L K H) (n : Nat) : PH S w (W.drewN n) h L K H := t.non ((Upd.refl _ _).drewN n)
def setK (K : Nat → GAt) (n : Nat) (a : GAt) : Nat → GAt := fun j => if j = n then a else K j
theorem hcells_put {n : Nat} {G G' : GuestM} {v : Value} {P' : PoolM} (hG : H.g n = some G) : hcells L (setK K n ((K n).vv v)) (H.put n P' (some G')) = hcells L K H := by
  funext i
  unfold hcells
  by_cases h0 : i = 0
  · rw [if_pos h0, if_pos h0]
  · rw [if_neg h0, if_neg h0]
    unfold hptr HostM.put setK
    simp only []
    by_cases e : i - 1 = n
    · rw [e, if_pos rfl, if_pos rfl, hG]; rfl
    · rw [if_neg e, if_neg e]
/-- A guest's act. -/
theorem HRep.guest (r : HRep w h L K H) {n : Nat} (hn : n < 4) {G : GuestM} (hG : H.g n = some G) {v' : Value} {P' : PoolM} {G' : GuestM} (s : PG w w' L (K n) v' P' G'.m (withLeaf G'.m G'.c) G'.root G'.walks) :
    PH (ownH h L K H) w w' h L (setK K n ((K n).vv v')) (H.put n P' (some G')) := by
  have hso : (H.g n).isSome = true := by rw [hG]; rfl
  have hog : ∀ k, ownG L (K n) k → ownH h L K H k := by
    rintro k (h1 | h1)
    · exact .inl (.inr (.inr h1))
    · exact .inr ⟨n, hn, hso, h1⟩
  have hv : ∀ k, ((K n).vv v').own k → (K n).own k ∨ w.heap.size ≤ k := by
    rintro k ((h1 | h1) | (h1 | h1))
    · exact .inl (.inl (.inl h1))
    · exact .inl (.inl (.inr h1))
    · exact .inl (.inr (.inl h1))
    · rcases s.fv with e | e
      · exact .inl (.inr (.inr (by rw [← e]; exact h1)))
      · exact .inr (e k h1)
  have hne : ¬ ownG L (K n) h := by
    rintro (h1 | h1)
    · obtain ⟨_, _, hB, _⟩ := r.rp.bytes
      obtain ⟨_, _, hR, _⟩ := r.rp.counts
      rcases h1 with h1 | h1
      · exact r.row.ne_ hB (by decide) h1
      · exact r.row.ne_ hR (by decide) h1
    · exact GRw.off (r.g n hn G hG) r.row (by decide) (by decide) (by decide) (by decide) h1
  have hsome : ∀ i, ((H.put n P' (some G')).g i).isSome = true → i < 4 → (H.g i).isSome = true := fun i hi _ => by
    unfold HostM.put at hi
    simp only [] at hi
    by_cases e : i = n
    · rw [e]; exact hso
    · rw [if_neg e] at hi; exact hi
  have hown : ∀ i, i < 4 → (H.g i).isSome = true → ∀ k, (setK K n ((K n).vv v') i).own k → (K i).own k ∨ w.heap.size ≤ k := fun i hi hs k hk => by
    unfold setK at hk
    by_cases e : i = n
    · rw [if_pos e] at hk; rw [e]; exact hv k hk
    · rw [if_neg e] at hk; exact .inl hk
  refine ⟨⟨s.rp, ?_, fun i hi G2 hG2 => ?_, fun i j hi hj hij si sj k hki hkj => ?_⟩, fun k hk => ?_, s.up.mono fun k _ h => hog k h⟩
  · rw [hcells_put hG]
    exact r.row.upd_ s.up hne
  · unfold HostM.put at hG2
    simp only [] at hG2
    by_cases e : i = n
    · rw [if_pos e] at hG2
      cases hG2
      unfold setK
      rw [if_pos e]
      exact s.gr
    · rw [if_neg e] at hG2
      unfold setK
      rw [if_neg e]
      refine GRw.upd_ (r.g i hi G2 hG2) s.up fun k hk => ?_
      rintro (h1 | h1)
      · rcases h1 with rfl | rfl
        · exact (GRw.offP (r.g i hi G2 hG2) r.rp).2.1 hk
        · exact (GRw.offP (r.g i hi G2 hG2) r.rp).2.2 hk
      · exact r.sep i n hi hn e (by rw [hG2]; rfl) hso k hk h1
  · have si := hsome i si hi
    have sj := hsome j sj hj
    have oi : (K i).own k ∨ w.heap.size ≤ k := hown i hi si k hki
    have oj : (K j).own k ∨ w.heap.size ≤ k := hown j hj sj k hkj
    by_cases ei : i = n
    · have ej : j ≠ n := fun e => hij (ei.trans e.symm)
      unfold setK at hkj
      rw [if_neg ej] at hkj
      obtain ⟨Gj, hGj⟩ := Option.isSome_iff_exists.1 sj
      have lj := GRw.lts (r.g j hj Gj hGj) k hkj
      rcases oi with o | o
      · exact r.sep i j hi hj hij si sj k o hkj
      · omega
    · unfold setK at hki
      rw [if_neg ei] at hki
      obtain ⟨Gi, hGi⟩ := Option.isSome_iff_exists.1 si
      have li := GRw.lts (r.g i hi Gi hGi) k hki
      rcases oj with o | o
      · exact r.sep i j hi hj hij si sj k hki o
      · omega
  · rcases hk with h1 | ⟨i, hi, hs, ho⟩
    · exact .inl (.inl h1)
    · have hs := hsome i hs hi
      exact (hown i hi hs k ho).imp (fun h => .inr ⟨i, hi, hs, h⟩) id
theorem PH.guest (t : PH S w W h L K H) {n : Nat} (hn : n < 4) {G : GuestM} (hG : H.g n = some G) {v' : Value} {P' : PoolM} {G' : GuestM} (s : PG W W' L (K n) v' P' G'.m (withLeaf G'.m G'.c) G'.root G'.walks) :
    PH S w W' h L (setK K n ((K n).vv v')) (H.put n P' (some G')) := t.trans (t.rep.guest hn hG s)
/-- A guest goes. -/
theorem HRep.drop (r : HRep w h L K H) {n : Nat} (hn : n < 4) : PH (ownH h L K H) w (w.setCell ⟨h, 1 + n, none⟩ (.pointer none)) h L K (H.put n H.p none) := by
  have u : Upd (at1 h) w (w.setCell ⟨h, 1 + n, none⟩ (.pointer none)) := (Upd.refl _ _).setCell (p := ⟨h, 1 + n, none⟩) (fun _ => at1_self) _
  have hn0 : ∀ i, (H.put n H.p none).g i = if i = n then none else H.g i := fun i => rfl
  obtain ⟨_, _, hB, _⟩ := r.rp.bytes
  obtain ⟨_, _, hR, _⟩ := r.rp.counts
  refine ⟨⟨r.rp.upd_ u (fun e => r.row.ne_ r.rp.st (by decide) e.symm) (fun e => r.row.ne_ hB (by decide) e.symm) (fun e => r.row.ne_ hR (by decide) e.symm), (r.row.set_ (i := 1 + n) _).congr fun i hi => ?_, fun i hi G hG => ?_, fun i j hi hj hij si sj => ?_⟩, fun k hk => ?_, u.mono fun k _ h => .inl (.inl h)⟩
  · unfold upd
    by_cases e : i = 1 + n
    · subst e
      unfold hcells hptr
      rw [if_pos rfl, if_neg (by omega), show 1 + n - 1 = n by omega, hn0, if_pos rfl]
    · rw [if_neg e]
      unfold hcells hptr
      by_cases h0 : i = 0
      · rw [if_pos h0, if_pos h0]
      · rw [if_neg h0, if_neg h0, hn0, if_neg (by omega)]
  · rw [hn0] at hG
    by_cases e : i = n
    · rw [if_pos e] at hG; cases hG
    · rw [if_neg e] at hG
      exact GRw.upd_ (r.g i hi G hG) u fun k hk h1 => GRw.off (r.g i hi G hG) r.row (by decide) (by decide) (by decide) (by decide) (by rw [← h1]; exact hk)
  · rw [hn0] at si sj
    by_cases ei : i = n
    · rw [if_pos ei] at si; cases si
    · by_cases ej : j = n
      · rw [if_pos ej] at sj; cases sj
      · rw [if_neg ei] at si; rw [if_neg ej] at sj
        exact r.sep i j hi hj hij si sj
  · rcases hk with h1 | ⟨i, hi, hs, ho⟩
    · exact .inl (.inl h1)
    · rw [hn0] at hs
      by_cases e : i = n
      · rw [if_pos e] at hs; cases hs
      · rw [if_neg e] at hs; exact .inl (.inr ⟨i, hi, hs, ho⟩)
/-- A guest comes. -/
theorem HRep.come (r : HRep w h L K H) {n : Nat} (hn : n < 4) (hG : H.g n = none) {a : GAt} {G : GuestM} (u : Upd Non w W) (q : GRep W L.p a G) (hq : ∀ k, a.own k → w.heap.size ≤ k) :
    PH (ownH h L K H) w (W.setCell ⟨h, 1 + n, none⟩ (.pointer (some ⟨a.g, 0, none⟩))) h L (setK K n a) (H.put n H.p (some G)) := by
  have u2 : Upd (at1 h) W (W.setCell ⟨h, 1 + n, none⟩ (.pointer (some ⟨a.g, 0, none⟩))) := (Upd.refl _ _).setCell (p := ⟨h, 1 + n, none⟩) (fun _ => at1_self) _
  have r2 := r.non u
  have hn0 : ∀ i, (H.put n H.p (some G)).g i = if i = n then some G else H.g i := fun i => rfl
  obtain ⟨_, _, hB, _⟩ := r2.rp.bytes
  obtain ⟨_, _, hR, _⟩ := r2.rp.counts
  have hl := r.row.lt
  refine ⟨⟨r2.rp.upd_ u2 (fun e => r2.row.ne_ r2.rp.st (by decide) e.symm) (fun e => r2.row.ne_ hB (by decide) e.symm) (fun e => r2.row.ne_ hR (by decide) e.symm), (r2.row.set_ (i := 1 + n) _).congr fun i hi => ?_, fun i hi G2 hG2 => ?_, fun i j hi hj hij si sj k hki hkj => ?_⟩, fun k hk => ?_, (u.mono fun k _ h => h.elim).over' u2 (fun k h => .inl (.inl (.inl h)))⟩
  · unfold upd
    by_cases e : i = 1 + n
    · subst e
      unfold hcells hptr setK
      rw [if_pos rfl, if_neg (by omega), show 1 + n - 1 = n by omega, hn0, if_pos rfl, if_pos rfl]
    · rw [if_neg e]
      unfold hcells hptr setK
      by_cases h0 : i = 0
      · rw [if_pos h0, if_pos h0]
      · rw [if_neg h0, if_neg h0, hn0, if_neg (by omega), if_neg (by omega)]
  · rw [hn0] at hG2
    by_cases e : i = n
    · rw [if_pos e] at hG2; cases hG2
      unfold setK
      rw [if_pos e]
      exact GRw.upd_ q u2 fun k hk h1 => by
        have := hq k hk
        have h1 : k = h := h1
        omega
    · rw [if_neg e] at hG2
      unfold setK
      rw [if_neg e]
      exact GRw.upd_ (r2.g i hi G2 hG2) u2 fun k hk h1 => GRw.off (r2.g i hi G2 hG2) r2.row (by decide) (by decide) (by decide) (by decide) (by rw [← h1]; exact hk)
  · rw [hn0] at si sj
    unfold setK at hki hkj
    by_cases ei : i = n
    · have ej : j ≠ n := fun e => hij (ei.trans e.symm)
      rw [if_pos ei] at hki; rw [if_neg ej] at hkj sj
      obtain ⟨Gj, hGj⟩ := Option.isSome_iff_exists.1 sj
      have lj := GRw.lts (r.g j hj Gj hGj) k hkj
      have := hq k hki
      omega
    · rw [if_neg ei] at hki si
      by_cases ej : j = n
      · rw [if_pos ej] at hkj
        obtain ⟨Gi, hGi⟩ := Option.isSome_iff_exists.1 si
        have li := GRw.lts (r.g i hi Gi hGi) k hki
        have := hq k hkj
        omega
      · rw [if_neg ej] at hkj sj
        exact r.sep i j hi hj hij si sj k hki hkj
  · rcases hk with h1 | ⟨i, hi, hs, ho⟩
    · exact .inl (.inl h1)
    · rw [hn0] at hs
      unfold setK at ho
      by_cases e : i = n
      · rw [if_pos e] at ho; exact .inr (hq k ho)
      · rw [if_neg e] at ho hs; exact .inl (.inr ⟨i, hi, hs, ho⟩)
end
/-- What an act leaves. -/
def HPost (w : World) (h : Nat) (L : PoolAt) (K : Nat → GAt) (H : HostM) (r : Value) (H' : HostM) (e : Ending) (w' : World) : Prop :=
  e = .returned r ∧ ∃ K', PH (ownH h L K H) w w' h L K' H'

end U
end Go.Proofs.YtnhplapcdgnaaaaGreatDoor

set_option linter.unusedVariables false
set_option linter.unusedSimpArgs false
namespace Go.Proofs.YtnhplapcdgnaaaaGreatDoor
open Go.RowKit
namespace U

/-! The program's host: acts on one guest that are one call (written by gen_hostc.py). -/
section
variable {w : World} {h : Nat} {L : PoolAt} {K : Nat → GAt} {H : HostM}

theorem errv1 : errv 1 = .iface 37 (.int .i64 1) := rfl
theorem errv2 : errv 2 = .iface 37 (.int .i64 2) := rfl
set_option maxRecDepth 100000 in
theorem hguest_off (r : HRep w h L K H) (n : Int) (hn : n < 0 ∨ 3 < n) : Calls Tryz.prog 87 #[.pointer (some ⟨h, 0, none⟩), .int .i64 n] w fun e w' => e = .returned (.tuple #[.pointer none, errv 1]) ∧ w = w' := by
  rw [errv1]
  go_enter Tryz.func87, Tryz.ntmps87
  go_wp2_with fail
  all_goals first | (exfalso; simp_all; omega) | go_ret2
  all_goals exact ⟨rfl, rfl⟩
set_option maxRecDepth 100000 in
theorem hguest_none (r : HRep w h L K H) {k : Nat} (hk : k < 4) (hg : H.g k = none) : Calls Tryz.prog 87 #[.pointer (some ⟨h, 0, none⟩), .int .i64 k] w fun e w' => e = .returned (.tuple #[.pointer none, errv 2]) ∧ w = w' := by
  rw [errv2]
  have c := r.hnone hk hg
  have lh := r.hlt
  have hk2 : (k : Int) < 4 := by omega
  have hk0 : ¬ (k : Int) < 0 := by omega
  go_enter Tryz.func87, Tryz.ntmps87
  go_wp2_with fail
  go_ret2
  exact ⟨rfl, rfl⟩
set_option maxRecDepth 100000 in
theorem hguest_some (r : HRep w h L K H) {k : Nat} (hk : k < 4) {G : GuestM} (hg : H.g k = some G) : Calls Tryz.prog 87 #[.pointer (some ⟨h, 0, none⟩), .int .i64 k] w fun e w' => e = .returned (.tuple #[.pointer (some ⟨(K k).g, 0, none⟩), .nilIface]) ∧ w = w' := by
  have c := r.hsome hk hg
  have lh := r.hlt
  have hk2 : (k : Int) < 4 := by omega
  have hk0 : ¬ (k : Int) < 0 := by omega
  go_enter Tryz.func87, Tryz.ntmps87
  go_wp2_with fail
  go_ret2
  exact ⟨rfl, rfl⟩

set_option maxRecDepth 100000 in
theorem hstore_any (r : HRep w h L K H) (hI : HInv H) (n a : Int) (v : UInt8) : Calls Tryz.prog 61 #[.pointer (some ⟨h, 0, none⟩), .int .i64 n, .int .i64 a, .int .u8 v.toNat] w (HPost w h L K H (errv (hstore H n a v).2) (hstore H n a v).1) := by
  rcases who_ways H n with h0 | ⟨k, hk, rfl, hg⟩ | ⟨k, G, hk, rfl, hg⟩
  · have hc := Lib.hid (hguest_off r n h0)
    rw [errv1] at hc
    have hF := Lib.hid (show hstore H n a v = (H, 1) from hon_off h0)
    go_enter Tryz.func61, Tryz.ntmps61
    go_wp2_with (first | (go_at_call 87; refine hc.out.mono ?_; rintro e w2 ⟨rfl, rfl⟩) | fail)
    go_ret
    rw [hF.out]
    exact ⟨rfl, K, PH.start r⟩
  · have hc := Lib.hid (hguest_none r hk hg)
    rw [errv2] at hc
    have hF := Lib.hid (show hstore H k a v = (H, 2) from hon_none hk hg)
    go_enter Tryz.func61, Tryz.ntmps61
    go_wp2_with (first | (go_at_call 87; refine hc.out.mono ?_; rintro e w2 ⟨rfl, rfl⟩) | fail)
    go_ret
    rw [hF.out]
    exact ⟨rfl, K, PH.start r⟩
  · have hc := Lib.hid (hguest_some r hk hg)
    have hact := Lib.hid (gstore_any (r.pg hk hg) (hI.gi hk hg) a v)
    have hF := Lib.hid (show hstore H k a v = _ from hon_some hk hg)
    go_enter Tryz.func61, Tryz.ntmps61
    go_wp2_with (first | (go_at_call 87; refine hc.out.mono ?_; rintro e w2 ⟨rfl, rfl⟩) | (go_at_call 95; refine hact.out.mono ?_; rintro e w3 ⟨rfl, v2, t2⟩) | fail)
    go_ret
    rw [hF.out]
    exact ⟨rfl, _, r.guest hk hg t2⟩

set_option maxRecDepth 100000 in
theorem hroot_any (r : HRep w h L K H) (hI : HInv H) (n a : Int)  : Calls Tryz.prog 62 #[.pointer (some ⟨h, 0, none⟩), .int .i64 n, .int .i64 a] w (HPost w h L K H (errv (hroot H n a).2) (hroot H n a).1) := by
  rcases who_ways H n with h0 | ⟨k, hk, rfl, hg⟩ | ⟨k, G, hk, rfl, hg⟩
  · have hc := Lib.hid (hguest_off r n h0)
    rw [errv1] at hc
    have hF := Lib.hid (show hroot H n a = (H, 1) from hon_off h0)
    go_enter Tryz.func62, Tryz.ntmps62
    go_wp2_with (first | (go_at_call 87; refine hc.out.mono ?_; rintro e w2 ⟨rfl, rfl⟩) | fail)
    go_ret
    rw [hF.out]
    exact ⟨rfl, K, PH.start r⟩
  · have hc := Lib.hid (hguest_none r hk hg)
    rw [errv2] at hc
    have hF := Lib.hid (show hroot H k a = (H, 2) from hon_none hk hg)
    go_enter Tryz.func62, Tryz.ntmps62
    go_wp2_with (first | (go_at_call 87; refine hc.out.mono ?_; rintro e w2 ⟨rfl, rfl⟩) | fail)
    go_ret
    rw [hF.out]
    exact ⟨rfl, K, PH.start r⟩
  · have hc := Lib.hid (hguest_some r hk hg)
    have hact := Lib.hid (gsetRoot_any (r.pg hk hg) a)
    have hF := Lib.hid (show hroot H k a = _ from hon_some hk hg)
    go_enter Tryz.func62, Tryz.ntmps62
    go_wp2_with (first | (go_at_call 87; refine hc.out.mono ?_; rintro e w2 ⟨rfl, rfl⟩) | (go_at_call 96; refine hact.out.mono ?_; rintro e w3 ⟨rfl, v2, t2⟩) | fail)
    go_ret
    rw [hF.out]
    exact ⟨rfl, _, r.guest hk hg t2⟩

set_option maxRecDepth 100000 in
theorem hforget_any (r : HRep w h L K H) (hI : HInv H) (n a : Int)  : Calls Tryz.prog 63 #[.pointer (some ⟨h, 0, none⟩), .int .i64 n, .int .i64 a] w (HPost w h L K H (errv (hforget H n a).2) (hforget H n a).1) := by
  rcases who_ways H n with h0 | ⟨k, hk, rfl, hg⟩ | ⟨k, G, hk, rfl, hg⟩
  · have hc := Lib.hid (hguest_off r n h0)
    rw [errv1] at hc
    have hF := Lib.hid (show hforget H n a = (H, 1) from hon_off h0)
    go_enter Tryz.func63, Tryz.ntmps63
    go_wp2_with (first | (go_at_call 87; refine hc.out.mono ?_; rintro e w2 ⟨rfl, rfl⟩) | fail)
    go_ret
    rw [hF.out]
    exact ⟨rfl, K, PH.start r⟩
  · have hc := Lib.hid (hguest_none r hk hg)
    rw [errv2] at hc
    have hF := Lib.hid (show hforget H k a = (H, 2) from hon_none hk hg)
    go_enter Tryz.func63, Tryz.ntmps63
    go_wp2_with (first | (go_at_call 87; refine hc.out.mono ?_; rintro e w2 ⟨rfl, rfl⟩) | fail)
    go_ret
    rw [hF.out]
    exact ⟨rfl, K, PH.start r⟩
  · have hc := Lib.hid (hguest_some r hk hg)
    have hact := Lib.hid (gforget_any (r.pg hk hg) (hI.gi hk hg) a)
    have hF := Lib.hid (show hforget H k a = _ from hon_some hk hg)
    go_enter Tryz.func63, Tryz.ntmps63
    go_wp2_with (first | (go_at_call 87; refine hc.out.mono ?_; rintro e w2 ⟨rfl, rfl⟩) | (go_at_call 97; refine hact.out.mono ?_; rintro e w3 ⟨rfl, v2, t2⟩) | fail)
    go_ret
    rw [hF.out]
    exact ⟨rfl, _, r.guest hk hg t2⟩

set_option maxRecDepth 100000 in
theorem hforgetAll_any (r : HRep w h L K H) (hI : HInv H) (n a : Int)  : Calls Tryz.prog 64 #[.pointer (some ⟨h, 0, none⟩), .int .i64 n, .int .i64 a] w (HPost w h L K H (errv (hforgetAll H n a).2) (hforgetAll H n a).1) := by
  rcases who_ways H n with h0 | ⟨k, hk, rfl, hg⟩ | ⟨k, G, hk, rfl, hg⟩
  · have hc := Lib.hid (hguest_off r n h0)
    rw [errv1] at hc
    have hF := Lib.hid (show hforgetAll H n a = (H, 1) from hon_off h0)
    go_enter Tryz.func64, Tryz.ntmps64
    go_wp2_with (first | (go_at_call 87; refine hc.out.mono ?_; rintro e w2 ⟨rfl, rfl⟩) | fail)
    go_ret
    rw [hF.out]
    exact ⟨rfl, K, PH.start r⟩
  · have hc := Lib.hid (hguest_none r hk hg)
    rw [errv2] at hc
    have hF := Lib.hid (show hforgetAll H k a = (H, 2) from hon_none hk hg)
    go_enter Tryz.func64, Tryz.ntmps64
    go_wp2_with (first | (go_at_call 87; refine hc.out.mono ?_; rintro e w2 ⟨rfl, rfl⟩) | fail)
    go_ret
    rw [hF.out]
    exact ⟨rfl, K, PH.start r⟩
  · have hc := Lib.hid (hguest_some r hk hg)
    have hact := Lib.hid (gforgetAll_any (r.pg hk hg) (hI.gi hk hg) a)
    have hF := Lib.hid (show hforgetAll H k a = _ from hon_some hk hg)
    go_enter Tryz.func64, Tryz.ntmps64
    go_wp2_with (first | (go_at_call 87; refine hc.out.mono ?_; rintro e w2 ⟨rfl, rfl⟩) | (go_at_call 98; refine hact.out.mono ?_; rintro e w3 ⟨rfl, v2, t2⟩) | fail)
    go_ret
    rw [hF.out]
    exact ⟨rfl, _, r.guest hk hg t2⟩

set_option maxRecDepth 100000 in
theorem hgive_any (r : HRep w h L K H) (hI : HInv H) (n a : Int)  : Calls Tryz.prog 58 #[.pointer (some ⟨h, 0, none⟩), .int .i64 n, .int .i64 a] w (HPost w h L K H (errv (hgive H n a).2) (hgive H n a).1) := by
  rcases who_ways H n with h0 | ⟨k, hk, rfl, hg⟩ | ⟨k, G, hk, rfl, hg⟩
  · have hc := Lib.hid (hguest_off r n h0)
    rw [errv1] at hc
    have hF := Lib.hid (show hgive H n a = (H, 1) from hon_off h0)
    go_enter Tryz.func58, Tryz.ntmps58
    go_wp2_with (first | (go_at_call 87; refine hc.out.mono ?_; rintro e w2 ⟨rfl, rfl⟩) | fail)
    go_ret
    rw [hF.out]
    exact ⟨rfl, K, PH.start r⟩
  · have hc := Lib.hid (hguest_none r hk hg)
    rw [errv2] at hc
    have hF := Lib.hid (show hgive H k a = (H, 2) from hon_none hk hg)
    go_enter Tryz.func58, Tryz.ntmps58
    go_wp2_with (first | (go_at_call 87; refine hc.out.mono ?_; rintro e w2 ⟨rfl, rfl⟩) | fail)
    go_ret
    rw [hF.out]
    exact ⟨rfl, K, PH.start r⟩
  · have hc := Lib.hid (hguest_some r hk hg)
    have hact := Lib.hid (ggive_any (r.pg hk hg) (hI.gi hk hg) a)
    have hF := Lib.hid (show hgive H k a = _ from hon_some hk hg)
    go_enter Tryz.func58, Tryz.ntmps58
    go_wp2_with (first | (go_at_call 87; refine hc.out.mono ?_; rintro e w2 ⟨rfl, rfl⟩) | (go_at_call 92; refine hact.out.mono ?_; rintro e w3 ⟨rfl, v2, t2⟩) | fail)
    go_ret
    rw [hF.out]
    exact ⟨rfl, _, r.guest hk hg t2⟩

def HLoadPost (w : World) (h : Nat) (L : PoolAt) (K : Nat → GAt) (H : HostM) (x : HostM × UInt8 × Nat) (e : Ending) (w' : World) : Prop :=
  e = .returned (.tuple #[.int .u8 x.2.1.toNat, errv x.2.2]) ∧ ∃ K', PH (ownH h L K H) w w' h L K' x.1
set_option maxRecDepth 100000 in
theorem hload_any (r : HRep w h L K H) (hI : HInv H) (n a : Int) : Calls Tryz.prog 60 #[.pointer (some ⟨h, 0, none⟩), .int .i64 n, .int .i64 a] w (HLoadPost w h L K H (hload H n a)) := by
  rcases who_ways H n with h0 | ⟨k, hk, rfl, hg⟩ | ⟨k, G, hk, rfl, hg⟩
  · have hc := Lib.hid (hguest_off r n h0)
    rw [errv1] at hc
    have hF := Lib.hid (hload_off (H := H) (a := a) h0)
    go_enter Tryz.func60, Tryz.ntmps60
    go_wp2_with (first | (go_at_call 87; refine hc.out.mono ?_; rintro e w2 ⟨rfl, rfl⟩) | fail)
    go_ret2
    rw [hF.out]
    exact ⟨rfl, K, PH.start r⟩
  · have hc := Lib.hid (hguest_none r hk hg)
    rw [errv2] at hc
    have hF := Lib.hid (hload_none (a := a) hk hg)
    go_enter Tryz.func60, Tryz.ntmps60
    go_wp2_with (first | (go_at_call 87; refine hc.out.mono ?_; rintro e w2 ⟨rfl, rfl⟩) | fail)
    go_ret2
    rw [hF.out]
    exact ⟨rfl, K, PH.start r⟩
  · have hc := Lib.hid (hguest_some r hk hg)
    have hact := Lib.hid (gload_any (r.pg hk hg) (hI.gi hk hg) a)
    have hF := Lib.hid (hload_some (a := a) hk hg)
    generalize gload H.p G a = X at hact hF
    obtain ⟨P1, G1, b1, e1⟩ := X
    go_enter Tryz.func60, Tryz.ntmps60
    go_wp2_with (first | (go_at_call 87; refine hc.out.mono ?_; rintro e w2 ⟨rfl, rfl⟩) | (go_at_call 94; refine hact.out.mono ?_; unfold LoadPost; dsimp only; rintro e w3 ⟨rfl, v2, t2⟩) | fail)
    go_ret2
    rw [hF.out]
    exact ⟨rfl, _, r.guest hk hg t2⟩
end

end U
end Go.Proofs.YtnhplapcdgnaaaaGreatDoor

set_option linter.unusedVariables false
set_option linter.unusedSimpArgs false
namespace Go.Proofs.YtnhplapcdgnaaaaGreatDoor
open Go.RowKit
namespace U

/-! The program's host: how many pages are promised. -/
section
variable {w : World} {h : Nat} {L : PoolAt} {K : Nat → GAt} {H : HostM}
def garr (K : Nat → GAt) (o : Nat → Option GuestM) : Value := .agg #[hptr K o 0, hptr K o 1, hptr K o 2, hptr K o 3]
theorem HRep.loadG (r : HRep w h L K H) : (Instr.loadAt 78 (.pointer (some ⟨h, 1, none⟩))).run Tryz.prog w = .ok (garr K H.g) w :=
  load_row (P := Tryz.prog) r.row 78 1 4 _ (by omega) Tryz.underlying78 rfl (by kernel_rfl)
theorem index4 (a b c d : Value) {i : Nat} (hi : i < 4) (w : World) : (Instr.index 78 (.agg #[a, b, c, d]) (.int .i64 i)).run Tryz.prog w = .ok ([a, b, c, d].getD i undef) w := by
  rcases four hi with rfl | rfl | rfl | rfl <;> kernel_rfl
theorem garr_none {K : Nat → GAt} {o : Nat → Option GuestM} {i : Nat} (hi : i < 4) (hg : o i = none) (w : World) : (Instr.index 78 (garr K o) (.int .i64 i)).run Tryz.prog w = .ok (.pointer none) w := by
  unfold garr
  rw [index4 _ _ _ _ hi]
  rcases four hi with rfl | rfl | rfl | rfl <;> (simp [hptr, hg])
theorem garr_some {K : Nat → GAt} {o : Nat → Option GuestM} {i : Nat} (hi : i < 4) {G : GuestM} (hg : o i = some G) (w : World) : (Instr.index 78 (garr K o) (.int .i64 i)).run Tryz.prog w = .ok (.pointer (some ⟨(K i).g, 0, none⟩)) w := by
  unfold garr
  rw [index4 _ _ _ _ hi]
  rcases four hi with rfl | rfl | rfl | rfl <;> (simp [hptr, hg])
theorem mstate_at {M : MapM} {k : Nat} (hk : k < 16) : mstate M k = (M.state k, 0) := by
  unfold mstate
  rw [if_pos (onB_iff.2 ⟨by omega, by omega⟩), Int.toNat_natCast]
def plainTo (M : MapM) (k : Nat) : Nat := (List.range k).countP (fun i => M.state i == 1)
theorem plainTo_succ (M : MapM) (k : Nat) : plainTo M (k + 1) = plainTo M k + if M.state k = 1 then 1 else 0 := by
  unfold plainTo
  rw [List.range_succ, List.countP_append, List.countP_singleton]
  simp
theorem plainTo_le (M : MapM) (k : Nat) : plainTo M k ≤ k := by
  have := List.countP_le_length (p := fun i => M.state i == 1) (l := List.range k)
  rwa [List.length_range] at this
theorem oprom_le (o : Option GuestM) : oprom o ≤ 16 := by
  cases o with
  | none => exact Nat.zero_le _
  | some G => exact plainTo_le G.m 16
theorem hpromN_le (H : HostM) (j : Nat) : hpromN H j ≤ 16 * j := by
  induction j with
  | zero => exact Nat.le_refl _
  | succ j ih => show hpromN H j + oprom (H.g j) ≤ _; have := oprom_le (H.g j); omega
set_option maxRecDepth 100000 in
set_option maxHeartbeats 1000000 in
theorem hpromised_any (r : HRep w h L K H) : Calls Tryz.prog 105 #[.pointer (some ⟨h, 0, none⟩), .int .i64 (-1)] w fun e w' => e = .returned (.int .i64 (hprom H : Nat)) ∧ w = w' := by
  have ld := r.loadG
  have lh := r.hlt
  have hP := Lib.hid (show hprom H = hpromN H 4 from rfl)
  go_enter Tryz.func105, Tryz.ntmps105
  go_wp2_with (first | (refine wpl_load rfl 78 _ rfl _ _ rfl ld ?_) | fail)
  clear ld
  go_loop [5, 15] (fun k i => ∃ j : Nat, j ≤ 4 ∧ i = .int .i64 j ∧ k = .int .i64 (hpromN H j : Nat)) (fun _ i => 4 - (intOf i).toNat)
  case atStart => exact ⟨0, Nat.zero_le _, rfl, rfl⟩
  case round =>
    obtain ⟨j, hj, rfl, rfl⟩ := hrel
    have hle := hpromN_le H j
    by_cases hlt : j < 4
    · have hj2 : (j : Int) < 4 := by omega
      cases hG : H.g j with
      | none =>
        have hx := garr_none (K := K) hlt hG
        have hs := Lib.hid (show hpromN H (j + 1) = hpromN H j by show hpromN H j + oprom (H.g j) = _; rw [hG]; rfl)
        clear hG
        go_wp2_with fail
        go_round
        case rel => exact ⟨j + 1, by omega, by go_num, by rw [hs.out]⟩
        case measure => simp [intOf]; omega
      | some G =>
        have hx := garr_some (K := K) hlt hG
        have hs := Lib.hid (show hpromN H (j + 1) = hpromN H j + plainTo G.m 16 by show hpromN H j + oprom (H.g j) = _; rw [hG]; rfl)
        have pg := r.pg hlt hG
        clear hG
        go_wp2_with fail
        go_loop [5, 30] (fun k i => ∃ q : Nat, q ≤ 16 ∧ i = .int .i64 q ∧ k = .int .i64 (hpromN H j + plainTo G.m q : Nat)) (fun _ i => 16 - (intOf i).toNat)
        case atStart => exact ⟨0, Nat.zero_le _, rfl, rfl⟩
        case round =>
          obtain ⟨q, hq, rfl, rfl⟩ := hrel
          have hle2 := plainTo_le G.m q
          by_cases hq2 : q < 16
          · have hq3 : (q : Int) < 16 := by omega
            have hst := Lib.hid (mstate_at (M := G.m) hq2)
            have hps := Lib.hid (plainTo_succ G.m q)
            generalize hsv : G.m.state q = s at hst hps
            clear hsv
            by_cases hs1 : s = 1
            · have hps2 := Lib.hid (show plainTo G.m (q + 1) = plainTo G.m q + 1 by rw [hps.out, if_pos hs1])
              subst hs1
              clear hps
              go_wp2_with (first
                | (go_at_call 89; refine (gstate_any pg q).mono ?_; rw [hst.out]; rintro e w2 ⟨rfl, rfl⟩; unfold errv)
                | fail)
              go_round
              case rel => exact ⟨q + 1, by omega, by go_num, by rw [hps2.out]; go_num⟩
              case measure => simp [intOf]; omega
            · have hps2 := Lib.hid (show plainTo G.m (q + 1) = plainTo G.m q by rw [hps.out, if_neg hs1, Nat.add_zero])
              have hs2 : (s == 1) = false := by simpa using hs1
              clear hps hs1
              go_wp2_with (first
                | (go_at_call 89; refine (gstate_any pg q).mono ?_; rw [hst.out]; rintro e w2 ⟨rfl, rfl⟩; unfold errv)
                | fail)
              go_round
              case rel => exact ⟨q + 1, by omega, by go_num, by rw [hps2.out]; go_num⟩
              case measure => simp [intOf]; omega
          · have hq3 : ¬ (q : Int) < 16 := by omega
            go_wp2_with fail
            obtain rfl : q = 16 := by omega
            go_round
            case rel => exact ⟨j + 1, by omega, by go_num, by rw [hs.out]⟩
            case measure => simp [intOf]; omega
    · have hj3 : ¬ (j : Int) < 4 := by omega
      go_wp2_with fail
      obtain rfl : j = 4 := by omega
      go_ret
      exact ⟨by rw [hP.out]; rfl, rfl⟩
set_option maxRecDepth 100000 in
theorem hPromised_any (r : HRep w h L K H) : Calls Tryz.prog 71 #[.pointer (some ⟨h, 0, none⟩)] w fun e w' => e = .returned (.int .i64 (hprom H : Nat)) ∧ w = w' := by
  go_enter Tryz.func71, Tryz.ntmps71
  go_wp2_with (first | (go_at_call 105; refine (hpromised_any r).mono ?_; rintro e w2 ⟨rfl, rfl⟩) | fail)
  go_ret
  exact ⟨rfl, rfl⟩
end

end U
end Go.Proofs.YtnhplapcdgnaaaaGreatDoor

set_option linter.unusedVariables false
set_option linter.unusedSimpArgs false
namespace Go.Proofs.YtnhplapcdgnaaaaGreatDoor
open Go.RowKit
namespace U

/-! The program's host: Plug, Unplug, Back, Remove, Add. -/
section
variable {w W : World} {h : Nat} {L : PoolAt} {K : Nat → GAt} {H : HostM} {S : Nat → Prop}
theorem errv4 : errv 4 = .iface 37 (.int .i64 4) := rfl
theorem errv7 : errv 7 = .iface 37 (.int .i64 7) := rfl
theorem HRep.drewN (r : HRep w h L K H) (n : Nat) : HRep (w.drewN n) h L K H := r.non ((Upd.refl _ _).drewN n)
theorem HRep.drew (r : HRep w h L K H) : HRep w.drew h L K H := r.non (Upd.refl _ _).drew
theorem GInv.withM {P : PoolM} {G : GuestM} {E : Nat → Nat} (h : GInv P G E) {P' : PoolM} {M : MapM} (hM : MInv P' M E) : GInv P' { G with m := M } E := ⟨hM, h.c, h.r0, h.r1⟩
set_option maxRecDepth 100000 in
set_option maxHeartbeats 2000000 in
theorem hplug_any (r : HRep w h L K H) (hI : HInv H) (n b : Int) : Calls Tryz.prog 56 #[.pointer (some ⟨h, 0, none⟩), .int .i64 n, .int .i64 b] w (HPost w h L K H (errv (hplug H n b).2) (hplug H n b).1) := by
  rcases who_ways H n with h0 | ⟨k, hk, rfl, hg⟩ | ⟨k, G, hk, rfl, hg⟩
  · have hc := Lib.hid (hguest_off r n h0)
    rw [errv1] at hc
    have hF := Lib.hid (show hplug H n b = (H, 1) from hon_off h0)
    go_enter Tryz.func56, Tryz.ntmps56
    go_wp2_with (first | (go_at_call 87; refine hc.out.mono ?_; rintro e w2 ⟨rfl, rfl⟩) | fail)
    go_ret
    rw [hF.out]
    exact ⟨rfl, K, PH.start r⟩
  · have hc := Lib.hid (hguest_none r hk hg)
    rw [errv2] at hc
    have hF := Lib.hid (show hplug H k b = (H, 2) from hon_none hk hg)
    go_enter Tryz.func56, Tryz.ntmps56
    go_wp2_with (first | (go_at_call 87; refine hc.out.mono ?_; rintro e w2 ⟨rfl, rfl⟩) | fail)
    go_ret
    rw [hF.out]
    exact ⟨rfl, K, PH.start r⟩
  · have hc := Lib.hid (hguest_some r hk hg)
    have hF0 : hplug H k b = (H.put k (hplugF H b H.p G).1 (some (hplugF H b H.p G).2.1), (hplugF H b H.p G).2.2) := hon_some hk hg
    have pg := r.pg hk hg
    by_cases hb : b < 0 ∨ 3 < b
    · have hF := Lib.hid (show hplug H k b = (H, 1) by rw [hF0]; unfold hplugF; rw [if_pos hb]; dsimp only; rw [put_same hg rfl])
      clear hF0
      go_enter Tryz.func56, Tryz.ntmps56
      go_wp2_with (first | (go_at_call 87; refine hc.out.mono ?_; rintro e w2 ⟨rfl, rfl⟩) | fail)
      all_goals first | (exfalso; simp_all; omega) | go_ret
      all_goals (rw [hF.out]; exact ⟨rfl, K, PH.start r⟩)
    · obtain ⟨c, rfl⟩ := Int.eq_ofNat_of_zero_le (show 0 ≤ b by omega)
      have hc4 : c < 4 := by omega
      have b0 : ¬ (c : Int) < 0 := by omega
      have b1 : (c : Int) < 4 := by omega
      have b2 : (c : Int) ≤ 3 := by omega
      have hst := Lib.hid (show mstate G.m ((c : Int) * 4) = (G.m.state (4 * c), 0) by rw [show (c : Int) * 4 = ((4 * c : Nat) : Int) by omega]; exact mstate_at (by omega))
      by_cases hz : G.m.state (4 * c) = 0
      · have hz2 := Lib.hid hz
        rw [hz] at hst
        have hpr := hpromN_le H 4
        have hpr : hprom H ≤ 64 := hpr
        have hn64 := r.rp.n64
        have h00 := r.h0
        have lh := r.hlt
        by_cases hfull : H.p.n < hprom H + 4
        · have hF := Lib.hid (show hplug H k c = (H, 7) by rw [hF0]; unfold hplugF; rw [if_neg hb, if_neg (by rw [Int.toNat_natCast]; omega), if_pos hfull]; dsimp only; rw [put_same hg rfl])
          have hq : decide ((H.p.n : Int) < (hprom H : Int) + 4) = true := by simp; omega
          clear hF0 hz
          go_enter Tryz.func56, Tryz.ntmps56
          go_wp2_with (first
            | (go_at_call 87; refine hc.out.mono ?_; rintro e w2 ⟨rfl, rfl⟩)
            | (go_at_call 89; refine (gstate_any pg _).mono ?_; rw [hst.out]; rintro e w3 ⟨rfl, rfl⟩; unfold errv)
            | fail)
          go_quiet (first | exact quiet_same (hPromised_any (r.drewN _)) | exact quiet_same (size_any _ L _ (r.drewN _).rp))
          go_wp2_with fail
          go_ret
          rw [hF.out]
          exact ⟨rfl, K, PH.non (PH.start r) (by repeat (first | assumption | apply Upd.alloc | apply Upd.drew | apply Upd.drewN | exact Upd.refl _ _))⟩
        · have hF := Lib.hid (show hplug H k c = (H.put k H.p (some { G with m := plugN G.m (4 * c) 4 }), 0) by rw [hF0]; unfold hplugF; rw [if_neg hb, if_neg (by rw [Int.toNat_natCast]; omega), if_neg hfull]; dsimp only; rw [Int.toNat_natCast])
          have hq : decide ((H.p.n : Int) < (hprom H : Int) + 4) = false := by simp; omega
          have gi := hI.gi hk hg
          have hst0 := Lib.hid ((hI.g k hk G hg).blk c hc4)
          clear hF0 hz hfull
          go_enter Tryz.func56, Tryz.ntmps56
          go_wp2_with (first
            | (go_at_call 87; refine hc.out.mono ?_; rintro e w2 ⟨rfl, rfl⟩)
            | (go_at_call 89; refine (gstate_any pg _).mono ?_; rw [hst.out]; rintro e w3 ⟨rfl, rfl⟩; unfold errv)
            | fail)
          go_quiet (first | exact quiet_same (hPromised_any (r.drewN _)) | exact quiet_same (size_any _ L _ (r.drewN _).rp))
          go_wp2_with fail
          go_loopw [48] (fun i wi => ∃ j : Nat, j ≤ 4 ∧ i = .int .i64 j ∧ Hid (∃ v, PG w wi L (K k) v H.p (plugN G.m (4 * c) j) (withLeaf (plugN G.m (4 * c) j) G.c) G.root G.walks)) (fun i _ => 4 - (intOf i).toNat)
          case atStart => exact ⟨0, Nat.zero_le _, rfl, (K k).v, pg.non (by repeat (first | assumption | apply Upd.alloc | apply Upd.drew | apply Upd.drewN | exact Upd.refl _ _))⟩
          case round =>
            obtain ⟨j, hj, rfl, hT⟩ := hrel
            obtain ⟨v, t⟩ := hT.out
            by_cases hj4 : j < 4
            · have j4 : (j : Int) < 4 := by omega
              have hs0 : G.m.state (4 * c + j) = 0 := (hst0.out j hj4).1 hz2.out
              have hp := Lib.hid (show mplug (plugN G.m (4 * c) j) ((c : Int) * 4 + (j : Int)) = (plugN G.m (4 * c) (j + 1), 0) by rw [show (c : Int) * 4 + (j : Int) = ((4 * c + j : Nat) : Int) by omega]; exact plugN_ok (by omega) hs0)
              have hact := gplug_any (G := { G with m := plugN G.m (4 * c) j }) t (gi.withM (gi.m.plugN _ _)) ((c : Int) * 4 + (j : Int))
              unfold ActPost gact at hact
              dsimp only at hact
              rw [hp.out] at hact
              have hact := Lib.hid hact
              clear hs0
              go_wp2_with (first
                | (go_at_call 91; refine hact.out.mono ?_; rintro e w4 ⟨rfl, v4, t4⟩; unfold errv)
                | fail)
              go_roundw
              case rel => exact ⟨j + 1, by omega, by go_num, v4, t4⟩
              case measure => simp [intOf]; omega
            · have j4 : ¬ (j : Int) < 4 := by omega
              go_wp2_with fail
              obtain rfl : j = 4 := by omega
              go_ret
              rw [hF.out]
              exact ⟨rfl, _, r.guest hk hg (G' := { G with m := plugN G.m (4 * c) 4 }) t⟩
      · have hF := Lib.hid (show hplug H k c = (H, 4) by rw [hF0]; unfold hplugF; rw [if_neg hb, if_pos (by rw [Int.toNat_natCast]; omega)]; dsimp only; rw [put_same hg rfl])
        clear hF0
        generalize G.m.state (4 * c) = s at hst hz
        have hs2 : (s == 0) = false := by simpa using hz
        have hs3 : (s != 0) = true := by simpa using hz
        go_enter Tryz.func56, Tryz.ntmps56
        go_wp2_with (first
          | (go_at_call 87; refine hc.out.mono ?_; rintro e w2 ⟨rfl, rfl⟩)
          | (go_at_call 89; refine (gstate_any pg _).mono ?_; rw [hst.out]; rintro e w3 ⟨rfl, rfl⟩; unfold errv)
          | fail)
        go_ret
        rw [hF.out]
        exact ⟨rfl, K, PH.start r⟩
set_option maxRecDepth 100000 in
set_option maxHeartbeats 2000000 in
theorem hunplug_any (r : HRep w h L K H) (hI : HInv H) (n b : Int) : Calls Tryz.prog 57 #[.pointer (some ⟨h, 0, none⟩), .int .i64 n, .int .i64 b] w (HPost w h L K H (errv (hunplug H n b).2) (hunplug H n b).1) := by
  rcases who_ways H n with h0 | ⟨k, hk, rfl, hg⟩ | ⟨k, G, hk, rfl, hg⟩
  · have hc := Lib.hid (hguest_off r n h0)
    rw [errv1] at hc
    have hF := Lib.hid (show hunplug H n b = (H, 1) from hon_off h0)
    go_enter Tryz.func57, Tryz.ntmps57
    go_wp2_with (first | (go_at_call 87; refine hc.out.mono ?_; rintro e w2 ⟨rfl, rfl⟩) | fail)
    go_ret
    rw [hF.out]
    exact ⟨rfl, K, PH.start r⟩
  · have hc := Lib.hid (hguest_none r hk hg)
    rw [errv2] at hc
    have hF := Lib.hid (show hunplug H k b = (H, 2) from hon_none hk hg)
    go_enter Tryz.func57, Tryz.ntmps57
    go_wp2_with (first | (go_at_call 87; refine hc.out.mono ?_; rintro e w2 ⟨rfl, rfl⟩) | fail)
    go_ret
    rw [hF.out]
    exact ⟨rfl, K, PH.start r⟩
  · have hc := Lib.hid (hguest_some r hk hg)
    have hF0 : hunplug H k b = (H.put k (hunplugF b H.p G).1 (some (hunplugF b H.p G).2.1), (hunplugF b H.p G).2.2) := hon_some hk hg
    have pg := r.pg hk hg
    by_cases hb : b < 0 ∨ 3 < b
    · have hF := Lib.hid (show hunplug H k b = (H, 1) by rw [hF0]; unfold hunplugF; rw [if_pos hb]; dsimp only; rw [put_same hg rfl])
      clear hF0
      go_enter Tryz.func57, Tryz.ntmps57
      go_wp2_with (first | (go_at_call 87; refine hc.out.mono ?_; rintro e w2 ⟨rfl, rfl⟩) | fail)
      all_goals first | (exfalso; simp_all; omega) | go_ret
      all_goals (rw [hF.out]; exact ⟨rfl, K, PH.start r⟩)
    · obtain ⟨c, rfl⟩ := Int.eq_ofNat_of_zero_le (show 0 ≤ b by omega)
      have hc4 : c < 4 := by omega
      have b0 : ¬ (c : Int) < 0 := by omega
      have b1 : (c : Int) < 4 := by omega
      have b2 : (c : Int) ≤ 3 := by omega
      have gi := hI.gi hk hg
      by_cases hz : G.m.state (4 * c) = 0
      · have hF := Lib.hid (show hunplug H k c = (H, 2) by rw [hF0]; unfold hunplugF; rw [if_neg hb, if_pos (by rw [Int.toNat_natCast]; exact hz)]; dsimp only; rw [put_same hg rfl])
        have hact := gunplug_any pg gi ((c : Int) * 4)
        have hp : munplug H.p G.m ((c : Int) * 4) = (H.p, G.m, 2) := by
          unfold munplug
          rw [if_pos (onB_iff.2 ⟨by omega, by omega⟩), show ((c : Int) * 4).toNat = 4 * c by omega, if_pos hz]
        rw [hp] at hact
        unfold ActPost gact at hact
        dsimp only at hact
        rw [errv2] at hact
        have hact := Lib.hid hact
        clear hF0 hz hp
        go_enter Tryz.func57, Tryz.ntmps57
        go_wp2_with (first
          | (go_at_call 87; refine hc.out.mono ?_; rintro e w2 ⟨rfl, rfl⟩)
          | fail)
        refine wp_loop_rounds 1 ?_
        rw [rounds_succ]
        go_wp2_with (first
          | (go_at_call 88; refine hact.out.mono ?_; rintro e w4 ⟨rfl, v4, t4⟩)
          | fail)
        go_ret
        rw [hF.out]
        have := r.guest hk hg (G' := G) t4
        rw [put_same hg rfl] at this
        exact ⟨rfl, _, this⟩
      · have hF := Lib.hid (show hunplug H k c = (H.put k (unplugN H.p G.m (4 * c) 4).1 (some { G with m := (unplugN H.p G.m (4 * c) 4).2 }), 0) by rw [hF0]; unfold hunplugF; rw [if_neg hb, if_neg (by rw [Int.toNat_natCast]; exact hz)]; dsimp only; rw [Int.toNat_natCast])
        have hst0 := Lib.hid ((hI.g k hk G hg).blk c hc4)
        have hz2 := Lib.hid hz
        clear hF0 hz
        go_enter Tryz.func57, Tryz.ntmps57
        go_wp2_with (first
          | (go_at_call 87; refine hc.out.mono ?_; rintro e w2 ⟨rfl, rfl⟩)
          | fail)
        go_loopw [26] (fun i wi => ∃ j : Nat, j ≤ 4 ∧ i = .int .i64 j ∧ Hid (∃ v, PG w wi L (K k) v (unplugN H.p G.m (4 * c) j).1 (unplugN H.p G.m (4 * c) j).2 (withLeaf (unplugN H.p G.m (4 * c) j).2 G.c) G.root G.walks)) (fun i _ => 4 - (intOf i).toNat)
        case atStart => exact ⟨0, Nat.zero_le _, rfl, (K k).v, pg.non (by repeat (first | assumption | apply Upd.alloc | apply Upd.drew | apply Upd.drewN | exact Upd.refl _ _))⟩
        case round =>
          obtain ⟨j, hj, rfl, hT⟩ := hrel
          obtain ⟨v, t⟩ := hT.out
          by_cases hj4 : j < 4
          · have j4 : (j : Int) < 4 := by omega
            have hs0 : G.m.state (4 * c + j) ≠ 0 := fun e => hz2.out ((hst0.out j hj4).2 e)
            have hp := Lib.hid (show munplug (unplugN H.p G.m (4 * c) j).1 (unplugN H.p G.m (4 * c) j).2 ((c : Int) * 4 + (j : Int)) = ((unplugN H.p G.m (4 * c) (j + 1)).1, (unplugN H.p G.m (4 * c) (j + 1)).2, 0) by rw [show (c : Int) * 4 + (j : Int) = ((4 * c + j : Nat) : Int) by omega]; exact unplugN_ok (by omega) hs0)
            have hact := gunplug_any (G := { G with m := (unplugN H.p G.m (4 * c) j).2 }) t (gi.withM (gi.m.unplugN _ _).inv) ((c : Int) * 4 + (j : Int))
            unfold ActPost gact at hact
            dsimp only at hact
            rw [hp.out] at hact
            have hact := Lib.hid hact
            clear hs0
            go_wp2_with (first
              | (go_at_call 88; refine hact.out.mono ?_; rintro e w4 ⟨rfl, v4, t4⟩; unfold errv)
              | fail)
            go_roundw
            case rel => exact ⟨j + 1, by omega, by go_num, v4, t4⟩
            case measure => simp [intOf]; omega
          · have j4 : ¬ (j : Int) < 4 := by omega
            go_wp2_with fail
            obtain rfl : j = 4 := by omega
            go_ret
            rw [hF.out]
            exact ⟨rfl, _, r.guest hk hg (G' := { G with m := (unplugN H.p G.m (4 * c) 4).2 }) t⟩
end

end U
end Go.Proofs.YtnhplapcdgnaaaaGreatDoor

set_option linter.unusedVariables false
set_option linter.unusedSimpArgs false
namespace Go.Proofs.YtnhplapcdgnaaaaGreatDoor
open Go.RowKit
namespace U

/-! The program's host: Back, Remove, Add. -/
section
variable {w W : World} {h : Nat} {L : PoolAt} {K : Nat → GAt} {H : HostM} {S : Nat → Prop}
set_option maxRecDepth 100000 in
set_option maxHeartbeats 2000000 in
theorem hback_any (r : HRep w h L K H) (hI : HInv H) (n a : Int) : Calls Tryz.prog 59 #[.pointer (some ⟨h, 0, none⟩), .int .i64 n, .int .i64 a] w (HPost w h L K H (errv (hback H n a).2) (hback H n a).1) := by
  rcases who_ways H n with h0 | ⟨k, hk, rfl, hg⟩ | ⟨k, G, hk, rfl, hg⟩
  · have hc := Lib.hid (hguest_off r n h0)
    rw [errv1] at hc
    have hF := Lib.hid (show hback H n a = (H, 1) from hon_off h0)
    go_enter Tryz.func59, Tryz.ntmps59
    go_wp2_with (first | (go_at_call 87; refine hc.out.mono ?_; rintro e w2 ⟨rfl, rfl⟩) | fail)
    go_ret
    rw [hF.out]
    exact ⟨rfl, K, PH.start r⟩
  · have hc := Lib.hid (hguest_none r hk hg)
    rw [errv2] at hc
    have hF := Lib.hid (show hback H k a = (H, 2) from hon_none hk hg)
    go_enter Tryz.func59, Tryz.ntmps59
    go_wp2_with (first | (go_at_call 87; refine hc.out.mono ?_; rintro e w2 ⟨rfl, rfl⟩) | fail)
    go_ret
    rw [hF.out]
    exact ⟨rfl, K, PH.start r⟩
  · have hc := Lib.hid (hguest_some r hk hg)
    have hF0 : hback H k a = (H.put k (hbackF H a H.p G).1 (some (hbackF H a H.p G).2.1), (hbackF H a H.p G).2.2) := hon_some hk hg
    have pg := r.pg hk hg
    have gi := hI.gi hk hg
    have h00 := r.h0
    have lh := r.hlt
    by_cases ho : onB a = true
    · have hst := Lib.hid (show mstate G.m a = (G.m.state a.toNat, 0) by unfold mstate; rw [if_pos ho])
      by_cases hs : G.m.state a.toNat = 2
      · by_cases hp : hprom H = H.p.n
        · have hF := Lib.hid (show hback H k a = (H, 7) by rw [hF0]; unfold hbackF; rw [if_pos ⟨ho, hs, hp⟩]; dsimp only; rw [put_same hg rfl])
          rw [hs] at hst
          have hp2 : ((hprom H : Int) == (H.p.n : Int)) = true := by simp [hp]
          have hp3 := Lib.hid hp
          clear hF0 hs ho hp
          go_enter Tryz.func59, Tryz.ntmps59
          go_wp2_with (first
            | (go_at_call 87; refine hc.out.mono ?_; rintro e w2 ⟨rfl, rfl⟩)
            | (go_at_call 89; refine (gstate_any pg _).mono ?_; rw [hst.out]; rintro e w3 ⟨rfl, rfl⟩; unfold errv)
            | fail)
          go_quiet (first | exact quiet_same (hPromised_any (r.drewN _)) | exact quiet_same (size_any _ L _ (r.drewN _).rp))
          go_wp2_with fail
          all_goals first | (exfalso; have := hp3.out; simp_all; done) | go_ret
          all_goals (rw [hF.out]; exact ⟨rfl, K, PH.non (PH.start r) (by repeat (first | assumption | apply Upd.alloc | apply Upd.drew | apply Upd.drewN | exact Upd.refl _ _))⟩)
        · have hF := Lib.hid (show hback H k a = (H.put k (gact G (H.p, (mback G.m a).1, (mback G.m a).2)).1 (some (gact G (H.p, (mback G.m a).1, (mback G.m a).2)).2.1), (gact G (H.p, (mback G.m a).1, (mback G.m a).2)).2.2) by rw [hF0]; unfold hbackF; rw [if_neg (fun e => hp e.2.2)])
          rw [hs] at hst
          have hp2 : ((hprom H : Int) == (H.p.n : Int)) = false := by simp; omega
          have hp3 := Lib.hid hp
          clear hF0 hs ho hp
          go_enter Tryz.func59, Tryz.ntmps59
          go_wp2_with (first
            | (go_at_call 87; refine hc.out.mono ?_; rintro e w2 ⟨rfl, rfl⟩)
            | (go_at_call 89; refine (gstate_any pg _).mono ?_; rw [hst.out]; rintro e w3 ⟨rfl, rfl⟩; unfold errv)
            | fail)
          go_quiet (first | exact quiet_same (hPromised_any (r.drewN _)) | exact quiet_same (size_any _ L _ (r.drewN _).rp))
          go_wp2_with (first
            | (go_at_call 93; refine (gback_any (pg.non (by repeat (first | assumption | apply Upd.alloc | apply Upd.drew | apply Upd.drewN | exact Upd.refl _ _))) gi a).mono ?_; rintro e w4 ⟨rfl, v4, t4⟩)
            | fail)
          all_goals first | (exfalso; have := hp3.out; simp_all; done) | go_ret
          all_goals (rw [hF.out]; exact ⟨rfl, _, r.guest hk hg t4⟩)
      · have hF := Lib.hid (show hback H k a = (H.put k (gact G (H.p, (mback G.m a).1, (mback G.m a).2)).1 (some (gact G (H.p, (mback G.m a).1, (mback G.m a).2)).2.1), (gact G (H.p, (mback G.m a).1, (mback G.m a).2)).2.2) by rw [hF0]; unfold hbackF; rw [if_neg (fun e => hs e.2.1)])
        generalize G.m.state a.toNat = s at hst hs
        have hs2 : (s == 2) = false := by simpa using hs
        clear hF0 ho hs
        go_enter Tryz.func59, Tryz.ntmps59
        go_wp2_with (first
          | (go_at_call 87; refine hc.out.mono ?_; rintro e w2 ⟨rfl, rfl⟩)
          | (go_at_call 89; refine (gstate_any pg _).mono ?_; rw [hst.out]; rintro e w3 ⟨rfl, rfl⟩; unfold errv)
          | fail)
        go_quiet (fail)
        go_wp2_with (first
          | (go_at_call 93; refine (gback_any (pg.non (by repeat (first | assumption | apply Upd.alloc | apply Upd.drew | apply Upd.drewN | exact Upd.refl _ _))) gi a).mono ?_; rintro e w4 ⟨rfl, v4, t4⟩)
          | fail)
        go_ret
        rw [hF.out]
        exact ⟨rfl, _, r.guest hk hg t4⟩
    · have hst := Lib.hid (show mstate G.m a = (0, 1) by unfold mstate; rw [if_neg ho])
      have hF := Lib.hid (show hback H k a = (H, 1) by
        rw [hF0]; unfold hbackF gact mback; rw [if_neg (fun e => ho e.1)]; dsimp only; rw [if_neg ho]; dsimp only; rw [put_same hg rfl])
      clear hF0 ho
      go_enter Tryz.func59, Tryz.ntmps59
      go_wp2_with (first
        | (go_at_call 87; refine hc.out.mono ?_; rintro e w2 ⟨rfl, rfl⟩)
        | (go_at_call 89; refine (gstate_any pg _).mono ?_; rw [hst.out, errv1]; rintro e w3 ⟨rfl, rfl⟩)
        | fail)
      go_ret
      rw [hF.out]
      exact ⟨rfl, K, PH.start r⟩
theorem unplugN_zero (P : PoolM) (M : MapM) (j : Nat) : (munplug (unplugN P M 0 j).1 (unplugN P M 0 j).2 (j : Int)).1 = (unplugN P M 0 (j + 1)).1 ∧ (munplug (unplugN P M 0 j).1 (unplugN P M 0 j).2 (j : Int)).2.1 = (unplugN P M 0 (j + 1)).2 := by
  have : ((0 + j : Nat) : Int) = (j : Int) := by omega
  rw [← this]
  exact ⟨rfl, rfl⟩
theorem put_put (H : HostM) (n : Nat) (P P' : PoolM) (o o' : Option GuestM) : (H.put n P o).put n P' o' = H.put n P' o' := by
  unfold HostM.put
  simp only [HostM.mk.injEq, true_and]
  funext i
  split <;> rfl
theorem put_ats (H : HostM) (n : Nat) (P : PoolM) (o : Option GuestM) : (H.put n P o).g n = o := by unfold HostM.put; simp
set_option maxRecDepth 100000 in
set_option maxHeartbeats 2000000 in
theorem hremove_any (r : HRep w h L K H) (hI : HInv H) (n : Int) : Calls Tryz.prog 55 #[.pointer (some ⟨h, 0, none⟩), .int .i64 n] w (HPost w h L K H (errv (hremove H n).2) (hremove H n).1) := by
  rcases who_ways H n with h0 | ⟨k, hk, rfl, hg⟩ | ⟨k, G, hk, rfl, hg⟩
  · have hc := Lib.hid (hguest_off r n h0)
    rw [errv1] at hc
    have hF := Lib.hid (show hremove H n = (H, 1) by unfold hremove; rw [if_pos h0])
    go_enter Tryz.func55, Tryz.ntmps55
    go_wp2_with (first | (go_at_call 87; refine hc.out.mono ?_; rintro e w2 ⟨rfl, rfl⟩) | fail)
    go_ret
    rw [hF.out]
    exact ⟨rfl, K, PH.start r⟩
  · have hc := Lib.hid (hguest_none r hk hg)
    rw [errv2] at hc
    have hF := Lib.hid (show hremove H k = (H, 2) by unfold hremove; rw [if_neg (by omega), Int.toNat_natCast, hg])
    go_enter Tryz.func55, Tryz.ntmps55
    go_wp2_with (first | (go_at_call 87; refine hc.out.mono ?_; rintro e w2 ⟨rfl, rfl⟩) | fail)
    go_ret
    rw [hF.out]
    exact ⟨rfl, K, PH.start r⟩
  · have hc := Lib.hid (hguest_some r hk hg)
    have hF := Lib.hid (show hremove H k = (H.put k (unplugN H.p G.m 0 16).1 none, 0) by unfold hremove; rw [if_neg (by omega), Int.toNat_natCast, hg])
    have pg := r.pg hk hg
    have gi := hI.gi hk hg
    have k4 : (k : Int) < 4 := by omega
    have k0 : (0 : Int) ≤ (k : Int) := by omega
    go_enter Tryz.func55, Tryz.ntmps55
    go_wp2_with (first
      | (go_at_call 87; refine hc.out.mono ?_; rintro e w2 ⟨rfl, rfl⟩)
      | fail)
    go_loopw [17] (fun i wi => ∃ j : Nat, j ≤ 16 ∧ i = .int .i64 j ∧ Hid (∃ v, PG w wi L (K k) v (unplugN H.p G.m 0 j).1 (unplugN H.p G.m 0 j).2 (withLeaf (unplugN H.p G.m 0 j).2 G.c) G.root G.walks)) (fun i _ => 16 - (intOf i).toNat)
    case atStart => exact ⟨0, Nat.zero_le _, rfl, (K k).v, pg.non (by repeat (first | assumption | apply Upd.alloc | apply Upd.drew | apply Upd.drewN | exact Upd.refl _ _))⟩
    case round =>
      obtain ⟨j, hj, rfl, hT⟩ := hrel
      obtain ⟨v, t⟩ := hT.out
      by_cases hj4 : j < 16
      · have j4 : (j : Int) < 16 := by omega
        have hact := gunplug_any (G := { G with m := (unplugN H.p G.m 0 j).2 }) t (gi.withM (gi.m.unplugN _ _).inv) (j : Int)
        have e := unplugN_zero H.p G.m j
        unfold ActPost gact at hact
        dsimp only at hact
        rw [e.1, e.2] at hact
        have hact := Lib.hid hact
        clear e
        go_wp2_with (first
          | (go_at_call 88; refine hact.out.mono ?_; rintro e w4 ⟨rfl, v4, t4⟩)
          | fail)
        go_roundw
        case rel => exact ⟨j + 1, by omega, by go_num, v4, t4⟩
        case measure => simp [intOf]; omega
      · have j4 : ¬ (j : Int) < 16 := by omega
        obtain rfl : j = 16 := by omega
        have tp := r.guest hk hg (G' := { G with m := (unplugN H.p G.m 0 16).2 }) t
        have td := tp.rep.drop hk
        rw [put_put] at td
        have tq := tp.trans td
        have h00 := tp.rep.hfr (1 + k)
        have lh := tp.rep.hlt
        have hcell := tp.rep.hg hk
        go_wp2_with fail
        go_ret
        rw [hF.out]
        exact ⟨rfl, _, tq⟩
def HAddPost (w : World) (h : Nat) (L : PoolAt) (K : Nat → GAt) (H : HostM) (x : HostM × Int × Nat) (e : Ending) (w' : World) : Prop :=
  e = .returned (.tuple #[.int .i64 x.2.1, errv x.2.2]) ∧ ∃ K', PH (ownH h L K H) w w' h L K' x.1
theorem hadd_at {H : HostM} {j : Nat} (hj : j < 4) (hb : ∀ i, i < j → (H.g i).isSome = true) (hn : H.g j = none) : hadd H = (H.put j H.p (some GuestM.fresh), (j : Int), 0) := by
  have e : (List.range 4).find? (fun n => (H.g n).isNone) = some j := by
    rw [show List.range 4 = [0, 1, 2, 3] from rfl]
    have z : ∀ i, i < j → (H.g i).isNone = false := fun i hi => by have := hb i hi; cases e : H.g i with
      | none => rw [e] at this; cases this
      | some G => rfl
    rcases four hj with rfl | rfl | rfl | rfl
    · simp [List.find?, hn]
    · simp [List.find?, hn, z 0 (by omega)]
    · simp [List.find?, hn, z 0 (by omega), z 1 (by omega)]
    · simp [List.find?, hn, z 0 (by omega), z 1 (by omega), z 2 (by omega)]
  unfold hadd
  rw [e]
theorem hadd_no {H : HostM} (hb : ∀ i, i < 4 → (H.g i).isSome = true) : hadd H = (H, 0, 4) := by
  have e : (List.range 4).find? (fun n => (H.g n).isNone) = none := by
    rw [List.find?_eq_none]
    intro i hi
    have := hb i (List.mem_range.1 hi)
    cases e : H.g i with
    | none => rw [e] at this; cases this
    | some G => simp
  unfold hadd
  rw [e]
set_option maxRecDepth 100000 in
set_option maxHeartbeats 2000000 in
theorem hadd_any (r : HRep w h L K H) : Calls Tryz.prog 53 #[.pointer (some ⟨h, 0, none⟩)] w (HAddPost w h L K H (hadd H)) := by
  have ld := r.loadG
  have lh := r.hlt
  have h00 := r.h0
  go_enter Tryz.func53, Tryz.ntmps53
  go_wp2_with (first | (refine wpl_load rfl 78 _ rfl _ _ rfl ld ?_) | fail)
  clear ld
  go_loop [12] (fun i => ∃ j : Nat, j ≤ 4 ∧ i = .int .i64 j ∧ Hid (∀ q, q < j → (H.g q).isSome = true)) (fun i => 4 - (intOf i).toNat)
  case atStart => exact ⟨0, Nat.zero_le _, rfl, fun _ h => absurd h (by omega)⟩
  case round =>
    obtain ⟨j, hj, rfl, hB⟩ := hrel
    by_cases hlt : j < 4
    · have hj2 : (j : Int) < 4 := by omega
      cases hG : H.g j with
      | none =>
        have hx := garr_none (K := K) hlt hG
        have hF := Lib.hid (hadd_at hlt hB.out hG)
        have hG2 := Lib.hid hG
        clear hG
        go_wp2_with (first
          | (go_at_call 86; refine (gnew_any _ L.p).mono ?_; rintro e w2 ⟨K2, rfl, q2, f2, u2⟩; have tc := Lib.hid (r.come hlt hG2.out u2 q2 f2); have lh2 := (r.non u2).hlt; have fr2 := (r.non u2).hfr (1 + j); have ce2 := (r.non u2).hnone hlt hG2.out)
          | fail)
        go_ret2
        rw [hF.out]
        exact ⟨rfl, _, tc.out⟩
      | some G =>
        have hx := garr_some (K := K) hlt hG
        have hB2 := Lib.hid (show ∀ q, q < j + 1 → (H.g q).isSome = true from fun q hq => by
          by_cases e : q = j
          · subst e; rw [hG]; rfl
          · exact hB.out q (by omega))
        clear hG hB
        go_wp2_with fail
        go_round
        case rel => exact ⟨j + 1, by omega, by go_num, hB2.out⟩
        case measure => simp [intOf]; omega
    · have hj3 : ¬ (j : Int) < 4 := by omega
      have hF := Lib.hid (hadd_no (H := H) fun i hi => hB.out i (by omega))
      clear hB
      go_wp2_with fail
      go_ret2
      rw [hF.out]
      exact ⟨rfl, K, PH.start r⟩
end

end U
end Go.Proofs.YtnhplapcdgnaaaaGreatDoor

set_option linter.unusedVariables false
set_option linter.unusedSimpArgs false
namespace Go.Proofs.YtnhplapcdgnaaaaGreatDoor
open Go.RowKit
namespace U

/-! The program's host: join. -/
section
variable {w W W' : World} {h : Nat} {L : PoolAt} {K K' : Nat → GAt} {H H' : HostM} {S : Nat → Prop}
/-- The host while pages are sealed: its guests' structs stay where they are. -/
structure PS (w W : World) (h : Nat) (L : PoolAt) (K : Nat → GAt) (H H' : HostM) : Prop where
  ex : ∃ K', PH (ownH h L K H) w W h L K' H' ∧ ∀ z, (K' z).g = (K z).g
theorem mleaf_in {M : MapM} {n : Nat} (hn : n < 16) : mleaf M n = (M.leaf n, 0) := by
  unfold mleaf
  rw [if_pos (onB_iff.2 ⟨by omega, by omega⟩), Int.toNat_natCast]
theorem PS.start (r : HRep w h L K H) : PS w w h L K H H := ⟨K, PH.start r, fun _ => rfl⟩
theorem PS.non (t : PS w W h L K H H') (u : Upd Non W W') : PS w W' h L K H H' := by
  obtain ⟨K', p, e⟩ := t.ex
  exact ⟨K', p.non u, e⟩
theorem PS.leaf (t : PS w W h L K H H') {q : Nat} (hq : q < 4) {G : GuestM} (hG : H'.g q = some G) (n : Int) :
    Calls Tryz.prog 99 #[.pointer (some ⟨(K q).g, 0, none⟩), .int .i64 n] W fun e w' => e = .returned (.tuple #[(mleaf G.m n).1.val, errv (mleaf G.m n).2]) ∧ PS w w' h L K H H' := by
  obtain ⟨K', p, e⟩ := t.ex
  rw [← e q]
  refine (gleaf_any (p.rep.pg hq hG) n).mono ?_
  rintro e w2 ⟨rfl, u⟩
  exact ⟨rfl, t.non u⟩
theorem PS.seal (t : PS w W h L K H H') {q : Nat} (hq : q < 4) {G : GuestM} (hG : H'.g q = some G) {E : Nat → Nat} (hI : GInv H'.p G E) {n : Int} {M : MapM} (hs : mseal G.m n = (M, 0)) :
    Calls Tryz.prog 131 #[.pointer (some ⟨(K q).g, 0, none⟩), .int .i64 n] W fun e w' => e = .returned .nilIface ∧ PS w w' h L K H (H'.put q H'.p (some { G with m := M })) := by
  obtain ⟨K', p, e⟩ := t.ex
  rw [← e q]
  refine (gseal_any (p.rep.pg hq hG) hI n).mono ?_
  unfold ActPost gact
  rw [hs]
  rintro e1 w2 ⟨rfl, v, u⟩
  refine ⟨rfl, _, p.guest hq hG (G' := { G with m := M }) u, fun z => ?_⟩
  unfold setK
  split
  · rename_i ez; subst ez; exact e z
  · exact e z
theorem PS.gjoin (t : PS w W h L K H H') {q : Nat} (hq : q < 4) {G : GuestM} (hG : H'.g q = some G) {E : Nat → Nat} (hI : GInv H'.p G E) (n fr : Int) :
    Calls Tryz.prog 132 #[.pointer (some ⟨(K q).g, 0, none⟩), .int .i64 n, .int .i64 fr] W (HPost w h L K H (errv (gact G (mjoin H'.p G.m n fr)).2.2) (H'.put q (gact G (mjoin H'.p G.m n fr)).1 (some (gact G (mjoin H'.p G.m n fr)).2.1))) := by
  obtain ⟨K', p, e⟩ := t.ex
  rw [← e q]
  refine (gjoin_any (p.rep.pg hq hG) hI n fr).mono ?_
  unfold ActPost HPost
  rintro e1 w2 ⟨rfl, v, u⟩
  exact ⟨rfl, _, p.guest hq hG u⟩
set_option maxRecDepth 100000 in
set_option maxHeartbeats 2000000 in
theorem hjoin_any (r : HRep w h L K H) (hI : HInv H) {n : Nat} (hn : n < 4) {G : GuestM} (hg : H.g n = some G) (page fr : Int) :
    Calls Tryz.prog 101 #[.pointer (some ⟨h, 0, none⟩), .pointer (some ⟨(K n).g, 0, none⟩), .int .i64 page, .int .i64 fr] w (HPost w h L K H (errv (hjoin H n G page fr).2) (hjoin H n G page fr).1) := by
  have ld := r.loadG
  have lh := r.hlt
  have T0 := Lib.hid (PS.start r)
  have HI := Lib.hid hI
  have HG := Lib.hid hg
  clear hI hg
  go_enter Tryz.func101, Tryz.ntmps101
  go_wp2_with (first | (refine wpl_load rfl 78 _ rfl _ _ rfl ld ?_) | fail)
  clear ld
  go_loopw [19] (fun i wi => ∃ q : Nat, q ≤ 4 ∧ i = .int .i64 q ∧ Hid (PS w wi h L K H (hsealN H fr (16 * q)))) (fun i _ => 4 - (intOf i).toNat)
  case atStart => exact ⟨0, Nat.zero_le _, rfl, by rw [Nat.mul_zero, hsealN_zero]; exact T0.out⟩
  case round =>
    clear T0
    obtain ⟨q, hq, rfl, hT⟩ := hrel
    by_cases hlt : q < 4
    · have hq2 : (q : Int) < 4 := by omega
      cases hG : H.g q with
      | none =>
        have hx := garr_none (K := K) hlt hG
        have hs := Lib.hid (hsealN_none (fr := fr) hG (Nat.le_refl 16))
        clear hG
        go_wp2_with fail
        refine wp_loop_rounds 1 ?_
        rw [rounds_succ]
        go_wp2_with fail
        go_roundw
        case rel => exact ⟨q + 1, by omega, by go_num, by rw [show 16 * (q + 1) = 16 * q + 16 by omega, hs.out]; exact hT.out⟩
        case measure => simp [intOf]; omega
      | some J =>
        have hx := garr_some (K := K) hlt hG
        have hGq := Lib.hid hG
        clear hG
        go_wp2_with fail
        go_loopw [11] (fun i wi => ∃ j : Nat, j ≤ 16 ∧ i = .int .i64 j ∧ Hid (PS w wi h L K H (hsealN H fr (16 * q + j)))) (fun i _ => 16 - (intOf i).toNat)
        case atStart => exact ⟨0, Nat.zero_le _, rfl, hT.out⟩
        case round =>
          clear hT
          obtain ⟨j, hj, rfl, hS⟩ := hrel
          by_cases hjl : j < 16
          · have hj2 : (j : Int) < 16 := by omega
            have t := hS.out
            have hmid0 := hsealN_mid (fr := fr) hGq.out hj
            have hleaf := t.leaf hlt hmid0 (j : Int)
            have hml : mleaf (sealG fr j J).m (j : Int) = ((sealM J.m fr j).leaf j, 0) := mleaf_in hjl
            rw [hml] at hleaf
            have hsm := sealM_same J.m fr j j
            have HL : Hid ((sealM J.m fr j).leaf j = ⟨(J.m.leaf j).there, ((sealM J.m fr j).leaf j).write, (J.m.leaf j).frame⟩) := by
              show _ = _
              rw [← hsm.1, ← hsm.2.1]
            rw [HL.out] at hleaf
            generalize ((sealM J.m fr j).leaf j).write = wr1 at hleaf HL
            have hyes := Lib.hid (hsealN_yes (H := H) (fr := fr) hGq.out hjl)
            have hno := Lib.hid (hsealN_no (H := H) (fr := fr) hGq.out hjl)
            have hgi := Lib.hid ((HI.out.sealN fr (16 * q + j)).gi hlt hmid0)
            generalize J.m.leaf j = lf at hleaf HL hyes hno
            obtain ⟨there, wr2, fr2⟩ := lf
            have hleaf2 := Lib.hid hleaf
            have hmid := Lib.hid hmid0
            clear hml hsm t hleaf hmid0
            cases there with
            | false =>
              have hno2 := Lib.hid (hno.out (fun e => by cases e.1))
              clear hyes hno
              go_wp2_with (first
                | (go_at_call 99; refine hleaf2.out.mono ?_; rintro e w2 ⟨rfl, t2⟩; unfold LeafM.val errv)
                | fail)
              go_roundw
              case rel => exact ⟨j + 1, by omega, by go_num, by rw [hno2.out]; exact t2.non (by repeat (first | assumption | apply Upd.alloc | apply Upd.drew | apply Upd.drewN | exact Upd.refl _ _))⟩
              case measure => simp [intOf]; omega
            | true =>
              by_cases hf : fr2 = fr
              · subst hf
                have hyes2 := Lib.hid (hyes.out rfl rfl)
                clear hno hyes
                go_wp2_with (first
                  | (go_at_call 99; refine hleaf2.out.mono ?_; rintro e w2 ⟨rfl, t2⟩; unfold LeafM.val errv)
                  | (go_at_call 131; refine (PS.seal (t2.non (by repeat (first | assumption | apply Upd.alloc | apply Upd.drew | apply Upd.drewN | exact Upd.refl _ _))) hlt hmid.out hgi.out hyes2.out.1).mono ?_; rintro e w3 ⟨rfl, t3⟩)
                  | fail)
                go_roundw
                case rel => exact ⟨j + 1, by omega, by go_num, by rw [hyes2.out.2]; exact t3⟩
                case measure => simp [intOf]; omega
              · have hno2 := Lib.hid (hno.out (fun e => hf e.2))
                have hf2 : (fr2 == fr) = false := by simpa using hf
                clear hyes hf hno
                go_wp2_with (first
                  | (go_at_call 99; refine hleaf2.out.mono ?_; rintro e w2 ⟨rfl, t2⟩; unfold LeafM.val errv)
                  | fail)
                go_roundw
                case rel => exact ⟨j + 1, by omega, by go_num, by rw [hno2.out]; exact t2.non (by repeat (first | assumption | apply Upd.alloc | apply Upd.drew | apply Upd.drewN | exact Upd.refl _ _))⟩
                case measure => simp [intOf]; omega
          · have hj3 : ¬ (j : Int) < 16 := by omega
            go_wp2_with fail
            go_roundw
            case rel => exact ⟨q + 1, by omega, by go_num, by rw [show 16 * (q + 1) = 16 * q + j by omega]; exact hS.out⟩
            case measure => simp [intOf]; omega
    · have hq3 : ¬ (q : Int) < 4 := by omega
      have ht := hT.out
      rw [show 16 * q = 64 by omega] at ht
      have hact := ht.gjoin hn (hsealN_at hn HG.out fr) ((HI.out.sealN fr 64).gi hn (hsealN_at hn HG.out fr)) page fr
      have hact := Lib.hid hact
      clear ht hT
      go_wp2_with (first
        | (go_at_call 132; refine hact.out.mono ?_; unfold HPost; rintro e w2 ⟨rfl, K2, t2⟩)
        | fail)
      go_ret
      exact ⟨rfl, K2, t2⟩
end

end U
end Go.Proofs.YtnhplapcdgnaaaaGreatDoor
