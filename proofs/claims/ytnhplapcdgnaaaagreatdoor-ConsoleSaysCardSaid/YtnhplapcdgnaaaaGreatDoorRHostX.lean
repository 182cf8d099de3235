import Derived.Test.YtnhplapcdgnaaaaGreatDoorHostAX
import Derived.Test.YtnhplapcdgnaaaaGreatDoorRGuestEX
import Derived.Test.YtnhplapcdgnaaaaGreatDoorHostPr
import Derived.Test.YtnhplapcdgnaaaaGreatDoorHostGx
set_option linter.unusedVariables false
set_option linter.unusedSimpArgs false
namespace Go.Proofs.YtnhplapcdgnaaaaGreatDoor
open Go.RowKit
namespace U

/-! The reference's host: where it lies. -/
def rptr (R : Nat → Nat × Value) (o : Nat → Option GuestM) (i : Nat) : Value := match o i with | some _ => .pointer (some ⟨(R i).1, 0, none⟩) | none => .pointer none
def rhcells (m : Nat) (R : Nat → Nat × Value) (H : HostM) : Nat → Value := fun i => if i = 0 then .pointer (some ⟨m, 0, none⟩) else rptr R H.g (i - 1)
def ownRG (a : Nat × Value) : Nat → Prop := fun k => k = a.1 ∨ a.2.ownBlock = some k
def ownRH (h m : Nat) (R : Nat → Nat × Value) (H : HostM) : Nat → Prop := fun k => (k = h ∨ k = m) ∨ ∃ i, i < 4 ∧ (H.g i).isSome = true ∧ ownRG (R i) k
structure RHRep (w : World) (h m : Nat) (R : Nat → Nat × Value) (H : HostM) : Prop where
  rp : RPoolRep w m H.p
  row : Row w h 49 5 (rhcells m R H)
  g : ∀ i, i < 4 → ∀ G, H.g i = some G → RMRep w (R i).1 95 68 m G.m (xg (R i).2 G.root G.walks)
  e : ∀ i, i < 4 → ∀ G, H.g i = some G → ERow w (R i).2 G.c
  sep : ∀ i j, i < 4 → j < 4 → i ≠ j → (H.g i).isSome = true → (H.g j).isSome = true → (R i).1 ≠ (R j).1
section
variable {w w' W W' : World} {h m : Nat} {R R' : Nat → Nat × Value} {H H' : HostM} {S : Nat → Prop}
theorem RHRep.hlt (r : RHRep w h m R H) : h < w.heap.size := r.row.lt
theorem RHRep.hfr (r : RHRep w h m R H) (i : Nat) : w.frozen? ⟨h, i, none⟩ = false := r.row.frozen i
theorem RHRep.mlt (r : RHRep w h m R H) : m < w.heap.size := by obtain ⟨_, hm, _⟩ := r.rp.row; exact hm.lt
theorem RHRep.rlt (r : RHRep w h m R H) {i : Nat} (hi : i < 4) {G : GuestM} (hG : H.g i = some G) : (R i).1 < w.heap.size := by obtain ⟨_, hm, _⟩ := (r.g i hi G hG).row; exact hm.lt
theorem RHRep.lts (r : RHRep w h m R H) : ∀ k, ownRH h m R H k → k < w.heap.size := by
  rintro k ((rfl | rfl) | ⟨i, hi, hs, ho⟩)
  · exact r.hlt
  · exact r.mlt
  · obtain ⟨G, hG⟩ := Option.isSome_iff_exists.1 hs
    rcases ho with rfl | ho
    · exact r.rlt hi hG
    · exact (r.e i hi G hG).lt ho
theorem RHRep.upd_ (r : RHRep w h m R H) (u : Upd S w w') (hS : ∀ k, ownRH h m R H k → ¬ S k) : RHRep w' h m R H :=
  ⟨r.rp.upd_ u (hS _ (.inl (.inr rfl))), r.row.upd_ u (hS _ (.inl (.inl rfl))), fun i hi G hG => (r.g i hi G hG).upd_ u (hS _ (.inr ⟨i, hi, by rw [hG]; rfl, .inl rfl⟩)),
    fun i hi G hG => (r.e i hi G hG).upd_ u fun k hk => hS k (.inr ⟨i, hi, by rw [hG]; rfl, .inr hk⟩), r.sep⟩
theorem RHRep.non (r : RHRep w h m R H) (u : Upd Non w w') : RHRep w' h m R H := r.upd_ u fun _ _ h => h
theorem RHRep.off (r : RHRep w h m R H) {k T N : Nat} {f : Nat → Value} (q : Row w k T N f) (h1 : T ≠ 49) (h2 : T ≠ 45) (h3 : T ≠ 95) (h4 : T ≠ 144) : ¬ ownRH h m R H k := by
  obtain ⟨_, hm, _⟩ := r.rp.row
  rintro ((e | e) | ⟨i, hi, hs, ho⟩)
  · exact q.ne_ r.row h1 e
  · exact q.ne_ hm h2 e
  · obtain ⟨G, hG⟩ := Option.isSome_iff_exists.1 hs
    obtain ⟨_, hg, _⟩ := (r.g i hi G hG).row
    rcases ho with e | ho
    · exact q.ne_ hg h3 e
    · exact (r.e i hi G hG).ne_row q h4 ho
theorem RHRep.rg (r : RHRep w h m R H) {i : Nat} (hi : i < 4) {G : GuestM} (hG : H.g i = some G) : RG w w m (R i).1 (R i).2 (R i).2 H.p G.m G.c G.root G.walks := RG.start r.rp (r.g i hi G hG) (r.e i hi G hG)
theorem RHRep.h0 (r : RHRep w h m R H) : w.cell? ⟨h, 0, none⟩ = some (.pointer (some ⟨m, 0, none⟩)) := r.row.cell (i := 0) (by omega)
theorem RHRep.hg (r : RHRep w h m R H) {i : Nat} (hi : i < 4) : w.cell? ⟨h, 1 + i, none⟩ = some (rptr R H.g i) := by
  rw [r.row.cell (i := 1 + i) (by omega)]
  unfold rhcells
  rw [if_neg (by omega), show 1 + i - 1 = i by omega]
theorem RHRep.hsome (r : RHRep w h m R H) {i : Nat} (hi : i < 4) {G : GuestM} (hG : H.g i = some G) : w.cell? ⟨h, 1 + i, none⟩ = some (.pointer (some ⟨(R i).1, 0, none⟩)) := by
  rw [r.hg hi]; unfold rptr; rw [hG]
theorem RHRep.hnone (r : RHRep w h m R H) {i : Nat} (hi : i < 4) (hG : H.g i = none) : w.cell? ⟨h, 1 + i, none⟩ = some (.pointer none) := by
  rw [r.hg hi]; unfold rptr; rw [hG]

structure RH (S : Nat → Prop) (w W : World) (h m : Nat) (R : Nat → Nat × Value) (H : HostM) : Prop where
  rep : RHRep W h m R H
  own : ∀ k, ownRH h m R H k → S k ∨ w.heap.size ≤ k
  up : Upd S w W
theorem RH.start (r : RHRep w h m R H) : RH (ownRH h m R H) w w h m R H := ⟨r, fun _ h => .inl h, Upd.refl _ _⟩
theorem RH.trans (t : RH S w W h m R H) (s : RH (ownRH h m R H) W W' h m R' H') : RH S w W' h m R' H' :=
  ⟨s.rep, fun k hk => (s.own k hk).elim (t.own k) (fun h => .inr (Nat.le_trans t.up.size h)), t.up.over' s.up t.own⟩
theorem RH.non (t : RH S w W h m R H) (u : Upd Non W W') : RH S w W' h m R H := ⟨t.rep.non u, t.own, t.up.over' u fun _ h => h.elim⟩
theorem RH.alloc (t : RH S w W h m R H) (o : Obj) : RH S w (W.alloc o) h m R H := t.non ((Upd.refl _ _).alloc o)
theorem RH.drew (t : RH S w W h m R H) : RH S w W.drew h m R H := t.non (Upd.refl _ _).drew
theorem RH.drewN (t : RH S w W h m R H) (n : Nat) : RH S w (W.drewN n) h m R H := t.non ((Upd.refl _ _).drewN n)
def setR (R : Nat → Nat × Value) (n : Nat) (a : Nat × Value) : Nat → Nat × Value := fun j => if j = n then a else R j
theorem rhcells_put {n : Nat} {G G' : GuestM} {v : Value} {P' : PoolM} (hG : H.g n = some G) : rhcells m (setR R n ((R n).1, v)) (H.put n P' (some G')) = rhcells m R H := by
  funext i
  unfold rhcells
  by_cases h0 : i = 0
  · rw [if_pos h0, if_pos h0]
  · rw [if_neg h0, if_neg h0]
    unfold rptr HostM.put setR
    simp only []
    by_cases e : i - 1 = n
    · rw [e, if_pos rfl, if_pos rfl, hG]
    · rw [if_neg e, if_neg e]
/-- A guest's act. -/
theorem RHRep.guest (r : RHRep w h m R H) {n : Nat} (hn : n < 4) {G : GuestM} (hG : H.g n = some G) {v' : Value} {P' : PoolM} {G' : GuestM} (s : RG w w' m (R n).1 (R n).2 v' P' G'.m G'.c G'.root G'.walks) :
    RH (ownRH h m R H) w w' h m (setR R n ((R n).1, v')) (H.put n P' (some G')) := by
  have hso : (H.g n).isSome = true := by rw [hG]; rfl
  obtain ⟨_, hm, _⟩ := r.rp.row
  obtain ⟨_, hgr, _⟩ := (r.g n hn G hG).row
  have hn0 : ∀ i, (H.put n P' (some G')).g i = if i = n then some G' else H.g i := fun i => rfl
  have hsome : ∀ i, i < 4 → ((H.put n P' (some G')).g i).isSome = true → (H.g i).isSome = true := fun i _ hi => by
    rw [hn0] at hi
    by_cases e : i = n
    · rw [e]; exact hso
    · rw [if_neg e] at hi; exact hi
  have h1eq : ∀ i, (setR R n ((R n).1, v') i).1 = (R i).1 := fun i => by
    unfold setR
    by_cases e : i = n
    · subst e; rw [if_pos rfl]
    · rw [if_neg e]
  refine ⟨⟨s.rp, ?_, fun i hi G2 hG2 => ?_, fun i hi G2 hG2 => ?_, fun i j hi hj hij si sj => ?_⟩, fun k hk => ?_, s.up.mono fun k _ h => ?_⟩
  · rw [rhcells_put hG]
    refine r.row.upd_ s.up ?_
    rintro (h1 | h1)
    · exact r.row.ne_ hm (by decide) h1
    · exact r.row.ne_ hgr (by decide) h1
  · rw [hn0] at hG2
    unfold setR
    by_cases e : i = n
    · rw [if_pos e] at hG2 ⊢; cases hG2; exact s.mr
    · rw [if_neg e] at hG2 ⊢
      obtain ⟨_, hgi, _⟩ := (r.g i hi G2 hG2).row
      refine (r.g i hi G2 hG2).upd_ s.up ?_
      rintro (h1 | h1)
      · exact hgi.ne_ hm (by decide) h1
      · exact r.sep i n hi hn e (by rw [hG2]; rfl) hso h1
  · rw [hn0] at hG2
    unfold setR
    by_cases e : i = n
    · rw [if_pos e] at hG2 ⊢; cases hG2; exact s.ev
    · rw [if_neg e] at hG2 ⊢
      refine (r.e i hi G2 hG2).upd_ s.up fun k hk => ?_
      rintro (rfl | rfl)
      · exact (r.e i hi G2 hG2).ne_row hm (by decide) hk
      · exact (r.e i hi G2 hG2).ne_row hgr (by decide) hk
  · rw [h1eq, h1eq]
    exact r.sep i j hi hj hij (hsome i hi si) (hsome j hj sj)
  · rcases hk with h1 | ⟨i, hi, hs, ho⟩
    · exact .inl (.inl h1)
    · have hs := hsome i hi hs
      rcases ho with e | e
      · rw [h1eq] at e; exact .inl (.inr ⟨i, hi, hs, .inl e⟩)
      · unfold setR at e
        by_cases ei : i = n
        · rw [if_pos ei] at e
          rcases s.fv with e2 | e2
          · rw [ei] at hs
            exact .inl (.inr ⟨n, hn, hso, .inr (by rw [← e2]; exact e)⟩)
          · exact .inr (e2 k e)
        · rw [if_neg ei] at e; exact .inl (.inr ⟨i, hi, hs, .inr e⟩)
  · rcases h with rfl | rfl
    · exact .inl (.inr rfl)
    · exact .inr ⟨n, hn, hso, .inl rfl⟩
theorem RH.guest (t : RH S w W h m R H) {n : Nat} (hn : n < 4) {G : GuestM} (hG : H.g n = some G) {v' : Value} {P' : PoolM} {G' : GuestM} (s : RG W W' m (R n).1 (R n).2 v' P' G'.m G'.c G'.root G'.walks) :
    RH S w W' h m (setR R n ((R n).1, v')) (H.put n P' (some G')) := t.trans (t.rep.guest hn hG s)
/-- A guest goes. -/
theorem RHRep.drop (r : RHRep w h m R H) {n : Nat} (hn : n < 4) : RH (ownRH h m R H) w (w.setCell ⟨h, 1 + n, none⟩ (.pointer none)) h m R (H.put n H.p none) := by
  have u : Upd (at1 h) w (w.setCell ⟨h, 1 + n, none⟩ (.pointer none)) := (Upd.refl _ _).setCell (p := ⟨h, 1 + n, none⟩) (fun _ => at1_self) _
  have hn0 : ∀ i, (H.put n H.p none).g i = if i = n then none else H.g i := fun i => rfl
  obtain ⟨_, hm, _⟩ := r.rp.row
  refine ⟨⟨r.rp.upd_ u (fun e => r.row.ne_ hm (by decide) e.symm), (r.row.set_ (i := 1 + n) _).congr fun i hi => ?_, fun i hi G hG => ?_, fun i hi G hG => ?_, fun i j hi hj hij si sj => ?_⟩, fun k hk => ?_, u.mono fun k _ h => .inl (.inl h)⟩
  · unfold upd
    by_cases e : i = 1 + n
    · subst e
      unfold rhcells rptr
      rw [if_pos rfl, if_neg (by omega), show 1 + n - 1 = n by omega, hn0, if_pos rfl]
    · rw [if_neg e]
      unfold rhcells rptr
      by_cases h0 : i = 0
      · rw [if_pos h0, if_pos h0]
      · rw [if_neg h0, if_neg h0, hn0, if_neg (by omega)]
  · rw [hn0] at hG
    by_cases e : i = n
    · rw [if_pos e] at hG; cases hG
    · rw [if_neg e] at hG
      obtain ⟨_, hgi, _⟩ := (r.g i hi G hG).row
      exact (r.g i hi G hG).upd_ u fun h1 => hgi.ne_ r.row (by decide) h1
  · rw [hn0] at hG
    by_cases e : i = n
    · rw [if_pos e] at hG; cases hG
    · rw [if_neg e] at hG
      exact (r.e i hi G hG).upd_ u fun k hk h1 => (r.e i hi G hG).ne_row r.row (by decide) (by rw [← h1]; exact hk)
  · rw [hn0] at si sj
    by_cases ei : i = n
    · rw [if_pos ei] at si; cases si
    · by_cases ej : j = n
      · rw [if_pos ej] at sj; cases sj
      · rw [if_neg ei] at si; rw [if_neg ej] at sj
        exact r.sep i j hi hj hij si sj
  · rcases hk with h1 | ⟨i, hi, hs, ho⟩
    · exact .inl (.inl h1)
    · rw [hn0] at hs
      by_cases e : i = n
      · rw [if_pos e] at hs; cases hs
      · rw [if_neg e] at hs; exact .inl (.inr ⟨i, hi, hs, ho⟩)
/-- A guest comes. -/
theorem RHRep.come (r : RHRep w h m R H) {n : Nat} (hn : n < 4) (hG : H.g n = none) {a : Nat × Value} {G : GuestM} (u : Upd Non w W) (q : RMRep W a.1 95 68 m G.m (xg a.2 G.root G.walks)) (e : ERow W a.2 G.c) (hq : ∀ k, ownRG a k → w.heap.size ≤ k) :
    RH (ownRH h m R H) w (W.setCell ⟨h, 1 + n, none⟩ (.pointer (some ⟨a.1, 0, none⟩))) h m (setR R n a) (H.put n H.p (some G)) := by
  have u2 : Upd (at1 h) W (W.setCell ⟨h, 1 + n, none⟩ (.pointer (some ⟨a.1, 0, none⟩))) := (Upd.refl _ _).setCell (p := ⟨h, 1 + n, none⟩) (fun _ => at1_self) _
  have r2 := r.non u
  have hn0 : ∀ i, (H.put n H.p (some G)).g i = if i = n then some G else H.g i := fun i => rfl
  obtain ⟨_, hm, _⟩ := r2.rp.row
  have hl := r.row.lt
  have ha : w.heap.size ≤ a.1 := hq _ (.inl rfl)
  refine ⟨⟨r2.rp.upd_ u2 (fun e => r2.row.ne_ hm (by decide) e.symm), (r2.row.set_ (i := 1 + n) _).congr fun i hi => ?_, fun i hi G2 hG2 => ?_, fun i hi G2 hG2 => ?_, fun i j hi hj hij si sj => ?_⟩, fun k hk => ?_, (u.mono fun k _ h => h.elim).over' u2 (fun k h => .inl (.inl (.inl h)))⟩
  · unfold upd
    by_cases e : i = 1 + n
    · subst e
      unfold rhcells rptr setR
      rw [if_pos rfl, if_neg (by omega), show 1 + n - 1 = n by omega, hn0, if_pos rfl, if_pos rfl]
    · rw [if_neg e]
      unfold rhcells rptr setR
      by_cases h0 : i = 0
      · rw [if_pos h0, if_pos h0]
      · rw [if_neg h0, if_neg h0, hn0, if_neg (by omega), if_neg (by omega)]
  · rw [hn0] at hG2
    unfold setR
    by_cases e : i = n
    · rw [if_pos e] at hG2 ⊢; cases hG2
      exact q.upd_ u2 fun h1 => by
        have h1 : a.1 = h := h1
        omega
    · rw [if_neg e] at hG2 ⊢
      obtain ⟨_, hgi, _⟩ := (r2.g i hi G2 hG2).row
      exact (r2.g i hi G2 hG2).upd_ u2 fun h1 => hgi.ne_ r2.row (by decide) h1
  · rw [hn0] at hG2
    unfold setR
    by_cases e2 : i = n
    · rw [if_pos e2] at hG2 ⊢; cases hG2
      exact e.upd_ u2 fun k hk h1 => by
        have := hq k (.inr hk)
        have h1 : k = h := h1
        omega
    · rw [if_neg e2] at hG2 ⊢
      exact (r2.e i hi G2 hG2).upd_ u2 fun k hk h1 => (r2.e i hi G2 hG2).ne_row r2.row (by decide) (by rw [← h1]; exact hk)
  · rw [hn0] at si sj
    unfold setR
    by_cases ei : i = n
    · have ej : j ≠ n := fun e => hij (ei.trans e.symm)
      rw [if_neg ej] at sj
      rw [if_pos ei, if_neg ej]
      obtain ⟨Gj, hGj⟩ := Option.isSome_iff_exists.1 sj
      have := r.rlt hj hGj
      omega
    · rw [if_neg ei] at si ⊢
      by_cases ej : j = n
      · rw [if_pos ej]
        obtain ⟨Gi, hGi⟩ := Option.isSome_iff_exists.1 si
        have := r.rlt hi hGi
        omega
      · rw [if_neg ej] at sj ⊢
        exact r.sep i j hi hj hij si sj
  · rcases hk with h1 | ⟨i, hi, hs, ho⟩
    · exact .inl (.inl h1)
    · rw [hn0] at hs
      unfold setR at ho
      by_cases e : i = n
      · rw [if_pos e] at ho; exact .inr (hq k ho)
      · rw [if_neg e] at ho hs; exact .inl (.inr ⟨i, hi, hs, ho⟩)
end
/-- What an act leaves. -/
def RHPost (w : World) (h m : Nat) (R : Nat → Nat × Value) (H : HostM) (r : Value) (H' : HostM) (e : Ending) (w' : World) : Prop :=
  e = .returned r ∧ ∃ R', RH (ownRH h m R H) w w' h m R' H'

end U
end Go.Proofs.YtnhplapcdgnaaaaGreatDoor

set_option linter.unusedVariables false
set_option linter.unusedSimpArgs false
namespace Go.Proofs.YtnhplapcdgnaaaaGreatDoor
open Go.RowKit
namespace U

/-! The reference's host: Who, Promised. -/
section
variable {w : World} {h m : Nat} {R : Nat → Nat × Value} {H : HostM}
set_option maxRecDepth 100000 in
theorem rwho_off (r : RHRep w h m R H) (n : Int) (hn : n < 0 ∨ 3 < n) : Calls Tryz.prog 30 #[.pointer (some ⟨h, 0, none⟩), .int .i64 n] w fun e w' => e = .returned (.tuple #[.pointer none, .int .i64 1]) ∧ w = w' := by
  go_enter Tryz.func30, Tryz.ntmps30
  go_wp2_with fail
  all_goals first | (exfalso; simp_all; omega) | go_ret2
  all_goals exact ⟨rfl, rfl⟩
set_option maxRecDepth 100000 in
theorem rwho_none (r : RHRep w h m R H) {k : Nat} (hk : k < 4) (hg : H.g k = none) : Calls Tryz.prog 30 #[.pointer (some ⟨h, 0, none⟩), .int .i64 k] w fun e w' => e = .returned (.tuple #[.pointer none, .int .i64 2]) ∧ w = w' := by
  have c := r.hnone hk hg
  have lh := r.hlt
  have hk2 : (k : Int) < 4 := by omega
  have hk3 : (k : Int) ≤ 3 := by omega
  have hk0 : ¬ (k : Int) < 0 := by omega
  go_enter Tryz.func30, Tryz.ntmps30
  go_wp2_with fail
  go_ret2
  exact ⟨rfl, rfl⟩
set_option maxRecDepth 100000 in
theorem rwho_some (r : RHRep w h m R H) {k : Nat} (hk : k < 4) {G : GuestM} (hg : H.g k = some G) : Calls Tryz.prog 30 #[.pointer (some ⟨h, 0, none⟩), .int .i64 k] w fun e w' => e = .returned (.tuple #[.pointer (some ⟨(R k).1, 0, none⟩), .int .i64 0]) ∧ w = w' := by
  have c := r.hsome hk hg
  have lh := r.hlt
  have hk2 : (k : Int) < 4 := by omega
  have hk3 : (k : Int) ≤ 3 := by omega
  have hk0 : ¬ (k : Int) < 0 := by omega
  go_enter Tryz.func30, Tryz.ntmps30
  go_wp2_with fail
  go_ret2
  exact ⟨rfl, rfl⟩
set_option maxRecDepth 100000 in
set_option maxHeartbeats 1000000 in
theorem rpromised_any (r : RHRep w h m R H) : Calls Tryz.prog 22 #[.pointer (some ⟨h, 0, none⟩)] w fun e w' => e = .returned (.int .i64 (hprom H : Nat)) ∧ w = w' := by
  have lh := r.hlt
  have hP := Lib.hid (show hprom H = hpromN H 4 from rfl)
  go_enter Tryz.func22, Tryz.ntmps22
  go_wp2_with fail
  go_loop [3, 4] (fun k i => ∃ j : Nat, j ≤ 4 ∧ i = .int .i64 j ∧ k = .int .i64 (hpromN H j : Nat)) (fun _ i => 4 - (intOf i).toNat)
  case atStart => exact ⟨0, Nat.zero_le _, rfl, rfl⟩
  case round =>
    obtain ⟨j, hj, rfl, rfl⟩ := hrel
    have hle := hpromN_le H j
    by_cases hlt : j < 4
    · have hj2 : (j : Int) < 4 := by omega
      cases hG : H.g j with
      | none =>
        have hx := r.hnone hlt hG
        have hs := Lib.hid (show hpromN H (j + 1) = hpromN H j by show hpromN H j + oprom (H.g j) = _; rw [hG]; rfl)
        clear hG
        go_wp2_with fail
        refine wp_loop_rounds 1 ?_
        rw [rounds_succ]
        go_wp2_with fail
        go_round
        case rel => exact ⟨j + 1, by omega, by go_num, by rw [hs.out]⟩
        case measure => simp [intOf]; omega
      | some G =>
        have hx := r.hsome hlt hG
        have hs := Lib.hid (show hpromN H (j + 1) = hpromN H j + plainTo G.m 16 by show hpromN H j + oprom (H.g j) = _; rw [hG]; rfl)
        have rg := Lib.hid (r.rg hlt hG)
        have lr := rg.out.lt
        clear hG
        go_wp2_with fail
        go_loop [3, 5] (fun k i => ∃ q : Nat, q ≤ 16 ∧ i = .int .i64 q ∧ k = .int .i64 (hpromN H j + plainTo G.m q : Nat)) (fun _ i => 16 - (intOf i).toNat)
        case atStart => exact ⟨0, Nat.zero_le _, rfl, rfl⟩
        case round =>
          obtain ⟨q, hq, rfl, rfl⟩ := hrel
          have hle2 := plainTo_le G.m q
          by_cases hq2 : q < 16
          · have hq3 : (q : Int) < 16 := by omega
            have hst := rg.out.mr.st hq2
            have hps := Lib.hid (plainTo_succ G.m q)
            generalize G.m.state q = s at hst hps
            by_cases hs1 : s = 1
            · have hps2 := Lib.hid (show plainTo G.m (q + 1) = plainTo G.m q + 1 by rw [hps.out, if_pos hs1])
              subst hs1
              clear hps
              go_wp2_with fail
              go_round
              case rel => exact ⟨q + 1, by omega, by go_num, by rw [hps2.out]; go_num⟩
              case measure => simp [intOf]; omega
            · have hps2 := Lib.hid (show plainTo G.m (q + 1) = plainTo G.m q by rw [hps.out, if_neg hs1, Nat.add_zero])
              have hs2 : (s == 1) = false := by simpa using hs1
              clear hps hs1
              go_wp2_with fail
              go_round
              case rel => exact ⟨q + 1, by omega, by go_num, by rw [hps2.out]⟩
              case measure => simp [intOf]; omega
          · have hq3 : ¬ (q : Int) < 16 := by omega
            go_wp2_with fail
            obtain rfl : q = 16 := by omega
            go_round
            case rel => exact ⟨j + 1, by omega, by go_num, by rw [hs.out]⟩
            case measure => simp [intOf]; omega
    · have hj3 : ¬ (j : Int) < 4 := by omega
      go_wp2_with fail
      obtain rfl : j = 4 := by omega
      go_ret
      exact ⟨by rw [hP.out]; rfl, rfl⟩
end

end U
end Go.Proofs.YtnhplapcdgnaaaaGreatDoor

set_option linter.unusedVariables false
set_option linter.unusedSimpArgs false
namespace Go.Proofs.YtnhplapcdgnaaaaGreatDoor
open Go.RowKit
namespace U

/-! The reference's host: Remove, Plug, Unplug, Give. -/
section
variable {w : World} {h m : Nat} {R : Nat → Nat × Value} {H : HostM}
def RHActPost (w : World) (h m : Nat) (R : Nat → Nat × Value) (H : HostM) (x : HostM × Nat) (e : Ending) (w' : World) : Prop :=
  e = .returned (.int .i64 x.2) ∧ ∃ R', RH (ownRH h m R H) w w' h m R' x.1
set_option maxRecDepth 100000 in
set_option maxHeartbeats 2000000 in
theorem rremove_any (r : RHRep w h m R H) (hI : HInv H) (n : Int) : Calls Tryz.prog 24 #[.pointer (some ⟨h, 0, none⟩), .int .i64 n] w (RHActPost w h m R H (hremove H n)) := by
  rcases who_ways H n with h0 | ⟨k, hk, rfl, hg⟩ | ⟨k, G, hk, rfl, hg⟩
  · have hc := Lib.hid (rwho_off r n h0)
    have hF := Lib.hid (show hremove H n = (H, 1) by unfold hremove; rw [if_pos h0])
    go_enter Tryz.func24, Tryz.ntmps24
    go_wp2_with (first | (go_at_call 30; refine hc.out.mono ?_; rintro e w2 ⟨rfl, rfl⟩) | fail)
    go_ret
    rw [hF.out]
    exact ⟨rfl, R, RH.start r⟩
  · have hc := Lib.hid (rwho_none r hk hg)
    have hF := Lib.hid (show hremove H k = (H, 2) by unfold hremove; rw [if_neg (by omega), Int.toNat_natCast, hg])
    go_enter Tryz.func24, Tryz.ntmps24
    go_wp2_with (first | (go_at_call 30; refine hc.out.mono ?_; rintro e w2 ⟨rfl, rfl⟩) | fail)
    go_ret
    rw [hF.out]
    exact ⟨rfl, R, RH.start r⟩
  · have hc := Lib.hid (rwho_some r hk hg)
    have hF := Lib.hid (show hremove H k = (H.put k (unplugN H.p G.m 0 16).1 none, 0) by unfold hremove; rw [if_neg (by omega), Int.toNat_natCast, hg])
    have rg := r.rg hk hg
    have gi := hI.gi hk hg
    have k4 : (k : Int) < 4 := by omega
    have k0 : (0 : Int) ≤ (k : Int) := by omega
    go_enter Tryz.func24, Tryz.ntmps24
    go_wp2_with (first
      | (go_at_call 30; refine hc.out.mono ?_; rintro e w2 ⟨rfl, rfl⟩)
      | fail)
    go_loopw [7] (fun i wi => ∃ j : Nat, j ≤ 16 ∧ i = .int .i64 j ∧ Hid (∃ v, RG w wi m (R k).1 (R k).2 v (unplugN H.p G.m 0 j).1 (unplugN H.p G.m 0 j).2 G.c G.root G.walks)) (fun i _ => 16 - (intOf i).toNat)
    case atStart => exact ⟨0, Nat.zero_le _, rfl, (R k).2, rg.non (by repeat (first | assumption | apply Upd.alloc | apply Upd.drew | apply Upd.drewN | exact Upd.refl _ _))⟩
    case round =>
      obtain ⟨j, hj, rfl, hT⟩ := hrel
      obtain ⟨v, t⟩ := hT.out
      by_cases hj4 : j < 16
      · have j4 : (j : Int) < 16 := by omega
        have hact := rgunplug_any (G := { G with m := (unplugN H.p G.m 0 j).2 }) t (gi.withM (gi.m.unplugN _ _).inv) (j : Int)
        have e := unplugN_zero H.p G.m j
        unfold RActPost at hact
        dsimp only at hact
        rw [e.1, e.2] at hact
        have hact := Lib.hid hact
        clear e
        go_wp2_with (first
          | (go_at_call 38; refine hact.out.mono ?_; rintro e w4 ⟨rfl, v4, t4⟩)
          | fail)
        go_roundw
        case rel => exact ⟨j + 1, by omega, by go_num, v4, t4⟩
        case measure => simp [intOf]; omega
      · have j4 : ¬ (j : Int) < 16 := by omega
        obtain rfl : j = 16 := by omega
        have tp := r.guest hk hg (G' := { G with m := (unplugN H.p G.m 0 16).2 }) t
        have td := tp.rep.drop hk
        rw [put_put] at td
        have tq := tp.trans td
        have h00 := tp.rep.hfr (1 + k)
        have lh := tp.rep.hlt
        have hcell := tp.rep.hg hk
        go_wp2_with fail
        go_ret
        rw [hF.out]
        exact ⟨rfl, _, tq⟩
set_option maxRecDepth 100000 in
set_option maxHeartbeats 2000000 in
theorem rplug_h_any (r : RHRep w h m R H) (hI : HInv H) (n b : Int) : Calls Tryz.prog 26 #[.pointer (some ⟨h, 0, none⟩), .int .i64 n, .int .i64 b] w (RHActPost w h m R H (hplug H n b)) := by
  rcases who_ways H n with h0 | ⟨k, hk, rfl, hg⟩ | ⟨k, G, hk, rfl, hg⟩
  · have hc := Lib.hid (rwho_off r n h0)
    have hF := Lib.hid (show hplug H n b = (H, 1) from hon_off h0)
    go_enter Tryz.func26, Tryz.ntmps26
    go_wp2_with (first | (go_at_call 30; refine hc.out.mono ?_; rintro e w2 ⟨rfl, rfl⟩) | fail)
    go_ret
    rw [hF.out]
    exact ⟨rfl, R, RH.start r⟩
  · have hc := Lib.hid (rwho_none r hk hg)
    have hF := Lib.hid (show hplug H k b = (H, 2) from hon_none hk hg)
    go_enter Tryz.func26, Tryz.ntmps26
    go_wp2_with (first | (go_at_call 30; refine hc.out.mono ?_; rintro e w2 ⟨rfl, rfl⟩) | fail)
    go_ret
    rw [hF.out]
    exact ⟨rfl, R, RH.start r⟩
  · have hc := Lib.hid (rwho_some r hk hg)
    have hF0 : hplug H k b = (H.put k (hplugF H b H.p G).1 (some (hplugF H b H.p G).2.1), (hplugF H b H.p G).2.2) := hon_some hk hg
    have rg := r.rg hk hg
    by_cases hb : b < 0 ∨ 3 < b
    · have hF := Lib.hid (show hplug H k b = (H, 1) by rw [hF0]; unfold hplugF; rw [if_pos hb]; dsimp only; rw [put_same hg rfl])
      clear hF0
      go_enter Tryz.func26, Tryz.ntmps26
      go_wp2_with (first | (go_at_call 30; refine hc.out.mono ?_; rintro e w2 ⟨rfl, rfl⟩) | fail)
      all_goals first | (exfalso; simp_all; omega) | go_ret
      all_goals (rw [hF.out]; exact ⟨rfl, R, RH.start r⟩)
    · obtain ⟨c, rfl⟩ := Int.eq_ofNat_of_zero_le (show 0 ≤ b by omega)
      have hc4 : c < 4 := by omega
      have b0 : ¬ (c : Int) < 0 := by omega
      have b1 : (c : Int) < 4 := by omega
      have b2 : (c : Int) ≤ 3 := by omega
      have hst := rg.mr.st (i := 4 * c) (by omega)
      have lr := rg.lt
      by_cases hz : G.m.state (4 * c) = 0
      · rw [hz] at hst
        have hz2 := Lib.hid hz
        have hpr := hpromN_le H 4
        have hpr : hprom H ≤ 64 := hpr
        have hn64 := r.rp.n64
        have h00 := r.h0
        have lh := r.hlt
        have n0 := r.rp.c0
        have lm := r.mlt
        by_cases hfull : H.p.n < hprom H + 4
        · have hF := Lib.hid (show hplug H k c = (H, 7) by rw [hF0]; unfold hplugF; rw [if_neg hb, if_neg (by rw [Int.toNat_natCast]; omega), if_pos hfull]; dsimp only; rw [put_same hg rfl])
          have hq : decide ((H.p.n : Int) < (hprom H : Int) + 4) = true := by simp; omega
          clear hF0 hz
          go_enter Tryz.func26, Tryz.ntmps26
          go_wp2_with (first
            | (go_at_call 30; refine hc.out.mono ?_; rintro e w2 ⟨rfl, rfl⟩)
            | fail)
          go_quiet (exact quiet_same (rpromised_any (r.non ((Upd.refl _ _).drewN _))))
          go_wp2_with fail
          go_ret
          rw [hF.out]
          exact ⟨rfl, R, RH.non (RH.start r) (by repeat (first | assumption | apply Upd.alloc | apply Upd.drew | apply Upd.drewN | exact Upd.refl _ _))⟩
        · have hF := Lib.hid (show hplug H k c = (H.put k H.p (some { G with m := plugN G.m (4 * c) 4 }), 0) by rw [hF0]; unfold hplugF; rw [if_neg hb, if_neg (by rw [Int.toNat_natCast]; omega), if_neg hfull]; dsimp only; rw [Int.toNat_natCast])
          have hq : decide ((H.p.n : Int) < (hprom H : Int) + 4) = false := by simp; omega
          have gi := hI.gi hk hg
          have hst0 := Lib.hid ((hI.g k hk G hg).blk c hc4)
          clear hF0 hz hfull
          go_enter Tryz.func26, Tryz.ntmps26
          go_wp2_with (first
            | (go_at_call 30; refine hc.out.mono ?_; rintro e w2 ⟨rfl, rfl⟩)
            | fail)
          go_quiet (exact quiet_same (rpromised_any (r.non ((Upd.refl _ _).drewN _))))
          go_wp2_with fail
          go_loopw [9] (fun i wi => ∃ j : Nat, j ≤ 4 ∧ i = .int .i64 j ∧ Hid (∃ v, RG w wi m (R k).1 (R k).2 v H.p (plugN G.m (4 * c) j) G.c G.root G.walks)) (fun i _ => 4 - (intOf i).toNat)
          case atStart => exact ⟨0, Nat.zero_le _, rfl, (R k).2, rg.non (by repeat (first | assumption | apply Upd.alloc | apply Upd.drew | apply Upd.drewN | exact Upd.refl _ _))⟩
          case round =>
            obtain ⟨j, hj, rfl, hT⟩ := hrel
            obtain ⟨v, t⟩ := hT.out
            by_cases hj4 : j < 4
            · have j4 : (j : Int) < 4 := by omega
              have hs0 : G.m.state (4 * c + j) = 0 := (hst0.out j hj4).1 hz2.out
              have hp := Lib.hid (show mplug (plugN G.m (4 * c) j) (4 * (c : Int) + (j : Int)) = (plugN G.m (4 * c) (j + 1), 0) by rw [show 4 * (c : Int) + (j : Int) = ((4 * c + j : Nat) : Int) by omega]; exact plugN_ok (by omega) hs0)
              have hact := rgplug_any (G := { G with m := plugN G.m (4 * c) j }) t (gi.withM (gi.m.plugN _ _)) (4 * (c : Int) + (j : Int))
              unfold RActPost at hact
              dsimp only at hact
              rw [hp.out] at hact
              have hact := Lib.hid hact
              clear hs0
              go_wp2_with (first
                | (go_at_call 39; refine hact.out.mono ?_; rintro e w4 ⟨rfl, v4, t4⟩)
                | fail)
              go_roundw
              case rel => exact ⟨j + 1, by omega, by go_num, v4, t4⟩
              case measure => simp [intOf]; omega
            · have j4 : ¬ (j : Int) < 4 := by omega
              go_wp2_with fail
              obtain rfl : j = 4 := by omega
              go_ret
              rw [hF.out]
              exact ⟨rfl, _, r.guest hk hg (G' := { G with m := plugN G.m (4 * c) 4 }) t⟩
      · have hF := Lib.hid (show hplug H k c = (H, 4) by rw [hF0]; unfold hplugF; rw [if_neg hb, if_pos (by rw [Int.toNat_natCast]; omega)]; dsimp only; rw [put_same hg rfl])
        clear hF0
        generalize G.m.state (4 * c) = s at hst hz
        have hs2 : (s == 0) = false := by simpa using hz
        have hs3 : (s != 0) = true := by simpa using hz
        go_enter Tryz.func26, Tryz.ntmps26
        go_wp2_with (first
          | (go_at_call 30; refine hc.out.mono ?_; rintro e w2 ⟨rfl, rfl⟩)
          | fail)
        go_ret
        rw [hF.out]
        exact ⟨rfl, R, RH.start r⟩
set_option maxRecDepth 100000 in
set_option maxHeartbeats 2000000 in
theorem runplug_h_any (r : RHRep w h m R H) (hI : HInv H) (n b : Int) : Calls Tryz.prog 27 #[.pointer (some ⟨h, 0, none⟩), .int .i64 n, .int .i64 b] w (RHActPost w h m R H (hunplug H n b)) := by
  rcases who_ways H n with h0 | ⟨k, hk, rfl, hg⟩ | ⟨k, G, hk, rfl, hg⟩
  · have hc := Lib.hid (rwho_off r n h0)
    have hF := Lib.hid (show hunplug H n b = (H, 1) from hon_off h0)
    go_enter Tryz.func27, Tryz.ntmps27
    go_wp2_with (first | (go_at_call 30; refine hc.out.mono ?_; rintro e w2 ⟨rfl, rfl⟩) | fail)
    go_ret
    rw [hF.out]
    exact ⟨rfl, R, RH.start r⟩
  · have hc := Lib.hid (rwho_none r hk hg)
    have hF := Lib.hid (show hunplug H k b = (H, 2) from hon_none hk hg)
    go_enter Tryz.func27, Tryz.ntmps27
    go_wp2_with (first | (go_at_call 30; refine hc.out.mono ?_; rintro e w2 ⟨rfl, rfl⟩) | fail)
    go_ret
    rw [hF.out]
    exact ⟨rfl, R, RH.start r⟩
  · have hc := Lib.hid (rwho_some r hk hg)
    have hF0 : hunplug H k b = (H.put k (hunplugF b H.p G).1 (some (hunplugF b H.p G).2.1), (hunplugF b H.p G).2.2) := hon_some hk hg
    have rg := r.rg hk hg
    by_cases hb : b < 0 ∨ 3 < b
    · have hF := Lib.hid (show hunplug H k b = (H, 1) by rw [hF0]; unfold hunplugF; rw [if_pos hb]; dsimp only; rw [put_same hg rfl])
      clear hF0
      go_enter Tryz.func27, Tryz.ntmps27
      go_wp2_with (first | (go_at_call 30; refine hc.out.mono ?_; rintro e w2 ⟨rfl, rfl⟩) | fail)
      all_goals first | (exfalso; simp_all; omega) | go_ret
      all_goals (rw [hF.out]; exact ⟨rfl, R, RH.start r⟩)
    · obtain ⟨c, rfl⟩ := Int.eq_ofNat_of_zero_le (show 0 ≤ b by omega)
      have hc4 : c < 4 := by omega
      have b0 : ¬ (c : Int) < 0 := by omega
      have b1 : (c : Int) < 4 := by omega
      have b2 : (c : Int) ≤ 3 := by omega
      have gi := hI.gi hk hg
      by_cases hz : G.m.state (4 * c) = 0
      · have hF := Lib.hid (show hunplug H k c = (H, 2) by rw [hF0]; unfold hunplugF; rw [if_neg hb, if_pos (by rw [Int.toNat_natCast]; exact hz)]; dsimp only; rw [put_same hg rfl])
        have hact := rgunplug_any rg gi (4 * (c : Int))
        have hp : munplug H.p G.m (4 * (c : Int)) = (H.p, G.m, 2) := by
          unfold munplug
          rw [if_pos (onB_iff.2 ⟨by omega, by omega⟩), show (4 * (c : Int)).toNat = 4 * c by omega, if_pos hz]
        rw [hp] at hact
        unfold RActPost at hact
        dsimp only at hact
        have hact := Lib.hid hact
        clear hF0 hz hp
        go_enter Tryz.func27, Tryz.ntmps27
        go_wp2_with (first
          | (go_at_call 30; refine hc.out.mono ?_; rintro e w2 ⟨rfl, rfl⟩)
          | fail)
        refine wp_loop_rounds 1 ?_
        rw [rounds_succ]
        go_wp2_with (first
          | (go_at_call 38; refine hact.out.mono ?_; rintro e w4 ⟨rfl, v4, t4⟩)
          | fail)
        go_ret
        rw [hF.out]
        have := r.guest hk hg (G' := G) t4
        rw [put_same hg rfl] at this
        exact ⟨rfl, _, this⟩
      · have hF := Lib.hid (show hunplug H k c = (H.put k (unplugN H.p G.m (4 * c) 4).1 (some { G with m := (unplugN H.p G.m (4 * c) 4).2 }), 0) by rw [hF0]; unfold hunplugF; rw [if_neg hb, if_neg (by rw [Int.toNat_natCast]; exact hz)]; dsimp only; rw [Int.toNat_natCast])
        have hst0 := Lib.hid ((hI.g k hk G hg).blk c hc4)
        have hz2 := Lib.hid hz
        clear hF0 hz
        go_enter Tryz.func27, Tryz.ntmps27
        go_wp2_with (first
          | (go_at_call 30; refine hc.out.mono ?_; rintro e w2 ⟨rfl, rfl⟩)
          | fail)
        go_loopw [9] (fun i wi => ∃ j : Nat, j ≤ 4 ∧ i = .int .i64 j ∧ Hid (∃ v, RG w wi m (R k).1 (R k).2 v (unplugN H.p G.m (4 * c) j).1 (unplugN H.p G.m (4 * c) j).2 G.c G.root G.walks)) (fun i _ => 4 - (intOf i).toNat)
        case atStart => exact ⟨0, Nat.zero_le _, rfl, (R k).2, rg.non (by repeat (first | assumption | apply Upd.alloc | apply Upd.drew | apply Upd.drewN | exact Upd.refl _ _))⟩
        case round =>
          obtain ⟨j, hj, rfl, hT⟩ := hrel
          obtain ⟨v, t⟩ := hT.out
          by_cases hj4 : j < 4
          · have j4 : (j : Int) < 4 := by omega
            have hs0 : G.m.state (4 * c + j) ≠ 0 := fun e => hz2.out ((hst0.out j hj4).2 e)
            have hp := Lib.hid (show munplug (unplugN H.p G.m (4 * c) j).1 (unplugN H.p G.m (4 * c) j).2 (4 * (c : Int) + (j : Int)) = ((unplugN H.p G.m (4 * c) (j + 1)).1, (unplugN H.p G.m (4 * c) (j + 1)).2, 0) by rw [show 4 * (c : Int) + (j : Int) = ((4 * c + j : Nat) : Int) by omega]; exact unplugN_ok (by omega) hs0)
            have hact := rgunplug_any (G := { G with m := (unplugN H.p G.m (4 * c) j).2 }) t (gi.withM (gi.m.unplugN _ _).inv) (4 * (c : Int) + (j : Int))
            unfold RActPost at hact
            dsimp only at hact
            rw [hp.out] at hact
            have hact := Lib.hid hact
            clear hs0
            go_wp2_with (first
              | (go_at_call 38; refine hact.out.mono ?_; rintro e w4 ⟨rfl, v4, t4⟩)
              | fail)
            go_roundw
            case rel => exact ⟨j + 1, by omega, by go_num, v4, t4⟩
            case measure => simp [intOf]; omega
          · have j4 : ¬ (j : Int) < 4 := by omega
            go_wp2_with fail
            obtain rfl : j = 4 := by omega
            go_ret
            rw [hF.out]
            exact ⟨rfl, _, r.guest hk hg (G' := { G with m := (unplugN H.p G.m (4 * c) 4).2 }) t⟩
end

end U
end Go.Proofs.YtnhplapcdgnaaaaGreatDoor

set_option linter.unusedVariables false
set_option linter.unusedSimpArgs false
namespace Go.Proofs.YtnhplapcdgnaaaaGreatDoor
open Go.RowKit
namespace U

/-! The reference's host: Give, Guests. -/
section
variable {w : World} {h m : Nat} {R : Nat → Nat × Value} {H : HostM}
set_option maxRecDepth 100000 in
set_option maxHeartbeats 2000000 in
theorem rgive_h_any (r : RHRep w h m R H) (hI : HInv H) (n a : Int) : Calls Tryz.prog 28 #[.pointer (some ⟨h, 0, none⟩), .int .i64 n, .int .i64 a, .bool false] w (RHActPost w h m R H (hgive H n a)) := by
  rcases who_ways H n with h0 | ⟨k, hk, rfl, hg⟩ | ⟨k, G, hk, rfl, hg⟩
  · have hc := Lib.hid (rwho_off r n h0)
    have hF := Lib.hid (show hgive H n a = (H, 1) from hon_off h0)
    go_enter Tryz.func28, Tryz.ntmps28
    go_wp2_with (first | (go_at_call 30; refine hc.out.mono ?_; rintro e w2 ⟨rfl, rfl⟩) | fail)
    go_ret
    rw [hF.out]
    exact ⟨rfl, R, RH.start r⟩
  · have hc := Lib.hid (rwho_none r hk hg)
    have hF := Lib.hid (show hgive H k a = (H, 2) from hon_none hk hg)
    go_enter Tryz.func28, Tryz.ntmps28
    go_wp2_with (first | (go_at_call 30; refine hc.out.mono ?_; rintro e w2 ⟨rfl, rfl⟩) | fail)
    go_ret
    rw [hF.out]
    exact ⟨rfl, R, RH.start r⟩
  · have hc := Lib.hid (rwho_some r hk hg)
    have rg := r.rg hk hg
    have gi := hI.gi hk hg
    have hF := Lib.hid (show hgive H k a = _ from hon_some hk hg)
    go_enter Tryz.func28, Tryz.ntmps28
    go_wp2_with (first
      | (go_at_call 30; refine hc.out.mono ?_; rintro e w2 ⟨rfl, rfl⟩)
      | (go_at_call 40; refine (ron_any _ a).mono ?_; rintro e w1 ⟨rfl, rfl⟩)
      | fail)
    go_quiet (fail)
    go_wp2_with (first
      | (go_at_call 41; refine (rggive_any (rg.non (by repeat (first | assumption | apply Upd.alloc | apply Upd.drew | apply Upd.drewN | exact Upd.refl _ _))) gi _).mono ?_; rintro e w3 ⟨rfl, v2, t2⟩)
      | fail)
    go_ret
    rw [hF.out]
    exact ⟨rfl, _, r.guest hk hg t2⟩
set_option maxRecDepth 100000 in
set_option maxHeartbeats 2000000 in
theorem rback_h_any (r : RHRep w h m R H) (hI : HInv H) (n a : Int) : Calls Tryz.prog 28 #[.pointer (some ⟨h, 0, none⟩), .int .i64 n, .int .i64 a, .bool true] w (RHActPost w h m R H (hback H n a)) := by
  rcases who_ways H n with h0 | ⟨k, hk, rfl, hg⟩ | ⟨k, G, hk, rfl, hg⟩
  · have hc := Lib.hid (rwho_off r n h0)
    have hF := Lib.hid (show hback H n a = (H, 1) from hon_off h0)
    go_enter Tryz.func28, Tryz.ntmps28
    go_wp2_with (first | (go_at_call 30; refine hc.out.mono ?_; rintro e w2 ⟨rfl, rfl⟩) | fail)
    go_ret
    rw [hF.out]
    exact ⟨rfl, R, RH.start r⟩
  · have hc := Lib.hid (rwho_none r hk hg)
    have hF := Lib.hid (show hback H k a = (H, 2) from hon_none hk hg)
    go_enter Tryz.func28, Tryz.ntmps28
    go_wp2_with (first | (go_at_call 30; refine hc.out.mono ?_; rintro e w2 ⟨rfl, rfl⟩) | fail)
    go_ret
    rw [hF.out]
    exact ⟨rfl, R, RH.start r⟩
  · have hc := Lib.hid (rwho_some r hk hg)
    have hF0 : hback H k a = (H.put k (hbackF H a H.p G).1 (some (hbackF H a H.p G).2.1), (hbackF H a H.p G).2.2) := hon_some hk hg
    have rg := r.rg hk hg
    have gi := hI.gi hk hg
    have h00 := r.h0
    have lh := r.hlt
    have n0 := r.rp.c0
    have lm := r.mlt
    have lr := rg.lt
    by_cases ho : onB a = true
    · obtain ⟨a0, a1⟩ := onB_iff.1 ho
      obtain ⟨p, rfl⟩ := Int.eq_ofNat_of_zero_le a0
      have hst := rg.mr.st (i := p) (by omega)
      have hon := Lib.hid (show onB (p : Int) = true from ho)
      by_cases hs : G.m.state p = 2
      · rw [hs] at hst
        by_cases hp : hprom H = H.p.n
        · have hF := Lib.hid (show hback H k p = (H, 7) by rw [hF0]; unfold hbackF; rw [if_pos ⟨ho, by rw [Int.toNat_natCast]; exact hs, hp⟩]; dsimp only; rw [put_same hg rfl])
          have hp2 : ((hprom H : Int) == (H.p.n : Int)) = true := by simp [hp]
          have hp3 := Lib.hid hp
          clear hF0 hs ho hp
          go_enter Tryz.func28, Tryz.ntmps28
          go_wp2_with (first
            | (go_at_call 30; refine hc.out.mono ?_; rintro e w2 ⟨rfl, rfl⟩)
            | (go_at_call 40; refine (ron_any _ _).mono ?_; rw [hon.out]; rintro e w1 ⟨rfl, rfl⟩)
            | fail)
          go_quiet (first | exact quiet_same (rpromised_any (r.non ((Upd.refl _ _).drewN _))))
          go_wp2_with fail
          all_goals first | (exfalso; have := hp3.out; simp_all; done) | go_ret
          all_goals (rw [hF.out]; exact ⟨rfl, R, RH.non (RH.start r) (by repeat (first | assumption | apply Upd.alloc | apply Upd.drew | apply Upd.drewN | exact Upd.refl _ _))⟩)
        · have hF := Lib.hid (show hback H k p = (H.put k (gact G (H.p, (mback G.m p).1, (mback G.m p).2)).1 (some (gact G (H.p, (mback G.m p).1, (mback G.m p).2)).2.1), (gact G (H.p, (mback G.m p).1, (mback G.m p).2)).2.2) by rw [hF0]; unfold hbackF; rw [if_neg (fun e => hp e.2.2)])
          have hp2 : ((hprom H : Int) == (H.p.n : Int)) = false := by simp; omega
          have hp3 := Lib.hid hp
          clear hF0 hs ho hp
          go_enter Tryz.func28, Tryz.ntmps28
          go_wp2_with (first
            | (go_at_call 30; refine hc.out.mono ?_; rintro e w2 ⟨rfl, rfl⟩)
            | (go_at_call 40; refine (ron_any _ _).mono ?_; rw [hon.out]; rintro e w1 ⟨rfl, rfl⟩)
            | fail)
          go_quiet (first | exact quiet_same (rpromised_any (r.non ((Upd.refl _ _).drewN _))))
          go_wp2_with (first
            | (go_at_call 41; refine (rgback_any (rg.non (by repeat (first | assumption | apply Upd.alloc | apply Upd.drew | apply Upd.drewN | exact Upd.refl _ _))) gi _).mono ?_; rintro e w4 ⟨rfl, v4, t4⟩)
            | fail)
          all_goals first | (exfalso; have := hp3.out; simp_all; done) | go_ret
          all_goals (rw [hF.out]; exact ⟨rfl, _, r.guest hk hg t4⟩)
      · have hF := Lib.hid (show hback H k p = (H.put k (gact G (H.p, (mback G.m p).1, (mback G.m p).2)).1 (some (gact G (H.p, (mback G.m p).1, (mback G.m p).2)).2.1), (gact G (H.p, (mback G.m p).1, (mback G.m p).2)).2.2) by rw [hF0]; unfold hbackF; rw [if_neg (fun e => hs (by rw [← e.2.1, Int.toNat_natCast]))])
        generalize G.m.state p = s at hst hs
        have hs2 : (s == 2) = false := by simpa using hs
        clear hF0 ho hs
        go_enter Tryz.func28, Tryz.ntmps28
        go_wp2_with (first
          | (go_at_call 30; refine hc.out.mono ?_; rintro e w2 ⟨rfl, rfl⟩)
          | (go_at_call 40; refine (ron_any _ _).mono ?_; rw [hon.out]; rintro e w1 ⟨rfl, rfl⟩)
          | fail)
        go_quiet (fail)
        go_wp2_with (first
          | (go_at_call 41; refine (rgback_any (rg.non (by repeat (first | assumption | apply Upd.alloc | apply Upd.drew | apply Upd.drewN | exact Upd.refl _ _))) gi _).mono ?_; rintro e w4 ⟨rfl, v4, t4⟩)
          | fail)
        go_ret
        rw [hF.out]
        exact ⟨rfl, _, r.guest hk hg t4⟩
    · have hon : Hid (onB a = false) := by show _ = _; simpa using ho
      have hF := Lib.hid (show hback H k a = (H.put k (gact G (H.p, (mback G.m a).1, (mback G.m a).2)).1 (some (gact G (H.p, (mback G.m a).1, (mback G.m a).2)).2.1), (gact G (H.p, (mback G.m a).1, (mback G.m a).2)).2.2) by rw [hF0]; unfold hbackF; rw [if_neg (fun e => ho e.1)])
      clear hF0 ho
      go_enter Tryz.func28, Tryz.ntmps28
      go_wp2_with (first
        | (go_at_call 30; refine hc.out.mono ?_; rintro e w2 ⟨rfl, rfl⟩)
        | (go_at_call 40; refine (ron_any _ _).mono ?_; rw [hon.out]; rintro e w1 ⟨rfl, rfl⟩)
        | fail)
      go_quiet (fail)
      go_wp2_with (first
        | (go_at_call 41; refine (rgback_any (rg.non (by repeat (first | assumption | apply Upd.alloc | apply Upd.drew | apply Upd.drewN | exact Upd.refl _ _))) gi _).mono ?_; rintro e w4 ⟨rfl, v4, t4⟩)
        | fail)
      go_ret
      rw [hF.out]
      exact ⟨rfl, _, r.guest hk hg t4⟩
end

end U
end Go.Proofs.YtnhplapcdgnaaaaGreatDoor
