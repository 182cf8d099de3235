import Derived.Test.YtnhplapcdgnaaaaHostPl
set_option linter.unusedVariables false
set_option linter.unusedSimpArgs false
namespace Go.Proofs.Ytnhplapcdgnaaaa
open Go.RowKit
namespace U

/-! Plain laws of a host and of flat memories, one of each guest. -/
def HK.own : HK → Bool
  | .load | .store | .root | .forget | .drop | .plug | .unplug | .give | .back => true
  | _ => false
/-- What an act of a guest does to its view, and what is told (y: what the host told). -/
def vdid (V : ViewM) (k : HK) (x : ActM) (y : Int × Nat) : ViewM × Int × Nat :=
  match k with
  | .load => ((vload V x.a).1, (((vload V x.a).2.1.toNat : Nat) : Int), (vload V x.a).2.2)
  | .store => vnat (vstore V x.a x.v)
  | .root => vnat (vroot V x.a)
  | .forget => vnat (vforget V x.a)
  | .drop => vnat (vforgetAll V x.a)
  | .plug => (vblock V x.a 1 y.2, y)
  | .unplug => (vblock V x.a 0 y.2, y)
  | .give => (vturn1 V x.a 2 y.2, y)
  | .back => (vturn1 V x.a 1 y.2, y)
  | _ => (V, 0, 0)
section
variable {H : HostM} {j : Nat} {V : ViewM} {k : HK} {x : ActM}
theorem hdid_some (ho : k.own = true) (i : Nat) : ((hdid H k x).1.g i).isSome = (H.g i).isSome := by
  cases k <;> first | (cases ho; done) | exact hon_some_iff H _ _ i | exact hload_some_iff H _ _ i
theorem HSees.didFar (s : HSees H j V) (h : HFine H) (hj : j < 4) (ho : k.own = true) (ne : (j : Int) ≠ x.n) : HSees (hdid H k x).1 j V := by
  cases k <;> first | (cases ho; done) | skip
  · exact s.plug' h.inv hj ne _
  · exact s.unplug' h.inv hj ne _
  · exact s.give' h.inv hj ne _
  · exact s.back' h.inv hj ne _
  · exact s.load' h.inv hj ne _
  · exact s.store' h.inv hj ne _ _
  · exact s.root' h.inv hj ne _
  · exact s.forget' h.inv hj ne _
  · exact s.forgetAll' h.inv hj ne _
theorem HSees.did (s : HSees H j V) (h : HFine H) (hj : j < 4) (ho : k.own = true) (en : x.n = j) :
    (hdid H k x).2 = (vdid V k x (hdid H k x).2).2 ∧ HSees (hdid H k x).1 j (vdid V k x (hdid H k x).2).1 := by
  cases k <;> first | (cases ho; done) | skip
  · unfold hdid vdid hon0; dsimp only; rw [en]; exact ⟨rfl, s.plug h hj _⟩
  · unfold hdid vdid hon0; dsimp only; rw [en]; exact ⟨rfl, s.unplug h hj _⟩
  · unfold hdid vdid hon0; dsimp only; rw [en]; exact ⟨rfl, s.give h hj _⟩
  · unfold hdid vdid hon0; dsimp only; rw [en]; exact ⟨rfl, s.back h hj _⟩
  · unfold hdid vdid; dsimp only; rw [en]; have a := s.load h hj x.a; exact ⟨by rw [a.1], a.2⟩
  · unfold hdid vdid hon0 vnat; dsimp only; rw [en]; have a := s.store h hj x.a x.v; exact ⟨by rw [a.1], a.2⟩
  · unfold hdid vdid hon0 vnat; dsimp only; rw [en]; have a := s.root hj x.a; exact ⟨by rw [a.1], a.2⟩
  · unfold hdid vdid hon0 vnat; dsimp only; rw [en]; have a := s.forget hj x.a; exact ⟨by rw [a.1], a.2⟩
  · unfold hdid vdid hon0 vnat; dsimp only; rw [en]; have a := s.forgetAll hj x.a; exact ⟨by rw [a.1], a.2⟩
theorem vpage_err (s : Nat → Int) (n : Int) : vpage s n ≠ 3 := by unfold vpage; (repeat' split) <;> omega
theorem vat_err (V : ViewM) (a : Int) (wr : Bool) : (vat V a wr).2.2 ≠ 3 := by
  unfold vat
  split
  · (dsimp only; decide)
  · split
    · exact vpage_err _ _
    · split
      · split
        · (dsimp only; decide)
        · split
          · exact vpage_err _ _
          · (dsimp only; decide)
      · split
        · exact vpage_err _ _
        · dsimp only
          split
          · (dsimp only; decide)
          · split
            · (dsimp only; decide)
            · split
              · exact vpage_err _ _
              · (dsimp only; decide)
theorem hon_err {H : HostM} {n : Int} {f : PoolM → GuestM → PoolM × GuestM × Nat} (hf : ∀ G, (f H.p G).2.2 ≠ 3) : (hon H n f).2 ≠ 3 := by
  rcases who_ways H n with h0 | ⟨k, hk, rfl, hg⟩ | ⟨k, G, hk, rfl, hg⟩
  · rw [hon_off h0]; (dsimp only; decide)
  · rw [hon_none hk hg]; (dsimp only; decide)
  · rw [hon_some hk hg]; exact hf G
/-- None is refused for want of a frame. -/
theorem HSees.err (s : HSees H j V) (h : HFine H) (hj : j < 4) (ho : k.own = true) (en : x.n = j) : (hdid H k x).2.2 ≠ 3 := by
  have a := (s.did h hj ho en).1
  cases k <;> first | (cases ho; done) | skip
  · exact hon_err (H := H) (n := x.n) (f := hplugF H x.a) fun G => by unfold hplugF; (repeat' split) <;> (dsimp only; decide)
  · exact hon_err (H := H) (n := x.n) (f := hunplugF x.a) fun G => by unfold hunplugF; (repeat' split) <;> (dsimp only; decide)
  · exact hon_err (H := H) (n := x.n) (f := fun P G => gact G (mgive P G.m x.a)) fun G => by unfold gact mgive; dsimp only; (repeat' split) <;> (dsimp only; decide)
  · exact hon_err (H := H) (n := x.n) (f := hbackF H x.a) fun G => by unfold hbackF gact mback; dsimp only; (repeat' split) <;> (dsimp only; decide)
  · rw [a]; unfold vdid vload; dsimp only; split
    · exact vat_err _ _ _
    · (dsimp only; decide)
  · rw [a]; unfold vdid vnat vstore; dsimp only; split
    · exact vat_err _ _ _
    · (dsimp only; decide)
  · rw [a]; unfold vdid vnat vroot; dsimp only; split <;> (dsimp only; decide)
  · rw [a]; unfold vdid vnat vforget; dsimp only; split <;> (dsimp only; decide)
  · rw [a]; unfold vdid vnat vforgetAll; dsimp only; split <;> (dsimp only; decide)
end

/-- What a flat memory holds is in its bounds. -/
structure VInv (V : ViewM) : Prop where
  c : CInv V.c
  r0 : -1 ≤ V.root
  r1 : V.root ≤ 15
theorem HSees.vinv {H : HostM} {j : Nat} {V : ViewM} (s : HSees H j V) (h : HInv H) (hj : j < 4) : VInv V := by
  obtain ⟨G, hg, t⟩ := s
  have k := h.g j hj G hg
  exact ⟨t.c ▸ k.c, t.root ▸ k.r0, t.root ▸ k.r1⟩
/-- Where an address lies is a page. -/
theorem vat_page {V : ViewM} (h : VInv V) (a : Int) (wr : Bool) (he : (vat V a wr).2.2 = 0) : 0 ≤ (vat V a wr).2.1 ∧ (vat V a wr).2.1 < 16 := by
  revert he
  unfold vat
  split
  · intro he; cases he
  · split
    · intro _; exact ⟨by dsimp only; omega, by dsimp only; omega⟩
    · split
      · rename_i i hc
        have := h.c.ent _ (cacheAt_mem hc).2
        split
        · intro he; cases he
        · split
          · rename_i hz; intro he; exact absurd he hz
          · intro _; exact ⟨this.1, this.2.1⟩
      · split
        · rename_i hz; intro he; exact absurd he hz
        · dsimp only
          split
          · intro he; cases he
          · split
            · intro he; cases he
            · split
              · rename_i hz; intro he; exact absurd he hz
              · intro _; exact ⟨by dsimp only; omega, by dsimp only; omega⟩
/-- A host, and a flat memory of each guest. -/
structure Flats (H : HostM) (F : Nat → Option ViewM) : Prop where
  fine : HFine H
  some_ : ∀ i, i < 4 → (F i).isSome = (H.g i).isSome
  see : ∀ i, i < 4 → ∀ V, F i = some V → HSees H i V
def setF (F : Nat → Option ViewM) (n : Nat) (o : Option ViewM) : Nat → Option ViewM := fun i => if i = n then o else F i
theorem setF_at (F : Nat → Option ViewM) (n : Nat) (o : Option ViewM) : setF F n o n = o := by unfold setF; rw [if_pos rfl]
theorem setF_ne (F : Nat → Option ViewM) {n i : Nat} (h : i ≠ n) (o : Option ViewM) : setF F n o i = F i := by unfold setF; rw [if_neg h]
theorem Flats.fresh (n : Nat) : Flats (HostM.fresh n) (fun _ => none) := ⟨.fresh n, fun _ _ => rfl, fun _ _ _ h => by cases h⟩
section
variable {H : HostM} {F : Nat → Option ViewM}
/-- A guest is added: it was not there. -/
theorem Flats.add (t : Flats H F) (he : (hadd H).2.2 = 0) : ∃ n : Nat, n < 4 ∧ (hadd H).2.1 = n ∧ F n = none ∧ Flats (hadd H).1 (setF F n (some ViewM.fresh)) := by
  have hf : ∃ n, (List.range 4).find? (fun n => (H.g n).isNone) = some n := by
    cases e : (List.range 4).find? (fun n => (H.g n).isNone) with
    | some n => exact ⟨n, rfl⟩
    | none => unfold hadd at he; rw [e] at he; cases he
  obtain ⟨n, hn⟩ := hf
  have m := find_mem hn
  have n4 : n < 4 := List.mem_range.1 m.1
  have gn : H.g n = none := by simpa using m.2
  have e2 : (hadd H).2 = ((n : Int), 0) := by unfold hadd; rw [hn]
  have e1 : (hadd H).1 = H.put n H.p (some GuestM.fresh) := by unfold hadd; rw [hn]
  have fn : F n = none := by have := t.some_ n n4; rw [gn] at this; simpa using this
  refine ⟨n, n4, by rw [e2], fn, t.fine.add, fun i hi => ?_, fun i hi V hV => ?_⟩
  · by_cases ei : i = n
    · subst ei; rw [setF_at, e1, put_at]; rfl
    · rw [setF_ne _ ei, e1, put_ne H ei]; exact t.some_ i hi
  · by_cases ei : i = n
    · subst ei
      rw [setF_at] at hV
      cases hV
      exact HSees.new e2
    · rw [setF_ne _ ei] at hV
      exact (t.see i hi V hV).add' t.fine.inv hi
theorem Flats.noAdd (t : Flats H F) (he : (hadd H).2.2 ≠ 0) : Flats (hadd H).1 F := by
  have : (hadd H).1 = H := by
    revert he
    unfold hadd
    split
    · intro he; exact absurd rfl he
    · intro _; rfl
  rw [this]; exact t
theorem hremove_in {n : Int} (he : (hremove H n).2 = 0) : ∃ k : Nat, k < 4 ∧ n = k ∧ (hremove H n).1.g k = none ∧ ∀ i, i ≠ k → (hremove H n).1.g i = H.g i := by
  revert he
  unfold hremove
  split
  · intro he; cases he
  · split
    · intro he; cases he
    · intro _
      exact ⟨n.toNat, by omega, by omega, put_at _ _ _ _, fun i hi => put_ne _ hi _ _⟩
theorem Flats.remove (t : Flats H F) {n : Int} (he : (hremove H n).2 = 0) : ∃ k : Nat, k < 4 ∧ n = k ∧ Flats (hremove H n).1 (setF F k none) := by
  obtain ⟨k, hk, e, h1, h2⟩ := hremove_in he
  refine ⟨k, hk, e, t.fine.remove n, fun i hi => ?_, fun i hi V hV => ?_⟩
  · by_cases ei : i = k
    · subst ei; rw [setF_at, h1]; rfl
    · rw [setF_ne _ ei, h2 i ei]; exact t.some_ i hi
  · by_cases ei : i = k
    · subst ei; rw [setF_at] at hV; cases hV
    · rw [setF_ne _ ei] at hV
      exact (t.see i hi V hV).remove' t.fine.inv hi (by omega)
theorem Flats.noRemove (t : Flats H F) {n : Int} (he : (hremove H n).2 ≠ 0) : Flats (hremove H n).1 F := by
  have : (hremove H n).1 = H := by
    revert he
    unfold hremove
    split
    · intro _; rfl
    · split
      · intro _; rfl
      · intro he; exact absurd rfl he
  rw [this]; exact t
/-- An act of a guest that is there. -/
theorem Flats.own (t : Flats H F) {k : HK} {x : ActM} {n : Nat} {V : ViewM} (hn : n < 4) (e : x.n = n) (hV : F n = some V) (ho : k.own = true) :
    (hdid H k x).2 = (vdid V k x (hdid H k x).2).2 ∧ (hdid H k x).2.2 ≠ 3 ∧ VInv V ∧ Flats (hdid H k x).1 (setF F n (some (vdid V k x (hdid H k x).2).1)) := by
  have s := t.see n hn V hV
  have d := s.did t.fine hn ho e
  refine ⟨d.1, s.err t.fine hn ho e, s.vinv t.fine.inv hn, t.fine.did k x, fun i hi => ?_, fun i hi W hW => ?_⟩
  · rw [hdid_some ho]
    by_cases ei : i = n
    · subst ei; rw [setF_at, ← t.some_ i hi, hV]; rfl
    · rw [setF_ne _ ei]; exact t.some_ i hi
  · by_cases ei : i = n
    · subst ei
      rw [setF_at] at hW
      cases hW
      exact d.2
    · rw [setF_ne _ ei] at hW
      exact (t.see i hi W hW).didFar t.fine hi ho (by omega)
/-- .. of one that is not. -/
theorem Flats.ownNot (t : Flats H F) {k : HK} {x : ActM} (hn : ∀ n : Nat, n < 4 → x.n = n → F n = none) (ho : k.own = true) : Flats (hdid H k x).1 F := by
  have h : ∀ j : Nat, j < 4 → x.n = j → (H.g j).isSome = false := fun j hj e => by rw [← t.some_ j hj, hn j hj e]; rfl
  have : (hdid H k x).1 = H := by
    cases k <;> first | (cases ho; done) | skip
    all_goals first
      | exact congrArg Prod.fst (off_on h _)
      | exact congrArg Prod.fst (off_load h _)
  rw [this]; exact t
/-- Other acts: scans. -/
theorem Flats.scan (t : Flats H F) (n a : Int) : Flats (hscan H n a).1 F :=
  ⟨t.fine.scan _ _, fun i hi => by rw [hscan_some_iff]; exact t.some_ i hi, fun i hi V hV => (t.see i hi V hV).scan t.fine.inv hi _ _⟩
theorem Flats.scanAll (t : Flats H F) : Flats (hscanAll H).1 F :=
  ⟨t.fine.scanAll, fun i hi => by rw [hscanAll_some_iff]; exact t.some_ i hi, fun i hi V hV => (t.see i hi V hV).scanAll t.fine.inv hi⟩
end

end U
end Go.Proofs.Ytnhplapcdgnaaaa
