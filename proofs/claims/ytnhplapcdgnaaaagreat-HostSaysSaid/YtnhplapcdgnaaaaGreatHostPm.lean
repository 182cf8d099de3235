import Derived.Test.YtnhplapcdgnaaaaGreatHostPl
set_option linter.unusedVariables false
set_option linter.unusedSimpArgs false
namespace Go.Proofs.YtnhplapcdgnaaaaGreat
open Go.RowKit
namespace U

/-! Plain laws of a host and of flat memories, one of each guest. -/
def HK.own : HK → Bool
  | .load | .store | .root | .forget | .drop | .plug | .unplug | .give | .back => true
  | _ => false
/-- What an act of a guest does to its view, and what is told (y: what the host told). -/
def vdid (V : ViewM) (k : HK) (x : ActM) (y : Int × Nat) : ViewM × Int × Nat :=
  match k with
  | .load => ((vload V x.a).1, (((vload V x.a).2.1.toNat : Nat) : Int), (vload V x.a).2.2)
  | .store => vnat (vstore V x.a x.v)
  | .root => vnat (vroot V x.a)
  | .forget => vnat (vforget V x.a)
  | .drop => vnat (vforgetAll V x.a)
  | .plug => (vblock V x.a 1 y.2, y)
  | .unplug => (vblock V x.a 0 y.2, y)
  | .give => (vturn1 V x.a 2 y.2, y)
  | .back => (vturn1 V x.a 1 y.2, y)
  | _ => (V, 0, 0)
section
variable {H : HostM} {j : Nat} {V : ViewM} {k : HK} {x : ActM}
theorem hdid_some (ho : k.own = true) (i : Nat) : ((hdid H k x).1.g i).isSome = (H.g i).isSome := by
  cases k <;> first | (cases ho; done) | exact hon_some_iff H _ _ i | exact hload_some_iff H _ _ i
theorem HSees.didFar (s : HSees H j V) (h : HFine H) (hj : j < 4) (ho : k.own = true) (ne : (j : Int) ≠ x.n) : HSees (hdid H k x).1 j V := by
  cases k <;> first | (cases ho; done) | skip
  · exact s.plug' h.inv hj ne _
  · exact s.unplug' h.inv hj ne _
  · exact s.give' h.inv hj ne _
  · exact s.back' h.inv hj ne _
  · exact s.load' h.inv hj ne _
  · exact s.store' h.inv hj ne _ _
  · exact s.root' h.inv hj ne _
  · exact s.forget' h.inv hj ne _
  · exact s.forgetAll' h.inv hj ne _
theorem HSees.did (s : HSees H j V) (h : HFine H) (hj : j < 4) (ho : k.own = true) (en : x.n = j) :
    (hdid H k x).2 = (vdid V k x (hdid H k x).2).2 ∧ HSees (hdid H k x).1 j (vdid V k x (hdid H k x).2).1 := by
  cases k <;> first | (cases ho; done) | skip
  · unfold hdid vdid hon0; dsimp only; rw [en]; exact ⟨rfl, s.plug h hj _⟩
  · unfold hdid vdid hon0; dsimp only; rw [en]; exact ⟨rfl, s.unplug h hj _⟩
  · unfold hdid vdid hon0; dsimp only; rw [en]; exact ⟨rfl, s.give h hj _⟩
  · unfold hdid vdid hon0; dsimp only; rw [en]; exact ⟨rfl, s.back h hj _⟩
  · unfold hdid vdid; dsimp only; rw [en]; have a := s.load h hj x.a; exact ⟨by rw [a.1], a.2⟩
  · unfold hdid vdid hon0 vnat; dsimp only; rw [en]; have a := s.store h hj x.a x.v; exact ⟨by rw [a.1], a.2⟩
  · unfold hdid vdid hon0 vnat; dsimp only; rw [en]; have a := s.root hj x.a; exact ⟨by rw [a.1], a.2⟩
  · unfold hdid vdid hon0 vnat; dsimp only; rw [en]; have a := s.forget hj x.a; exact ⟨by rw [a.1], a.2⟩
  · unfold hdid vdid hon0 vnat; dsimp only; rw [en]; have a := s.forgetAll hj x.a; exact ⟨by rw [a.1], a.2⟩
theorem vpage_err (s : Nat → Int) (n : Int) : vpage s n ≠ 3 := by unfold vpage; (repeat' split) <;> omega
theorem vat_err (V : ViewM) (a : Int) (wr : Bool) : (vat V a wr).2.2 ≠ 3 := by
  unfold vat
  split
  · (dsimp only; decide)
  · split
    · exact vpage_err _ _
    · split
      · split
        · (dsimp only; decide)
        · split
          · exact vpage_err _ _
          · (dsimp only; decide)
      · split
        · exact vpage_err _ _
        · dsimp only
          split
          · (dsimp only; decide)
          · split
            · (dsimp only; decide)
            · split
              · exact vpage_err _ _
              · (dsimp only; decide)
theorem hon_err {H : HostM} {n : Int} {f : PoolM → GuestM → PoolM × GuestM × Nat} (hf : ∀ G, (f H.p G).2.2 ≠ 3) : (hon H n f).2 ≠ 3 := by
  rcases who_ways H n with h0 | ⟨k, hk, rfl, hg⟩ | ⟨k, G, hk, rfl, hg⟩
  · rw [hon_off h0]; (dsimp only; decide)
  · rw [hon_none hk hg]; (dsimp only; decide)
  · rw [hon_some hk hg]; exact hf G
/-- None is refused for want of a frame. -/
theorem HSees.err (s : HSees H j V) (h : HFine H) (hj : j < 4) (ho : k.own = true) (en : x.n = j) : (hdid H k x).2.2 ≠ 3 := by
  have a := (s.did h hj ho en).1
  cases k <;> first | (cases ho; done) | skip
  · exact hon_err (H := H) (n := x.n) (f := hplugF H x.a) fun G => by unfold hplugF; (repeat' split) <;> (dsimp only; decide)
  · exact hon_err (H := H) (n := x.n) (f := hunplugF x.a) fun G => by unfold hunplugF; (repeat' split) <;> (dsimp only; decide)
  · exact hon_err (H := H) (n := x.n) (f := fun P G => gact G (mgive P G.m x.a)) fun G => by unfold gact mgive; dsimp only; (repeat' split) <;> (dsimp only; decide)
  · exact hon_err (H := H) (n := x.n) (f := hbackF H x.a) fun G => by unfold hbackF gact mback; dsimp only; (repeat' split) <;> (dsimp only; decide)
  · rw [a]; unfold vdid vload; dsimp only; split
    · exact vat_err _ _ _
    · (dsimp only; decide)
  · rw [a]; unfold vdid vnat vstore; dsimp only; split
    · exact vat_err _ _ _
    · (dsimp only; decide)
  · rw [a]; unfold vdid vnat vroot; dsimp only; split <;> (dsimp only; decide)
  · rw [a]; unfold vdid vnat vforget; dsimp only; split <;> (dsimp only; decide)
  · rw [a]; unfold vdid vnat vforgetAll; dsimp only; split <;> (dsimp only; decide)
end

/-- What a flat memory holds is in its bounds. -/
structure VInv (V : ViewM) : Prop where
  c : CInv V.c
  r0 : -1 ≤ V.root
  r1 : V.root ≤ 15
theorem HSees.vinv {H : HostM} {j : Nat} {V : ViewM} (s : HSees H j V) (h : HInv H) (hj : j < 4) : VInv V := by
  obtain ⟨G, hg, t⟩ := s
  have k := h.g j hj G hg
  exact ⟨t.c ▸ k.c, t.root ▸ k.r0, t.root ▸ k.r1⟩
/-- Where an address lies is a page. -/
theorem vat_page {V : ViewM} (h : VInv V) (a : Int) (wr : Bool) (he : (vat V a wr).2.2 = 0) : 0 ≤ (vat V a wr).2.1 ∧ (vat V a wr).2.1 < 16 := by
  revert he
  unfold vat
  split
  · intro he; cases he
  · split
    · intro _; exact ⟨by dsimp only; omega, by dsimp only; omega⟩
    · split
      · rename_i i hc
        have := h.c.ent _ (cacheAt_mem hc).2
        split
        · intro he; cases he
        · split
          · rename_i hz; intro he; exact absurd he hz
          · intro _; exact ⟨this.1, this.2.1⟩
      · split
        · rename_i hz; intro he; exact absurd he hz
        · dsimp only
          split
          · intro he; cases he
          · split
            · intro he; cases he
            · split
              · rename_i hz; intro he; exact absurd he hz
              · intro _; exact ⟨by dsimp only; omega, by dsimp only; omega⟩
/-- A host, and a flat memory of each guest. -/
structure Flats (H : HostM) (F : Nat → Option ViewM) : Prop where
  fine : HFine H
  some_ : ∀ i, i < 4 → (F i).isSome = (H.g i).isSome
  see : ∀ i, i < 4 → ∀ V, F i = some V → HSees H i V
def setF (F : Nat → Option ViewM) (n : Nat) (o : Option ViewM) : Nat → Option ViewM := fun i => if i = n then o else F i
theorem setF_at (F : Nat → Option ViewM) (n : Nat) (o : Option ViewM) : setF F n o n = o := by unfold setF; rw [if_pos rfl]
theorem setF_ne (F : Nat → Option ViewM) {n i : Nat} (h : i ≠ n) (o : Option ViewM) : setF F n o i = F i := by unfold setF; rw [if_neg h]
theorem Flats.fresh (n : Nat) : Flats (HostM.fresh n) (fun _ => none) := ⟨.fresh n, fun _ _ => rfl, fun _ _ _ h => by cases h⟩
section
variable {H : HostM} {F : Nat → Option ViewM}
/-- A guest is added: it was not there. -/
theorem Flats.add (t : Flats H F) (he : (hadd H).2.2 = 0) : ∃ n : Nat, n < 4 ∧ (hadd H).2.1 = n ∧ F n = none ∧ Flats (hadd H).1 (setF F n (some ViewM.fresh)) := by
  have hf : ∃ n, (List.range 4).find? (fun n => (H.g n).isNone) = some n := by
    cases e : (List.range 4).find? (fun n => (H.g n).isNone) with
    | some n => exact ⟨n, rfl⟩
    | none => unfold hadd at he; rw [e] at he; cases he
  obtain ⟨n, hn⟩ := hf
  have m := find_mem hn
  have n4 : n < 4 := List.mem_range.1 m.1
  have gn : H.g n = none := by simpa using m.2
  have e2 : (hadd H).2 = ((n : Int), 0) := by unfold hadd; rw [hn]
  have e1 : (hadd H).1 = H.put n H.p (some GuestM.fresh) := by unfold hadd; rw [hn]
  have fn : F n = none := by have := t.some_ n n4; rw [gn] at this; simpa using this
  refine ⟨n, n4, by rw [e2], fn, t.fine.add, fun i hi => ?_, fun i hi V hV => ?_⟩
  · by_cases ei : i = n
    · subst ei; rw [setF_at, e1, put_at]; rfl
    · rw [setF_ne _ ei, e1, put_ne H ei]; exact t.some_ i hi
  · by_cases ei : i = n
    · subst ei
      rw [setF_at] at hV
      cases hV
      exact HSees.new e2
    · rw [setF_ne _ ei] at hV
      exact (t.see i hi V hV).add' t.fine.inv hi
theorem Flats.noAdd (t : Flats H F) (he : (hadd H).2.2 ≠ 0) : Flats (hadd H).1 F := by
  have : (hadd H).1 = H := by
    revert he
    unfold hadd
    split
    · intro he; exact absurd rfl he
    · intro _; rfl
  rw [this]; exact t
theorem hremove_in {n : Int} (he : (hremove H n).2 = 0) : ∃ k : Nat, k < 4 ∧ n = k ∧ (hremove H n).1.g k = none ∧ ∀ i, i ≠ k → (hremove H n).1.g i = H.g i := by
  revert he
  unfold hremove
  split
  · intro he; cases he
  · split
    · intro he; cases he
    · intro _
      exact ⟨n.toNat, by omega, by omega, put_at _ _ _ _, fun i hi => put_ne _ hi _ _⟩
theorem Flats.remove (t : Flats H F) {n : Int} (he : (hremove H n).2 = 0) : ∃ k : Nat, k < 4 ∧ n = k ∧ Flats (hremove H n).1 (setF F k none) := by
  obtain ⟨k, hk, e, h1, h2⟩ := hremove_in he
  refine ⟨k, hk, e, t.fine.remove n, fun i hi => ?_, fun i hi V hV => ?_⟩
  · by_cases ei : i = k
    · subst ei; rw [setF_at, h1]; rfl
    · rw [setF_ne _ ei, h2 i ei]; exact t.some_ i hi
  · by_cases ei : i = k
    · subst ei; rw [setF_at] at hV; cases hV
    · rw [setF_ne _ ei] at hV
      exact (t.see i hi V hV).remove' t.fine.inv hi (by omega)
theorem Flats.noRemove (t : Flats H F) {n : Int} (he : (hremove H n).2 ≠ 0) : Flats (hremove H n).1 F := by
  have : (hremove H n).1 = H := by
    revert he
    unfold hremove
    split
    · intro _; rfl
    · split
      · intro _; rfl
      · intro he; exact absurd rfl he
  rw [this]; exact t
/-- An act of a guest that is there. -/
theorem Flats.own (t : Flats H F) {k : HK} {x : ActM} {n : Nat} {V : ViewM} (hn : n < 4) (e : x.n = n) (hV : F n = some V) (ho : k.own = true) :
    (hdid H k x).2 = (vdid V k x (hdid H k x).2).2 ∧ (hdid H k x).2.2 ≠ 3 ∧ VInv V ∧ Flats (hdid H k x).1 (setF F n (some (vdid V k x (hdid H k x).2).1)) := by
  have s := t.see n hn V hV
  have d := s.did t.fine hn ho e
  refine ⟨d.1, s.err t.fine hn ho e, s.vinv t.fine.inv hn, t.fine.did k x, fun i hi => ?_, fun i hi W hW => ?_⟩
  · rw [hdid_some ho]
    by_cases ei : i = n
    · subst ei; rw [setF_at, ← t.some_ i hi, hV]; rfl
    · rw [setF_ne _ ei]; exact t.some_ i hi
  · by_cases ei : i = n
    · subst ei
      rw [setF_at] at hW
      cases hW
      exact d.2
    · rw [setF_ne _ ei] at hW
      exact (t.see i hi W hW).didFar t.fine hi ho (by omega)
/-- .. of one that is not. -/
theorem Flats.ownNot (t : Flats H F) {k : HK} {x : ActM} (hn : ∀ n : Nat, n < 4 → x.n = n → F n = none) (ho : k.own = true) : Flats (hdid H k x).1 F := by
  have h : ∀ j : Nat, j < 4 → x.n = j → (H.g j).isSome = false := fun j hj e => by rw [← t.some_ j hj, hn j hj e]; rfl
  have : (hdid H k x).1 = H := by
    cases k <;> first | (cases ho; done) | skip
    all_goals first
      | exact congrArg Prod.fst (off_on h _)
      | exact congrArg Prod.fst (off_load h _)
  rw [this]; exact t
/-- Other acts: scans. -/
theorem Flats.scan (t : Flats H F) (n a : Int) : Flats (hscan H n a).1 F :=
  ⟨t.fine.scan _ _, fun i hi => by rw [hscan_some_iff]; exact t.some_ i hi, fun i hi V hV => (t.see i hi V hV).scan t.fine.inv hi _ _⟩
theorem Flats.scanAll (t : Flats H F) : Flats (hscanAll H).1 F :=
  ⟨t.fine.scanAll, fun i hi => by rw [hscanAll_some_iff]; exact t.some_ i hi, fun i hi V hV => (t.see i hi V hV).scanAll t.fine.inv hi⟩
end

end U
end Go.Proofs.YtnhplapcdgnaaaaGreat

set_option linter.unusedVariables false
set_option linter.unusedSimpArgs false
namespace Go.Proofs.YtnhplapcdgnaaaaGreat
open Go.RowKit
namespace U

/-! Plain laws of a host: behind a scan of all pages, the same bytes are in one frame. -/
/-- The bytes of page k. -/
def hrow (H : HostM) (k : Nat) : Nat → UInt8 := match H.g (k / 16) with | some G => mpage H.p G.m (k % 16) | none => fun _ => 0
def RowEq (R S : Nat → UInt8) : Prop := ∀ j, j < 16 → R j = S j
theorem RowEq.trans {R S T : Nat → UInt8} (h : RowEq R S) (k : RowEq S T) : RowEq R T := fun j hj => (h j hj).trans (k j hj)
theorem RowEq.symm {R S : Nat → UInt8} (h : RowEq R S) : RowEq S R := fun j hj => (h j hj).symm
section
variable {H : HostM} {N n : Nat} {G : GuestM}
theorem hleaf_some {k : Nat} (h : (hleaf H k).there = true) : ∃ G, H.g (k / 16) = some G ∧ hleaf H k = G.m.leaf (k % 16) := by
  unfold hleaf at *
  cases e : H.g (k / 16) with
  | none => rw [e] at h; cases h
  | some G => exact ⟨G, rfl, rfl⟩
theorem hrow_there {k : Nat} (h : (hleaf H k).there = true) : hrow H k = H.p.b (hleaf H k).frame.toNat := by
  obtain ⟨G, hg, e⟩ := hleaf_some h
  rw [e] at h
  unfold hrow
  rw [hg, e]
  exact mpage_at h
theorem hleaf_used (hI : HInv H) {k : Nat} (hk : k < 64) (h : (hleaf H k).there = true) : H.p.used (hleaf H k).frame = true := by
  obtain ⟨G, hg, e⟩ := hleaf_some h
  rw [e] at h ⊢
  exact (hI.gi (n := k / 16) (by omega) hg).m.used (by omega) h
theorem hsame_row (hI : HInv H) {k k' : Nat} (hk : k < 64) (hk' : k' < 64) (h : (hleaf H k).there = true) (h' : (hleaf H k').there = true) (e : RowEq (hrow H k) (hrow H k')) : H.p.same (hleaf H k).frame (hleaf H k').frame = true := by
  rw [hrow_there h, hrow_there h'] at e
  unfold PoolM.same
  rw [hleaf_used hI hk h, hleaf_used hI hk' h', rowB_eq e]
  rfl
theorem same_row {k k' : Nat} (h : (hleaf H k).there = true) (h' : (hleaf H k').there = true) (e : H.p.same (hleaf H k).frame (hleaf H k').frame = true) : RowEq (hrow H k) (hrow H k') := by
  rw [hrow_there h, hrow_there h']
  exact (same_used e).2.2
/-- The first N pages: the same bytes are in one frame. -/
def Merged (H : HostM) (N : Nat) : Prop := ∀ k k', k < N → k' < N → (hleaf H k).there = true → (hleaf H k').there = true → RowEq (hrow H k) (hrow H k') → (hleaf H k).frame = (hleaf H k').frame
theorem hview (G : GuestM) (hg : H.g n = some G) : HSees H n ⟨G.m.state, mpage H.p G.m, G.root, G.c⟩ := ⟨G, hg, fun _ _ => rfl, fun _ _ _ _ => rfl, rfl, rfl⟩
theorem hscan_row (hI : HInv H) (m page : Int) {k : Nat} (hk : k < 64) : RowEq (hrow (hscan H m page).1 k) (hrow H k) := fun j hj => by
  unfold hrow
  cases e : H.g (k / 16) with
  | none =>
    have := hscan_some_iff H m page (k / 16)
    rw [e] at this
    cases e2 : (hscan H m page).1.g (k / 16) with
    | none => rfl
    | some G => rw [e2] at this; cases this
  | some G =>
    obtain ⟨G', hg', t⟩ := (hview G e).scan hI (by omega) m page
    rw [hg']
    exact (t.b (k % 16) (by omega) j hj).symm
theorem hjoin_leaf (hI : HInv H) (hn : n < 4) (hg : H.g n = some G) {p : Nat} (hp : p < 16) (ht : (G.m.leaf p).there = true) {fr : Int} (hne : (G.m.leaf p).frame ≠ fr) (hs : H.p.same (G.m.leaf p).frame fr = true) (k : Nat) :
    (hleaf (hjoin H n G (p : Int) fr).1 k).there = (hleaf H k).there ∧ (hleaf (hjoin H n G (p : Int) fr).1 k).frame = if k = 16 * n + p then fr else (hleaf H k).frame := by
  have s := sealM_same G.m fr 16
  have ej : (mjoin H.p (sealM G.m fr 16) (p : Int) fr).2.1 = (sealM G.m fr 16).setLeaf p ⟨true, false, fr⟩ := by
    unfold mjoin
    rw [if_pos (onB_iff.2 ⟨by omega, by omega⟩), Int.toNat_natCast, (s p).1, (s p).2.1, ht, hs, if_pos]
    simpa using hne
  by_cases ek : k / 16 = n
  · have e1 : hleaf (hjoin H n G (p : Int) fr).1 k = ((sealM G.m fr 16).setLeaf p ⟨true, false, fr⟩).leaf (k % 16) := by
      unfold hleaf hjoin
      dsimp only
      rw [ek, put_at]
      show (mjoin H.p (sealM G.m fr 16) (p : Int) fr).2.1.leaf (k % 16) = _
      rw [ej]
    have e2 : hleaf H k = G.m.leaf (k % 16) := by unfold hleaf; rw [ek, hg]
    rw [e1, e2]
    unfold MapM.setLeaf
    dsimp only
    by_cases ep : k % 16 = p
    · rw [if_pos ep, if_pos (by omega), ep, ht]; exact ⟨rfl, rfl⟩
    · rw [if_neg ep, if_neg (by omega)]; exact ⟨(s _).1, (s _).2.1⟩
  · have e1 : hleaf (hjoin H n G (p : Int) fr).1 k = hleaf (hsealN H fr 64) k := by
      unfold hleaf hjoin
      dsimp only
      rw [put_ne _ ek]
    rw [e1, if_neg (by omega)]
    unfold hleaf
    rw [hsealN_g]
    cases e : H.g (k / 16) with
    | none => exact ⟨rfl, rfl⟩
    | some J => exact ⟨(sealM_same J.m fr _ _).1, (sealM_same J.m fr _ _).2.1⟩
/-- What a scan of page N does: nothing, or the page joins one ahead of it. -/
theorem hscan_ways (hI : HInv H) (hN : N < 64) :
    (hscan H ((N / 16 : Nat) : Int) ((N % 16 : Nat) : Int)).1 = H ∧ (hscan H ((N / 16 : Nat) : Int) ((N % 16 : Nat) : Int)).2.1 = false ∧
      ((hleaf H N).there = true → ∀ k, k < N → (hleaf H k).there = true → RowEq (hrow H k) (hrow H N) → ∃ i, i < N ∧ (hleaf H i).there = true ∧ RowEq (hrow H i) (hrow H N) ∧ (hleaf H i).frame = (hleaf H N).frame) ∨
    (hleaf H N).there = true ∧ ∃ i, i < N ∧ (hleaf H i).there = true ∧ RowEq (hrow H i) (hrow H N) ∧ (hleaf H i).frame ≠ (hleaf H N).frame ∧
      ∀ k, (hleaf (hscan H ((N / 16 : Nat) : Int) ((N % 16 : Nat) : Int)).1 k).there = (hleaf H k).there ∧ (hleaf (hscan H ((N / 16 : Nat) : Int) ((N % 16 : Nat) : Int)).1 k).frame = if k = N then (hleaf H i).frame else (hleaf H k).frame := by
  have h4 : N / 16 < 4 := by omega
  have hp : N % 16 < 16 := by omega
  cases e : H.g (N / 16) with
  | none =>
    rw [hscan_none h4 e]
    refine .inl ⟨rfl, rfl, fun h => ?_⟩
    obtain ⟨G, hg, _⟩ := hleaf_some h
    rw [e] at hg; cases hg
  | some G =>
    have el : hleaf H N = G.m.leaf (N % 16) := by unfold hleaf; rw [e]
    rw [hscan_some h4 e]
    unfold hscanG
    rw [if_pos (onB_iff.2 ⟨by omega, by omega⟩), Int.toNat_natCast, ← el, show 16 * (N / 16) + N % 16 = N by omega]
    by_cases ht : (hleaf H N).there = true
    · rw [if_pos ht]
      cases hf : hfirst H (hleaf H N).frame N with
      | none =>
        refine .inl ⟨rfl, rfl, fun _ k hk htk hr => ?_⟩
        have := List.find?_eq_none.1 hf k (List.mem_range.2 hk)
        exfalso
        apply this
        unfold hhit
        rw [htk, hsame_row hI (by omega) hN htk ht hr]
        rfl
      | some i =>
        have m := find_mem hf
        have hi := List.mem_range.1 m.1
        have h2 : (hleaf H i).there = true ∧ H.p.same (hleaf H i).frame (hleaf H N).frame = true := by
          have := m.2
          unfold hhit at this
          simpa using this
        have hr := same_row h2.1 ht h2.2
        dsimp only
        by_cases ef : (hleaf H i).frame = (hleaf H N).frame
        · rw [if_pos ef]
          exact .inl ⟨rfl, rfl, fun _ k hk htk hr2 => ⟨i, hi, h2.1, hr, ef⟩⟩
        · rw [if_neg ef]
          refine .inr ⟨ht, i, hi, h2.1, hr, ef, fun k => ?_⟩
          have hs := hsame_row hI hN (by omega) ht h2.1 hr.symm
          have := hjoin_leaf hI h4 e hp (by rw [← el]; exact ht) (fr := (hleaf H i).frame) (by rw [← el]; exact Ne.symm ef) (by rw [← el]; exact hs) k
          rw [show 16 * (N / 16) + N % 16 = N by omega] at this
          exact this
    · rw [if_neg ht]
      exact .inl ⟨rfl, rfl, fun h => absurd h ht⟩
theorem Merged.step (hI : HInv H) (hN : N < 64) (m : Merged H N) : Merged (hscan H ((N / 16 : Nat) : Int) ((N % 16 : Nat) : Int)).1 (N + 1) := by
  rcases hscan_ways hI hN with ⟨e, _, hw⟩ | ⟨ht, i, hi, hti, hri, hne, hl⟩
  · rw [e]
    -- a page ahead of N with the bytes of N is in its frame
    have key : (hleaf H N).there = true → ∀ k, k < N → (hleaf H k).there = true → RowEq (hrow H k) (hrow H N) → (hleaf H k).frame = (hleaf H N).frame := fun ht k hk htk hr => by
      obtain ⟨i, hi, hti, hri, hfi⟩ := hw ht k hk htk hr
      rw [m k i hk hi htk hti (hr.trans hri.symm), hfi]
    intro k k' hk hk' htk htk' hr
    by_cases e1 : k = N
    · by_cases e2 : k' = N
      · rw [e1, e2]
      · subst e1
        exact (key htk k' (by omega) htk' hr.symm).symm
    · by_cases e2 : k' = N
      · subst e2
        exact key htk' k (by omega) htk hr
      · exact m k k' (by omega) (by omega) htk htk' hr
  · intro k k' hk hk' htk htk' hr
    have rk := hscan_row hI ((N / 16 : Nat) : Int) ((N % 16 : Nat) : Int) (k := k) (by omega)
    have rk' := hscan_row hI ((N / 16 : Nat) : Int) ((N % 16 : Nat) : Int) (k := k') (by omega)
    have hr2 := (rk.symm.trans hr).trans rk'
    rw [(hl k).1] at htk
    rw [(hl k').1] at htk'
    rw [(hl k).2, (hl k').2]
    by_cases e1 : k = N
    · by_cases e2 : k' = N
      · rw [if_pos e1, if_pos e2]
      · rw [if_pos e1, if_neg e2]
        subst e1
        exact m i k' hi (by omega) hti htk' (hri.trans hr2)
    · by_cases e2 : k' = N
      · rw [if_neg e1, if_pos e2]
        subst e2
        exact m k i (by omega) hi htk hti (hr2.trans hri.symm)
      · rw [if_neg e1, if_neg e2]
        exact m k k' (by omega) (by omega) htk htk' hr2
theorem Merged.all (hI : HInv H) : ∀ N, N ≤ 64 → Merged (hscanN H N).1 N := by
  intro N
  induction N with
  | zero => exact fun _ k k' hk => absurd hk (by omega)
  | succ N ih => exact fun hN => (ih (by omega)).step (hI.scanN N) (by omega)
theorem Merged.still (hI : HInv H) (m : Merged H 64) (hN : N < 64) : (hscan H ((N / 16 : Nat) : Int) ((N % 16 : Nat) : Int)).1 = H ∧ (hscan H ((N / 16 : Nat) : Int) ((N % 16 : Nat) : Int)).2.1 = false := by
  rcases hscan_ways hI hN with ⟨e, e2, _⟩ | ⟨ht, i, hi, hti, hri, hne, hl⟩
  · exact ⟨e, e2⟩
  · exact absurd (m i N (by omega) hN hti ht hri) hne
theorem Merged.stillN (hI : HInv H) (m : Merged H 64) : ∀ N, N ≤ 64 → hscanN H N = (H, 0) := by
  intro N
  induction N with
  | zero => exact fun _ => rfl
  | succ N ih =>
    intro hN
    have e := ih (by omega)
    have s := m.still hI (N := N) (by omega)
    show ((hscan (hscanN H N).1 ((N / 16 : Nat) : Int) ((N % 16 : Nat) : Int)).1, (hscanN H N).2 + (if (hscan (hscanN H N).1 ((N / 16 : Nat) : Int) ((N % 16 : Nat) : Int)).2.1 then 1 else 0)) = _
    rw [e]
    dsimp only
    rw [s.1, s.2]
    rfl
/-! Frames that are free stay free. -/
def NoLess (P P' : PoolM) : Prop := P'.n = P.n ∧ ∀ i, P.refs i = 0 → P'.refs i = 0
theorem NoLess.left {P P' : PoolM} (h : NoLess P P') : P.left ≤ P'.left := by
  unfold PoolM.left PoolM.leftTo
  rw [h.1]
  refine List.countP_mono_left fun i _ hi => ?_
  simp only [beq_iff_eq] at hi ⊢
  exact h.2 i hi
theorem NoLess.trans {P P' P'' : PoolM} (h : NoLess P P') (k : NoLess P' P'') : NoLess P P'' := ⟨k.1.trans h.1, fun i hi => k.2 i (h.2 i hi)⟩
theorem NoLess.refl (P : PoolM) : NoLess P P := ⟨rfl, fun _ h => h⟩
theorem NoLess.share (P : PoolM) (f k : Int) : NoLess P (P.share f k).1 := by
  unfold PoolM.share
  split
  · rename_i hu
    refine ⟨rfl, fun i hi => ?_⟩
    unfold PoolM.setRef
    dsimp only
    split
    · rename_i e
      have : 0 < P.refs f.toNat := by
        unfold PoolM.used at hu
        simp only [Bool.and_eq_true, decide_eq_true_eq] at hu
        exact hu.2.2
      rw [← e] at this
      omega
    · exact hi
  · exact .refl P
theorem NoLess.join (P : PoolM) (M : MapM) (n fr : Int) : NoLess P (mjoin P M n fr).1 := by
  unfold mjoin
  split
  · split
    · exact (NoLess.share P fr 1).trans (.share _ _ _)
    · exact .refl P
  · exact .refl P
theorem NoLess.scan (H : HostM) (n page : Int) : NoLess H.p (hscan H n page).1.p := by
  rcases who_ways H n with h0 | ⟨k, hk, rfl, hg⟩ | ⟨k, G, hk, rfl, hg⟩
  · rw [hscan_off h0]; exact .refl _
  · rw [hscan_none hk hg]; exact .refl _
  · rw [hscan_some hk hg]
    unfold hscanG
    split
    · split
      · split
        · exact .refl _
        · split
          · exact .refl _
          · exact .join H.p (sealM G.m _ 16) _ _
      · exact .refl _
    · exact .refl _
theorem NoLess.scanN (H : HostM) (k : Nat) : NoLess H.p (hscanN H k).1.p := by
  induction k with
  | zero => exact .refl _
  | succ k ih => exact ih.trans (.scan _ _ _)
/-- What the law finds behind a scan of all. -/
theorem merge_law (hF : HFine H) : Merged (hscanAll H).1 64 ∧ H.p.left ≤ (hscanAll H).1.p.left ∧ (hscanAll (hscanAll H).1) = ((hscanAll H).1, 0) := by
  have a := Merged.all hF.inv
  have b := fun N => (NoLess.scanN H N).left
  have c := fun N => (hF.inv.scanN N)
  have d : ∀ N, N ≤ 64 → N = 64 → hscanN (hscanN H N).1 N = ((hscanN H N).1, 0) := fun N hN e => (Merged.stillN (c N) (by subst e; exact a _ hN) N hN)
  unfold hscanAll
  generalize hN : 64 = N at *
  exact ⟨a N (Nat.le_refl _), b N, d N (Nat.le_refl _) rfl⟩
/-- A page that is there, told by its guest with its tables off. -/
theorem load_there (hI : HInv H) (hn : n < 4) (hg : H.g n = some G) (hr : G.root = -1) {p i : Nat} (hp : p < 16) (hi : i < 16) (ht : (G.m.leaf p).there = true) : hload H n ((16 * p + i : Nat) : Int) = (H, H.p.b (G.m.leaf p).frame.toNat i, 0) := by
  have gi := hI.gi hn hg
  have st := (gi.m.here p hp ht).1
  have et : mtouch H.p G.m ((p : Nat) : Int) false = (H.p, G.m, (G.m.leaf p).frame, false, 0) := by
    unfold mtouch
    rw [if_pos (onB_iff.2 ⟨by omega, by omega⟩), Int.toNat_natCast, st, if_neg (by omega), if_neg (by omega), if_pos (by rw [ht]; simp)]
  rw [hload_some hn hg]
  have ef : gframe H.p G ((16 * p + i : Nat) : Int) false = (H.p, G, (G.m.leaf p).frame, 0) := by
    unfold gframe
    rw [if_neg (by omega), if_pos (by omega), show ((16 * p + i : Nat) : Int) / 16 = ((p : Nat) : Int) by omega]
    unfold gtouch
    rw [et]
  have el : gload H.p G ((16 * p + i : Nat) : Int) = (H.p, G, H.p.b (G.m.leaf p).frame.toNat i, 0) := by
    unfold gload
    rw [ef]
    have : ((i : Int) % 16).toNat = i := by omega
    simp [this, gbyte]
  rw [el]
  dsimp only
  rw [put_same hg rfl]
end

end U
end Go.Proofs.YtnhplapcdgnaaaaGreat

set_option linter.unusedVariables false
set_option linter.unusedSimpArgs false
namespace Go.Proofs.YtnhplapcdgnaaaaGreat
open Go.RowKit
namespace U

/-! Plain laws of a host: counts. -/
/-- The guests that are there. -/
def gl (H : HostM) : List Nat := (List.range 4).filter fun n => (H.g n).isSome
def glSum (H : HostM) (f : Option GuestM → Nat) (l : List Nat) : Nat := (l.map fun n => f (H.g n)).sum
theorem gl_mem {H : HostM} {n : Nat} (h : n ∈ gl H) : n < 4 ∧ ∃ G, H.g n = some G := by
  unfold gl at h
  have := List.mem_filter.1 h
  exact ⟨List.mem_range.1 this.1, Option.isSome_iff_exists.1 this.2⟩
theorem gl_sum (H : HostM) (f : Option GuestM → Nat) (hf : f none = 0) : glSum H f (gl H) = f (H.g 0) + f (H.g 1) + f (H.g 2) + f (H.g 3) := by
  unfold glSum gl
  rw [show List.range 4 = [0, 1, 2, 3] from rfl]
  cases e0 : H.g 0 <;> cases e1 : H.g 1 <;> cases e2 : H.g 2 <;> cases e3 : H.g 3 <;> simp [List.filter, e0, e1, e2, e3, hf] <;> omega
theorem gl_cnt (H : HostM) (f : Nat) : glSum H (fun o => ocnt o f) (gl H) = hcnt H f := gl_sum H _ rfl
theorem gl_prom (H : HostM) : glSum H oprom (gl H) = hprom H := (gl_sum H _ rfl).trans (hprom_eq H).symm
theorem glSum_snoc (H : HostM) (f : Option GuestM → Nat) (l : List Nat) (n : Nat) : glSum H f (l ++ [n]) = glSum H f l + f (H.g n) := by
  unfold glSum
  simp
/-- Counts of the first k pages. -/
def cntK (M : MapM) (k f : Nat) : Nat := (List.range k).countP (inF M f)
def plainK (M : MapM) (k : Nat) : Nat := (List.range k).countP (fun i => M.state i == 1)
theorem cntK_16 (M : MapM) (f : Nat) : cntK M 16 f = mcnt M f := rfl
theorem plainK_16 (M : MapM) : plainK M 16 = plainN M := rfl
theorem cntK_succ (M : MapM) (k f : Nat) : cntK M (k + 1) f = cntK M k f + if inF M f k then 1 else 0 := by
  unfold cntK
  rw [List.range_succ, List.countP_append, List.countP_singleton]
theorem plainK_succ (M : MapM) (k : Nat) : plainK M (k + 1) = plainK M k + if M.state k = 1 then 1 else 0 := by
  unfold plainK
  rw [List.range_succ, List.countP_append, List.countP_singleton]
  simp
def usedN (H : HostM) (n : Nat) : Nat := (List.range n).countP fun f => decide (0 < hcnt H f)
theorem usedN_succ (H : HostM) (n : Nat) : usedN H (n + 1) = usedN H n + if 0 < hcnt H n then 1 else 0 := by
  unfold usedN
  rw [List.range_succ, List.countP_append, List.countP_singleton]
  simp
section
variable {H : HostM}
theorem used_left (h : HInv H) : usedN H H.p.n + H.p.left = H.p.n := by
  have : ∀ n, n ≤ H.p.n → usedN H n + H.p.leftTo n = n := by
    intro n
    induction n with
    | zero => intro _; rfl
    | succ n ih =>
      intro hn
      have := ih (by omega)
      rw [usedN_succ]
      have e : H.p.leftTo (n + 1) = H.p.leftTo n + if H.p.refs n = 0 then 1 else 0 := by
        unfold PoolM.leftTo
        rw [List.range_succ, List.countP_append, List.countP_singleton]
        simp
      rw [e, h.cnt n (by omega)]
      by_cases hz : hcnt H n = 0
      · rw [hz]; simp; omega
      · rw [if_pos (by omega), if_neg (by omega)]; omega
  exact this _ (Nat.le_refl _)
theorem usedN_sum (H : HostM) (n : Nat) : usedN H n ≤ nSum n (hcnt H) := by
  induction n with
  | zero => exact Nat.zero_le _
  | succ n ih =>
    rw [usedN_succ]
    show _ ≤ nSum n (hcnt H) + hcnt H n
    split <;> omega
theorem used_prom (h : HInv H) : usedN H H.p.n ≤ hprom H := by
  have one : ∀ i, i < 4 → nSum H.p.n (fun f => ocnt (H.g i) f) ≤ oprom (H.g i) := fun i hi => by
    cases e : H.g i with
    | none =>
      show nSum H.p.n (fun _ => 0) ≤ oprom none
      rw [nSum_zero]; exact Nat.zero_le _
    | some G =>
      have m := (h.gi hi e).m
      have a := sum_mcnt m
      have b := here_le m
      show nSum H.p.n (mcnt G.m) ≤ plainN G.m
      omega
  have a := usedN_sum H H.p.n
  have e : nSum H.p.n (hcnt H) = nSum H.p.n (fun f => ocnt (H.g 0) f) + nSum H.p.n (fun f => ocnt (H.g 1) f) + nSum H.p.n (fun f => ocnt (H.g 2) f) + nSum H.p.n (fun f => ocnt (H.g 3) f) := by
    rw [← nSum_add, ← nSum_add, ← nSum_add]
    rfl
  have h0 := one 0 (by omega)
  have h1 := one 1 (by omega)
  have h2 := one 2 (by omega)
  have h3 := one 3 (by omega)
  rw [hprom_eq]
  omega
/-- A page's leaf, in bounds. -/
theorem leaf_in (h : HInv H) {n : Nat} (hn : n < 4) {G : GuestM} (hg : H.g n = some G) {k : Nat} (hk : k < 16) (h64 : H.p.n ≤ 64) : 0 ≤ (G.m.leaf k).frame ∧ (G.m.leaf k).frame ≤ 63 ∧ ((G.m.leaf k).there = true → G.m.state k = 1) := by
  have o := h.g n hn G hg
  cases ht : (G.m.leaf k).there with
  | true => have := o.here k hk ht; exact ⟨this.2.1, by omega, fun _ => this.1⟩
  | false => rw [o.none k hk ht]; exact ⟨by decide, by decide, fun h => by cases h⟩
theorem write_one (h : HFine H) {n : Nat} (hn : n < 4) {G : GuestM} (hg : H.g n = some G) {k : Nat} (hk : k < 16) (hw : (G.m.leaf k).write = true) : hcnt H (G.m.leaf k).frame.toNat = 1 := by
  have o := h.inv.g n hn G hg
  cases ht : (G.m.leaf k).there with
  | true =>
    have := h.al n hn G hg k hk ht hw
    rw [hcnt_split H hn, hg]
    exact this
  | false => rw [o.none k hk ht] at hw; cases hw
theorem hcnt_small (H : HostM) (f : Nat) : hcnt H f ≤ 64 := by
  unfold hcnt
  have h0 := ocnt_le (H.g 0) f
  have h1 := ocnt_le (H.g 1) f
  have h2 := ocnt_le (H.g 2) f
  have h3 := ocnt_le (H.g 3) f
  omega
end

end U
end Go.Proofs.YtnhplapcdgnaaaaGreat
