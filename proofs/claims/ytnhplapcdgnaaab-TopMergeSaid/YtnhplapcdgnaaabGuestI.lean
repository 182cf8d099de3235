import Derived.Test.YtnhplapcdgnaaabGuestH
set_option linter.unusedVariables false
set_option linter.unusedSimpArgs false
namespace Go.Proofs.Ytnhplapcdgnaaab
open Go.RowKit
namespace U

/-! The program's guest: its acts on its map (written by gen_guesti.py). -/
/-- What an act on the map has to do with its page: none done, nothing turned; done, one page alone. -/
structure MAct (P : PoolM) (M : MapM) (n : Int) (y : PoolM × MapM × Nat) : Prop where
  no : y.2.2 ≠ 0 → y.1 = P ∧ y.2.1 = M
  yes : y.2.2 = 0 → onB n = true ∧ ∀ i : Nat, (i : Int) ≠ n → y.2.1.leaf i = M.leaf i
theorem setLeaf_off (M : MapM) {n : Int} (hn : 0 ≤ n) (l : LeafM) (i : Nat) (h : (i : Int) ≠ n) : (M.setLeaf n.toNat l).leaf i = M.leaf i := by unfold MapM.setLeaf; simp only []; rw [if_neg (by omega)]
theorem mact_plug (P : PoolM) (M : MapM) (n : Int) : MAct P M n (P, (mplug M n).1, (mplug M n).2) := by
  unfold mplug
  repeat' split
  all_goals first | exact ⟨fun _ => ⟨rfl, rfl⟩, fun h => by simp at h⟩ | exact ⟨fun h => by simp at h, fun _ => ⟨by assumption, fun _ _ => rfl⟩⟩
theorem mact_back (P : PoolM) (M : MapM) (n : Int) : MAct P M n (P, (mback M n).1, (mback M n).2) := by
  unfold mback
  repeat' split
  all_goals first | exact ⟨fun _ => ⟨rfl, rfl⟩, fun h => by simp at h⟩ | exact ⟨fun h => by simp at h, fun _ => ⟨by assumption, fun _ _ => rfl⟩⟩
theorem mact_seal (P : PoolM) (M : MapM) (n : Int) : MAct P M n (P, (mseal M n).1, (mseal M n).2) := by
  unfold mseal
  by_cases ho : onB n = true
  · rw [if_pos ho]
    split
    · exact ⟨fun h => by simp at h, fun _ => ⟨ho, setLeaf_off M (onB_iff.1 ho).1 _⟩⟩
    · exact ⟨fun _ => ⟨rfl, rfl⟩, fun h => by simp at h⟩
  · rw [if_neg ho]; exact ⟨fun _ => ⟨rfl, rfl⟩, fun h => by simp at h⟩
theorem mact_unplug (P : PoolM) (M : MapM) (n : Int) : MAct P M n (munplug P M n) := by
  unfold munplug
  by_cases ho : onB n = true
  · rw [if_pos ho]
    split
    · exact ⟨fun _ => ⟨rfl, rfl⟩, fun h => by simp at h⟩
    · exact ⟨fun h => by simp at h, fun _ => ⟨ho, setLeaf_off M (onB_iff.1 ho).1 _⟩⟩
  · rw [if_neg ho]; exact ⟨fun _ => ⟨rfl, rfl⟩, fun h => by simp at h⟩
theorem mact_give (P : PoolM) (M : MapM) (n : Int) : MAct P M n (mgive P M n) := by
  unfold mgive
  by_cases ho : onB n = true
  · rw [if_pos ho]
    split
    · exact ⟨fun h => by simp at h, fun _ => ⟨ho, setLeaf_off M (onB_iff.1 ho).1 _⟩⟩
    · exact ⟨fun _ => ⟨rfl, rfl⟩, fun h => by simp at h⟩
  · rw [if_neg ho]; exact ⟨fun _ => ⟨rfl, rfl⟩, fun h => by simp at h⟩
theorem mact_join (P : PoolM) (M : MapM) (n fr : Int) : MAct P M n (mjoin P M n fr) := by
  unfold mjoin
  by_cases ho : onB n = true
  · rw [if_pos ho]
    split
    · exact ⟨fun h => by simp at h, fun _ => ⟨ho, setLeaf_off M (onB_iff.1 ho).1 _⟩⟩
    · exact ⟨fun _ => ⟨rfl, rfl⟩, fun h => by simp at h⟩
  · rw [if_neg ho]; exact ⟨fun _ => ⟨rfl, rfl⟩, fun h => by simp at h⟩
/-- An act on a guest's map. -/
def gact (G : GuestM) (y : PoolM × MapM × Nat) : PoolM × GuestM × Nat := (y.1, { G with m := y.2.1 }, y.2.2)
section
variable {w W : World} {L : PoolAt} {K : GAt} {v : Value} {P : PoolM} {E : Nat → Nat} {G : GuestM}


set_option maxRecDepth 100000 in
set_option maxHeartbeats 1000000 in
theorem gchange_plug (t : PG w W L K v P G.m (withLeaf G.m G.c) G.root G.walks) (hI : GInv P G E) (n : Int) (y : PoolM × MapM × Nat) (hy : MAct P G.m n y)
    (hact : Calls Try.prog 59 #[.pointer (some ⟨K.mb, 0, none⟩), .int .i64 n] W fun e w' => e = .returned (errv y.2.2) ∧ PG w w' L K v y.1 y.2.1 (withLeaf G.m G.c) G.root G.walks) :
    Calls Try.prog 56 #[.pointer (some ⟨K.g, 0, none⟩), .int .i64 n, .func (.func 59) #[.pointer (some ⟨K.mb, 0, none⟩)] #[]] W fun e w' =>
      e = .returned (errv y.2.2) ∧ PG w w' L K v y.1 y.2.1 (withLeaf y.2.1 G.c) G.root G.walks := by
  have hlen : ∀ M : MapM, (withLeaf M G.c).length ≤ 100 := fun M => by rw [withLeaf_length]; have := hI.c.len; omega
  have hto : ∀ e ∈ G.c, 0 ≤ e.to := fun e he => (hI.c.ent e he).1
  have hact := Lib.hid hact
  obtain ⟨P1, M1, er⟩ := y
  dsimp only at hact
  by_cases he : er = 0
  · subst he
    obtain ⟨ho, hl⟩ := hy.yes rfl
    have hg := Lib.hid (gpt_with hto ho hl)
    dsimp only at hg
    clear hy ho hl
    go_enter Try.func56, Try.ntmps56
    go_wp2_with (first
      | (go_at_call 59; refine hact.out.mono ?_; rintro e w2 ⟨rfl, t2⟩; unfold errv)
      | (go_at_call 74; refine (gpoint_any t2 (hlen _) n).mono ?_; rw [hg.out]; rintro e w3 ⟨rfl, t3⟩)
      | fail)
    go_ret
    exact ⟨rfl, t3⟩
  · obtain ⟨rfl, rfl⟩ := hy.no he
    have hz := Lib.hid (errv_ne he)
    clear he hy
    go_enter Try.func56, Try.ntmps56
    go_wp2_with (first
      | (go_at_call 59; refine hact.out.mono ?_; rw [hz.out]; rintro e w2 ⟨rfl, t2⟩)
      | fail)
    go_ret
    exact ⟨hz.out ▸ rfl, t2⟩
set_option maxRecDepth 100000 in
set_option maxHeartbeats 1000000 in
theorem gplug_any (t : PG w W L K v P G.m (withLeaf G.m G.c) G.root G.walks) (hI : GInv P G E) (n : Int) :
    Calls Try.prog 39 #[.pointer (some ⟨K.g, 0, none⟩), .int .i64 n] W (ActPost w L K (gact G ((P, (mplug G.m n).1, (mplug G.m n).2)))) := by
  have c1 := t.c1
  have lg := t.glt
  have hact := Lib.hid (gchange_plug t hI n ((P, (mplug G.m n).1, (mplug G.m n).2)) (mact_plug P G.m n) ((plug_any _ K.mb 65 L.p G.m t.m n).mono (by rintro e w2 ⟨rfl, q2, u2⟩; exact ⟨rfl, t.map q2 u2⟩)))
  generalize (P, (mplug G.m n).1, (mplug G.m n).2) = y at hact ⊢
  go_enter Try.func39, Try.ntmps39
  go_wp2_with (go_at_call 56; refine hact.out.mono ?_; rintro e w2 ⟨rfl, t2⟩)
  go_ret
  exact ⟨rfl, v, t2⟩

set_option maxRecDepth 100000 in
set_option maxHeartbeats 1000000 in
theorem gchange_unplug (t : PG w W L K v P G.m (withLeaf G.m G.c) G.root G.walks) (hI : GInv P G E) (n : Int) (y : PoolM × MapM × Nat) (hy : MAct P G.m n y)
    (hact : Calls Try.prog 57 #[.pointer (some ⟨K.mb, 0, none⟩), .int .i64 n] W fun e w' => e = .returned (errv y.2.2) ∧ PG w w' L K v y.1 y.2.1 (withLeaf G.m G.c) G.root G.walks) :
    Calls Try.prog 56 #[.pointer (some ⟨K.g, 0, none⟩), .int .i64 n, .func (.func 57) #[.pointer (some ⟨K.mb, 0, none⟩)] #[]] W fun e w' =>
      e = .returned (errv y.2.2) ∧ PG w w' L K v y.1 y.2.1 (withLeaf y.2.1 G.c) G.root G.walks := by
  have hlen : ∀ M : MapM, (withLeaf M G.c).length ≤ 100 := fun M => by rw [withLeaf_length]; have := hI.c.len; omega
  have hto : ∀ e ∈ G.c, 0 ≤ e.to := fun e he => (hI.c.ent e he).1
  have hact := Lib.hid hact
  obtain ⟨P1, M1, er⟩ := y
  dsimp only at hact
  by_cases he : er = 0
  · subst he
    obtain ⟨ho, hl⟩ := hy.yes rfl
    have hg := Lib.hid (gpt_with hto ho hl)
    dsimp only at hg
    clear hy ho hl
    go_enter Try.func56, Try.ntmps56
    go_wp2_with (first
      | (go_at_call 57; refine hact.out.mono ?_; rintro e w2 ⟨rfl, t2⟩; unfold errv)
      | (go_at_call 74; refine (gpoint_any t2 (hlen _) n).mono ?_; rw [hg.out]; rintro e w3 ⟨rfl, t3⟩)
      | fail)
    go_ret
    exact ⟨rfl, t3⟩
  · obtain ⟨rfl, rfl⟩ := hy.no he
    have hz := Lib.hid (errv_ne he)
    clear he hy
    go_enter Try.func56, Try.ntmps56
    go_wp2_with (first
      | (go_at_call 57; refine hact.out.mono ?_; rw [hz.out]; rintro e w2 ⟨rfl, t2⟩)
      | fail)
    go_ret
    exact ⟨hz.out ▸ rfl, t2⟩
set_option maxRecDepth 100000 in
set_option maxHeartbeats 1000000 in
theorem gunplug_any (t : PG w W L K v P G.m (withLeaf G.m G.c) G.root G.walks) (hI : GInv P G E) (n : Int) :
    Calls Try.prog 36 #[.pointer (some ⟨K.g, 0, none⟩), .int .i64 n] W (ActPost w L K (gact G (munplug P G.m n))) := by
  have c1 := t.c1
  have lg := t.glt
  have hact := Lib.hid (gchange_unplug t hI n (munplug P G.m n) (mact_unplug P G.m n) ((unplug_any _ L P K.mb 65 G.m t.rp t.m n).mono (by rintro e w2 ⟨rfl, r2, q2, u2⟩; exact ⟨rfl, t.mapP r2 q2 u2⟩)))
  generalize munplug P G.m n = y at hact ⊢
  go_enter Try.func36, Try.ntmps36
  go_wp2_with (go_at_call 56; refine hact.out.mono ?_; rintro e w2 ⟨rfl, t2⟩)
  go_ret
  exact ⟨rfl, v, t2⟩

set_option maxRecDepth 100000 in
set_option maxHeartbeats 1000000 in
theorem gchange_give (t : PG w W L K v P G.m (withLeaf G.m G.c) G.root G.walks) (hI : GInv P G E) (n : Int) (y : PoolM × MapM × Nat) (hy : MAct P G.m n y)
    (hact : Calls Try.prog 60 #[.pointer (some ⟨K.mb, 0, none⟩), .int .i64 n] W fun e w' => e = .returned (errv y.2.2) ∧ PG w w' L K v y.1 y.2.1 (withLeaf G.m G.c) G.root G.walks) :
    Calls Try.prog 56 #[.pointer (some ⟨K.g, 0, none⟩), .int .i64 n, .func (.func 60) #[.pointer (some ⟨K.mb, 0, none⟩)] #[]] W fun e w' =>
      e = .returned (errv y.2.2) ∧ PG w w' L K v y.1 y.2.1 (withLeaf y.2.1 G.c) G.root G.walks := by
  have hlen : ∀ M : MapM, (withLeaf M G.c).length ≤ 100 := fun M => by rw [withLeaf_length]; have := hI.c.len; omega
  have hto : ∀ e ∈ G.c, 0 ≤ e.to := fun e he => (hI.c.ent e he).1
  have hact := Lib.hid hact
  obtain ⟨P1, M1, er⟩ := y
  dsimp only at hact
  by_cases he : er = 0
  · subst he
    obtain ⟨ho, hl⟩ := hy.yes rfl
    have hg := Lib.hid (gpt_with hto ho hl)
    dsimp only at hg
    clear hy ho hl
    go_enter Try.func56, Try.ntmps56
    go_wp2_with (first
      | (go_at_call 60; refine hact.out.mono ?_; rintro e w2 ⟨rfl, t2⟩; unfold errv)
      | (go_at_call 74; refine (gpoint_any t2 (hlen _) n).mono ?_; rw [hg.out]; rintro e w3 ⟨rfl, t3⟩)
      | fail)
    go_ret
    exact ⟨rfl, t3⟩
  · obtain ⟨rfl, rfl⟩ := hy.no he
    have hz := Lib.hid (errv_ne he)
    clear he hy
    go_enter Try.func56, Try.ntmps56
    go_wp2_with (first
      | (go_at_call 60; refine hact.out.mono ?_; rw [hz.out]; rintro e w2 ⟨rfl, t2⟩)
      | fail)
    go_ret
    exact ⟨hz.out ▸ rfl, t2⟩
set_option maxRecDepth 100000 in
set_option maxHeartbeats 1000000 in
theorem ggive_any (t : PG w W L K v P G.m (withLeaf G.m G.c) G.root G.walks) (hI : GInv P G E) (n : Int) :
    Calls Try.prog 40 #[.pointer (some ⟨K.g, 0, none⟩), .int .i64 n] W (ActPost w L K (gact G (mgive P G.m n))) := by
  have c1 := t.c1
  have lg := t.glt
  have hact := Lib.hid (gchange_give t hI n (mgive P G.m n) (mact_give P G.m n) ((give_any _ L P K.mb 65 G.m t.rp t.m n).mono (by rintro e w2 ⟨rfl, r2, q2, u2⟩; exact ⟨rfl, t.mapP r2 q2 u2⟩)))
  generalize mgive P G.m n = y at hact ⊢
  go_enter Try.func40, Try.ntmps40
  go_wp2_with (go_at_call 56; refine hact.out.mono ?_; rintro e w2 ⟨rfl, t2⟩)
  go_ret
  exact ⟨rfl, v, t2⟩

set_option maxRecDepth 100000 in
set_option maxHeartbeats 1000000 in
theorem gchange_back (t : PG w W L K v P G.m (withLeaf G.m G.c) G.root G.walks) (hI : GInv P G E) (n : Int) (y : PoolM × MapM × Nat) (hy : MAct P G.m n y)
    (hact : Calls Try.prog 61 #[.pointer (some ⟨K.mb, 0, none⟩), .int .i64 n] W fun e w' => e = .returned (errv y.2.2) ∧ PG w w' L K v y.1 y.2.1 (withLeaf G.m G.c) G.root G.walks) :
    Calls Try.prog 56 #[.pointer (some ⟨K.g, 0, none⟩), .int .i64 n, .func (.func 61) #[.pointer (some ⟨K.mb, 0, none⟩)] #[]] W fun e w' =>
      e = .returned (errv y.2.2) ∧ PG w w' L K v y.1 y.2.1 (withLeaf y.2.1 G.c) G.root G.walks := by
  have hlen : ∀ M : MapM, (withLeaf M G.c).length ≤ 100 := fun M => by rw [withLeaf_length]; have := hI.c.len; omega
  have hto : ∀ e ∈ G.c, 0 ≤ e.to := fun e he => (hI.c.ent e he).1
  have hact := Lib.hid hact
  obtain ⟨P1, M1, er⟩ := y
  dsimp only at hact
  by_cases he : er = 0
  · subst he
    obtain ⟨ho, hl⟩ := hy.yes rfl
    have hg := Lib.hid (gpt_with hto ho hl)
    dsimp only at hg
    clear hy ho hl
    go_enter Try.func56, Try.ntmps56
    go_wp2_with (first
      | (go_at_call 61; refine hact.out.mono ?_; rintro e w2 ⟨rfl, t2⟩; unfold errv)
      | (go_at_call 74; refine (gpoint_any t2 (hlen _) n).mono ?_; rw [hg.out]; rintro e w3 ⟨rfl, t3⟩)
      | fail)
    go_ret
    exact ⟨rfl, t3⟩
  · obtain ⟨rfl, rfl⟩ := hy.no he
    have hz := Lib.hid (errv_ne he)
    clear he hy
    go_enter Try.func56, Try.ntmps56
    go_wp2_with (first
      | (go_at_call 61; refine hact.out.mono ?_; rw [hz.out]; rintro e w2 ⟨rfl, t2⟩)
      | fail)
    go_ret
    exact ⟨hz.out ▸ rfl, t2⟩
set_option maxRecDepth 100000 in
set_option maxHeartbeats 1000000 in
theorem gback_any (t : PG w W L K v P G.m (withLeaf G.m G.c) G.root G.walks) (hI : GInv P G E) (n : Int) :
    Calls Try.prog 41 #[.pointer (some ⟨K.g, 0, none⟩), .int .i64 n] W (ActPost w L K (gact G ((P, (mback G.m n).1, (mback G.m n).2)))) := by
  have c1 := t.c1
  have lg := t.glt
  have hact := Lib.hid (gchange_back t hI n ((P, (mback G.m n).1, (mback G.m n).2)) (mact_back P G.m n) ((back_any _ K.mb 65 L.p G.m t.m n).mono (by rintro e w2 ⟨rfl, q2, u2⟩; exact ⟨rfl, t.map q2 u2⟩)))
  generalize (P, (mback G.m n).1, (mback G.m n).2) = y at hact ⊢
  go_enter Try.func41, Try.ntmps41
  go_wp2_with (go_at_call 56; refine hact.out.mono ?_; rintro e w2 ⟨rfl, t2⟩)
  go_ret
  exact ⟨rfl, v, t2⟩

set_option maxRecDepth 100000 in
set_option maxHeartbeats 1000000 in
theorem gchange_seal (t : PG w W L K v P G.m (withLeaf G.m G.c) G.root G.walks) (hI : GInv P G E) (n : Int) (y : PoolM × MapM × Nat) (hy : MAct P G.m n y)
    (hact : Calls Try.prog 83 #[.pointer (some ⟨K.mb, 0, none⟩), .int .i64 n] W fun e w' => e = .returned (errv y.2.2) ∧ PG w w' L K v y.1 y.2.1 (withLeaf G.m G.c) G.root G.walks) :
    Calls Try.prog 56 #[.pointer (some ⟨K.g, 0, none⟩), .int .i64 n, .func (.func 83) #[.pointer (some ⟨K.mb, 0, none⟩)] #[]] W fun e w' =>
      e = .returned (errv y.2.2) ∧ PG w w' L K v y.1 y.2.1 (withLeaf y.2.1 G.c) G.root G.walks := by
  have hlen : ∀ M : MapM, (withLeaf M G.c).length ≤ 100 := fun M => by rw [withLeaf_length]; have := hI.c.len; omega
  have hto : ∀ e ∈ G.c, 0 ≤ e.to := fun e he => (hI.c.ent e he).1
  have hact := Lib.hid hact
  obtain ⟨P1, M1, er⟩ := y
  dsimp only at hact
  by_cases he : er = 0
  · subst he
    obtain ⟨ho, hl⟩ := hy.yes rfl
    have hg := Lib.hid (gpt_with hto ho hl)
    dsimp only at hg
    clear hy ho hl
    go_enter Try.func56, Try.ntmps56
    go_wp2_with (first
      | (go_at_call 83; refine hact.out.mono ?_; rintro e w2 ⟨rfl, t2⟩; unfold errv)
      | (go_at_call 74; refine (gpoint_any t2 (hlen _) n).mono ?_; rw [hg.out]; rintro e w3 ⟨rfl, t3⟩)
      | fail)
    go_ret
    exact ⟨rfl, t3⟩
  · obtain ⟨rfl, rfl⟩ := hy.no he
    have hz := Lib.hid (errv_ne he)
    clear he hy
    go_enter Try.func56, Try.ntmps56
    go_wp2_with (first
      | (go_at_call 83; refine hact.out.mono ?_; rw [hz.out]; rintro e w2 ⟨rfl, t2⟩)
      | fail)
    go_ret
    exact ⟨hz.out ▸ rfl, t2⟩
set_option maxRecDepth 100000 in
set_option maxHeartbeats 1000000 in
theorem gseal_any (t : PG w W L K v P G.m (withLeaf G.m G.c) G.root G.walks) (hI : GInv P G E) (n : Int) :
    Calls Try.prog 68 #[.pointer (some ⟨K.g, 0, none⟩), .int .i64 n] W (ActPost w L K (gact G ((P, (mseal G.m n).1, (mseal G.m n).2)))) := by
  have c1 := t.c1
  have lg := t.glt
  have hact := Lib.hid (gchange_seal t hI n ((P, (mseal G.m n).1, (mseal G.m n).2)) (mact_seal P G.m n) ((mseal_any _ K.mb 65 L.p G.m t.m n).mono (by rintro e w2 ⟨rfl, q2, u2⟩; exact ⟨rfl, t.map q2 u2⟩)))
  generalize (P, (mseal G.m n).1, (mseal G.m n).2) = y at hact ⊢
  go_enter Try.func68, Try.ntmps68
  go_wp2_with (go_at_call 56; refine hact.out.mono ?_; rintro e w2 ⟨rfl, t2⟩)
  go_ret
  exact ⟨rfl, v, t2⟩

set_option maxRecDepth 100000 in
set_option maxHeartbeats 1000000 in
theorem gchange_join (t : PG w W L K v P G.m (withLeaf G.m G.c) G.root G.walks) (hI : GInv P G E) (n : Int) (b1 b2 : Nat) (y : PoolM × MapM × Nat) (hy : MAct P G.m n y)
    (hact : Calls Try.prog 84 #[.int .i64 n, .pointer (some ⟨b1, 0, none⟩), .pointer (some ⟨b2, 0, none⟩)] W fun e w' => e = .returned (errv y.2.2) ∧ PG w w' L K v y.1 y.2.1 (withLeaf G.m G.c) G.root G.walks) :
    Calls Try.prog 56 #[.pointer (some ⟨K.g, 0, none⟩), .int .i64 n, .func (.func 84) #[] #[.pointer (some ⟨b1, 0, none⟩), .pointer (some ⟨b2, 0, none⟩)]] W fun e w' =>
      e = .returned (errv y.2.2) ∧ PG w w' L K v y.1 y.2.1 (withLeaf y.2.1 G.c) G.root G.walks := by
  have hlen : ∀ M : MapM, (withLeaf M G.c).length ≤ 100 := fun M => by rw [withLeaf_length]; have := hI.c.len; omega
  have hto : ∀ e ∈ G.c, 0 ≤ e.to := fun e he => (hI.c.ent e he).1
  have hact := Lib.hid hact
  obtain ⟨P1, M1, er⟩ := y
  dsimp only at hact
  by_cases he : er = 0
  · subst he
    obtain ⟨ho, hl⟩ := hy.yes rfl
    have hg := Lib.hid (gpt_with hto ho hl)
    dsimp only at hg
    clear hy ho hl
    go_enter Try.func56, Try.ntmps56
    go_wp2_with (first
      | (go_at_call 84; refine hact.out.mono ?_; rintro e w2 ⟨rfl, t2⟩; unfold errv)
      | (go_at_call 74; refine (gpoint_any t2 (hlen _) n).mono ?_; rw [hg.out]; rintro e w3 ⟨rfl, t3⟩)
      | fail)
    go_ret
    exact ⟨rfl, t3⟩
  · obtain ⟨rfl, rfl⟩ := hy.no he
    have hz := Lib.hid (errv_ne he)
    clear he hy
    go_enter Try.func56, Try.ntmps56
    go_wp2_with (first
      | (go_at_call 84; refine hact.out.mono ?_; rw [hz.out]; rintro e w2 ⟨rfl, t2⟩)
      | fail)
    go_ret
    exact ⟨hz.out ▸ rfl, t2⟩

set_option maxRecDepth 100000 in
set_option maxHeartbeats 1000000 in
theorem gjoin1_any (t : PG w W L K v P G.m (withLeaf G.m G.c) G.root G.walks) (n fr : Int) {b1 b2 : Nat} (h1 : W.cell? ⟨b1, 0, none⟩ = some (.pointer (some ⟨K.g, 0, none⟩))) (h2 : W.cell? ⟨b2, 0, none⟩ = some (.int .i64 fr)) :
    Calls Try.prog 84 #[.int .i64 n, .pointer (some ⟨b1, 0, none⟩), .pointer (some ⟨b2, 0, none⟩)] W fun e w' =>
      e = .returned (errv (mjoin P G.m n fr).2.2) ∧ PG w w' L K v (mjoin P G.m n fr).1 (mjoin P G.m n fr).2.1 (withLeaf G.m G.c) G.root G.walks := by
  have c1 := t.c1
  have lg := t.glt
  have hj : Hid (∀ W', PG w W' L K v P G.m (withLeaf G.m G.c) G.root G.walks → Calls Try.prog 85 #[.pointer (some ⟨K.mb, 0, none⟩), .int .i64 n, .int .i64 fr] W' fun e w' =>
      e = .returned (errv (mjoin P G.m n fr).2.2) ∧ PG w w' L K v (mjoin P G.m n fr).1 (mjoin P G.m n fr).2.1 (withLeaf G.m G.c) G.root G.walks) := fun W' t' =>
    (join_any W' L P K.mb 65 G.m t'.rp t'.m n fr).mono (by rintro e w2 ⟨rfl, r2, q2, u2⟩; exact ⟨rfl, t'.mapP r2 q2 u2⟩)
  generalize mjoin P G.m n fr = y at hj ⊢
  go_enter Try.func84, Try.ntmps84
  go_wp2_with fail
  go_region_with (go_at_call 85; refine (hj.out _ (by repeat (first | assumption | apply PG.alloc | apply PG.drew | apply PG.drewN))).mono ?_; rintro e w2 ⟨rfl, t2⟩)
  all_goals go_wp2_with fail
  all_goals go_ret
  all_goals exact ⟨rfl, (by repeat (first | assumption | apply PG.alloc | apply PG.drew | apply PG.drewN))⟩
set_option maxRecDepth 100000 in
set_option maxHeartbeats 1000000 in
theorem gjoin_any (t : PG w W L K v P G.m (withLeaf G.m G.c) G.root G.walks) (hI : GInv P G E) (n fr : Int) :
    Calls Try.prog 69 #[.pointer (some ⟨K.g, 0, none⟩), .int .i64 n, .int .i64 fr] W (ActPost w L K (gact G (mjoin P G.m n fr))) := by
  have lg := t.glt
  have tb := (t.alloc (.cells #[.pointer (some ⟨K.g, 0, none⟩)] 48)).alloc (.cells #[.int .i64 fr] 3)
  have r1 := (row_one W 48 (.pointer (some ⟨K.g, 0, none⟩))).alloc (.cells #[.int .i64 fr] 3)
  have r2 := row_one (W.alloc (.cells #[.pointer (some ⟨K.g, 0, none⟩)] 48)) 3 (.int .i64 fr)
  rw [World.size_alloc] at r2
  have hact := Lib.hid (gchange_join tb hI n W.heap.size (W.heap.size + 1) (mjoin P G.m n fr) (mact_join P G.m n fr) (gjoin1_any tb n fr (r1.cell (i := 0) (by omega)) (r2.cell (i := 0) (by omega))))
  clear r1 r2 tb
  generalize mjoin P G.m n fr = y at hact ⊢
  go_enter Try.func69, Try.ntmps69
  go_wp2_with (go_at_call 56; refine hact.out.mono ?_; rintro e w2 ⟨rfl, t2⟩)
  go_ret
  exact ⟨rfl, v, t2⟩
end

end U
end Go.Proofs.Ytnhplapcdgnaaab
