import Derived.Test.YtnhplapcdgnaaaaGreatDoorCacheX
import Derived.Test.YtnhplapcdgnaaaaGreatDoorHostPr
import Derived.Test.YtnhplapcdgnaaaaGreatDoorHostPm
import Derived.Test.YtnhplapcdgnaaaaGreatDoorGuestJX
set_option linter.unusedVariables false
set_option linter.unusedSimpArgs false
namespace Go.Proofs.YtnhplapcdgnaaaaGreatDoor
open Go.RowKit
namespace U

/-! Slices of ints; append. -/
def NRow (w : World) (v : Value) (L : List Int) : Prop :=
  (v = .slice none 0 0 ∧ L = []) ∨ ∃ g o cap C, v = .slice (some ⟨g, o, none⟩) L.length cap ∧ L.length ≤ cap ∧ cap ≤ maxLen ∧ w.heap[g]? = some (.cells C 3 (0, 0)) ∧ o + cap ≤ C.size ∧ ∀ i x, L[i]? = some x → w.cell? ⟨g, o + i, none⟩ = some (.int .i64 x)
def nflat (L : List Int) : List Value := L.map (Value.int .i64)
section
variable {w w' : World} {v : Value} {L : List Int} {S : Nat → Prop}
theorem NRow.nil : NRow w (.slice none 0 0) [] := .inl ⟨rfl, rfl⟩
theorem NRow.keep (h : NRow w v L) (k : ∀ g, v.ownBlock = some g → w'.heap[g]? = w.heap[g]?) : NRow w' v L := by
  rcases h with h | ⟨g, o, cap, C, rfl, h1, h2, h3, h4, h5⟩
  · exact .inl h
  · have e := k g rfl
    refine .inr ⟨g, o, cap, C, rfl, h1, h2, e.trans h3, h4, fun i x hx => ?_⟩
    have := h5 i x hx
    rw [cell_of_row w g _ C _ (0, 0) h3] at this
    rw [cell_of_row w' g _ C _ (0, 0) (e.trans h3)]
    exact this
theorem NRow.lt (h : NRow w v L) {g : Nat} (hg : v.ownBlock = some g) : g < w.heap.size := by
  rcases h with ⟨rfl, _⟩ | ⟨g', o, cap, C, rfl, h1, h2, h3, h4, h5⟩
  · cases hg
  · have e : g' = g := by simpa [Value.ownBlock] using hg
    subst e
    exact (Array.getElem?_eq_some_iff.1 h3).1
theorem NRow.drewN (h : NRow w v L) (n : Nat) : NRow (w.drewN n) v L := h.keep fun _ _ => rfl
theorem NRow.drew (h : NRow w v L) : NRow w.drew v L := h.keep fun _ _ => rfl
theorem NRow.alloc (h : NRow w v L) (ob : Obj) : NRow (w.alloc ob) v L := h.keep fun g hg => Below.heap_alloc w ob g (h.lt hg)
theorem NRow.upd_ (h : NRow w v L) (u : Upd S w w') (hS : ∀ g, v.ownBlock = some g → ¬ S g) : NRow w' v L := h.keep fun g hg => u.block g (h.lt hg) (hS g hg)
theorem NRow.form (h : NRow w v L) : ∃ A cap, v = .slice A L.length cap := by
  rcases h with ⟨rfl, rfl⟩ | ⟨g, o, cap, C, rfl, _⟩
  · exact ⟨_, _, rfl⟩
  · exact ⟨_, _, rfl⟩
theorem NRow.at_ (h : NRow w v L) {i : Nat} (hi : i < L.length) : ∃ g o cap, v = .slice (some ⟨g, o, none⟩) L.length cap ∧ g < w.heap.size ∧ w.cell? ⟨g, o + i, none⟩ = some (.int .i64 L[i]) := by
  rcases h with ⟨rfl, rfl⟩ | ⟨g, o, cap, C, rfl, h1, h2, h3, h4, h5⟩
  · simp at hi
  · exact ⟨g, o, cap, rfl, (Array.getElem?_eq_some_iff.1 h3).1, h5 i _ (List.getElem?_eq_getElem hi)⟩
theorem NRow.ne_row {c t N : Nat} {f : Nat → Value} (h : NRow w v L) (r : Row w c t N f) (ht : t ≠ 3) : ¬ v.ownBlock = some c := by
  rcases h with ⟨rfl, _⟩ | ⟨g', o, cap, C, rfl, h1, h2, h3, h4, h5⟩
  · intro e; cases e
  · intro e
    have e2 : g' = c := by simpa [Value.ownBlock] using e
    obtain ⟨C', k1, _⟩ := r
    rw [e2, k1] at h3
    simp at h3
    exact ht h3.2
theorem NRow.fresh {g : Nat} {cap : Nat} {C : Array Value} (h : w.heap[g]? = some (.cells C 3 (0, 0))) (hc : L.length ≤ cap) (hm : cap ≤ maxLen) (hs : cap ≤ C.size)
    (hp : ∀ (j : Nat) (u : Value), (nflat L)[j]? = some u → C[j]? = some u) : NRow w (.slice (some ⟨g, 0, none⟩) L.length cap) L :=
  .inr ⟨g, 0, cap, C, rfl, hc, hm, h, by omega, fun i x hx => by
    rw [cell_of_row _ g _ _ _ (0, 0) h]
    refine hp _ _ ?_
    rw [Nat.zero_add]
    unfold nflat
    rw [List.getElem?_map, hx]; rfl⟩
end
theorem nflat_length (L : List Int) : (nflat L).length = L.length := by unfold nflat; simp
theorem nflat_append (L M : List Int) : nflat (L ++ M) = nflat L ++ nflat M := by unfold nflat; simp
theorem nflat_one_cell (L : List Int) : ∀ u ∈ nflat L, u.oneCell' = true := by
  intro u hu
  unfold nflat at hu
  rw [List.mem_map] at hu
  obtain ⟨x, _, rfl⟩ := hu
  rfl
theorem nflat_get (L : List Int) (i : Nat) : (nflat L)[i]? = (L[i]?).map (Value.int .i64) := by unfold nflat; rw [List.getElem?_map]
/-- 'append(l, e)', e in a block of its own. -/
theorem run_append_n {w : World} {v : Value} {L : List Int} (h : NRow w v L) (hl : L.length ≤ 100000) {B : Nat} {e : Int} (hB : w.cell? ⟨B, 0, none⟩ = some (.int .i64 e)) (ty : TypeId) : ∃ v' w',
    (Builtin.append_ #[60, 60] ty #[v, .slice (some ⟨B, 0, none⟩) 1 1]).run Tryz.prog w = .ok v' w' ∧ NRow w' v' (L ++ [e]) ∧ Upd (fun k => v.ownBlock = some k) w w' ∧
      (v'.ownBlock = v.ownBlock ∨ v'.ownBlock = some w.heap.size) := by
  have hT := Tryz.underlying60
  obtain ⟨i0, hi, hz0, hz1, hz2⟩ := info_parts infoInt
  have news : ∀ j u, (nflat [e])[j]? = some u → w.cell? ((⟨B, 0, none⟩ : Addr).add j) = some u := fun j u hu => by
    rw [Addr.add_mid]
    have hj : j < 1 := by have := (List.getElem?_eq_some_iff.1 hu).1; rwa [nflat_length] at this
    obtain rfl : j = 0 := by omega
    have : u = .int .i64 e := by simpa [nflat] using hu.symm
    rw [this]; exact hB
  have nl : (nflat [e]).length = 1 * i0.size := by rw [nflat_length, hz1]; rfl
  have hnl : (L ++ [e]).length = L.length + 1 := by simp
  rcases h with ⟨rfl, rfl⟩ | ⟨g, o, cap, C, rfl, h1, h2, h3, h4, h5⟩
  · have hr := run_append_nil (P := Tryz.prog) w 60 ty 3 i0 _ hT hi hz0 ⟨B, 0, none⟩ 1 1 (nflat [e]) nl news (by omega) (by omega) (by rw [hz2]; omega)
    refine ⟨_, _, hr, ?_, ((Upd.refl _ _).drew).alloc _, .inr rfl⟩
    have hc := grownCap_ge w 1 0 3
    refine NRow.fresh (L := [e]) (heap_alloc_new w.drew _) hc (grownCap_le_maxLen w 1 0 _ (by unfold maxLen; omega)) ?_ (fun j u hu => ?_)
    · rw [Array.size_append, size_zeroCells, List.size_toArray, nflat_length]; simp [Value.cells]; omega
    · rw [Array.getElem?_append_left (by have := (List.getElem?_eq_some_iff.1 hu).1; simpa using this)]; simpa using hu
  · by_cases hroom : L.length + 1 ≤ cap
    · have hr := run_append_room_cells (P := Tryz.prog) w 60 ty 3 i0 hT hi g o L.length cap ⟨B, 0, none⟩ 1 1 (nflat [e]) nl news (nflat_one_cell _) hroom
        (fun j hj => by rw [nflat_length] at hj; simp at hj; rw [hz1, cell_of_row w g _ C _ (0, 0) h3, Array.getElem?_eq_getElem (by omega)]; rfl)
        (fun j hj => by simp [World.frozen?, h3])
      rw [hz1] at hr
      refine ⟨_, _, hr, ?_, Upd.setCells (S := fun k => (Value.slice (some ⟨g, o, none⟩) L.length cap).ownBlock = some k) (fun _ => rfl) _ _ _ (Upd.refl _ _), .inl rfl⟩
      have hrow : Row w g 3 C.size (fun i => C.getD i undef) := ⟨C, h3, rfl, fun i hi => by simp [hi]⟩
      have hrow2 := Row.setCells (nflat [e]) (o + L.length * 1) w _ hrow
      obtain ⟨C2, k1, k2, k3⟩ := hrow2
      refine .inr ⟨g, o, cap, C2, by rw [hnl], by rw [hnl]; exact hroom, h2, k1, by omega, fun i x hx => ?_⟩
      have hil : i < L.length + 1 := by have := (List.getElem?_eq_some_iff.1 hx).1; rwa [hnl] at this
      rw [cell_of_row _ g _ C2 _ (0, 0) k1, k3 _ (by omega)]
      unfold updL
      rw [nflat_length]
      by_cases hlt : i < L.length
      · rw [if_neg (by simp; omega)]
        rw [List.getElem?_append_left hlt] at hx
        have := h5 i x hx
        rw [cell_of_row w g _ C _ (0, 0) h3] at this
        simp [Array.getD_eq_getD_getElem?, this]
      · obtain rfl : i = L.length := by omega
        rw [if_pos (by simp)]
        rw [List.getElem?_append_right (Nat.le_refl _), Nat.sub_self] at hx
        simp at hx
        subst hx
        rw [show o + L.length - (o + L.length * 1) = 0 by omega]
        rfl
    · have hr := run_append_grow (P := Tryz.prog) w 60 ty 3 i0 _ hT hi hz0 ⟨g, o, none⟩ L.length cap (nflat L) (by rw [nflat_length, hz1]; omega)
        (fun j u hu => by
          rw [Addr.add_mid]
          rw [nflat_get] at hu
          cases hx : L[j]? with
          | none => rw [hx] at hu; cases hu
          | some x => rw [hx] at hu; have := h5 j x hx; simp at hu; rw [← hu]; exact this) ⟨B, 0, none⟩ 1 1 (nflat [e]) nl news (by omega) (by omega) (growslice_fits (by omega) (by rw [hz2]; omega))
      refine ⟨_, _, hr, ?_, ((Upd.refl _ _).drew).alloc _, .inr rfl⟩
      have hc := grownCap_ge w (L.length + 1) cap 3
      have hcm := grownCap_le_maxLen w (L.length + 1) cap 3 (by unfold maxLen; omega)
      have := NRow.fresh (L := L ++ [e]) (heap_alloc_new w.drew (.cells ((nflat L).toArray ++ (nflat [e]).toArray ++ Builtin.zeroCells (Value.cells (.int .i64 0)) (grownCap w (L.length + 1) cap 3 - (L.length + 1))) 3))
        (cap := grownCap w (L.length + 1) cap 3) (by rw [hnl]; exact hc) hcm
        (by rw [Array.size_append, Array.size_append, size_zeroCells, List.size_toArray, List.size_toArray, nflat_length, nflat_length]; simp [Value.cells]; omega) (fun j u hu => by
          have hj : j < ((nflat L).toArray ++ (nflat [e]).toArray).size := by
            have := (List.getElem?_eq_some_iff.1 hu).1
            rw [nflat_append] at this
            simpa using this
          rw [Array.getElem?_append_left hj]
          rw [nflat_append] at hu
          simpa using hu)
      rw [hnl] at this
      exact this
theorem fresh_ofN {w0 w : World} {v v2 : Value} (hu : Upd Non w0 w) (h : Fresh w0 v) (hb : v2.ownBlock = v.ownBlock ∨ v2.ownBlock = some w.heap.size) : Fresh w0 v2 := fun g hg => by
  rcases hb with hb | hb
  · exact h g (hb ▸ hg)
  · have := hu.size
    rw [hb] at hg
    simp at hg
    omega
theorem nbox (w : World) (e : Int) : (w.alloc (.cells #[.int .i64 e] 3)).cell? ⟨w.heap.size, 0, none⟩ = some (.int .i64 e) := by
  rw [cell_of_row _ w.heap.size 0 _ _ (0, 0) (heap_alloc_new w _)]; rfl
set_option maxRecDepth 100000 in
theorem wpl_append_n {ops : Array Oper} {rest : List Oper} {o : Oper} {a : Act} {w : World} {Q : Exit → Act → World → Prop} (hg : o.guard = none) (s x : Operand)
    (ho : o.op = .call { callee := .builtin .append, args := #[s, x], argTypes := #[60, 60] }) (v : Value) (B : Nat) (hs : a.eval s = v) (hx : a.eval x = .slice (some ⟨B, 0, none⟩) 1 1)
    (L : List Int) (e : Int) (h : NRow w v L) (hl : L.length ≤ 100000) (hB : w.cell? ⟨B, 0, none⟩ = some (.int .i64 e))
    (k : ∀ v' w', NRow w' v' (L ++ [e]) → Upd (fun k => v.ownBlock = some k) w w' → (v'.ownBlock = v.ownBlock ∨ v'.ownBlock = some w.heap.size) → wpList Tryz.prog ops Q rest (a.put o.dst v') w') :
    wpList Tryz.prog ops Q (o :: rest) a w := by
  obtain ⟨v', w', hrun, h1, h2, h3⟩ := run_append_n h hl hB o.type
  refine wpList_plain hg fun K hK => ?_
  unfold Oper.wp
  simp [execOp, ho, resolve, invoke, builtin, hs, hx, hrun, Result.andThen]
  exact hK _ _ (k v' w' h1 h2 h3)

end U
end Go.Proofs.YtnhplapcdgnaaaaGreatDoor

set_option linter.unusedVariables false
set_option linter.unusedSimpArgs false
namespace Go.Proofs.YtnhplapcdgnaaaaGreatDoor
open Go.RowKit
namespace U

/-! The program's host: State, Leaf (written by gen_hostc.py). -/
section
variable {w : World} {h : Nat} {L : PoolAt} {K : Nat → GAt} {H : HostM}

def hstate (H : HostM) (n a : Int) : Int × Nat := if n < 0 ∨ 3 < n then (0, 1) else match H.g n.toNat with | none => (0, 2) | some G => mstate G.m a
def hleafOf (H : HostM) (n a : Int) : LeafM × Nat := if n < 0 ∨ 3 < n then (LeafM.none, 1) else match H.g n.toNat with | none => (LeafM.none, 2) | some G => mleaf G.m a
set_option maxRecDepth 100000 in
theorem hstate_any (r : HRep w h L K H) (n a : Int) : Calls Tryz.prog 107 #[.pointer (some ⟨h, 0, none⟩), .int .i64 n, .int .i64 a] w fun e w' => e = .returned (.tuple #[.int .i64 (hstate H n a).1, errv (hstate H n a).2]) ∧ w = w' := by
  rcases who_ways H n with h0 | ⟨k, hk, rfl, hg⟩ | ⟨k, G, hk, rfl, hg⟩
  · have hc := Lib.hid (hguest_off r n h0)
    rw [errv1] at hc
    have hF := Lib.hid (show hstate H n a = (0, 1) by unfold hstate; rw [if_pos h0])
    go_enter Tryz.func107, Tryz.ntmps107
    go_wp2_with (first | (go_at_call 87; refine hc.out.mono ?_; rintro e w2 ⟨rfl, rfl⟩) | fail)
    go_ret2
    rw [hF.out]
    exact ⟨rfl, rfl⟩
  · have hc := Lib.hid (hguest_none r hk hg)
    rw [errv2] at hc
    have hF := Lib.hid (show hstate H k a = (0, 2) by unfold hstate; rw [if_neg (by omega), Int.toNat_natCast, hg])
    go_enter Tryz.func107, Tryz.ntmps107
    go_wp2_with (first | (go_at_call 87; refine hc.out.mono ?_; rintro e w2 ⟨rfl, rfl⟩) | fail)
    go_ret2
    rw [hF.out]
    exact ⟨rfl, rfl⟩
  · have hc := Lib.hid (hguest_some r hk hg)
    have hact := Lib.hid (gstate_any (r.pg hk hg) a)
    have hF := Lib.hid (show hstate H k a = mstate G.m a by unfold hstate; rw [if_neg (by omega), Int.toNat_natCast, hg])
    rw [hF.out]
    generalize mstate G.m a = X at hact ⊢
    go_enter Tryz.func107, Tryz.ntmps107
    go_wp2_with (first | (go_at_call 87; refine hc.out.mono ?_; rintro e w2 ⟨rfl, rfl⟩) | (go_at_call 89; refine hact.out.mono ?_; rintro e w3 ⟨rfl, rfl⟩) | fail)
    go_ret2
    exact ⟨rfl, rfl⟩
set_option maxRecDepth 100000 in
theorem hleafC_some (r : HRep w h L K H) {k : Nat} (hk : k < 4) {G : GuestM} (hg : H.g k = some G) (a : Int) : Calls Tryz.prog 108 #[.pointer (some ⟨h, 0, none⟩), .int .i64 k, .int .i64 a] w fun e w' => e = .returned (.tuple #[(mleaf G.m a).1.val, errv (mleaf G.m a).2]) ∧ Upd Non w w' := by
  have hc := Lib.hid (fun W (r' : HRep W h L K H) => hguest_some r' hk hg)
  have hact := Lib.hid (fun W (r' : HRep W h L K H) => gleaf_any (r'.pg hk hg) a)
  have r2 := Lib.hid (r.non ((Upd.refl Non w).alloc (.cells #[.bool false, .bool false, .int .i64 0] 88)))
  generalize hm : mleaf G.m a = y
  have hm := Lib.hid hm
  obtain ⟨⟨there, write, fr⟩, er⟩ := y
  go_enter Tryz.func108, Tryz.ntmps108
  go_wp2_with (first
    | (go_at_call 87; refine (hc.out _ r2.out).mono ?_; rintro e w2 ⟨rfl, rfl⟩)
    | (go_at_call 99; refine (hact.out _ r2.out).mono ?_; rw [hm.out]; rintro e w3 ⟨rfl, u3⟩; unfold LeafM.val; obtain ⟨hcc, hff⟩ := u3.cells; have hz := u3.size; simp at hz)
    | fail)
  exact bodyPost_ret (v := .tuple #[LeafM.val ⟨there, write, fr⟩, errv er]) (by simp [results, Tryz.results108, go_sem, hcc, LeafM.val]) rfl ⟨rfl, Upd.box3 (((Upd.refl _ _).alloc _).trans u3) (Nat.le_refl _) _ _ _⟩
end

end U
end Go.Proofs.YtnhplapcdgnaaaaGreatDoor

set_option linter.unusedVariables false
set_option linter.unusedSimpArgs false
namespace Go.Proofs.YtnhplapcdgnaaaaGreatDoor
open Go.RowKit
namespace U

/-! The program's host: Guests, Frame, Left, Cached. -/
def glK (H : HostM) (q : Nat) : List Nat := (List.range q).filter fun n => (H.g n).isSome
def ints_of (l : List Nat) : List Int := l.map fun (n : Nat) => (n : Int)
theorem glK_four (H : HostM) : glK H 4 = gl H := rfl
theorem glK_none {H : HostM} {q : Nat} (h : H.g q = none) : glK H (q + 1) = glK H q := by
  unfold glK
  rw [List.range_succ, List.filter_append, List.filter_cons, h]
  simp
theorem glK_some {H : HostM} {q : Nat} {G : GuestM} (h : H.g q = some G) : glK H (q + 1) = glK H q ++ [q] := by
  unfold glK
  rw [List.range_succ, List.filter_append, List.filter_cons, h]
  simp
theorem glK_length (H : HostM) (q : Nat) : (glK H q).length ≤ q := by
  unfold glK
  have := List.length_filter_le (fun n => (H.g n).isSome) (List.range q)
  rwa [List.length_range] at this
section
variable {w W : World} {h : Nat} {L : PoolAt} {K : Nat → GAt} {H : HostM}
set_option maxRecDepth 100000 in
set_option maxHeartbeats 1000000 in
theorem hguests_any (r : HRep w h L K H) : Calls Tryz.prog 69 #[.pointer (some ⟨h, 0, none⟩)] w fun e w' => ∃ v, e = .returned v ∧ NRow w' v (ints_of (gl H)) ∧ Fresh w v ∧ Upd Non w w' := by
  have ld := r.loadG
  have lh := r.hlt
  go_enter Tryz.func69, Tryz.ntmps69
  go_wp2_with (first | (refine wpl_load rfl 78 _ rfl _ _ rfl ld ?_) | fail)
  clear ld
  go_loopw [3, 10] (fun l i wr => ∃ (j : Nat) (v' : Value), j ≤ 4 ∧ i = .int .i64 j ∧ l = v' ∧ Hid (NRow wr v' (ints_of (glK H j)) ∧ Fresh w v' ∧ Upd Non w wr)) (fun _ i _ => 4 - (intOf i).toNat)
  case atStart => exact ⟨0, _, Nat.zero_le _, rfl, rfl, NRow.nil, (fun g hg => by cases hg), Upd.refl _ _⟩
  case round =>
    obtain ⟨j, v', hj, rfl, rfl, hI⟩ := hrel
    by_cases hlt : j < 4
    · have hj2 : (j : Int) < 4 := by omega
      cases hG : H.g j with
      | none =>
        have hx := garr_none (K := K) hlt hG
        have hs := Lib.hid (glK_none hG)
        clear hG
        go_wp2_with fail
        go_roundw
        case rel => exact ⟨j + 1, _, by omega, by go_num, rfl, by rw [hs.out]; exact hI.out⟩
        case measure => simp [intOf]; omega
      | some G =>
        have hx := garr_some (K := K) hlt hG
        have hs := Lib.hid (show ints_of (glK H (j + 1)) = ints_of (glK H j) ++ [(j : Int)] by rw [glK_some hG]; unfold ints_of; simp)
        have hlen : Hid ((ints_of (glK H j)).length ≤ 100000) := by
          show _ ≤ _
          have := glK_length H j
          unfold ints_of
          rw [List.length_map]
          omega
        clear hG
        go_wp2_with (first | (at_builtin; refine wpl_append_n rfl _ _ rfl _ _ rfl rfl _ (j : Int) (hI.out.1.alloc _) hlen.out (nbox _ _) ?_; intro v2 w3 hv2 u3 hb2) | fail)
        go_roundw
        case rel => exact ⟨j + 1, _, by omega, by go_num, rfl, by rw [hs.out]; exact hv2, fresh_ofN (hI.out.2.2.alloc _) hI.out.2.1 hb2, ((hI.out.2.2.alloc _).over u3 hI.out.2.1)⟩
        case measure => simp [intOf]; omega
    · have hj3 : ¬ (j : Int) < 4 := by omega
      obtain rfl : j = 4 := by omega
      have hX := Lib.hid hI.out
      clear hI
      go_wp2_with fail
      go_ret
      exact ⟨_, rfl, hX.out⟩
set_option maxRecDepth 100000 in
theorem hframe_any (r : HRep w h L K H) (f : Int) : Calls Tryz.prog 72 #[.pointer (some ⟨h, 0, none⟩), .int .i64 f] w fun e w' => e = .returned (.tuple #[frameV (H.p.of f), errv (H.p.of f).2.2]) ∧ Upd Non w w' := by
  have c0 := r.h0
  have lh := r.hlt
  generalize hm : H.p.of f = y
  have hm := Lib.hid hm
  obtain ⟨cl, rf, er⟩ := y
  go_enter Tryz.func72, Tryz.ntmps72
  go_wp2_with (go_at_call 106; refine (of_any _ L H.p (r.rp.alloc _) f).mono ?_; rw [hm.out]; rintro e w2 ⟨rfl, u2⟩; unfold frameV; obtain ⟨hcc, hff⟩ := u2.cells; have hz := u2.size; simp at hz)
  exact bodyPost_ret (v := .tuple #[frameV (cl, rf, er), errv er]) (by simp [results, Tryz.results72, go_sem, hcc, frameV]) rfl ⟨rfl, ((((Upd.refl _ _).alloc _).trans u2).setCell (p := ⟨w.heap.size, 0, none⟩) (fun h => absurd h (Nat.lt_irrefl _)) _).setCell (p := ⟨w.heap.size, 1, none⟩) (fun h => absurd h (Nat.lt_irrefl _)) _⟩
set_option maxRecDepth 100000 in
theorem hleft_any (r : HRep w h L K H) : Calls Tryz.prog 70 #[.pointer (some ⟨h, 0, none⟩)] w fun e w' => e = .returned (.int .i64 H.p.left) ∧ w = w' := by
  have c0 := r.h0
  have lh := r.hlt
  go_enter Tryz.func70, Tryz.ntmps70
  go_wp2_with (first | (go_at_call 104; refine (left_any _ L H.p r.rp).mono ?_; rintro e w2 ⟨rfl, rfl⟩) | fail)
  go_ret
  exact ⟨rfl, rfl⟩
end

end U
end Go.Proofs.YtnhplapcdgnaaaaGreatDoor
