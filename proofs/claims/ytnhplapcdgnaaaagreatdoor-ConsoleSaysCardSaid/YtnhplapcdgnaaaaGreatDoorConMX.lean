import Derived.Test.YtnhplapcdgnaaaaGreatDoorConBX
import Derived.Test.YtnhplapcdgnaaaaGreatDoorHostGx
import Derived.Carry
import Derived.MapFrom
import Derived.Test.YtnhplapcdgnaaaaGreatDoorHostQm
set_option linter.unusedVariables false
set_option linter.unusedSimpArgs false
namespace Go.Proofs.YtnhplapcdgnaaaaGreatDoor
open Go.RowKit
namespace U

/-! The reference's texts: words, listed, SameTexts. -/
theorem extract_list (s : ByteArray) (f k : Nat) : (s.extract f k).data.toList = (s.data.toList.drop f).take (k - f) := by
  simp [ByteArray.data_extract]
theorem drop_cons (s : ByteArray) (k : Nat) (h : k < s.size) : s.data.toList.drop k = s[k] :: s.data.toList.drop (k + 1) := by
  rw [List.drop_eq_getElem_cons (by simpa using h)]; rfl
theorem cut_snoc (s : ByteArray) (f k : Nat) (hf : f ≤ k) (h : k < s.size) : (s.extract f (k + 1)).data.toList = (s.extract f k).data.toList ++ [s[k]] := by
  rw [extract_list, extract_list, show k + 1 - f = (k - f) + 1 by omega]
  have hl : k - f < (s.data.toList.drop f).length := by rw [List.length_drop, dat_length]; omega
  rw [List.take_succ_eq_append_getElem hl, List.getElem_drop]
  have e : f + (k - f) = k := by omega
  congr 2
  simp only [e]
  rfl
/-- What the reference's loop over a line has read. -/
structure WS (w0 w : World) (s : ByteArray) (v : Value) (f k : Nat) (done : List ByteArray) : Prop where
  r : SRow w v done
  fr : Fresh w0 v
  up : Upd Non w0 w
  fk : f ≤ k ∨ k = s.size + 1
  len : done.length ≤ k
  is : done.map (·.data.toList) ++ (if k ≤ s.size then wa (s.extract f k).data.toList (s.data.toList.drop k) else []) = wordsL s.data.toList
set_option maxRecDepth 100000 in
set_option maxHeartbeats 4000000 in
theorem rwords_any (w : World) (s : ByteArray) (hs : s.size ≤ 300) : Calls Tryz.prog 12 #[.string s] w fun e w' =>
    ∃ v, e = .returned v ∧ SRow w' v (wordsB s) ∧ Fresh w v ∧ Upd Non w w' := by
  go_enter Tryz.func12, Tryz.ntmps12
  go_wp2_with fail
  go_loopw [3, 4, 5] (fun l fr i wr => ∃ (k f : Nat) (done : List ByteArray) (v : Value), k ≤ s.size + 1 ∧ f ≤ s.size + 1 ∧ i = .int .i64 k ∧ fr = .int .i64 f ∧ l = v ∧ Hid (WS w wr s v f k done)) (fun _ _ i _ => s.size + 1 - (intOf i).toNat)
  case atStart => exact ⟨0, 0, [], _, by omega, by omega, rfl, rfl, rfl, SRow.nil, fun g hg => (by cases hg), Upd.refl _ _, .inl (Nat.le_refl _), Nat.le_refl _, by
    rw [if_pos (by omega)]
    show wa (s.extract 0 0).data.toList (s.data.toList.drop 0) = _
    rw [extract_list, List.drop_zero]
    rfl⟩
  case round =>
    obtain ⟨k, f, done, v, hk, hf, rfl, rfl, rfl, hT⟩ := hrel
    by_cases hle : k ≤ s.size
    · have hle2 : (k : Int) ≤ s.size := by omega
      have hfk : f ≤ k := hT.out.fk.elim id (fun e => by omega)
      have hfk2 : (f : Int) ≤ k := by omega
      have his := hT.out.is
      rw [if_pos hle] at his
      have hlen : Hid (done.length ≤ 100000) := by show _ ≤ _; have := hT.out.len; omega
      have hd1 : Hid ((done ++ [s.extract f k]).length ≤ k + 1) := by show _ ≤ _; have := hT.out.len; simp; omega
      by_cases hend : k = s.size
      · have HW : Hid ((done ++ [s.extract f k]).map (·.data.toList) ++ (if k + 1 ≤ s.size then wa (s.extract (k + 1) (k + 1)).data.toList (s.data.toList.drop (k + 1)) else []) = wordsL s.data.toList) := by
          show _ = _
          rw [if_neg (by omega), List.append_nil, List.map_append, ← his, hend, List.drop_eq_nil_of_le (by rw [dat_length]; exact Nat.le_refl _)]
          first | rfl | simp [wa]
        have he : ((k : Int) == (s.size : Int)) = true := by simp; omega
        clear his
        subst hend
        go_wp2_with (first | (at_builtin; refine wpl_append_s rfl _ _ rfl _ _ rfl rfl done (s.extract f s.size) (hT.out.r.alloc _) hlen.out (sbox _ _) ?_; intro v2 w3 hv2 u3 hb2) | fail)
        go_roundw
        case rel => exact ⟨s.size + 1, s.size + 1, _, v2, by omega, by omega, by go_num, by go_num, rfl, hv2, fresh_ofS (hT.out.up.alloc _) hT.out.fr hb2, (hT.out.up.alloc _).over u3 hT.out.fr, .inl (Nat.le_refl _), hd1.out, HW.out⟩
        case measure => first | (simp [intOf]; done) | (simp [intOf]; omega)
      · have hlt : k < s.size := by omega
        have hlt2 : (k : Int) < s.size := by omega
        have he : ((k : Int) == (s.size : Int)) = false := by simp; omega
        rw [drop_cons s k hlt, wa] at his
        by_cases hsp : s[k] = 32
        · rw [if_pos hsp] at his
          have HW : Hid ((done ++ [s.extract f k]).map (·.data.toList) ++ (if k + 1 ≤ s.size then wa (s.extract (k + 1) (k + 1)).data.toList (s.data.toList.drop (k + 1)) else []) = wordsL s.data.toList) := by
            show _ = _
            rw [if_pos (by omega), List.map_append, ← his, extract_list, Nat.sub_self, List.take_zero]
            simp
          have h32 : (((s[k].toNat : Nat) : Int) == 32) = true := by rw [hsp]; rfl
          clear his hsp
          go_wp2_with (first | (at_builtin; refine wpl_append_s rfl _ _ rfl _ _ rfl rfl done (s.extract f k) (hT.out.r.alloc _) hlen.out (sbox _ _) ?_; intro v2 w3 hv2 u3 hb2) | fail)
          go_roundw
          case rel => exact ⟨k + 1, k + 1, _, v2, by omega, by omega, by go_num, by go_num, rfl, hv2, fresh_ofS (hT.out.up.alloc _) hT.out.fr hb2, (hT.out.up.alloc _).over u3 hT.out.fr, .inl (Nat.le_refl _), hd1.out, HW.out⟩
          case measure => simp [intOf]; omega
        · rw [if_neg hsp] at his
          have HW : Hid (done.map (·.data.toList) ++ (if k + 1 ≤ s.size then wa (s.extract f (k + 1)).data.toList (s.data.toList.drop (k + 1)) else []) = wordsL s.data.toList) := by
            show _ = _
            rw [if_pos (by omega), cut_snoc s f k hfk hlt]
            exact his
          have h32 : (((s[k].toNat : Nat) : Int) == 32) = false := by
            simp only [beq_eq_false_iff_ne, ne_eq]
            intro e
            exact hsp (UInt8.toNat_inj.1 (by show s[k].toNat = 32; omega))
          clear his hsp
          go_wp2_with fail
          go_roundw
          case rel => exact ⟨k + 1, f, done, _, by omega, by omega, by go_num, rfl, rfl, hT.out.r, hT.out.fr, hT.out.up, .inl (by omega), Nat.le_succ_of_le hT.out.len, HW.out⟩
          case measure => simp [intOf]; omega
    · have hle2 : ¬ (k : Int) ≤ s.size := by omega
      have his := hT.out.is
      rw [if_neg hle, List.append_nil] at his
      have HE : Hid (done = wordsB s) := by
        show _ = _
        rw [wordsB_of, ← his, List.map_map]
        have : (strOf ∘ fun (x : ByteArray) => x.data.toList) = id := by funext x; exact strOf_eq x
        rw [this, List.map_id]
      have HT := Lib.hid hT.out
      clear his hT
      go_wp2_with fail
      go_ret
      exact ⟨_, rfl, by rw [← HE.out]; exact HT.out.r, HT.out.fr, HT.out.up⟩

/-! listed. -/
theorem joinTail_snoc (r : List (List UInt8)) (y : List UInt8) : Lib.joinTail [32] (r ++ [y]) = Lib.joinTail [32] r ++ ([32] ++ y) := by
  unfold Lib.joinTail
  simp
theorem join_snoc (xs : List (List UInt8)) (y : List UInt8) : Lib.join (xs ++ [y]) [32] = if xs = [] then y else Lib.join xs [32] ++ [32] ++ y := by
  cases xs with
  | nil => rw [if_pos rfl]; exact Lib.join_one y [32]
  | cons x r =>
    rw [if_neg (by simp), List.cons_append, Lib.join_cons, Lib.join_cons, joinTail_snoc]
    simp
def joinD (L : List Nat) : List UInt8 := Lib.join (L.map Lib.decDigits) [32]
theorem joinD_zero : joinD [] = [] := rfl
theorem joinD_snoc (L : List Nat) (n : Nat) : joinD (L ++ [n]) = if L = [] then Lib.decDigits n else joinD L ++ [32] ++ Lib.decDigits n := by
  unfold joinD
  rw [List.map_append, List.map_cons, List.map_nil, join_snoc]
  by_cases h : L = []
  · subst h; rfl
  · rw [if_neg (by simpa using h), if_neg h]
theorem joinD_lenN : ∀ (N : Nat) (L : List Nat), L.length = N → (∀ n ∈ L, n ≤ 100000) → (joinD L).length ≤ 100002 * L.length := by
  intro N
  induction N with
  | zero => intro L hL _; rw [List.length_eq_zero_iff.1 hL]; exact Nat.zero_le _
  | succ N ih =>
    intro L hL h
    rcases List.eq_nil_or_concat L with e | ⟨M, n, e⟩
    · rw [e] at hL; cases hL
    · rw [List.concat_eq_append] at e
      subst e
      have := ih M (by simpa using hL) (fun x hx => h x (List.mem_append_left _ hx))
      have hn := h n (by simp)
      have hd := dec_le n n (Nat.le_refl _)
      rw [joinD_snoc]
      split
      · simp; omega
      · simp; omega
theorem joinD_len (L : List Nat) (h : ∀ n ∈ L, n ≤ 100000) : (joinD L).length ≤ 100002 * L.length := joinD_lenN _ L rfl h
theorem joinD_ne {L : List Nat} (h : L ≠ []) : joinD L ≠ [] := by
  rcases List.eq_nil_or_concat L with e | ⟨M, n, e⟩
  · exact absurd e h
  · rw [List.concat_eq_append] at e
    subst e
    rw [joinD_snoc]
    have := dec_pos n
    intro e
    split at e
    · rw [e] at this; cases this
    · have := congrArg List.length e
      simp at this
theorem strOf_bool (l : List UInt8) : ((strOf l).toList == []) = decide (l = []) := by
  rw [toList_dat, strOf_list, Bool.eq_iff_iff]
  simp
theorem listS_of (L : List Nat) : listS L = if L = [] then strOf [45] else strOf (joinD L) := rfl
set_option maxRecDepth 100000 in
set_option maxHeartbeats 4000000 in
theorem rlisted_any (w : World) (v : Value) (L : List Nat) (h : NRow w v (L.map fun (n : Nat) => (n : Int))) (hl : L.length ≤ 10) (hn : ∀ n ∈ L, n ≤ 100000) : Calls Tryz.prog 19 #[v] w fun e w' => e = .returned (.string (listS L)) ∧ Upd Non w w' := by
  obtain ⟨A, cap, rfl⟩ := h.form
  have hlm : (L.map fun (n : Nat) => (n : Int)).length = L.length := List.length_map ..
  rw [hlm] at h ⊢
  have HLM := Lib.hid hlm
  clear hlm
  go_enter Tryz.func19, Tryz.ntmps19
  go_wp2_with fail
  go_loopw [3, 4] (fun s i wr => ∃ k : Nat, k ≤ L.length ∧ i = .int .i64 k ∧ s = .string (strOf (joinD (L.take k))) ∧ Hid (Upd Non w wr)) (fun _ i _ => L.length - (intOf i).toNat)
  case atStart => exact ⟨0, Nat.zero_le _, rfl, rfl, Upd.refl _ _⟩
  case round =>
    obtain ⟨k, hk, rfl, rfl, hU⟩ := hrel
    have hsz0 := joinD_len (L.take k) (fun n hn2 => hn n (List.mem_of_mem_take hn2))
    have htl := List.length_take_le k L
    have hsz : (strOf (joinD (L.take k))).size ≤ 1000020 := by rw [strOf_size]; have := Nat.mul_le_mul_left 100002 htl; omega
    clear hsz0 htl
    by_cases hlt : k < L.length
    · have hlt2 : (k : Int) < L.length := by omega
      obtain ⟨g, o, cap', hv, hg, hE⟩ := (h.upd_ hU.out (fun _ _ => (fun h => h))).at_ (i := k) (by rw [HLM.out]; exact hlt)
      obtain ⟨rfl, rfl⟩ : A = some ⟨g, o, none⟩ ∧ cap = cap' := by simpa using hv
      rw [List.getElem_map] at hE
      have hts := Lib.hid (show L.take (k + 1) = L.take k ++ [L[k]] from List.take_succ_eq_append_getElem hlt)
      have hnk := hn L[k] (List.getElem_mem hlt)
      have HJ := Lib.hid (show joinD (L.take (k + 1)) = if L.take k = [] then Lib.decDigits L[k] else joinD (L.take k) ++ [32] ++ Lib.decDigits L[k] by rw [hts.out, joinD_snoc])
      clear hv h
      generalize L[k] = n at hE hnk HJ
      have hz := numS_size (n := n) (by omega)
      by_cases hk0 : k = 0
      · have HJ2 : Hid (strOf (joinD (L.take (k + 1))) = numS n) := by
          show _ = _
          rw [HJ.out, if_pos (by rw [hk0]; rfl)]
          rfl
        have hk2 : (k : Int) ≤ 0 := by omega
        have he : strOf (joinD (L.take k)) = { data := #[] } := by rw [hk0]; rfl
        rw [he] at hsz ⊢
        have HE := Lib.hid (show ({ data := #[] } : ByteArray) ++ numS n = numS n by apply ByteArray.ext; simp)
        clear he hk0
        go_wp2_with (first | (go_at_call 17; refine (rdecimal_any n n (Nat.le_refl _) (by omega) _).mono ?_; rintro e w2 ⟨rfl, u2⟩) | fail)
        go_roundw
        case rel => exact ⟨k + 1, by omega, by go_num, by rw [HJ2.out]; first | rfl | rw [HE.out], hU.out.trans u2⟩
        case measure => simp [intOf]; omega
      · have HJ2 : Hid (strOf (joinD (L.take (k + 1))) = strOf (joinD (L.take k)) ++ { data := #[32] } ++ numS n) := by
          show _ = _
          rw [HJ.out, if_neg (by
            intro e
            have h1 := congrArg List.length e
            have h2 : (L.take k).length = k := by rw [List.length_take]; omega
            rw [h2] at h1
            exact hk0 h1), ← strOf_append, ← strOf_append]
          rfl
        have hk2 : (0 : Int) < (k : Int) := by omega
        generalize strOf (joinD (L.take k)) = acc at hsz HJ2 ⊢
        have hz2 : (acc ++ { data := #[32] }).size ≤ 1000021 := by rw [ByteArray.size_append]; show acc.size + 1 ≤ _; omega
        have hz3 : ({ data := #[32] } : ByteArray).size ≤ 1 := Nat.le_refl _
        go_wp2_with (first | (go_at_call 17; refine (rdecimal_any n n (Nat.le_refl _) (by omega) _).mono ?_; rintro e w2 ⟨rfl, u2⟩) | fail)
        go_roundw
        case rel => exact ⟨k + 1, by omega, by go_num, by rw [HJ2.out], hU.out.trans u2⟩
        case measure => simp [intOf]; omega
    · obtain rfl : k = L.length := by omega
      rw [List.take_length]
      have hb := strOf_bool (joinD L)
      by_cases h0 : L = []
      · have HS := Lib.hid (show listS L = strOf [45] by rw [listS_of, if_pos h0])
        rw [decide_eq_true (by rw [h0]; rfl)] at hb
        have hbe : (strOf (joinD L)).toList.isEmpty = true := by rw [toList_dat, strOf_list, h0]; rfl
        clear h0
        go_wp2_with fail
        go_ret
        exact ⟨by rw [HS.out]; rfl, hU.out⟩
      · have HS := Lib.hid (show listS L = strOf (joinD L) by rw [listS_of, if_neg h0])
        rw [decide_eq_false (joinD_ne h0)] at hb
        have hbe : (strOf (joinD L)).toList.isEmpty = false := by
          rw [toList_dat, strOf_list]
          cases hj : joinD L with
          | nil => exact absurd hj (joinD_ne h0)
          | cons _ _ => rfl
        clear h0
        go_wp2_with fail
        go_ret
        exact ⟨by rw [HS.out]; rfl, hU.out⟩

/-! SameTexts. -/
def TAt (w : World) (A : Option Addr) (L : List ByteArray) : Prop := L = [] ∨ ∃ g o, A = some ⟨g, o, none⟩ ∧ g < w.heap.size ∧ ∀ i x, L[i]? = some x → w.cell? ⟨g, o + i, none⟩ = some (.string x)
theorem TAt.upd_ {S : Nat → Prop} {w w' : World} {A : Option Addr} {L : List ByteArray} (h : TAt w A L) (u : Upd S w w') (hS : ∀ a, A = some a → ¬ S a.block) : TAt w' A L := by
  rcases h with h | ⟨g, o, rfl, hg, h⟩
  · exact .inl h
  · exact .inr ⟨g, o, rfl, Nat.lt_of_lt_of_le hg u.size, fun i x hx => u.cell (h i x hx) (fun e => hS ⟨g, o, none⟩ rfl e)⟩
theorem SRow.toT {w : World} {v : Value} {L : List ByteArray} (h : SRow w v L) : ∃ A cap, v = .slice A L.length cap ∧ TAt w A L := by
  rcases h with ⟨rfl, rfl⟩ | ⟨g, o, cap, C, rfl, h1, h2, h3, h4, h5⟩
  · exact ⟨none, 0, rfl, .inl rfl⟩
  · exact ⟨_, _, rfl, .inr ⟨g, o, rfl, heap_lt h3, h5⟩⟩
set_option maxRecDepth 100000 in
set_option maxHeartbeats 1000000 in
theorem sameTexts_law (w : World) (A1 A2 : Option Addr) (c1 c2 : Nat) (L : List ByteArray) (h1 : TAt w A1 L) (h2 : TAt w A2 L) (hl : L.length ≤ 1000) :
    Calls Tryz.prog 9 #[.slice A1 L.length c1, .slice A2 L.length c2] w fun e w' => e = .returned (.bool true) ∧ Upd Non w w' := by
  go_enter Tryz.func9, Tryz.ntmps9
  go_wp2_with fail
  go_loopw [5] (fun i wr => ∃ k : Nat, k ≤ L.length ∧ i = .int .i64 k ∧ Hid (Upd Non w wr)) (fun i _ => L.length - (intOf i).toNat)
  case atStart => exact ⟨0, Nat.zero_le _, rfl, Upd.refl _ _⟩
  case round =>
    obtain ⟨k, hk, rfl, hU⟩ := hrel
    by_cases hlt : k < L.length
    · have hlt2 : (k : Int) < L.length := by omega
      have hx := List.getElem?_eq_getElem hlt
      rcases h1.upd_ hU.out (fun _ _ => (fun h => h)) with e | ⟨g1, o1, rfl, l1, k1⟩
      · rw [e] at hlt; simp at hlt
      rcases h2.upd_ hU.out (fun _ _ => (fun h => h)) with e | ⟨g2, o2, rfl, l2, k2⟩
      · rw [e] at hlt; simp at hlt
      have c1' := k1 k _ hx
      have c2' := k2 k _ hx
      clear k1 k2 h1 h2 hx
      go_wp2_with fail
      go_quiet (fail)
      go_wp2_with fail
      go_roundw
      case rel => exact ⟨k + 1, by omega, by go_num, hU.out.drewN _⟩
      case measure => simp [intOf]; omega
    · go_wp2_with fail
      go_ret
      exact ⟨rfl, hU.out⟩

end U
end Go.Proofs.YtnhplapcdgnaaaaGreatDoor

set_option linter.unusedVariables false
set_option linter.unusedSimpArgs false
namespace Go.Proofs.YtnhplapcdgnaaaaGreatDoor
open Go.RowKit
namespace U

/-! The commands (written by gen_conm.py). -/
def manyL : List (List UInt8 × Int) := [([97, 100, 100], 0), ([114, 101, 109, 111, 118, 101], 1), ([112, 108, 117, 103], 2), ([117, 110, 112, 108, 117, 103], 2), ([103, 105, 118, 101], 2), ([98, 97, 99, 107], 2), ([108, 111, 97, 100], 2), ([115, 116, 111, 114, 101], 3), ([114, 111, 111, 116], 2), ([102, 111, 114, 103, 101, 116], 2), ([100, 114, 111, 112], 2), ([115, 99, 97, 110], 2), ([115, 99, 97, 110, 97, 108, 108], 0), ([103, 117, 101, 115, 116, 115], 0), ([108, 101, 102, 116], 0), ([112, 114, 111, 109, 105, 115, 101, 100], 0), ([102, 114, 97, 109, 101], 1), ([112, 97, 103, 101], 2)]
def manyOf (l : List UInt8) : Option Int := (manyL.find? (fun p => p.1 == l)).map (·.2)
/-- The map's entries, after k of them were put in. -/
def entsL (n : Nat) : List (List UInt8 × Int) → List MapEntry
  | [] => []
  | p :: r => { key := .string { data := p.1.toArray }, val := .int .i64 p.2, born := n } :: entsL (n + 1) r
def mE (k : Nat) : Array MapEntry := (entsL 0 (manyL.take k)).toArray
theorem find_ents (x : ByteArray) : ∀ (L : List (List UInt8 × Int)) (n i : Nat), ∃ r, Instr.findNow .string (.string x) (entsL n L) i = some r ∧ r.map (·.2) = ((L.find? (fun p => p.1 == x.data.toList)).map (·.2)).map (Value.int .i64)
  | [], n, i => ⟨none, rfl, rfl⟩
  | p :: r, n, i => by
    unfold entsL Instr.findNow Instr.sameNow
    by_cases h : p.1 = x.data.toList
    · have hb : (x == ({ data := p.1.toArray } : ByteArray)) = true := by
        rw [MapKept.bytes_beq]
        apply ByteArray.ext
        simp [h]
      rw [List.find?_cons, h]
      simp only [beq_self_eq_true]
      rw [← h]
      simp only [hb]
      exact ⟨_, rfl, rfl⟩
    · have hb : (x == ({ data := p.1.toArray } : ByteArray)) = false := by
        rw [Bool.eq_false_iff]
        intro e
        rw [MapKept.bytes_beq] at e
        exact h (by rw [e])
      rw [List.find?_cons]
      have h2 : (p.1 == x.data.toList) = false := by simpa using h
      simp only [hb, h2]
      exact find_ents x r (n + 1) (i + 1)
theorem set_push (H : Array Obj) (a b : Obj) : (H.push a).setIfInBounds H.size b = H.push b := by
  apply Array.ext_getElem?
  intro i
  rw [Array.getElem?_setIfInBounds, Array.getElem?_push, Array.getElem?_push]
  by_cases h : i = H.size
  · subst h; simp
  · rw [if_neg (fun e => h e.symm), if_neg h, if_neg h]
theorem run_insert {w : World} {k : Nat} {x : ByteArray} {v : Value} {j : Nat} (hf : Instr.findNow .string (.string x) (mE k).toList 0 = some none) (hp : (mE k).push { key := .string x, val := v, born := k } = mE j) (hj : k + 1 = j) :
    (Instr.mapUpdate 82 (.map (some w.heap.size)) (.string x) v).run Tryz.prog (w.alloc (.map (mE k) k)) = .ok () (w.alloc (.map (mE j) j)) := by
  have hb := heap_alloc_new w (.map (mE k) k)
  subst hj
  rw [← hp]
  simp [Instr.mapUpdate, run_underlying Tryz.underlying82, MapKept.run_getObj_map hb, MapKept.run_checkKey Tryz.underlying9 (show MapKept.IsKey .string (.string x) from trivial), MapKept.run_findKey Tryz.underlying9 hf, MapKept.run_setObj_map _ hb, Result.andThen]
  show World.mk .. = World.mk ..
  simp only [World.alloc, set_push]
theorem run_make (w : World) : (Instr.makeMap 82 none).run Tryz.prog w = .ok (.map (some w.heap.size)) (w.alloc (.map (mE 0) 0)) := rfl
theorem ins_0 (w : World) : (Instr.mapUpdate 82 (.map (some w.heap.size)) (.string { data := #[97, 100, 100] }) (.int .i64 0)).run Tryz.prog (w.alloc (.map (mE 0) 0)) = .ok () (w.alloc (.map (mE 1) 1)) :=
  run_insert (by kernel_rfl) (by kernel_rfl) rfl
theorem ins_1 (w : World) : (Instr.mapUpdate 82 (.map (some w.heap.size)) (.string { data := #[114, 101, 109, 111, 118, 101] }) (.int .i64 1)).run Tryz.prog (w.alloc (.map (mE 1) 1)) = .ok () (w.alloc (.map (mE 2) 2)) :=
  run_insert (by kernel_rfl) (by kernel_rfl) rfl
theorem ins_2 (w : World) : (Instr.mapUpdate 82 (.map (some w.heap.size)) (.string { data := #[112, 108, 117, 103] }) (.int .i64 2)).run Tryz.prog (w.alloc (.map (mE 2) 2)) = .ok () (w.alloc (.map (mE 3) 3)) :=
  run_insert (by kernel_rfl) (by kernel_rfl) rfl
theorem ins_3 (w : World) : (Instr.mapUpdate 82 (.map (some w.heap.size)) (.string { data := #[117, 110, 112, 108, 117, 103] }) (.int .i64 2)).run Tryz.prog (w.alloc (.map (mE 3) 3)) = .ok () (w.alloc (.map (mE 4) 4)) :=
  run_insert (by kernel_rfl) (by kernel_rfl) rfl
theorem ins_4 (w : World) : (Instr.mapUpdate 82 (.map (some w.heap.size)) (.string { data := #[103, 105, 118, 101] }) (.int .i64 2)).run Tryz.prog (w.alloc (.map (mE 4) 4)) = .ok () (w.alloc (.map (mE 5) 5)) :=
  run_insert (by kernel_rfl) (by kernel_rfl) rfl
theorem ins_5 (w : World) : (Instr.mapUpdate 82 (.map (some w.heap.size)) (.string { data := #[98, 97, 99, 107] }) (.int .i64 2)).run Tryz.prog (w.alloc (.map (mE 5) 5)) = .ok () (w.alloc (.map (mE 6) 6)) :=
  run_insert (by kernel_rfl) (by kernel_rfl) rfl
theorem ins_6 (w : World) : (Instr.mapUpdate 82 (.map (some w.heap.size)) (.string { data := #[108, 111, 97, 100] }) (.int .i64 2)).run Tryz.prog (w.alloc (.map (mE 6) 6)) = .ok () (w.alloc (.map (mE 7) 7)) :=
  run_insert (by kernel_rfl) (by kernel_rfl) rfl
theorem ins_7 (w : World) : (Instr.mapUpdate 82 (.map (some w.heap.size)) (.string { data := #[115, 116, 111, 114, 101] }) (.int .i64 3)).run Tryz.prog (w.alloc (.map (mE 7) 7)) = .ok () (w.alloc (.map (mE 8) 8)) :=
  run_insert (by kernel_rfl) (by kernel_rfl) rfl
theorem ins_8 (w : World) : (Instr.mapUpdate 82 (.map (some w.heap.size)) (.string { data := #[114, 111, 111, 116] }) (.int .i64 2)).run Tryz.prog (w.alloc (.map (mE 8) 8)) = .ok () (w.alloc (.map (mE 9) 9)) :=
  run_insert (by kernel_rfl) (by kernel_rfl) rfl
theorem ins_9 (w : World) : (Instr.mapUpdate 82 (.map (some w.heap.size)) (.string { data := #[102, 111, 114, 103, 101, 116] }) (.int .i64 2)).run Tryz.prog (w.alloc (.map (mE 9) 9)) = .ok () (w.alloc (.map (mE 10) 10)) :=
  run_insert (by kernel_rfl) (by kernel_rfl) rfl
theorem ins_10 (w : World) : (Instr.mapUpdate 82 (.map (some w.heap.size)) (.string { data := #[100, 114, 111, 112] }) (.int .i64 2)).run Tryz.prog (w.alloc (.map (mE 10) 10)) = .ok () (w.alloc (.map (mE 11) 11)) :=
  run_insert (by kernel_rfl) (by kernel_rfl) rfl
theorem ins_11 (w : World) : (Instr.mapUpdate 82 (.map (some w.heap.size)) (.string { data := #[115, 99, 97, 110] }) (.int .i64 2)).run Tryz.prog (w.alloc (.map (mE 11) 11)) = .ok () (w.alloc (.map (mE 12) 12)) :=
  run_insert (by kernel_rfl) (by kernel_rfl) rfl
theorem ins_12 (w : World) : (Instr.mapUpdate 82 (.map (some w.heap.size)) (.string { data := #[115, 99, 97, 110, 97, 108, 108] }) (.int .i64 0)).run Tryz.prog (w.alloc (.map (mE 12) 12)) = .ok () (w.alloc (.map (mE 13) 13)) :=
  run_insert (by kernel_rfl) (by kernel_rfl) rfl
theorem ins_13 (w : World) : (Instr.mapUpdate 82 (.map (some w.heap.size)) (.string { data := #[103, 117, 101, 115, 116, 115] }) (.int .i64 0)).run Tryz.prog (w.alloc (.map (mE 13) 13)) = .ok () (w.alloc (.map (mE 14) 14)) :=
  run_insert (by kernel_rfl) (by kernel_rfl) rfl
theorem ins_14 (w : World) : (Instr.mapUpdate 82 (.map (some w.heap.size)) (.string { data := #[108, 101, 102, 116] }) (.int .i64 0)).run Tryz.prog (w.alloc (.map (mE 14) 14)) = .ok () (w.alloc (.map (mE 15) 15)) :=
  run_insert (by kernel_rfl) (by kernel_rfl) rfl
theorem ins_15 (w : World) : (Instr.mapUpdate 82 (.map (some w.heap.size)) (.string { data := #[112, 114, 111, 109, 105, 115, 101, 100] }) (.int .i64 0)).run Tryz.prog (w.alloc (.map (mE 15) 15)) = .ok () (w.alloc (.map (mE 16) 16)) :=
  run_insert (by kernel_rfl) (by kernel_rfl) rfl
theorem ins_16 (w : World) : (Instr.mapUpdate 82 (.map (some w.heap.size)) (.string { data := #[102, 114, 97, 109, 101] }) (.int .i64 1)).run Tryz.prog (w.alloc (.map (mE 16) 16)) = .ok () (w.alloc (.map (mE 17) 17)) :=
  run_insert (by kernel_rfl) (by kernel_rfl) rfl
theorem ins_17 (w : World) : (Instr.mapUpdate 82 (.map (some w.heap.size)) (.string { data := #[112, 97, 103, 101] }) (.int .i64 2)).run Tryz.prog (w.alloc (.map (mE 17) 17)) = .ok () (w.alloc (.map (mE 18) 18)) :=
  run_insert (by kernel_rfl) (by kernel_rfl) rfl
/-- A map that holds the commands. -/
def MAt (w : World) (g : Nat) : Prop := w.heap[g]? = some (.map (mE 18) 18)
set_option maxRecDepth 100000 in
set_option maxHeartbeats 4000000 in
theorem many_any (w : World) : Calls Tryz.prog 34 #[] w fun e w' => ∃ g, e = .returned (.map (some g)) ∧ MAt w' g ∧ Upd Non w w' := by
  have hmm := run_make w
  have h0 := ins_0 w
  have h1 := ins_1 w
  have h2 := ins_2 w
  have h3 := ins_3 w
  have h4 := ins_4 w
  have h5 := ins_5 w
  have h6 := ins_6 w
  have h7 := ins_7 w
  have h8 := ins_8 w
  have h9 := ins_9 w
  have h10 := ins_10 w
  have h11 := ins_11 w
  have h12 := ins_12 w
  have h13 := ins_13 w
  have h14 := ins_14 w
  have h15 := ins_15 w
  have h16 := ins_16 w
  have h17 := ins_17 w
  go_enter Tryz.func34, Tryz.ntmps34
  go_wp2_with fail
  go_ret
  exact ⟨_, rfl, heap_alloc_new w _, (Upd.refl _ _).alloc _⟩
theorem zeroInt (w : World) : (zeroValue 3).run Tryz.prog w = .ok (.int .i64 0) w := by
  obtain ⟨i0, hi, hz0, hz1, hz2⟩ := info_parts infoInt
  simp only [zeroValue, Sem.run_bind, run_typeInfo w hi, Result.andThen, hz0]
  rfl
theorem run_look {w : World} {g : Nat} (h : MAt w g) (x : ByteArray) : (Instr.lookup 82 (.map (some g)) (.string x) true).run Tryz.prog w = .ok (.tuple #[.int .i64 ((manyOf x.data.toList).getD 0), .bool (manyOf x.data.toList).isSome]) w := by
  obtain ⟨r, hr, hv⟩ := find_ents x manyL 0 0
  have hv : r.map (·.2) = (manyOf x.data.toList).map (Value.int .i64) := hv
  have hr : Instr.findNow .string (.string x) (mE 18).toList 0 = some r := hr
  cases hm : manyOf x.data.toList with
  | none =>
    rw [hm] at hv
    have hv : r = none := by simpa using hv
    subst hv
    simp [Instr.lookup, run_underlying Tryz.underlying82, MapKept.run_getObj_map h, MapKept.run_checkKey Tryz.underlying9 (show MapKept.IsKey .string (.string x) from trivial), MapKept.run_findKey Tryz.underlying9 hr, zeroInt, Result.andThen]
  | some v =>
    rw [hm] at hv
    obtain ⟨⟨i, u⟩, rfl, hu⟩ : ∃ p, r = some p ∧ p.2 = .int .i64 v := by simpa using hv
    have hu : u = .int .i64 v := hu
    subst hu
    simp [Instr.lookup, run_underlying Tryz.underlying82, MapKept.run_getObj_map h, MapKept.run_checkKey Tryz.underlying9 (show MapKept.IsKey .string (.string x) from trivial), MapKept.run_findKey Tryz.underlying9 hr, Result.andThen]

end U
end Go.Proofs.YtnhplapcdgnaaaaGreatDoor

set_option linter.unusedVariables false
set_option linter.unusedSimpArgs false
namespace Go.Proofs.YtnhplapcdgnaaaaGreatDoor
open Go.RowKit
namespace U

/-! The program's texts: number, fault, done, told, numbers. -/
theorem num_whole {l : List UInt8} (h : l ≠ [45, 49]) (k : ¬ (l = [] ∨ 5 < l.length ∨ leads l = true)) (d : ∀ c ∈ l, isDig c = true) : numL l = some (valL l : Int) := by
  unfold numL; rw [if_neg h, if_neg k, if_pos (List.all_eq_true.2 d)]
set_option maxRecDepth 100000 in
set_option maxHeartbeats 8000000 in
theorem number_any (w : World) (s : ByteArray) (hs : s.size ≤ 300) : Calls Tryz.prog 36 #[.string s] w (FigPost w s) := by
  have hdl := dat_length s
  by_cases hm : s.data.toList = [45, 49]
  · have h1 : (s.toList == [45, 49]) = true := by rw [toList_dat, hm]; rfl
    have hN := Lib.hid (num_minus hm)
    clear hm hdl
    go_enter Tryz.func36, Tryz.ntmps36
    go_wp2_with fail
    go_ret2
    exact ⟨-1, by rw [hN.out]; rfl, (fun z hz => by rw [hN.out] at hz; injection hz), Upd.refl _ _⟩
  · have h1 : (s.toList == [45, 49]) = false := by rw [toList_dat]; simpa using hm
    have HM := Lib.hid hm
    clear hm
    by_cases h0 : s.data.toList = []
    · have hb : (s.toList == []) = true := by rw [toList_dat, h0]; rfl
      have hbe : s.toList.isEmpty = true := by rw [toList_dat, h0]; rfl
      have hN := Lib.hid (num_none HM.out (.inl h0))
      clear h0 hdl
      go_enter Tryz.func36, Tryz.ntmps36
      go_wp2_with fail
      go_ret2
      exact ⟨0, by rw [hN.out]; rfl, (fun z hz => by rw [hN.out] at hz; cases hz), Upd.refl _ _⟩
    · have hpos : 0 < s.size := by rw [← hdl]; exact List.length_pos_iff.2 h0
      have hb : (s.toList == []) = false := by rw [toList_dat]; simpa using h0
      have hbe : s.toList.isEmpty = false := by rw [toList_dat]; simpa using h0
      have H0 := Lib.hid h0
      clear h0
      have hpos2 : (0 : Int) < s.size := by omega
      by_cases h5 : s.size ≤ 5
      · have h52 : (s.size : Int) ≤ 5 := by omega
        have HL := Lib.hid hdl
        have hh : Hid (s.data.toList.head? = some s[0]) := by
          show _ = _
          have := drop_cons s 0 hpos
          rw [List.drop_zero] at this
          rw [this]; rfl
        clear hdl
        by_cases hz : leads s.data.toList = true
        · have hN := Lib.hid (num_none HM.out (.inr (.inr hz)))
          unfold leads at hz
          rw [Bool.and_eq_true, beq_iff_eq, decide_eq_true_iff, hh.out, HL.out] at hz
          have hc : ((s[0].toNat : Nat) : Int) = 48 := by have := congrArg (Option.map UInt8.toNat) hz.1; simp at this; omega
          have hc2 : (((s[0].toNat : Nat) : Int) == 48) = true := by simpa using hc
          have hz2 : (1 : Int) < s.size := by omega
          clear hz hc
          go_enter Tryz.func36, Tryz.ntmps36
          go_wp2_with fail
          go_ret2
          exact ⟨0, by rw [hN.out]; rfl, (fun z hz => by rw [hN.out] at hz; cases hz), Upd.refl _ _⟩
        · have HZ := Lib.hid (show ¬ (s.data.toList = [] ∨ 5 < s.data.toList.length ∨ leads s.data.toList = true) by
            rintro (e | e | e)
            · exact H0.out e
            · rw [HL.out] at e; omega
            · exact hz e)
          have hz' : ¬ (s[0] = 48 ∧ 1 < s.size) := fun e => hz (by unfold leads; rw [hh.out, e.1, HL.out, decide_eq_true e.2]; rfl)
          clear hz
          have hq : ((((s[0].toNat : Nat) : Int) == 48) = true ∧ ¬ (1 : Int) < s.size) ∨ (((s[0].toNat : Nat) : Int) == 48) = false := by
            by_cases hc : s[0] = 48
            · exact .inl ⟨by rw [hc]; rfl, by have : ¬ 1 < s.size := fun e => hz' ⟨hc, e⟩; omega⟩
            · refine .inr ?_
              simp only [beq_eq_false_iff_ne, ne_eq]
              intro e
              exact hc (UInt8.toNat_inj.1 (by show s[0].toNat = 48; omega))
          clear hz'
          rcases hq with ⟨hc, hz2⟩ | hc
          all_goals
            go_enter Tryz.func36, Tryz.ntmps36
            go_wp2_with fail
            go_loop [4, 27] (fun n i => ∃ k : Nat, k ≤ s.size ∧ i = .int .i64 k ∧ n = .int .i64 (valL (s.data.toList.take k) : Nat) ∧ Hid (∀ c ∈ s.data.toList.take k, isDig c = true)) (fun _ i => s.size - (intOf i).toNat)
            case atStart => exact ⟨0, Nat.zero_le _, rfl, rfl, fun c hc => by cases hc⟩
            case round =>
              obtain ⟨k, hk, rfl, rfl, hD⟩ := hrel
              have hv0 := valL_lt _ _ rfl hD.out
              have hv : valL (s.data.toList.take k) < 100000 := by
                have h6 : (s.data.toList.take k).length ≤ 5 := by have := List.length_take_le k s.data.toList; omega
                have := Nat.pow_le_pow_right (n := 10) (by omega) h6
                omega
              clear hv0
              by_cases hlt : k < s.size
              · have hlt2 : (k : Int) < s.size := by omega
                have hsn := Lib.hid (take_snoc s k hlt)
                have hmem : Hid (s[k] ∈ s.data.toList) := by
                  have : s[k] ∈ s.data.toList.take (k + 1) := by rw [hsn.out]; simp
                  exact List.mem_of_mem_take this
                cases hdig : isDig s[k] with
                | true =>
                  obtain ⟨g1, g2⟩ := isDig_iff.1 hdig
                  have g3 : ¬ ((s[k].toNat : Nat) : Int) < 48 := by omega
                  have g4 : ((s[k].toNat : Nat) : Int) ≤ 57 := by omega
                  have hvs := Lib.hid (valL_snoc (s.data.toList.take k) s[k])
                  have hD2 : Hid (∀ c ∈ s.data.toList.take (k + 1), isDig c = true) := by
                    intro c hc
                    rw [hsn.out, List.mem_append] at hc
                    rcases hc with hc | hc
                    · exact hD.out c hc
                    · rw [List.mem_singleton] at hc; rw [hc]; exact hdig
                  clear hdig
                  go_wp2_with fail
                  go_round
                  case rel => exact ⟨k + 1, by omega, by go_num, by rw [hsn.out, hvs.out]; go_num, hD2⟩
                  case measure => simp [intOf]; omega
                | false =>
                  have hN := Lib.hid (num_bad HM.out hmem.out hdig)
                  by_cases g1 : s[k].toNat < 48
                  · have g3 : ((s[k].toNat : Nat) : Int) < 48 := by omega
                    clear hdig
                    go_wp2_with fail
                    go_ret2
                    exact ⟨0, by rw [hN.out]; rfl, (fun z hz => by rw [hN.out] at hz; cases hz), Upd.refl _ _⟩
                  · have g3 : ¬ ((s[k].toNat : Nat) : Int) < 48 := by omega
                    have g4 : (57 : Int) < ((s[k].toNat : Nat) : Int) := by
                      rcases Nat.lt_or_ge 57 s[k].toNat with h | h
                      · omega
                      · have := isDig_iff.2 ⟨by omega, h⟩; rw [hdig] at this; cases this
                    clear hdig
                    go_wp2_with fail
                    go_ret2
                    exact ⟨0, by rw [hN.out]; rfl, (fun z hz => by rw [hN.out] at hz; cases hz), Upd.refl _ _⟩
              · obtain rfl : k = s.size := by omega
                have ht : s.data.toList.take s.size = s.data.toList := List.take_of_length_le (by rw [HL.out]; exact Nat.le_refl _)
                rw [ht] at hv hD ⊢
                have E := Lib.hid (num_whole HM.out HZ.out hD.out)
                generalize valL s.data.toList = n at hv E
                clear ht hD
                go_wp2_with fail
                go_ret2
                exact ⟨n, by rw [E.out]; rfl, (fun z hz => by rw [E.out] at hz; injection hz), Upd.refl _ _⟩
      · have h52 : ¬ (s.size : Int) ≤ 5 := by omega
        have hN := Lib.hid (num_none HM.out (.inr (.inl (by rw [hdl]; omega))))
        clear hdl
        go_enter Tryz.func36, Tryz.ntmps36
        go_wp2_with fail
        go_ret2
        exact ⟨0, by rw [hN.out]; rfl, (fun z hz => by rw [hN.out] at hz; cases hz), Upd.refl _ _⟩

end U
end Go.Proofs.YtnhplapcdgnaaaaGreatDoor

set_option linter.unusedVariables false
set_option linter.unusedSimpArgs false
namespace Go.Proofs.YtnhplapcdgnaaaaGreatDoor
open Go.RowKit
namespace U

/-! The program's texts: fault, done, told, numbers. -/
def toldS (n e : Nat) : ByteArray := if e = 0 then numS n else faultS e
set_option maxRecDepth 100000 in
theorem fault_any {w : World} (t : LW w) (e : Nat) (he : e ≤ 1000000) : Calls Tryz.prog 35 #[.iface 37 (.int .i64 e)] w fun x w' => x = .returned (.string (faultS e)) ∧ Upd Non w w' := by
  have z1 := numS_size he
  have z2 := errw_size
  have ha := assert_errno e
  go_enter Tryz.func35, Tryz.ntmps35
  go_wp2_with (first | (go_at_call 51; refine (itoa_any t e (by omega)).mono ?_; rintro e w2 ⟨rfl, u2⟩) | fail)
  go_ret
  exact ⟨rfl, u2⟩
set_option maxRecDepth 100000 in
theorem done_any {w : World} (t : LW w) (e : Nat) (he : e ≤ 1000000) : Calls Tryz.prog 54 #[errv e] w fun x w' => x = .returned (.string (doneS e)) ∧ Upd Non w w' := by
  unfold errv
  by_cases h0 : e = 0
  · have hD := Lib.hid (show doneS e = okS by unfold doneS; rw [if_pos h0])
    rw [if_pos h0]
    clear h0
    go_enter Tryz.func54, Tryz.ntmps54
    go_wp2_with fail
    go_ret
    exact ⟨by rw [hD.out]; rfl, Upd.refl _ _⟩
  · have hD := Lib.hid (show doneS e = faultS e by unfold doneS; rw [if_neg h0])
    rw [if_neg h0]
    clear h0
    go_enter Tryz.func54, Tryz.ntmps54
    go_wp2_with (first | (go_at_call 35; refine (fault_any t e he).mono ?_; rintro e w2 ⟨rfl, u2⟩) | fail)
    go_ret
    exact ⟨by rw [hD.out]; rfl, u2⟩
set_option maxRecDepth 100000 in
theorem told_any {w : World} (t : LW w) (n e : Nat) (hn : n ≤ 1000000) (he : e ≤ 1000000) : Calls Tryz.prog 52 #[.int .i64 n, errv e] w fun x w' => x = .returned (.string (toldS n e)) ∧ Upd Non w w' := by
  unfold errv
  by_cases h0 : e = 0
  · have hD := Lib.hid (show toldS n e = numS n by unfold toldS; rw [if_pos h0])
    rw [if_pos h0]
    clear h0
    go_enter Tryz.func52, Tryz.ntmps52
    go_wp2_with (first | (go_at_call 51; refine (itoa_any t n (by omega)).mono ?_; rintro e w2 ⟨rfl, u2⟩) | fail)
    go_ret
    exact ⟨by rw [hD.out]; rfl, u2⟩
  · have hD := Lib.hid (show toldS n e = faultS e by unfold toldS; rw [if_neg h0])
    rw [if_neg h0]
    clear h0
    go_enter Tryz.func52, Tryz.ntmps52
    go_wp2_with (first | (go_at_call 35; refine (fault_any t e he).mono ?_; rintro e w2 ⟨rfl, u2⟩) | fail)
    go_ret
    exact ⟨by rw [hD.out]; rfl, u2⟩
theorem joinD_nums (L : List Nat) : Lib.join ((L.map numS).map (·.data.toList)) [32] = joinD L := by
  unfold joinD numS
  rw [List.map_map]
  rfl
theorem joinD_len2 : ∀ (N : Nat) (L : List Nat), L.length = N → (∀ n ∈ L, n ≤ 1000) → (joinD L).length ≤ 1002 * L.length := by
  intro N
  induction N with
  | zero => intro L hL _; rw [List.length_eq_zero_iff.1 hL]; exact Nat.zero_le _
  | succ N ih =>
    intro L hL h
    rcases List.eq_nil_or_concat L with e | ⟨M, n, e⟩
    · rw [e] at hL; cases hL
    · rw [List.concat_eq_append] at e
      subst e
      have := ih M (by simpa using hL) (fun x hx => h x (List.mem_append_left _ hx))
      have hn := h n (by simp)
      have hd := dec_le n n (Nat.le_refl _)
      rw [joinD_snoc]
      split
      · simp; omega
      · simp; omega
set_option maxRecDepth 100000 in
set_option maxHeartbeats 4000000 in
theorem numbers_any {w : World} (t : LW w) (v : Value) (L : List Nat) (h : NRow w v (L.map fun (n : Nat) => (n : Int))) (hl : L.length ≤ 10) (hn : ∀ n ∈ L, n ≤ 1000) : Calls Tryz.prog 68 #[v] w fun e w' => e = .returned (.string (listS L)) ∧ Upd Non w w' := by
  obtain ⟨A, cap, rfl⟩ := h.form
  have hlm : (L.map fun (n : Nat) => (n : Int)).length = L.length := List.length_map ..
  rw [hlm] at h ⊢
  have HLM := Lib.hid hlm
  clear hlm
  go_enter Tryz.func68, Tryz.ntmps68
  go_wp2_with fail
  go_loopw [3, 8] (fun s i wr => ∃ (k : Nat) (v : Value), k ≤ L.length ∧ i = .int .i64 k ∧ s = v ∧ Hid (SRow wr v ((L.take k).map numS)) ∧ Hid (Fresh w v) ∧ Hid (Upd Non w wr)) (fun _ i _ => L.length - (intOf i).toNat)
  case atStart => exact ⟨0, _, Nat.zero_le _, rfl, rfl, SRow.nil, fun g hg => (by cases hg), Upd.refl _ _⟩
  case round =>
    obtain ⟨k, v, hk, rfl, rfl, hS, hF, hU⟩ := hrel
    by_cases hlt : k < L.length
    · have hlt2 : (k : Int) < L.length := by omega
      obtain ⟨g, o, cap', hv, hg, hE⟩ := (h.upd_ hU.out (fun _ _ => (fun h => h))).at_ (i := k) (by rw [HLM.out]; exact hlt)
      obtain ⟨rfl, rfl⟩ : A = some ⟨g, o, none⟩ ∧ cap = cap' := by simpa using hv
      rw [List.getElem_map] at hE
      have hts := Lib.hid (show (L.take (k + 1)).map numS = (L.take k).map numS ++ [numS L[k]] by rw [List.take_succ_eq_append_getElem hlt, List.map_append]; rfl)
      have hnk := hn L[k] (List.getElem_mem hlt)
      have hll : Hid (((L.take k).map numS).length ≤ 100000) := by show _ ≤ _; rw [List.length_map]; have := List.length_take_le k L; omega
      have t2 := Lib.hid (t.upd hU.out)
      clear hv h
      generalize L[k] = n at hE hnk hts
      go_wp2_with (first
        | (go_at_call 51; refine (itoa_any t2.out n (by omega)).mono ?_; rintro e w2 ⟨rfl, u2⟩; have hS2 := Lib.hid (hS.out.upd_ u2 (fun _ _ => (fun h => h))); have hU2 := Lib.hid (hU.out.trans u2))
        | (at_builtin; refine wpl_append_s rfl _ _ rfl _ _ rfl rfl _ (numS n) (hS2.out.alloc _) hll.out (sbox _ _) ?_; intro v2 w3 hv2 u3 hb2)
        | fail)
      go_roundw
      case rel => exact ⟨k + 1, v2, by omega, by go_num, rfl, by rw [hts.out]; exact hv2, fresh_ofS (hU2.out.alloc _) hF.out hb2, (hU2.out.alloc _).over u3 hF.out⟩
      case measure => simp [intOf]; omega
    · obtain rfl : k = L.length := by omega
      have hS := hS.out
      rw [List.take_length] at hS
      obtain ⟨A2, cap2, rfl⟩ := hS.form
      rw [List.length_map] at hS ⊢
      have hS := Lib.hid hS
      have t2 := Lib.hid (t.upd hU.out)
      by_cases h0 : L.length = 0
      · have h00 : ((L.length : Int) == 0) = true := by simpa using h0
        have HS := Lib.hid (show listS L = strOf [45] by rw [listS_of, if_pos (List.length_eq_zero_iff.1 h0)])
        clear h0
        go_wp2_with fail
        go_ret
        exact ⟨by rw [HS.out]; rfl, hU.out⟩
      · have h00 : ((L.length : Int) == 0) = false := by simp; simpa using h0
        have hne : L ≠ [] := fun e => h0 (by rw [e]; rfl)
        have HS := Lib.hid (show listS L = strOf (joinD L) by rw [listS_of, if_neg hne])
        have hj := joinD_len2 _ L rfl hn
        have HJ := Lib.hid (sjoin_any hS.out (by simpa using hne) (by rw [List.length_map]; omega) (by rw [joinD_nums]; omega))
        clear h0 hne hj
        go_wp2_with (first | (go_at_call 103; refine HJ.out.mono ?_; rintro e w2 ⟨rfl, u2⟩) | fail)
        go_ret
        exact ⟨by rw [HS.out]; rfl, hU.out.trans u2⟩

end U
end Go.Proofs.YtnhplapcdgnaaaaGreatDoor
