import Derived.Test.YtnhplapcdgnaaaaGreatDoorConRX
import Derived.Test.YtnhplapcdgnaaaaGreatDoorConPX
import Derived.Test.YtnhplapcdgnaaaaGreatDoorHostQm
set_option linter.unusedVariables false
set_option linter.unusedSimpArgs false
namespace Go.Proofs.YtnhplapcdgnaaaaGreatDoor
open Go.RowKit
namespace U

/-! console.do of any command (written by gen_conu.py). -/
section
variable {w0 w : World} {h : Nat} {L : PoolAt} {K : Nat → GAt} {H : HostM}
theorem CN.start (T : HW w0 w h L K H) (lw : LW w0) {v : Value} {ns : List Int} (hv : NRow w v ns) (hoff : ∀ g, v.ownBlock = some g → ¬ ownH h L K H g) :
    (v = .slice none 0 0 ∧ ns = []) ∨ ∃ g o cap, v = .slice (some ⟨g, o, none⟩) ns.length cap ∧ CN w0 w (ownH h L K H) w h L K H g o ns := by
  rcases hv with ⟨rfl, rfl⟩ | ⟨g, o, cap, C, rfl, h1, h2, h3, h4, h5⟩
  · exact .inl ⟨rfl, rfl⟩
  · exact .inr ⟨g, o, cap, rfl, T, PH.start T.r, h5, fun _ => hoff g rfl, fun _ => heap_lt h3, lw⟩
theorem CN.none (T : HW w0 w h L K H) (lw : LW w0) : CN w0 w (ownH h L K H) w h L K H 0 0 [] :=
  ⟨T, PH.start T.r, fun i x hx => by simp at hx, fun e => absurd rfl e, fun e => absurd rfl e, lw⟩
theorem do_any (T : HW w0 w h L K H) (lw : LW w0) (hI : HInv H) {v : Value} {ns : List Int} (hv : NRow w v ns) (hoff : ∀ g, v.ownBlock = some g → ¬ ownH h L K H g) {x : ByteArray} {k : CK} {m : Nat} (hk : (x.data.toList, k, m) ∈ ckL) (hl : ns.length = m) :
    Calls Tryz.prog 37 #[.pointer (some ⟨h, 0, none⟩), .string x, v] w (DoPost w h L K H (cdo H k (ns.getD 0 0) (ns.getD 1 0) (ns.getD 2 0))) := by
  have C0 := CN.none T lw
  have C1 := CN.start T lw hv hoff
  unfold ckL at hk
  simp only [List.mem_cons, Prod.mk.injEq, List.not_mem_nil, or_false] at hk
  rcases hk with ⟨hx, rfl, rfl⟩ | ⟨hx, rfl, rfl⟩ | ⟨hx, rfl, rfl⟩ | ⟨hx, rfl, rfl⟩ | ⟨hx, rfl, rfl⟩ | ⟨hx, rfl, rfl⟩ | ⟨hx, rfl, rfl⟩ | ⟨hx, rfl, rfl⟩ | ⟨hx, rfl, rfl⟩ | ⟨hx, rfl, rfl⟩ | ⟨hx, rfl, rfl⟩ | ⟨hx, rfl, rfl⟩ | ⟨hx, rfl, rfl⟩ | ⟨hx, rfl, rfl⟩ | ⟨hx, rfl, rfl⟩ | ⟨hx, rfl, rfl⟩ | ⟨hx, rfl, rfl⟩ | ⟨hx, rfl, rfl⟩
  · obtain rfl : ns = [] := List.length_eq_zero_iff.1 hl
    exact do_add (cap := 0) v C0 hI x hx
  · obtain ⟨a, rfl⟩ : ∃ a, ns = [a] := by
      match ns, hl with
      | [a], _ => exact ⟨a, rfl⟩
    rcases C1 with ⟨_, e⟩ | ⟨g, o, cap, rfl, C1⟩
    · cases e
    · exact do_remove a C1 hI x hx
  · obtain ⟨a, b, rfl⟩ : ∃ a b, ns = [a, b] := by
      match ns, hl with
      | [a, b], _ => exact ⟨a, b, rfl⟩
    rcases C1 with ⟨_, e⟩ | ⟨g, o, cap, rfl, C1⟩
    · cases e
    · exact do_plug a b C1 hI x hx
  · obtain ⟨a, b, rfl⟩ : ∃ a b, ns = [a, b] := by
      match ns, hl with
      | [a, b], _ => exact ⟨a, b, rfl⟩
    rcases C1 with ⟨_, e⟩ | ⟨g, o, cap, rfl, C1⟩
    · cases e
    · exact do_unplug a b C1 hI x hx
  · obtain ⟨a, b, rfl⟩ : ∃ a b, ns = [a, b] := by
      match ns, hl with
      | [a, b], _ => exact ⟨a, b, rfl⟩
    rcases C1 with ⟨_, e⟩ | ⟨g, o, cap, rfl, C1⟩
    · cases e
    · exact do_give a b C1 hI x hx
  · obtain ⟨a, b, rfl⟩ : ∃ a b, ns = [a, b] := by
      match ns, hl with
      | [a, b], _ => exact ⟨a, b, rfl⟩
    rcases C1 with ⟨_, e⟩ | ⟨g, o, cap, rfl, C1⟩
    · cases e
    · exact do_back a b C1 hI x hx
  · obtain ⟨a, b, rfl⟩ : ∃ a b, ns = [a, b] := by
      match ns, hl with
      | [a, b], _ => exact ⟨a, b, rfl⟩
    rcases C1 with ⟨_, e⟩ | ⟨g, o, cap, rfl, C1⟩
    · cases e
    · exact do_load a b C1 hI x hx
  · obtain ⟨a, b, c, rfl⟩ : ∃ a b c, ns = [a, b, c] := by
      match ns, hl with
      | [a, b, c], _ => exact ⟨a, b, c, rfl⟩
    rcases C1 with ⟨_, e⟩ | ⟨g, o, cap, rfl, C1⟩
    · cases e
    · exact do_store a b c C1 hI x hx
  · obtain ⟨a, b, rfl⟩ : ∃ a b, ns = [a, b] := by
      match ns, hl with
      | [a, b], _ => exact ⟨a, b, rfl⟩
    rcases C1 with ⟨_, e⟩ | ⟨g, o, cap, rfl, C1⟩
    · cases e
    · exact do_root a b C1 hI x hx
  · obtain ⟨a, b, rfl⟩ : ∃ a b, ns = [a, b] := by
      match ns, hl with
      | [a, b], _ => exact ⟨a, b, rfl⟩
    rcases C1 with ⟨_, e⟩ | ⟨g, o, cap, rfl, C1⟩
    · cases e
    · exact do_forget a b C1 hI x hx
  · obtain ⟨a, b, rfl⟩ : ∃ a b, ns = [a, b] := by
      match ns, hl with
      | [a, b], _ => exact ⟨a, b, rfl⟩
    rcases C1 with ⟨_, e⟩ | ⟨g, o, cap, rfl, C1⟩
    · cases e
    · exact do_drop a b C1 hI x hx
  · obtain ⟨a, b, rfl⟩ : ∃ a b, ns = [a, b] := by
      match ns, hl with
      | [a, b], _ => exact ⟨a, b, rfl⟩
    rcases C1 with ⟨_, e⟩ | ⟨g, o, cap, rfl, C1⟩
    · cases e
    · exact do_scan a b C1 hI x hx
  · obtain rfl : ns = [] := List.length_eq_zero_iff.1 hl
    exact do_scanall (cap := 0) v C0 hI x hx
  · obtain rfl : ns = [] := List.length_eq_zero_iff.1 hl
    exact do_guests (cap := 0) v C0 hI x hx
  · obtain rfl : ns = [] := List.length_eq_zero_iff.1 hl
    exact do_left (cap := 0) v C0 hI x hx
  · obtain rfl : ns = [] := List.length_eq_zero_iff.1 hl
    exact do_promised (cap := 0) v C0 hI x hx
  · obtain ⟨a, rfl⟩ : ∃ a, ns = [a] := by
      match ns, hl with
      | [a], _ => exact ⟨a, rfl⟩
    rcases C1 with ⟨_, e⟩ | ⟨g, o, cap, rfl, C1⟩
    · cases e
    · exact do_frame a C1 hI x hx
  · obtain ⟨a, b, rfl⟩ : ∃ a b, ns = [a, b] := by
      match ns, hl with
      | [a, b], _ => exact ⟨a, b, rfl⟩
    rcases C1 with ⟨_, e⟩ | ⟨g, o, cap, rfl, C1⟩
    · cases e
    · exact do_page a b C1 hI x hx
end

end U
end Go.Proofs.YtnhplapcdgnaaaaGreatDoor

set_option linter.unusedVariables false
set_option linter.unusedSimpArgs false
namespace Go.Proofs.YtnhplapcdgnaaaaGreatDoor
open Go.RowKit
namespace U

/-! console.say. -/
/-- What the loop over a line's words has read. -/
structure SY (w wr : World) (v : Value) (args : List ByteArray) (j : Nat) (ns : List Int) : Prop where
  nr : NRow wr v ns
  fr : Fresh w v
  up : Upd Non w wr
  is : numsOf (args.take j) = some ns
  len : ns.length = j
/-- A slice's elements but the first. -/
def TailAt (w : World) (g o : Nat) (args : List ByteArray) : Prop := ∀ i y, args[i]? = some y → w.cell? ⟨g, o + 1 + i, none⟩ = some (.string y)
theorem TailAt.non {w w' : World} {g o : Nat} {args : List ByteArray} (t : TailAt w g o args) (u : Upd Non w w') : TailAt w' g o args := fun i y hy => u.cell (t i y hy) (fun h => h)
theorem tail_T {w : World} {g o N cap : Nat} {x : ByteArray} {args : List ByteArray} (h : SRow w (.slice (some ⟨g, o, none⟩) N cap) (x :: args)) : TailAt w g o args ∧ args.length + 1 ≤ cap := by
  rcases h with ⟨e, _⟩ | ⟨g2, o2, cap2, C, e, h1, h2, h3, h4, h5⟩
  · cases e
  · injection e with e1 e2 e3
    injection e1 with e1
    injection e1 with e1 e4
    subst e1 e4 e3
    exact ⟨fun i y hy => by have := h5 (i + 1) y (by simpa using hy); rw [show o + 1 + i = o + (i + 1) by omega]; exact this, h1⟩
theorem wa_size : ∀ (s cur : List UInt8) (y : List UInt8), y ∈ wa cur s → y.length ≤ cur.length + s.length
  | [], cur, y, h => by
    unfold wa at h
    rw [List.mem_singleton] at h
    subst h
    simp
  | c :: t, cur, y, h => by
    unfold wa at h
    split at h
    · rcases List.mem_cons.1 h with rfl | h
      · omega
      · have := wa_size t [] y h
        simp at this ⊢
        omega
    · have := wa_size t (cur ++ [c]) y h
      simp at this ⊢
      omega
theorem words_size {s x : ByteArray} {args : List ByteArray} {n : Nat} (hw : wordsB s = x :: args) (hs : s.size ≤ n) : ∀ y ∈ args, y.size ≤ n := fun y hy => by
  have h1 : y.data.toList ∈ wordsL s.data.toList := by
    rw [← wordsB_list, hw]
    exact List.mem_map_of_mem (List.mem_cons_of_mem _ hy)
  have h2 := wa_size _ _ _ h1
  rw [dat_length, dat_length] at h2
  simp at h2
  omega
section
variable {w0 w : World} {h : Nat} {L : PoolAt} {K : Nat → GAt} {H : HostM}
set_option maxRecDepth 100000 in
set_option maxHeartbeats 8000000 in
theorem say_bad (T : HW w0 w h L K H) (lw : LW w0) (s : ByteArray) (hs : s.size ≤ 300) {x : ByteArray} {args : List ByteArray} (hw : wordsB s = x :: args)
    (hb : ckOf x.data.toList = none ∨ ∃ q, ckOf x.data.toList = some q ∧ ¬ (args.length = q.2 ∧ s.size ≤ 200)) :
    Calls Tryz.prog 11 #[.pointer (some ⟨h, 0, none⟩), .string s] w (DoPost w h L K H (H, faultS 9)) := by
  have lww := lw.upd T.up
  go_enter Tryz.func11, Tryz.ntmps11
  go_upto_region 2 with (first
    | (go_at_call 33; refine Calls.mono (split_any lww s hs) ?_; rintro e w2 ⟨v, rfl, hv, hf, u2⟩)
    | fail)
  rw [hw] at hv
  obtain ⟨g, o, cap, rfl, lg, hc⟩ := hv.at_ (i := 0) (by simp)
  have hc : w2.cell? ⟨g, o, none⟩ = some (.string x) := hc
  have T2 := Lib.hid (T.non u2)
  have P2 := Lib.hid ((PH.start T.r).non u2)
  have hv0 := hv
  generalize hN : (x :: args).length = N at hv ⊢
  have hN0 : 0 < N := by rw [← hN]; simp
  have hN1 : (0 : Int) < N := by omega
  have hN2 : args.length + 1 = N := hN
  have hvT := Lib.hid (tail_T hv0)
  clear hN hv hv0
  go_region_held3 (fun w' => w'.cell? ⟨g, o, none⟩ = some (.string x)) (first | exact c3' | exact hc | simp) (first
    | (go_at_call 34; refine Calls.mono (many_any _) ?_; rintro e w3 ⟨g3, rfl, hm3, u3⟩; have hlk := run_look hm3 x; have c3' := Upd.cell u3 hc (fun h => h); have T3 := Lib.hid ((T2.out.non (Upd.refl _ _).drew).non u3); have P3 := Lib.hid (P2.out.drew.non u3)))
  rcases hb with hk | ⟨q, hk, hb⟩
  · have e1 : manyOf x.data.toList = none := by rw [manyOf_ck, hk]; rfl
    rw [e1, Option.getD_none, Option.isSome_none]
    go_wp2_with (first | (go_at_call 35; refine Calls.mono (fault_any (lw.upd T3.out.up) 9 (by omega)) ?_; rintro e w4 ⟨rfl, u4⟩) | fail)
    go_ret
    exact ⟨rfl, _, P3.out.non u4⟩
  · have e1 : manyOf x.data.toList = some (q.2 : Int) := by rw [manyOf_ck, hk]; rfl
    rw [e1, Option.getD_some, Option.isSome_some]
    have hq : q.2 ≤ 3 := by
      have := ck_mem hk
      obtain ⟨q1, q2⟩ := q
      unfold ckL at this
      simp only [List.mem_cons, Prod.mk.injEq, List.not_mem_nil, or_false] at this
      show q2 ≤ 3
      omega
    have e2 : IntKind.i64.wrap ((q.2 : Int) + 1) = (q.2 : Int) + 1 := IntWalk.i64_in _ (by constructor <;> omega)
    by_cases hl : args.length = q.2
    · have hs2 : (200 : Int) < s.size := by
        have : ¬ s.size ≤ 200 := fun e => hb ⟨hl, e⟩
        omega
      have e3 : ((N : Int) == (q.2 : Int) + 1) = true := by simp; omega
      clear hb
      go_wp2_with (first | (go_at_call 35; refine Calls.mono (fault_any (lw.upd T3.out.up) 9 (by omega)) ?_; rintro e w4 ⟨rfl, u4⟩) | fail)
      go_ret
      exact ⟨rfl, _, P3.out.non u4⟩
    · have e3 : ((N : Int) == (q.2 : Int) + 1) = false := by simp; omega
      clear hb
      go_wp2_with (first | (go_at_call 35; refine Calls.mono (fault_any (lw.upd T3.out.up) 9 (by omega)) ?_; rintro e w4 ⟨rfl, u4⟩) | fail)
      go_ret
      exact ⟨rfl, _, P3.out.non u4⟩
set_option maxRecDepth 100000 in
set_option maxHeartbeats 8000000 in
theorem say_good (T : HW w0 w h L K H) (lw : LW w0) (hI0 : HInv H) (s : ByteArray) (hs : s.size ≤ 300) {x : ByteArray} {args : List ByteArray} (hw : wordsB s = x :: args) {q : CK × Nat} (hk : ckOf x.data.toList = some q) (hl : args.length = q.2) (h2 : s.size ≤ 200) :
    Calls Tryz.prog 11 #[.pointer (some ⟨h, 0, none⟩), .string s] w (DoPost w h L K H (csayN H q.1 args)) := by
  have hI := Lib.hid hI0
  clear hI0
  have lww := lw.upd T.up
  go_enter Tryz.func11, Tryz.ntmps11
  go_upto_region 2 with (first
    | (go_at_call 33; refine Calls.mono (split_any lww s hs) ?_; rintro e w2 ⟨v, rfl, hv, hf, u2⟩)
    | fail)
  rw [hw] at hv
  obtain ⟨g, o, cap, rfl, lg, hc⟩ := hv.at_ (i := 0) (by simp)
  have hc : w2.cell? ⟨g, o, none⟩ = some (.string x) := hc
  have T2 := Lib.hid (T.non u2)
  have P2 := Lib.hid ((PH.start T.r).non u2)
  have hv0 := hv
  generalize hN : (x :: args).length = N at hv ⊢
  have hN0 : 0 < N := by rw [← hN]; simp
  have hN1 : (0 : Int) < N := by omega
  have hN2 : args.length + 1 = N := hN
  have hvT := Lib.hid (tail_T hv0)
  clear hN hv hv0
  go_region_held3 (fun w' => w'.cell? ⟨g, o, none⟩ = some (.string x)) (first | exact c3' | exact hc | simp) (first
    | (go_at_call 34; refine Calls.mono (many_any _) ?_; rintro e w3 ⟨g3, rfl, hm3, u3⟩; have hlk := run_look hm3 x; have c3' := Upd.cell u3 hc (fun h => h); have T3 := Lib.hid ((T2.out.non (Upd.refl _ _).drew).non u3); have P3 := Lib.hid (P2.out.drew.non u3)))
  have e1 : manyOf x.data.toList = some (q.2 : Int) := by rw [manyOf_ck, hk]; rfl
  rw [e1, Option.getD_some, Option.isSome_some]
  have hmem := Lib.hid (ck_mem hk)
  have hq : q.2 ≤ 3 := by
    have := ck_mem hk
    obtain ⟨q1, q2⟩ := q
    unfold ckL at this
    simp only [List.mem_cons, Prod.mk.injEq, List.not_mem_nil, or_false] at this
    show q2 ≤ 3
    omega
  have e2 : IntKind.i64.wrap ((q.2 : Int) + 1) = (q.2 : Int) + 1 := IntWalk.i64_in _ (by constructor <;> omega)
  have e3 : ((N : Int) == (q.2 : Int) + 1) = true := by simp; omega
  have hs2 : ¬ (200 : Int) < s.size := by omega
  have tl := Lib.hid (TailAt.non hvT.out.1 ((Upd.refl _ _).drew.trans u3))
  have hcap := hvT.out.2
  have lg3 : g < w3.heap.size := Nat.lt_of_lt_of_le lg (by have := u3.size; exact this)
  have hN3 : N ≤ cap := by omega
  have hN4 : (1 : Int) ≤ N := by omega
  have hN5 : (N : Int) ≤ cap := by omega
  have hU := Lib.hid (u2.trans ((Upd.refl _ _).drew.trans u3))
  have hsz := Lib.hid (words_size hw hs)
  clear hc lg hf u2 u3 hm3 hvT hcap hw
  by_cases h1 : cap = 1
  · have hN6 : N - 1 = args.length := by omega
    have ha : args.length = 0 := by omega
    subst h1
    go_wp2_with fail
    try rw [hN6]
    go_loopw [8, 42] (fun l i wr => ∃ (j : Nat) (v : Value) (ns : List Int), j ≤ args.length ∧ i = .int .i64 j ∧ l = v ∧ Hid (SY w3 wr v args j ns)) (fun _ i _ => args.length - (intOf i).toNat)
    case atStart => exact ⟨0, _, [], Nat.zero_le _, rfl, rfl, NRow.nil, (fun g hg => by cases hg), Upd.refl _ _, rfl, rfl⟩
    case round =>
      obtain ⟨j, v, ns, hj, rfl, rfl, hT⟩ := hrel
      by_cases hlt : j < args.length
      · exact absurd hlt (by omega)
      · obtain rfl : j = args.length := by omega
        have hxc := Upd.cell hT.out.up c3' (fun h => h)
        have lgr : g < wr.heap.size := Nat.lt_of_lt_of_le lg3 hT.out.up.size
        have his := hT.out.is
        rw [List.take_length] at his
        have HC := Lib.hid (csayN_nums (H := H) (k := q.1) his)
        have hoff := fun g hg (e : ownH h L K H g) => (by have := hT.out.fr g hg; have := T3.out.r.lts g e; omega : False)
        have hd := Lib.hid (do_any (T3.out.non hT.out.up) lw hI.out hT.out.nr hoff (k := q.1) (m := q.2) hmem.out (hT.out.len.trans hl))
        have PT := Lib.hid (P3.out.non hT.out.up)
        clear his hoff
        go_wp2_with (first
          | (go_at_call 37; refine Calls.mono hd.out ?_; unfold DoPost; rintro e w4 ⟨rfl, K4, s4⟩)
          | fail)
        go_ret
        exact ⟨by rw [HC.out]; rfl, _, by rw [HC.out]; exact PT.out.trans s4⟩
  · have hN6 : N - 1 = args.length := by omega
    go_wp2_with fail
    try rw [hN6]
    go_loopw [8, 42] (fun l i wr => ∃ (j : Nat) (v : Value) (ns : List Int), j ≤ args.length ∧ i = .int .i64 j ∧ l = v ∧ Hid (SY w3 wr v args j ns)) (fun _ i _ => args.length - (intOf i).toNat)
    case atStart => exact ⟨0, _, [], Nat.zero_le _, rfl, rfl, NRow.nil, (fun g hg => by cases hg), Upd.refl _ _, rfl, rfl⟩
    case round =>
      obtain ⟨j, v, ns, hj, rfl, rfl, hT⟩ := hrel
      by_cases hlt : j < args.length
      · have hlt2 : (j : Int) < args.length := by omega
        have hE := (tl.out.non hT.out.up) j _ (List.getElem?_eq_getElem hlt)
        have lgr : g < wr.heap.size := Nat.lt_of_lt_of_le lg3 hT.out.up.size
        have hts := Lib.hid (show args.take (j + 1) = args.take j ++ [args[j]] from List.take_succ_eq_append_getElem hlt)
        have hmem2 := Lib.hid (List.getElem_mem hlt)
        have hys : (args[j]).size ≤ 300 := hsz.out _ (List.getElem_mem hlt)
        generalize args[j] = y at hE hts hmem2 hys
        have hll : Hid (ns.length ≤ 100000) := by show _ ≤ _; have := hT.out.len; omega
        cases hn : numL y.data.toList with
        | none =>
          have HB := Lib.hid (csayN_bad (H := H) (k := q.1) (numsOf_bad args hmem2.out hn))
          have tw := Lib.hid (lw.upd (T3.out.non hT.out.up).up)
          go_wp2_with (first
            | (go_at_call 36; refine Calls.mono (number_any _ y hys) ?_; unfold FigPost; rw [hn]; rintro e w4 ⟨z0, rfl, _, u4⟩)
            | (go_at_call 35; refine Calls.mono (fault_any (tw.out.upd u4) 9 (by omega)) ?_; rintro e w5 ⟨rfl, u5⟩)
            | fail)
          go_ret
          exact ⟨by rw [HB.out]; rfl, _, by rw [HB.out]; exact ((P3.out.non hT.out.up).non u4).non u5⟩
        | some z =>
          have HS := Lib.hid (numsOf_snoc (args.take j) y hT.out.is hn)
          go_wp2_with (first
            | (go_at_call 36; refine Calls.mono (number_any _ y hys) ?_; unfold FigPost; rw [hn]; rintro e w4 ⟨z0, rfl, hz, u4⟩; obtain rfl := hz z rfl; have hr4 := Lib.hid (hT.out.nr.upd_ u4 (fun _ _ => (fun h => h))))
            | (at_builtin; refine wpl_append_n rfl _ _ rfl _ _ rfl rfl ns z0 (hr4.out.alloc _) hll.out (nbox _ _) ?_; intro v2 w5 hv2 u5 hb2)
            | fail)
          go_roundw
          case rel => exact ⟨j + 1, v2, _, by omega, by go_num, rfl, hv2, fresh_ofN ((hT.out.up.trans u4).alloc _) hT.out.fr hb2, ((hT.out.up.trans u4).alloc _).over u5 hT.out.fr, by rw [hts.out]; exact HS.out, by have := hT.out.len; simp; omega⟩
          case measure => simp [intOf]; omega
      · obtain rfl : j = args.length := by omega
        have hxc := Upd.cell hT.out.up c3' (fun h => h)
        have lgr : g < wr.heap.size := Nat.lt_of_lt_of_le lg3 hT.out.up.size
        have his := hT.out.is
        rw [List.take_length] at his
        have HC := Lib.hid (csayN_nums (H := H) (k := q.1) his)
        have hoff := fun g hg (e : ownH h L K H g) => (by have := hT.out.fr g hg; have := T3.out.r.lts g e; omega : False)
        have hd := Lib.hid (do_any (T3.out.non hT.out.up) lw hI.out hT.out.nr hoff (k := q.1) (m := q.2) hmem.out (hT.out.len.trans hl))
        have PT := Lib.hid (P3.out.non hT.out.up)
        clear his hoff
        go_wp2_with (first
          | (go_at_call 37; refine Calls.mono hd.out ?_; unfold DoPost; rintro e w4 ⟨rfl, K4, s4⟩)
          | fail)
        go_ret
        exact ⟨by rw [HC.out]; rfl, _, by rw [HC.out]; exact PT.out.trans s4⟩
theorem say_any (T : HW w0 w h L K H) (lw : LW w0) (hI : HInv H) (s : ByteArray) (hs : s.size ≤ 300) :
    Calls Tryz.prog 11 #[.pointer (some ⟨h, 0, none⟩), .string s] w (DoPost w h L K H (csay H s)) := by
  obtain ⟨x, args, hw⟩ := words_cons s
  cases hk : ckOf x.data.toList with
  | none => rw [csay_none hw hk]; exact say_bad T lw s hs hw (.inl hk)
  | some q =>
    by_cases hb : args.length = q.2 ∧ s.size ≤ 200
    · rw [csay_is hw hk hb]; exact say_good T lw hI s hs hw hk hb.1 hb.2
    · rw [csay_bad hw hk hb]; exact say_bad T lw s hs hw (.inr ⟨q, hk, hb⟩)
end

end U
end Go.Proofs.YtnhplapcdgnaaaaGreatDoor

set_option linter.unusedVariables false
set_option linter.unusedSimpArgs false
namespace Go.Proofs.YtnhplapcdgnaaaaGreatDoor
open Go.RowKit
namespace U

/-! Lines, one after the other; console.Run. -/
set_option maxRecDepth 100000 in
theorem cdo_inv {H : HostM} (h : HInv H) (k : CK) (a b c : Int) : HInv (cdo H k a b c).1 := by
  cases k
  case add => exact h.add
  case remove => exact h.remove a
  case plug => exact h.plug a b
  case unplug => exact h.unplug a b
  case give => exact h.give a b
  case back => exact h.back a b
  case load => exact h.load a b
  case store =>
    show HInv (if c < 0 ∨ 255 < c then (H, faultS 1) else ((hstore H a b (UInt8.ofNat c.toNat)).1, doneS (hstore H a b (UInt8.ofNat c.toNat)).2)).1
    split
    · exact h
    · exact h.store a b _
  case root => exact h.root a b
  case forget => exact h.forget a b
  case drop => exact h.forgetAll a b
  case scan => exact h.scan a b
  case scanall =>
    have := h.scanN 64
    unfold cdo hscanAll
    exact this
  case guests => exact h
  case left => exact h
  case promised => exact h
  case frame => exact h
  case page => exact h
theorem csay_inv {H : HostM} (h : HInv H) (s : ByteArray) : HInv (csay H s).1 := by
  unfold csay
  split
  · exact h
  · split
    · exact h
    · split
      · unfold csayN
        split
        · exact h
        · exact cdo_inv h _ _ _ _
      · exact h
def runStep (p : HostM × List ByteArray) (s : ByteArray) : HostM × List ByteArray := ((csay p.1 s).1, p.2 ++ [(csay p.1 s).2])
def runN (H : HostM) (l : List ByteArray) : HostM × List ByteArray := l.foldl runStep (H, [])
theorem runN_snoc (H : HostM) (l : List ByteArray) (s : ByteArray) : runN H (l ++ [s]) = runStep (runN H l) s := by unfold runN; rw [List.foldl_append]; rfl
theorem runN_take (H : HostM) (l : List ByteArray) {j : Nat} (hj : j < l.length) : runN H (l.take (j + 1)) = runStep (runN H (l.take j)) l[j] := by
  rw [List.take_succ_eq_append_getElem hj, runN_snoc]
theorem fold_inv : ∀ (l : List ByteArray) (p : HostM × List ByteArray), HInv p.1 → HInv (l.foldl runStep p).1
  | [], p, h => h
  | s :: l, p, h => fold_inv l _ (csay_inv h s)
theorem fold_len : ∀ (l : List ByteArray) (p : HostM × List ByteArray), (l.foldl runStep p).2.length = p.2.length + l.length
  | [], p => rfl
  | s :: l, p => by
    rw [List.foldl_cons, fold_len l]
    show (p.2 ++ [_]).length + l.length = _
    simp
    omega
theorem runN_inv {H : HostM} (h : HInv H) (l : List ByteArray) : HInv (runN H l).1 := fold_inv l _ h
theorem runN_len {H : HostM} (l : List ByteArray) : (runN H l).2.length = l.length := by
  unfold runN
  rw [fold_len]
  simp
/-- What the loop of Run holds behind j lines. -/
structure RunI (w w1 wr : World) (h : Nat) (L : PoolAt) (K : Nat → GAt) (v : Value) (X : HostM × List ByteArray) : Prop where
  a : HW w wr h L K X.1
  i : HInv X.1
  sr : SRow wr v X.2
  fr : Fresh w1 v
  old : ∀ k, ownH h L K X.1 k → v.ownBlock ≠ some k
  le : w.heap.size ≤ w1.heap.size
  le1 : w1.heap.size ≤ wr.heap.size
theorem RunI.step {w w1 wr w3 w5 : World} {h : Nat} {L : PoolAt} {K K3 : Nat → GAt} {v v2 : Value} {H H3 : HostM} {out : List ByteArray} {s : ByteArray} {bx : Obj} (t : RunI w w1 wr h L K v (H, out)) (s3 : PH (ownH h L K H) wr w3 h L K3 H3) (i3 : HInv H3)
    (u5 : Upd (fun k => v.ownBlock = some k) (w3.alloc bx) w5) (hv2 : SRow w5 v2 (out ++ [s])) (hb : v2.ownBlock = v.ownBlock ∨ v2.ownBlock = some (w3.alloc bx).heap.size) : RunI w w1 w5 h L K3 v2 (H3, out ++ [s]) := by
  have old3 : ∀ k, ownH h L K3 H3 k → v.ownBlock ≠ some k := fun k hk e => (s3.own k hk).elim (fun h => t.old k h e) (fun h => by have := t.sr.lt e; omega)
  have a3 := (t.a.act s3).alloc bx
  have z3 := s3.up.size
  have z1 := t.le1
  have z0 := t.le
  have z5 := u5.size
  have za : (w3.alloc bx).heap.size = w3.heap.size + 1 := by simp
  refine ⟨⟨a3.r.upd_ u5 (fun k h1 h2 => old3 k h1 h2), a3.n, a3.up.over u5 (fun k hk => Nat.le_trans z0 (t.fr k hk))⟩, i3, hv2, ?_, ?_, z0, by omega⟩
  · intro g hg
    rcases hb with hb | hb
    · exact t.fr g (hb ▸ hg)
    · rw [hb] at hg
      have hg : (w3.alloc bx).heap.size = g := by simpa using hg
      omega
  · intro k hk e
    rcases hb with hb | hb
    · exact old3 k hk (hb ▸ e)
    · rw [hb] at e
      have e : (w3.alloc bx).heap.size = k := by simpa using e
      have := s3.rep.lts k hk
      omega
theorem TAt.at_ {w : World} {A : Option Addr} {L : List ByteArray} (h : TAt w A L) {i : Nat} (hi : i < L.length) : ∃ g o, A = some ⟨g, o, none⟩ ∧ g < w.heap.size ∧ w.cell? ⟨g, o + i, none⟩ = some (.string L[i]) := by
  rcases h with rfl | ⟨g, o, rfl, hg, h⟩
  · simp at hi
  · exact ⟨g, o, rfl, hg, h i _ (List.getElem?_eq_getElem hi)⟩
set_option maxRecDepth 100000 in
set_option maxHeartbeats 4000000 in
theorem run_ok (w : World) (lw : LW w) (k : Nat) (h1 : 1 ≤ k) (h2 : k ≤ 64) (A : Option Addr) (cap : Nat) (l : List ByteArray) (hl : TAt w A l) (hn : l.length ≤ 120) (hs : ∀ s ∈ l, s.size ≤ 300) :
    Calls Tryz.prog 5 #[.int .i64 k, .slice A l.length cap] w fun e w' => ∃ v, e = .returned (.tuple #[v, .nilIface]) ∧ SRow w' v (runN (HostM.fresh k) l).2 ∧ Upd Non w w' := by
  have K0 : Nat → GAt := fun _ => ⟨0, 0, 0, undef⟩
  have hn2 : (l.length : Int) ≤ 120 := by omega
  go_enter Tryz.func5, Tryz.ntmps5
  go_wp2_with (first
    | (go_at_call 10; refine (hnew_ok _ k h1 h2 K0).mono ?_; rintro e w1 ⟨h, L, rfl, r1, n1, u1⟩)
    | fail)
  have R0 : Hid (RunI w w1 w1 h L K0 (.slice none 0 0) (runN (HostM.fresh k) (l.take 0))) := ⟨⟨r1, n1, u1⟩, (HFine.fresh k).inv, SRow.nil, (fun g hg => by cases hg), fun k hk e => (by cases e), u1.size, Nat.le_refl _⟩
  have U1 := Lib.hid u1
  clear r1 n1 u1
  go_loopw [8, 25] (fun x i wr => ∃ (j : Nat) (v : Value) (K : Nat → GAt), j ≤ l.length ∧ i = .int .i64 j ∧ x = v ∧ Hid (RunI w w1 wr h L K v (runN (HostM.fresh k) (l.take j)))) (fun _ i _ => l.length - (intOf i).toNat)
  case atStart => exact ⟨0, _, K0, Nat.zero_le _, rfl, rfl, R0.out⟩
  case round =>
    clear R0
    obtain ⟨j, v, K, hj, rfl, rfl, hT⟩ := hrel
    by_cases hlt : j < l.length
    · have hlt2 : (j : Int) < l.length := by omega
      obtain ⟨g, o, rfl, hg, hE⟩ := (hl.upd_ hT.out.a.up (fun _ _ => (fun h => h))).at_ hlt
      have hsz : (l[j]).size ≤ 300 := hs _ (List.getElem_mem hlt)
      have hr := Lib.hid (runN_take (HostM.fresh k) l hlt)
      have hln := Lib.hid (runN_len (H := HostM.fresh k) (l.take j))
      have hinv := Lib.hid (runN_inv (H := HostM.fresh k) (HFine.fresh k).inv (l.take (j + 1)))
      have hll : Hid ((runN (HostM.fresh k) (l.take j)).2.length ≤ 100000) := by show _ ≤ _; rw [hln.out]; have := List.length_take_le j l; omega
      clear hl
      generalize l[j] = s at hE hsz hr
      generalize runN (HostM.fresh k) (l.take j) = X at hT hr hll hln
      obtain ⟨H, out⟩ := X
      have hT2 := Lib.hid hT.out
      clear hT
      go_wp2_with (first
        | (go_at_call 11; refine Calls.mono (say_any hT2.out.a lw hT2.out.i s hsz) ?_; unfold DoPost; rintro e w3 ⟨rfl, K3, s3⟩; have hv3 := Lib.hid (hT2.out.sr.upd_ s3.up (fun g hg h => hT2.out.old g h hg)); have A3 := Lib.hid (hT2.out.a.act s3))
        | (at_builtin; refine wpl_append_s rfl _ _ rfl _ _ rfl rfl out (csay H s).2 (hv3.out.alloc _) hll.out (sbox _ _) ?_; intro v2 w5 hv2 u5 hb2)
        | fail)
      go_roundw
      case rel => exact ⟨j + 1, v2, K3, by omega, by go_num, rfl, by rw [hr.out] at hinv ⊢; exact hT2.out.step s3 hinv.out u5 hv2 hb2⟩
      case measure => simp [intOf]; omega
    · obtain rfl : j = l.length := by omega
      have hT := hT.out
      rw [List.take_length] at hT
      have hT := Lib.hid hT
      go_wp2_with fail
      go_ret2
      exact ⟨_, rfl, hT.out.sr, hT.out.a.up⟩
set_option maxRecDepth 100000 in
theorem run_bad (w : World) (n : Int) (h : n < 1 ∨ 64 < n) (v : Value) : Calls Tryz.prog 5 #[.int .i64 n, v] w fun e w' => e = .returned (.tuple #[.slice none 0 0, errv 1]) ∧ w = w' := by
  have hb := Lib.hid (hnew_bad w n h)
  unfold errv at hb ⊢
  rw [if_neg (by omega)] at hb ⊢
  go_enter Tryz.func5, Tryz.ntmps5
  go_wp2_with (first
    | (go_at_call 10; refine (hb.out).mono ?_; rintro e w1 ⟨rfl, rfl⟩)
    | fail)
  go_ret2
  exact ⟨rfl, rfl⟩
set_option maxRecDepth 100000 in
theorem run_long (w : World) (k : Nat) (h1 : 1 ≤ k) (h2 : k ≤ 64) (A : Option Addr) (N cap : Nat) (hN : 120 < N) : Calls Tryz.prog 5 #[.int .i64 k, .slice A N cap] w fun e w' => e = .returned (.tuple #[.slice none 0 0, errv 1]) ∧ Upd Non w w' := by
  have K0 : Nat → GAt := fun _ => ⟨0, 0, 0, undef⟩
  have hn2 : (120 : Int) < N := by omega
  go_enter Tryz.func5, Tryz.ntmps5
  go_wp2_with (first
    | (go_at_call 10; refine (hnew_ok _ k h1 h2 K0).mono ?_; rintro e w1 ⟨h, L, rfl, r1, n1, u1⟩)
    | fail)
  go_ret2
  exact ⟨rfl, u1⟩

end U
end Go.Proofs.YtnhplapcdgnaaaaGreatDoor
