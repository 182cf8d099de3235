import Derived.Test.YtnhplapcdgnaaaaGreatDoorRConG
import Derived.Test.YtnhplapcdgnaaaaGreatDoorRConH
import Derived.Test.YtnhplapcdgnaaaaGreatDoorRConI
import Derived.Test.YtnhplapcdgnaaaaGreatDoorRConJ
import Derived.Test.YtnhplapcdgnaaaaGreatDoorRConK
import Derived.Test.YtnhplapcdgnaaaaGreatDoorConUX
import Derived.Test.YtnhplapcdgnaaaaGreatDoorLawX
set_option linter.unusedVariables false
set_option linter.unusedSimpArgs false
namespace Go.Proofs.YtnhplapcdgnaaaaGreatDoor
open Go.RowKit
namespace U

/-! The reference's Say answers csay. -/
section
variable {w : World} {o m : Nat} {R : Nat → Nat × Value} {H : HostM}
theorem rsay_any (r : RHRep w o m R H) (hI : HInv H) (s : ByteArray) (hs : s.size ≤ 300) : Calls Tryz.prog 8 #[.pointer (some ⟨o, 0, none⟩), .string s] w (RDoPost w o m R H (csay H s)) := by
  obtain ⟨x, args, hw⟩ := words_cons s
  cases hk : ckOf x.data.toList with
  | none => rw [csay_none hw hk]; exact rsay_bad r s hs hw (.inl hk)
  | some q =>
    by_cases hb : args.length = q.2 ∧ s.size ≤ 200
    · rw [csay_is hw hk hb]
      have hm := ck_mem hk
      obtain ⟨hl, h2⟩ := hb
      obtain ⟨k, n⟩ := q
      unfold ckL at hm
      simp only [List.mem_cons, Prod.mk.injEq, List.not_mem_nil, or_false] at hm
      rcases hm with ⟨hx, rfl, rfl⟩ | ⟨hx, rfl, rfl⟩ | ⟨hx, rfl, rfl⟩ | ⟨hx, rfl, rfl⟩ | ⟨hx, rfl, rfl⟩ | ⟨hx, rfl, rfl⟩ | ⟨hx, rfl, rfl⟩ | ⟨hx, rfl, rfl⟩ | ⟨hx, rfl, rfl⟩ | ⟨hx, rfl, rfl⟩ | ⟨hx, rfl, rfl⟩ | ⟨hx, rfl, rfl⟩ | ⟨hx, rfl, rfl⟩ | ⟨hx, rfl, rfl⟩ | ⟨hx, rfl, rfl⟩ | ⟨hx, rfl, rfl⟩ | ⟨hx, rfl, rfl⟩ | ⟨hx, rfl, rfl⟩
      · exact rsay_add r hI s hs hw hx hl h2
      · exact rsay_remove r hI s hs hw hx hl h2
      · exact rsay_plug r hI s hs hw hx hl h2
      · exact rsay_unplug r hI s hs hw hx hl h2
      · exact rsay_give r hI s hs hw hx hl h2
      · exact rsay_back r hI s hs hw hx hl h2
      · exact rsay_load r hI s hs hw hx hl h2
      · exact rsay_store r hI s hs hw hx hl h2
      · exact rsay_root r hI s hs hw hx hl h2
      · exact rsay_forget r hI s hs hw hx hl h2
      · exact rsay_drop r hI s hs hw hx hl h2
      · exact rsay_scan r hI s hs hw hx hl h2
      · exact rsay_scanall r hI s hs hw hx hl h2
      · exact rsay_guests r hI s hs hw hx hl h2
      · exact rsay_left r hI s hs hw hx hl h2
      · exact rsay_promised r hI s hs hw hx hl h2
      · exact rsay_frame r hI s hs hw hx hl h2
      · exact rsay_page r hI s hs hw hx hl h2
    · rw [csay_bad hw hk hb]; exact rsay_bad r s hs hw (.inr ⟨q, hk, hb⟩)
end

end U
end Go.Proofs.YtnhplapcdgnaaaaGreatDoor

set_option linter.unusedVariables false
set_option linter.unusedSimpArgs false
namespace Go.Proofs.YtnhplapcdgnaaaaGreatDoor
open Go.RowKit
namespace U

/-! The law hello (written by gen_conx.py). -/
def helloL : List ByteArray := [{ data := #[97, 100, 100] }, { data := #[112, 108, 117, 103, 32, 48, 32, 48] }, { data := #[115, 116, 111, 114, 101, 32, 48, 32, 53, 32, 57] }, { data := #[108, 111, 97, 100, 32, 48, 32, 53] }, { data := #[112, 97, 103, 101, 32, 48, 32, 48] }, { data := #[102, 108, 121] }]
def helloO : List ByteArray := [{ data := #[48] }, { data := #[111, 107] }, { data := #[111, 107] }, { data := #[57] }, { data := #[49, 32, 111, 119, 110, 32, 49] }, { data := #[101, 114, 114, 111, 114, 32, 57] }]
def heH1 : HostM := (hadd (HostM.fresh 8)).1
def heH2 : HostM := (hplug heH1 0 0).1
def heH3 : HostM := (hstore heH2 0 5 9).1
def heH4 : HostM := (hload heH3 0 5).1
theorem he_1 : hadd (HostM.fresh 8) = (heH1, 0, 0) := Prod.ext rfl (by kernel_rfl)
theorem he_2 : hplug heH1 0 0 = (heH2, 0) := Prod.ext rfl (by kernel_rfl)
theorem he_3 : hstore heH2 0 5 9 = (heH3, 0) := Prod.ext rfl (by kernel_rfl)
theorem he_4 : hload heH3 0 5 = (heH4, 9, 0) := Prod.ext rfl (by kernel_rfl)
theorem he_5 : hstate heH4 0 0 = (1, 0) := by kernel_rfl
theorem he_6 : (hleafOf heH4 0 0).1.there = true := by kernel_rfl
theorem he_7 : (hleafOf heH4 0 0).1.write = true := by kernel_rfl
theorem he_8 : (heH4.p.refs (hleafOf heH4 0 0).1.frame.toNat).toNat = 1 := by kernel_rfl
theorem num_0 : numS 0 = strOf [48] := by unfold numS; rw [dec_small (by omega)]; rfl
theorem num_1 : numS 1 = strOf [49] := by unfold numS; rw [dec_small (by omega)]; rfl
theorem num_9 : numS 9 = strOf [57] := by unfold numS; rw [dec_small (by omega)]; rfl
theorem hello_0 : csay (HostM.fresh 8) { data := #[97, 100, 100] } = (heH1, { data := #[48] }) := by
  have hw : wordsB { data := #[97, 100, 100] } = strOf [97, 100, 100] :: [] := by rw [wordsB_of]; rfl
  rw [csay_is hw (q := (.add, 0)) (by rfl) ⟨rfl, Nat.le_of_ble_eq_true rfl⟩]
  show csayN (HostM.fresh 8) .add [] = _
  rw [csayN_nums (ns := []) (by rfl)]
  show cdo (HostM.fresh 8) .add 0 0 0 = _
  rw [show cdo (HostM.fresh 8) .add 0 0 0 = ((hadd (HostM.fresh 8)).1, toldS (hadd (HostM.fresh 8)).2.1.toNat (hadd (HostM.fresh 8)).2.2) from rfl, he_1]
  show (heH1, toldS (0 : Int).toNat 0) = _
  rw [told_zero]
  show (heH1, numS 0) = _
  rw [num_0]
  rfl
theorem hello_1 : csay heH1 { data := #[112, 108, 117, 103, 32, 48, 32, 48] } = (heH2, { data := #[111, 107] }) := by
  have hw : wordsB { data := #[112, 108, 117, 103, 32, 48, 32, 48] } = strOf [112, 108, 117, 103] :: [strOf [48], strOf [48]] := by rw [wordsB_of]; rfl
  rw [csay_is hw (q := (.plug, 2)) (by rfl) ⟨rfl, Nat.le_of_ble_eq_true rfl⟩]
  show csayN heH1 .plug [strOf [48], strOf [48]] = _
  rw [csayN_nums (ns := [0, 0]) (by rfl)]
  show cdo heH1 .plug 0 0 0 = _
  rw [show cdo heH1 .plug 0 0 0 = ((hplug heH1 0 0).1, doneS (hplug heH1 0 0).2) from rfl, he_2]
  rfl
theorem hello_2 : csay heH2 { data := #[115, 116, 111, 114, 101, 32, 48, 32, 53, 32, 57] } = (heH3, { data := #[111, 107] }) := by
  have hw : wordsB { data := #[115, 116, 111, 114, 101, 32, 48, 32, 53, 32, 57] } = strOf [115, 116, 111, 114, 101] :: [strOf [48], strOf [53], strOf [57]] := by rw [wordsB_of]; rfl
  rw [csay_is hw (q := (.store, 3)) (by rfl) ⟨rfl, Nat.le_of_ble_eq_true rfl⟩]
  show csayN heH2 .store [strOf [48], strOf [53], strOf [57]] = _
  rw [csayN_nums (ns := [0, 5, 9]) (by rfl)]
  show cdo heH2 .store 0 5 9 = _
  rw [show cdo heH2 .store 0 5 9 = ((hstore heH2 0 5 9).1, doneS (hstore heH2 0 5 9).2) from rfl, he_3]
  rfl
theorem hello_3 : csay heH3 { data := #[108, 111, 97, 100, 32, 48, 32, 53] } = (heH4, { data := #[57] }) := by
  have hw : wordsB { data := #[108, 111, 97, 100, 32, 48, 32, 53] } = strOf [108, 111, 97, 100] :: [strOf [48], strOf [53]] := by rw [wordsB_of]; rfl
  rw [csay_is hw (q := (.load, 2)) (by rfl) ⟨rfl, Nat.le_of_ble_eq_true rfl⟩]
  show csayN heH3 .load [strOf [48], strOf [53]] = _
  rw [csayN_nums (ns := [0, 5]) (by rfl)]
  show cdo heH3 .load 0 5 0 = _
  rw [show cdo heH3 .load 0 5 0 = ((hload heH3 0 5).1, toldS (hload heH3 0 5).2.1.toNat (hload heH3 0 5).2.2) from rfl, he_4]
  show (heH4, toldS (9 : UInt8).toNat 0) = _
  rw [told_zero]
  show (heH4, numS 9) = _
  rw [num_9]
  rfl
theorem hello_4 : csay heH4 { data := #[112, 97, 103, 101, 32, 48, 32, 48] } = (heH4, { data := #[49, 32, 111, 119, 110, 32, 49] }) := by
  have hw : wordsB { data := #[112, 97, 103, 101, 32, 48, 32, 48] } = strOf [112, 97, 103, 101] :: [strOf [48], strOf [48]] := by rw [wordsB_of]; rfl
  rw [csay_is hw (q := (.page, 2)) (by rfl) ⟨rfl, Nat.le_of_ble_eq_true rfl⟩]
  show csayN heH4 .page [strOf [48], strOf [48]] = _
  rw [csayN_nums (ns := [0, 0]) (by rfl)]
  show cdo heH4 .page 0 0 0 = _
  show (heH4, pageS heH4 0 0) = _
  unfold pageS
  rw [he_5, he_6, he_7, he_8]
  show (heH4, numS 1 ++ ownS ++ spB ++ numS 1) = _
  rw [num_1]
  rfl
theorem hello_5 : csay heH4 { data := #[102, 108, 121] } = (heH4, { data := #[101, 114, 114, 111, 114, 32, 57] }) := by
  have hw : wordsB { data := #[102, 108, 121] } = strOf [102, 108, 121] :: [] := by rw [wordsB_of]; rfl
  rw [csay_none hw (by rfl)]
  show (heH4, strOf [101, 114, 114, 111, 114, 32] ++ numS 9) = _
  rw [num_9]
  rfl
theorem hello_run : (runN (HostM.fresh 8) helloL).2 = helloO := by
  unfold runN helloL
  simp only [List.foldl_cons, List.foldl_nil, runStep, hello_0, hello_1, hello_2, hello_3, hello_4, hello_5]
  rfl
theorem six_at (w : World) (a b c d e f : ByteArray) : TAt (w.alloc (.cells #[.string a, .string b, .string c, .string d, .string e, .string f] 9)) (some ⟨w.heap.size, 0, none⟩) [a, b, c, d, e, f] := by
  refine .inr ⟨w.heap.size, 0, rfl, by simp, fun i x hx => ?_⟩
  rw [cell_of_row _ w.heap.size _ _ _ (0, 0) (heap_alloc_new w _)]
  match i, hx with
  | 0, hx => cases hx; rfl
  | 1, hx => cases hx; rfl
  | 2, hx => cases hx; rfl
  | 3, hx => cases hx; rfl
  | 4, hx => cases hx; rfl
  | 5, hx => cases hx; rfl
  | n + 6, hx => simp at hx
set_option maxRecDepth 100000 in
set_option maxHeartbeats 4000000 in
theorem hello_law (w : World) (lw : LW w) : Calls Tryz.prog 4 #[] w fun e w' => e = .returned (.bool true) ∧ Upd Non w w' := by
  have hr := Lib.hid (run_ok (w.alloc (.cells #[.string { data := #[97, 100, 100] }, .string { data := #[112, 108, 117, 103, 32, 48, 32, 48] }, .string { data := #[115, 116, 111, 114, 101, 32, 48, 32, 53, 32, 57] }, .string { data := #[108, 111, 97, 100, 32, 48, 32, 53] }, .string { data := #[112, 97, 103, 101, 32, 48, 32, 48] }, .string { data := #[102, 108, 121] }] 9)) (lw.upd ((Upd.refl _ _).alloc _)) 8 (by omega) (by omega) _ 6 helloL (six_at w _ _ _ _ _ _) (by decide) (by decide))
  rw [hello_run] at hr
  have hz : Hid (errv 0 = .nilIface) := rfl
  have hs := Lib.hid (fun W => same_law W 0 0)
  rw [hz.out] at hs
  go_enter Tryz.func4, Tryz.ntmps4
  go_wp2_with (first
    | (go_at_call 5; refine Calls.mono hr.out ?_; rintro e w2 ⟨v, rfl, hv, u2⟩; obtain ⟨A2, cap2, rfl, ht2⟩ := hv.toT)
    | (go_at_call 6; refine Calls.mono (hs.out _) ?_; rintro e w9 ⟨rfl, rfl⟩)
    | (go_at_call 9; refine Calls.mono (sameTexts_law _ A2 _ cap2 6 helloO (ht2.upd_ (S := Non) ((Upd.refl _ _).alloc _) (fun _ _ => (fun h => h))) (six_at _ _ _ _ _ _ _) (by decide)) ?_; rintro e w5 ⟨rfl, u5⟩)
    | fail)
  go_ret
  exact ⟨rfl, (((Upd.refl _ _).alloc _).trans u2).trans (((Upd.refl _ _).alloc _).trans u5)⟩

end U
end Go.Proofs.YtnhplapcdgnaaaaGreatDoor

set_option linter.unusedVariables false
set_option linter.unusedSimpArgs false
namespace Go.Proofs.YtnhplapcdgnaaaaGreatDoor
open Go.RowKit
namespace U

/-! The law ConsoleSays. -/
theorem run_append_all_s {w : World} {A : Option Addr} {cap : Nat} {l : List ByteArray} (h : TAt w A l) (hl : l.length ≤ 100000) (ty : TypeId) : ∃ v' w',
    (Builtin.append_ #[22, 22] ty #[.slice none 0 0, .slice A l.length cap]).run Tryz.prog w = .ok v' w' ∧ SRow w' v' l ∧ Upd Non w w' ∧ (∀ g, v'.ownBlock = some g → w.heap.size ≤ g) := by
  obtain ⟨i0, hi, hz0, hz1, hz2⟩ := info_parts infoStr
  by_cases h0 : l = []
  · subst h0
    refine ⟨.slice none 0 0, w, ?_, SRow.nil, Upd.refl _ _, fun g hg => by cases hg⟩
    cases A <;> simp [Builtin.append_, run_underlying Tryz.underlying22, sizeOf, typeInfo, hi, Builtin.lenOf, Builtin.firstCells, loadCells, loadCellsFrom]
  · rcases h with h | ⟨g, o, rfl, hg, h5⟩
    · exact absurd h h0
    · have hr := run_append_nil (P := Tryz.prog) w 22 ty 9 i0 _ Tryz.underlying22 hi hz0 ⟨g, o, none⟩ l.length cap (sflat l) (by rw [sflat_length, hz1]; omega)
        (fun j u hu => by
          rw [Addr.add_mid]
          rw [sflat_get] at hu
          cases hx : l[j]? with
          | none => rw [hx] at hu; cases hu
          | some x => rw [hx] at hu; have := h5 j x hx; simp at hu; rw [← hu]; exact this) (by have := List.length_pos_iff.2 h0; omega) (by omega) (by rw [hz2]; omega)
      refine ⟨_, _, hr, ?_, ((Upd.refl _ _).drew).alloc _, fun g hg => by simp [Value.ownBlock] at hg; omega⟩
      have hc := grownCap_ge w l.length 0 9
      refine SRow.fresh (heap_alloc_new w.drew _) hc (grownCap_le_maxLen w _ 0 _ (by unfold maxLen; omega)) ?_ (fun j u hu => ?_)
      · rw [Array.size_append, size_zeroCells, List.size_toArray, sflat_length]; simp [Value.cells]; omega
      · rw [Array.getElem?_append_left (by have := (List.getElem?_eq_some_iff.1 hu).1; simpa using this)]; simpa using hu
set_option maxRecDepth 100000 in
theorem wpl_append_alls {ops : Array Oper} {rest : List Oper} {o : Oper} {a : Act} {w : World} {Q : Exit → Act → World → Prop} (hg : o.guard = none) (x : Operand)
    (ho : o.op = .call { callee := .builtin .append, args := #[.const (.slice none 0 0), x], argTypes := #[22, 22] }) {A : Option Addr} {cap : Nat} {l : List ByteArray} (hx : a.eval x = .slice A l.length cap)
    (h : TAt w A l) (hl : l.length ≤ 100000)
    (k : ∀ v' w', SRow w' v' l → Upd Non w w' → (∀ g, v'.ownBlock = some g → w.heap.size ≤ g) → wpList Tryz.prog ops Q rest (a.put o.dst v') w') :
    wpList Tryz.prog ops Q (o :: rest) a w := by
  obtain ⟨v', w', hrun, h1, h2, h3⟩ := run_append_all_s (cap := cap) h hl o.type
  refine wpList_plain hg fun K hK => ?_
  unfold Oper.wp
  have hs : a.eval (.const (.slice none 0 0)) = .slice none 0 0 := rfl
  simp [execOp, ho, resolve, invoke, builtin, hs, hx, hrun, Result.andThen]
  exact hK _ _ (k v' w' h1 h2 h3)
/-- The first of them all but the last. -/
theorem SRow.front {w : World} {v : Value} {l : List ByteArray} {x : ByteArray} (h : SRow w v (l ++ [x])) : ∃ g o cap, v = .slice (some ⟨g, o, none⟩) (l.length + 1) cap ∧ l.length + 1 ≤ cap ∧ TAt w (some ⟨g, o, none⟩) l := by
  rcases h with ⟨_, e⟩ | ⟨g, o, cap, C, rfl, h1, h2, h3, h4, h5⟩
  · simp at e
  · refine ⟨g, o, cap, by simp, by simpa using h1, .inr ⟨g, o, rfl, heap_lt h3, fun i y hy => h5 i y ?_⟩⟩
    rw [List.getElem?_append_left (List.getElem?_eq_some_iff.1 hy).1]
    exact hy
set_option maxRecDepth 100000 in
set_option maxHeartbeats 8000000 in
theorem console_bad (w : World) (lw : LW w) (n : Int) (A : Option Addr) (cap : Nat) (l : List ByteArray) (hl : TAt w A l) (h130 : l.length ≤ 130) (hb : (n < 1 ∨ 64 < n) ∨ (1 ≤ n ∧ n ≤ 64 ∧ 120 < l.length)) :
    Calls Tryz.prog 3 #[.int .i64 n, .slice A l.length cap] w fun e w' => e = .returned (.bool true) ∧ Upd Non w w' := by
  have h13 : ¬ (130 : Int) < l.length := by omega
  have hz : Hid (errv 1 = .iface 37 (.int .i64 1)) := rfl
  have hsm := Lib.hid (fun W => same_law W 1 1)
  have hR : Hid (∀ (W : World) A2 cap2, Calls Tryz.prog 5 #[.int .i64 n, .slice A2 l.length cap2] W fun e w' => e = .returned (.tuple #[.slice none 0 0, errv 1]) ∧ Upd Non W w') := by
    intro W A2 cap2
    rcases hb with hb | ⟨h1, h2, h3⟩
    · exact (run_bad W n hb _).mono (by rintro e w2 ⟨rfl, rfl⟩; exact ⟨rfl, Upd.refl _ _⟩)
    · obtain ⟨k, rfl⟩ := Int.eq_ofNat_of_zero_le (show 0 ≤ n by omega)
      exact run_long W k (by omega) (by omega) A2 l.length cap2 h3
  rw [hz.out] at hR hsm
  have hbb : n < 1 ∨ (¬ n < 1 ∧ 64 < n) ∨ (¬ n < 1 ∧ ¬ 64 < n ∧ (120 : Int) < l.length) := by omega
  clear hb
  go_enter Tryz.func3, Tryz.ntmps3
  go_wp2_with (first
    | (go_at_call 4; refine (hello_law _ lw).mono ?_; rintro e ws ⟨rfl, u1⟩)
    | fail)
  go_loopw [6] (fun i wr => ∃ j : Nat, j ≤ l.length ∧ i = .int .i64 j ∧ Hid (Upd Non w wr)) (fun i _ => l.length - (intOf i).toNat)
  case atStart => exact ⟨0, Nat.zero_le _, rfl, u1⟩
  case round =>
    obtain ⟨j, hj, rfl, hU⟩ := hrel
    by_cases hlt : j < l.length
    · have hlt2 : (j : Int) < l.length := by omega
      obtain ⟨g, o, rfl, hg, hE⟩ := (hl.upd_ hU.out (fun _ _ => (fun h => h))).at_ hlt
      generalize l[j] = s at hE
      by_cases h3 : s.size ≤ 300
      · have h32 : ¬ (300 : Int) < s.size := by omega
        go_wp2_with fail
        go_roundw
        case rel => exact ⟨j + 1, by omega, by go_num, hU.out⟩
        case measure => simp [intOf]; omega
      · have h32 : (300 : Int) < s.size := by omega
        go_wp2_with fail
        go_ret
        exact ⟨rfl, hU.out⟩
    · obtain rfl : j = l.length := by omega
      have hT := Lib.hid (hl.upd_ hU.out (fun _ _ => (fun h => h)))
      clear hl
      rcases hbb with hb1 | ⟨hb1, hb2⟩ | ⟨hb1, hb2, hb3⟩
      all_goals
        go_wp2_with (first
          | (at_builtin; refine wpl_append_alls rfl _ rfl rfl hT.out (by omega) ?_; intro v2 w2 hv2 u2 hf2)
          | (at_builtin; refine wpl_append_s rfl _ _ rfl _ _ rfl rfl l { data := #[109, 97, 114, 107] } (hv2.alloc _) (by omega) (sbox _ _) ?_; intro v3 w3 hv3 u3 hb3'; obtain ⟨g3, o3, cap3, rfl, hc3, ht3⟩ := hv3.front; have hc4 : ¬ cap3 = 0 := (by omega); have hc5 : l.length ≤ cap3 := (by omega))
          | (go_at_call 5; refine Calls.mono (hR.out _ _ _) ?_; rintro e w4 ⟨rfl, u4⟩)
          | (go_at_call 6; refine Calls.mono (hsm.out _) ?_; rintro e w9 ⟨rfl, rfl⟩)
          | fail)
        go_ret
        exact ⟨rfl, (((hU.out.trans u2).alloc _).over u3 (fun k hk => Nat.le_trans hU.out.size (hf2 k hk))).trans u4⟩

end U
end Go.Proofs.YtnhplapcdgnaaaaGreatDoor
