import Derived.Test.YtnhplapcdgnaaabHostGu
import Derived.Test.YtnhplapcdgnaaabHostQm
import Derived.Test.YtnhplapcdgnaaabTabs
import Derived.Test.YtnhplapcdgnaaabMapK
import Derived.Deep.RegionHeld3
import Derived.Deep.Cut
import Derived.BigQuiet
set_option linter.unusedVariables false
set_option linter.unusedSimpArgs false
namespace Go.Proofs.Ytnhplapcdgnaaab
open Go.RowKit
namespace U

/-! What the law TopFrames asks of a host. -/
structure SQ (w W : World) (h : Nat) (L : PoolAt) (K : Nat → GAt) (H : HostM) (rb : Nat) (vg : Value) (l : List Int) (r : Nat → Int) : Prop where
  hr : HRep W h L K H
  g : NRow W vg l
  fg : Fresh w vg
  rt : Row W rb 68 64 (ints r)
  up : Upd Non w W
  lr : w.heap.size ≤ rb
/-- A leaf in a block of its own. -/
def LBox (w : World) (B : Nat) (l : LeafM) : Prop := Row w B 38 3 (fun i => [Value.bool l.there, .bool l.write, .int .i64 l.frame].getD i undef)
section
variable {w W W' w2 : World} {Bx : Nat} {l l2 : LeafM} {Cz : Array Value}
theorem LBox.upd_ {S : Nat → Prop} (t : LBox W Bx l) (u : Upd S W W') (h : ¬ S Bx) : LBox W' Bx l := Row.upd_ t u h
theorem LBox.non (t : LBox W Bx l) (u : Upd Non W W') : LBox W' Bx l := t.upd_ u (fun h => h)
theorem LBox.drew (t : LBox W Bx l) : LBox W.drew Bx l := t.upd_ (Upd.refl Non _).drew (fun h => h)
theorem LBox.drewN (t : LBox W Bx l) (n : Nat) : LBox (W.drewN n) Bx l := t.upd_ ((Upd.refl Non _).drewN n) (fun h => h)
theorem LBox.c0 (t : LBox W Bx l) : W.cell? ⟨Bx, 0, none⟩ = some (.bool l.there) := Row.cell t (i := 0) (by omega)
theorem LBox.c2 (t : LBox W Bx l) : W.cell? ⟨Bx, 2, none⟩ = some (.int .i64 l.frame) := Row.cell t (i := 2) (by omega)
theorem LBox.lt (t : LBox W Bx l) : Bx < W.heap.size := Row.lt t
theorem LBox.new (w : World) (l : LeafM) : LBox (w.alloc (.cells #[.bool l.there, .bool l.write, .int .i64 l.frame] 38)) w.heap.size l :=
  (Row.new w 38 #[.bool l.there, .bool l.write, .int .i64 l.frame]).congr fun i hi => by
    have hi : i < 3 := hi
    have : i = 0 ∨ i = 1 ∨ i = 2 := by omega
    rcases this with rfl | rfl | rfl <;> rfl
theorem LBox.old (u2 : Upd Non (w.alloc (.cells Cz 38)) w2) (hC : Cz.size = 3) (l : LeafM) :
    LBox (((w2.setCell ⟨w.heap.size, 0, none⟩ (.bool l.there)).setCell ⟨w.heap.size, 1, none⟩ (.bool l.write)).setCell ⟨w.heap.size, 2, none⟩ (.int .i64 l.frame)) w.heap.size l := by
  have r := (Row.new w 38 Cz).upd_ u2 (fun h => h)
  rw [hC] at r
  exact (((r.set_ (i := 0) (.bool l.there)).set_ (i := 1) (.bool l.write)).set_ (i := 2) (.int .i64 l.frame)).congr fun i hi => by
    have : i = 0 ∨ i = 1 ∨ i = 2 := by omega
    rcases this with rfl | rfl | rfl <;> simp [upd]
theorem Upd.tbox {a w : World} {b : Nat} (u : Upd Non a w) (hb : a.heap.size ≤ b) (v0 v1 v2 : Value) :
    Upd Non a (((w.setCell ⟨b, 0, none⟩ v0).setCell ⟨b, 1, none⟩ v1).setCell ⟨b, 2, none⟩ v2) := by
  have h : ∀ i, (⟨b, i, none⟩ : Addr).block < a.heap.size → Non (⟨b, i, none⟩ : Addr).block := fun i h => absurd h (by show ¬ b < _; omega)
  exact (((u.setCell (h 0) v0).setCell (h 1) v1).setCell (h 2) v2)
theorem box3_non (u2 : Upd Non (w.alloc (.cells Cz 38)) w2) (v0 v1 v2 : Value) : Upd Non w (((w2.setCell ⟨w.heap.size, 0, none⟩ v0).setCell ⟨w.heap.size, 1, none⟩ v1).setCell ⟨w.heap.size, 2, none⟩ v2) := by
  have h : ∀ i, (⟨w.heap.size, i, none⟩ : Addr).block < w.heap.size → Non (⟨w.heap.size, i, none⟩ : Addr).block := fun i h => absurd h (by show ¬ w.heap.size < _; omega)
  exact ((((((Upd.refl _ _).alloc _).trans u2).setCell (h 0) v0).setCell (h 1) v1).setCell (h 2) v2)
end
section
variable {w W W' : World} {h rb : Nat} {L : PoolAt} {K : Nat → GAt} {H : HostM} {vg : Value} {l : List Int} {r : Nat → Int}
theorem SQ.non (t : SQ w W h L K H rb vg l r) (u : Upd Non W W') : SQ w W' h L K H rb vg l r := ⟨t.hr.non u, t.g.upd_ u (fun _ _ => (fun h => h)), t.fg, t.rt.upd_ u (fun h => h), t.up.trans u, t.lr⟩
theorem SQ.alloc (t : SQ w W h L K H rb vg l r) (b : Obj) : SQ w (W.alloc b) h L K H rb vg l r := t.non ((Upd.refl _ _).alloc b)
theorem SQ.drew (t : SQ w W h L K H rb vg l r) : SQ w W.drew h L K H rb vg l r := t.non (Upd.refl _ _).drew
theorem SQ.drewN (t : SQ w W h L K H rb vg l r) (n : Nat) : SQ w (W.drewN n) h L K H rb vg l r := t.non ((Upd.refl _ _).drewN n)
theorem SQ.set_ (t : SQ w W h L K H rb vg l r) (i : Nat) (v : Int) (hl : ∀ k, ownH h L K H k → k < w.heap.size) : SQ w (W.setCell ⟨rb, i, none⟩ (.int .i64 v)) h L K H rb vg l (fset r i v) := by
  have u : Upd (at1 rb) W (W.setCell ⟨rb, i, none⟩ (.int .i64 v)) := (Upd.refl _ _).setCell (p := ⟨rb, i, none⟩) (fun _ => at1_self) _
  exact ⟨t.hr.upd_ u (fun k hk e => by have e : k = rb := e; have := hl k hk; have := t.lr; omega), t.g.upd_ u (fun k hk e => by have e : k = rb := e; subst e; exact t.g.ne_row t.rt (by decide) hk), t.fg, ints_set t.rt v, t.up.over u (by rintro k rfl; exact t.lr), t.lr⟩
theorem glSum_le (H : HostM) (f : Option GuestM → Nat) (hf : ∀ o, f o ≤ 16) (l : List Nat) : glSum H f l ≤ 16 * l.length := by
  unfold glSum
  induction l with
  | nil => simp
  | cons a l ih =>
    have := hf (H.g a)
    simp only [List.map_cons, List.sum_cons, List.length_cons]
    omega
theorem cntK_le (M : MapM) (k f : Nat) : cntK M k f ≤ k := by
  unfold cntK
  have := List.countP_le_length (p := inF M f) (l := List.range k)
  rwa [List.length_range] at this
theorem plainK_le (M : MapM) (k : Nat) : plainK M k ≤ k := by
  unfold plainK
  have := List.countP_le_length (p := fun i => M.state i == 1) (l := List.range k)
  rwa [List.length_range] at this
theorem gl_length (H : HostM) : (gl H).length ≤ 4 := by
  unfold gl
  have := List.length_filter_le (fun n => (H.g n).isSome) (List.range 4)
  rwa [List.length_range] at this
theorem usedN_le (H : HostM) (n : Nat) : usedN H n ≤ n := by
  unfold usedN
  have := List.countP_le_length (p := fun f => decide (0 < hcnt H f)) (l := List.range n)
  rwa [List.length_range] at this
theorem hstate_at {n k : Nat} (hn : n < 4) {G : GuestM} (hg : H.g n = some G) (hk : k < 16) : hstate H n k = (G.m.state k, 0) := by
  unfold hstate
  rw [if_neg (by omega), Int.toNat_natCast, hg]
  exact mstate_at hk
theorem repl64 (i : Nat) (hi : i < 64) : (List.replicate 64 (Value.int .i64 0)).toArray[i]? = some (.int .i64 0) := by simp only [List.getElem?_toArray, List.getElem?_replicate, hi, if_true]
theorem sq_start (w : World) (r : HRep w h L K H) {vg : Value} {w2 : World} (g : NRow w2 vg l) (f : Fresh (w.alloc (.cells (List.replicate 64 (Value.int .i64 0)).toArray 68)) vg) (u : Upd Non (w.alloc (.cells (List.replicate 64 (Value.int .i64 0)).toArray 68)) w2) :
    SQ w w2 h L K H w.heap.size vg l (fun _ => 0) := by
  have u0 : Upd Non w w2 := ((Upd.refl _ _).alloc _).trans u
  refine ⟨r.non u0, g, fun k hk => ?_, Row.upd_ ⟨_, heap_alloc_new w _, by simp, fun i hi => ?_⟩ u (fun h => h), u0, Nat.le_refl _⟩
  · have := f k hk; simp at this; omega
  · exact repl64 i hi

theorem ERow.nonU {w w' : World} {v : Value} {L : List EntryM} (h : ERow w v L) (u : Upd Non w w') : ERow w' v L := h.upd_ u (fun _ _ => (fun h => h))
theorem sbox_a {w w2 : World} {h rb : Nat} {L : PoolAt} {K : Nat → GAt} {H : HostM} {vg : Value} {l : List Int} {r : Nat → Int} {vC : Value} {C : List EntryM} {there write : Bool} {fr : Int} (t : SQ w w2 h L K H rb vg l r) (e : ERow w2 vC C) :
    Hid (SQ w (w2.alloc (.cells #[.bool there, .bool write, .int .i64 fr] 38)) h L K H rb vg l r ∧ ERow (w2.alloc (.cells #[.bool there, .bool write, .int .i64 fr] 38)) vC C ∧ LBox (w2.alloc (.cells #[.bool there, .bool write, .int .i64 fr] 38)) w2.heap.size ⟨there, write, fr⟩) :=
  ⟨t.non ((Upd.refl _ _).alloc _), e.alloc _, LBox.new w2 ⟨there, write, fr⟩⟩
theorem sbox_b {w W w2 : World} {h rb : Nat} {L : PoolAt} {K : Nat → GAt} {H : HostM} {vg : Value} {l : List Int} {r : Nat → Int} {vC : Value} {C : List EntryM} {there write : Bool} {fr : Int} {Cz : Array Value} (t : SQ w W h L K H rb vg l r) (e : ERow W vC C) (u2 : Upd Non (W.alloc (.cells Cz 38)) w2) (hC : Cz.size = 3) :
    Hid (SQ w (((w2.setCell ⟨W.heap.size, 0, none⟩ (.bool there)).setCell ⟨W.heap.size, 1, none⟩ (.bool write)).setCell ⟨W.heap.size, 2, none⟩ (.int .i64 fr)) h L K H rb vg l r ∧ ERow (((w2.setCell ⟨W.heap.size, 0, none⟩ (.bool there)).setCell ⟨W.heap.size, 1, none⟩ (.bool write)).setCell ⟨W.heap.size, 2, none⟩ (.int .i64 fr)) vC C ∧
      LBox (((w2.setCell ⟨W.heap.size, 0, none⟩ (.bool there)).setCell ⟨W.heap.size, 1, none⟩ (.bool write)).setCell ⟨W.heap.size, 2, none⟩ (.int .i64 fr)) W.heap.size ⟨there, write, fr⟩) :=
  ⟨t.non (box3_non u2 _ _ _), e.upd_ (box3_non u2 _ _ _) (fun _ _ => (fun h => h)), LBox.old u2 hC ⟨there, write, fr⟩⟩
set_option maxRecDepth 100000 in
set_option maxHeartbeats 8000000 in
theorem sound_law (w : World) (r : HRep w h L K H) (hF : HFine H) (n : Nat) (hn : H.p.n = n) :
    Calls Try.prog 13 #[.pointer (some ⟨h, 0, none⟩), .int .i64 n] w fun e w' => e = .returned (.bool true) ∧ Upd Non w w' := by
  have n64 := r.rp.n64
  have hlts := Lib.hid r.lts
  have hgl := gl_length H
  have HI := Lib.hid hF
  have hF2 := Lib.hid hF
  go_enter Try.func13, Try.ntmps13
  go_wp2_with (first
    | (go_at_call 10; refine (hguests_any (r.non ((Upd.refl Non w).alloc _))).mono ?_; rintro e w2 ⟨vg, rfl, g2, f2, u2⟩)
    | fail)
  have T0 := Lib.hid (sq_start w r g2 f2 u2)
  obtain ⟨Ag, capg, rfl⟩ := g2.form
  clear r hF g2 f2 u2
  have hli : Hid ((ints_of (gl H)).length = (gl H).length) := by show _ = _; unfold ints_of; rw [List.length_map]
  generalize w.heap.size = rb at T0 ⊢
  rw [hli.out] at T0 ⊢
  go_loopw [6, 8] (fun pl i wi => ∃ (q : Nat) (r : Nat → Int), q ≤ (gl H).length ∧ i = .int .i64 q ∧ pl = .int .i64 (glSum H oprom ((gl H).take q) : Nat) ∧ Hid (SQ w wi h L K H rb (.slice Ag (gl H).length capg) (ints_of (gl H)) r ∧ ∀ f, r f = (glSum H (fun o => ocnt o f) ((gl H).take q) : Nat))) (fun _ i _ => (gl H).length - (intOf i).toNat)
  case atStart => exact ⟨0, _, Nat.zero_le _, rfl, rfl, T0.out, fun f => rfl⟩
  case round =>
    clear T0
    obtain ⟨q, r, hq, rfl, rfl, hI⟩ := hrel
    have hgp := glSum_le H oprom oprom_le ((gl H).take q)
    have hgt : ((gl H).take q).length ≤ 4 := by rw [List.length_take]; omega
    by_cases hlt : q < (gl H).length
    · as_aux_lemma =>
        obtain ⟨nn, hnn⟩ : ∃ nn, (gl H)[q] = nn := ⟨_, rfl⟩
        obtain ⟨hn4, G, hg⟩ := gl_mem (H := H) (n := (gl H)[q]) (List.getElem_mem hlt)
        rw [hnn] at hn4 hg
        have hS1 : ∀ f : Option GuestM → Nat, glSum H f ((gl H).take (q + 1)) = glSum H f ((gl H).take q) + f (some G) := fun f => by
          rw [show (gl H).take (q + 1) = (gl H).take q ++ [(gl H)[q]] from List.take_succ_eq_append_getElem hlt, glSum_snoc, hnn, hg]
        have HS := Lib.hid hS1
        have hin : ∀ W, NRow W (.slice Ag (gl H).length capg) (ints_of (gl H)) → ∃ g o, Ag = some ⟨g, o, none⟩ ∧ g < W.heap.size ∧ W.cell? ⟨g, o + q, none⟩ = some (.int .i64 (nn : Int)) := fun W hN => by
          obtain ⟨g, o, cap', hv, hgW, hc⟩ := hN.at_ (i := q) (by rw [hli.out]; exact hlt)
          obtain ⟨rfl, _⟩ : Ag = some ⟨g, o, none⟩ ∧ _ := by simpa using hv
          refine ⟨g, o, rfl, hgW, ?_⟩
          rw [hc]
          unfold ints_of
          rw [List.getElem_map, hnn]
        obtain ⟨g, o, rfl, _, _⟩ := hin _ hI.out.1.g
        have HN := Lib.hid (fun W hN => (hin W hN).imp fun g' h => h)
        have hc : Hid (∀ W, NRow W (.slice (some ⟨g, o, none⟩) (gl H).length capg) (ints_of (gl H)) → g < W.heap.size ∧ W.cell? ⟨g, o + q, none⟩ = some (.int .i64 (nn : Int))) := fun W hN => by
          obtain ⟨g', o', e, h1, h2⟩ := hin W hN
          obtain ⟨rfl, rfl⟩ : g = g' ∧ o = o' := by simpa using e
          exact ⟨h1, h2⟩
        clear hin HN hS1 hnn
        go_wp2_with fail
        go_loopw [6, 9] (fun pl k wi => ∃ (j : Nat) (r2 : Nat → Int), j ≤ 16 ∧ k = .int .i64 j ∧ pl = .int .i64 (glSum H oprom ((gl H).take q) + plainK G.m j : Nat) ∧ Hid (SQ w wi h L K H rb (.slice (some ⟨g, o, none⟩) (gl H).length capg) (ints_of (gl H)) r2 ∧ ∀ f, r2 f = (glSum H (fun o => ocnt o f) ((gl H).take q) + cntK G.m j f : Nat))) (fun _ k _ => 16 - (intOf k).toNat)
        case atStart => exact ⟨0, r, Nat.zero_le _, rfl, rfl, hI.out.1, fun f => by rw [hI.out.2 f]; rfl⟩
        case round =>
          clear hI
          obtain ⟨j, r2, hj, rfl, rfl, hJ⟩ := hrel
          have hpk := plainK_le G.m j
          by_cases hjl : j < 16
          · have hj2 : (j : Int) < 16 := by omega
            have T := hJ.out.1
            have cg := (hc.out _ T.g).2
            have lg := (hc.out _ T.g).1
            have hst := Lib.hid (hstate_at hn4 hg hjl)
            have hlf0 := mleaf_in (M := G.m) hjl
            have hin := leaf_in HI.out.inv hn4 hg hjl n64
            have hps := plainK_succ G.m j
            have hcs := fun f => cntK_succ G.m j f
            have hinF : ∀ f, inF G.m f j = ((G.m.leaf j).there && (G.m.leaf j).frame == (f : Int)) := fun f => rfl
            obtain ⟨s, hs⟩ : ∃ s, G.m.state j = s := ⟨_, rfl⟩
            rw [hs] at hps hst hin
            cases hlf : G.m.leaf j with
            | mk there wrt fr =>
            rw [hlf] at hlf0 hin
            simp only [hlf] at hinF
            have HL := Lib.hid hlf0
            dsimp only at hin
            obtain ⟨f0, f1, f2⟩ := hin
            clear hlf0 hs hlf
            have HC := Lib.hid hcs
            have HF := Lib.hid hinF
            clear hcs hinF
            have rT := Lib.hid T
            cases there with
            | true =>
              obtain rfl := f2 rfl
              have hps2 := Lib.hid (show plainK G.m (j + 1) = plainK G.m j + 1 by rw [hps]; rfl)
              clear hps
              have hr2 := hJ.out.2 fr.toNat
              have hb1 := glSum_le H (fun o => ocnt o fr.toNat) (fun o => ocnt_le o _) ((gl H).take q)
              have hb2 := cntK_le G.m j fr.toNat
              have hr3 : 0 ≤ r2 fr.toNat ∧ r2 fr.toNat ≤ 1000 := by rw [hr2]; omega
              have hr4 := hr3.1
              have hr5 := hr3.2
              clear hr3 hr2 hb1 hb2
              have hf64 : fr < 64 := by omega
              go_wp2_with (first
                | (go_at_call 31; refine (hstate_any rT.out.hr (nn : Int) (j : Int)).mono ?_; rw [hst.out]; rintro e w3 ⟨rfl, rfl⟩; unfold errv)
                | (go_at_call 11; refine (hleafC_some rT.out.hr hn4 hg (j : Int)).mono ?_; rw [HL.out]; rintro e w4 ⟨rfl, u4⟩; unfold LeafM.val errv; have T4 := (rT.out.non u4); have c4 := T4.rt.cell (i := fr.toNat) (by omega); unfold ints at c4; have z4 := T4.rt.frozen fr.toNat; have l4 := T4.rt.lt)
                | fail)
              go_roundw
              case rel => exact ⟨j + 1, _, by omega, by go_num, by rw [hps2.out]; go_num, (T4.set_ fr.toNat _ hlts.out).alloc _, fun f => by
                unfold fset
                rw [HC.out f, HF.out f]
                by_cases e : f = fr.toNat
                · subst e
                  rw [if_pos rfl, hJ.out.2 fr.toNat, if_pos (by simp only [Bool.true_and, beq_iff_eq]; omega)]
                  omega
                · rw [if_neg e, hJ.out.2 f, if_neg (by simp only [Bool.true_and, beq_iff_eq]; omega)]
                  omega⟩
              case measure => simp [intOf]; omega
            | false =>
              have hcs2 : ∀ f, r2 f = (glSum H (fun o => ocnt o f) ((gl H).take q) + cntK G.m (j + 1) f : Nat) := fun f => by
                rw [HC.out f, HF.out f, hJ.out.2 f]; simp
              have HR := Lib.hid hcs2
              clear hcs2
              by_cases hs1 : s = 1
              · subst hs1
                have hps2 := Lib.hid (show plainK G.m (j + 1) = plainK G.m j + 1 by rw [hps]; rfl)
                clear hps
                go_wp2_with (first
                  | (go_at_call 31; refine (hstate_any rT.out.hr (nn : Int) (j : Int)).mono ?_; rw [hst.out]; rintro e w3 ⟨rfl, rfl⟩; unfold errv)
                  | (go_at_call 11; refine (hleafC_some rT.out.hr hn4 hg (j : Int)).mono ?_; rw [HL.out]; rintro e w4 ⟨rfl, u4⟩; unfold LeafM.val errv; have T4 := (rT.out.non u4))
                  | fail)
                go_roundw
                case rel => exact ⟨j + 1, _, by omega, by go_num, by rw [hps2.out]; go_num, (T4.alloc _), HR.out⟩
                case measure => simp [intOf]; omega
              · have hps2 := Lib.hid (show plainK G.m (j + 1) = plainK G.m j by rw [hps, if_neg hs1, Nat.add_zero])
                have hs2 : (s == 1) = false := by simpa using hs1
                clear hps hs1
                go_wp2_with (first
                  | (go_at_call 31; refine (hstate_any rT.out.hr (nn : Int) (j : Int)).mono ?_; rw [hst.out]; rintro e w3 ⟨rfl, rfl⟩; unfold errv)
                  | (go_at_call 11; refine (hleafC_some rT.out.hr hn4 hg (j : Int)).mono ?_; rw [HL.out]; rintro e w4 ⟨rfl, u4⟩; unfold LeafM.val errv; have T4 := (rT.out.non u4))
                  | fail)
                go_roundw
                case rel => exact ⟨j + 1, _, by omega, by go_num, by rw [hps2.out]; go_num, (T4.alloc _), HR.out⟩
                case measure => simp [intOf]; omega
          · have hj3 : ¬ (j : Int) < 16 := by omega
            obtain rfl : j = 16 := by omega
            have HJ := Lib.hid hJ.out
            clear hJ
            go_wp2_with fail
            go_roundw
            case rel => exact ⟨q + 1, _, by omega, by go_num, by rw [HS.out]; rfl, HJ.out.1, fun f => by rw [HJ.out.2 f, HS.out]; rfl⟩
            case measure => simp [intOf]; omega
    · obtain rfl : q = (gl H).length := by omega
      have hI2 := hI.out
      rw [List.take_length] at hI2 hgp ⊢
      rw [gl_prom] at hgp ⊢
      have R0 : ∀ f, r f = (hcnt H f : Nat) := fun f => by rw [hI2.2 f, gl_cnt]
      have T1 := Lib.hid hI2.1
      have HR := Lib.hid R0
      clear hI hI2 R0 hlt hgt
      have hn1 := Lib.hid hn
      have hple := hF2.out.size
      rw [hn] at hple
      have hul := used_left HI.out.inv
      have hup := used_prom HI.out.inv
      rw [hn] at hul hup
      have HU := Lib.hid hul
      have HP := Lib.hid hup
      clear hul hup
      go_wp2_with fail
      go_loopw [14, 15] (fun us fi wi => ∃ f : Nat, f ≤ n ∧ fi = .int .i64 f ∧ us = .int .i64 (usedN H f : Nat) ∧ Hid (SQ w wi h L K H rb (.slice Ag (gl H).length capg) (ints_of (gl H)) r)) (fun _ fi _ => n - (intOf fi).toNat)
      case atStart => exact ⟨0, Nat.zero_le _, rfl, rfl, T1.out⟩
      case round =>
        clear T1
        obtain ⟨f, hf, rfl, rfl, hJ⟩ := hrel
        have huf := usedN_le H f
        by_cases hfl : f < n
        · as_aux_lemma =>
            have T := hJ.out
            have hf2 : (f : Int) < n := by omega
            have hc := HI.out.inv.cnt f (by omega)
            have hcs := hcnt_small H f
            have hof : Hid (H.p.of f = (min ((hcnt H f : Nat) : Int) 2, ((hcnt H f : Nat) : Int), 0)) := by
              show _ = _
              unfold PoolM.of
              rw [if_neg (by omega), ← hc]; rfl
            have hu := usedN_succ H f
            have hrf := HR.out f
            have HRF := Lib.hid hrf
            generalize hcnt H f = c at hof hu hrf HRF hcs
            by_cases hz : c = 0
            · subst hz
              have hu2 := Lib.hid (show usedN H (f + 1) = usedN H f by rw [hu]; rfl)
              clear hu hrf
              go_wp2_with (first
                | (go_at_call 32; refine (hframe_any T.hr f).mono ?_; rw [hof.out]; rintro e w3 ⟨rfl, u3⟩; unfold frameV errv; have T3 := T.non u3; have c3 := T3.rt.cell (i := f) (by omega); unfold ints at c3; rw [HRF.out] at c3; have l3 := T3.rt.lt)
                | fail)
              go_quiet (fail)
              go_wp2_with fail
              go_roundw
              case rel => exact ⟨f + 1, by omega, by go_num, by rw [hu2.out], (T3.alloc _).drewN _⟩
              case measure => simp [intOf]; omega
            · have hu2 := Lib.hid (show usedN H (f + 1) = usedN H f + 1 by rw [hu, if_pos (by omega)])
              have hz2 : (0 : Int) < c := by omega
              clear hu hrf hz
              go_wp2_with (first
                | (go_at_call 32; refine (hframe_any T.hr f).mono ?_; rw [hof.out]; rintro e w3 ⟨rfl, u3⟩; unfold frameV errv; have T3 := T.non u3; have c3 := T3.rt.cell (i := f) (by omega); unfold ints at c3; rw [HRF.out] at c3; have l3 := T3.rt.lt)
                | fail)
              go_quiet (fail)
              go_wp2_with fail
              go_roundw
              case rel => exact ⟨f + 1, by omega, by go_num, by rw [hu2.out]; go_num, (T3.alloc _).drewN _⟩
              case measure => simp [intOf]; omega
        · obtain rfl : f = n := by omega
          have T := hJ.out
          have T2 := Lib.hid hJ.out
          have hlft := Lib.hid (show ((H.p.left : Nat) : Int) = (f : Int) - (usedN H f : Nat) by have := HU.out; omega)
          have g1 : (usedN H f : Int) ≤ (hprom H : Nat) := by have := HP.out; omega
          have g2 : ((hprom H : Nat) : Int) ≤ f := by omega
          clear hJ
          have f64 : (f : Int) ≤ 64 := by omega
          obtain ⟨pl, hpl⟩ : ∃ pl, hprom H = pl := ⟨_, rfl⟩
          have HPL := Lib.hid hpl
          rw [hpl] at g1 g2 hgp hple ⊢
          obtain ⟨us, hus⟩ : ∃ us, usedN H f = us := ⟨_, rfl⟩
          rw [hus] at hlft g1 huf ⊢
          clear HP HU hpl hus T
          have g3 : (us : Int) ≤ f := by omega
          go_wp2_with (first
            | (go_at_call 33; refine (hPromised_any T2.out.hr).mono ?_; rw [HPL.out]; rintro e w5 ⟨rfl, rfl⟩)
            | (go_at_call 8; refine (hleft_any T2.out.hr).mono ?_; rw [hlft.out]; rintro e w5 ⟨rfl, rfl⟩)
            | fail)
          have hb1 : decide (f < pl) = false := decide_eq_false (by omega)
          have hb2 : decide (pl < us) = false := decide_eq_false (by omega)
          rw [hb1, hb2]
          clear g1 g2 g3 hple hgp huf hb1 hb2
          go_loopw [18] (fun i wi => ∃ q : Nat, q ≤ (gl H).length ∧ i = .int .i64 q ∧ Hid (SQ w wi h L K H rb (.slice Ag (gl H).length capg) (ints_of (gl H)) r)) (fun i _ => (gl H).length - (intOf i).toNat)
          case atStart => exact ⟨0, Nat.zero_le _, rfl, T2.out⟩
          case round =>
            clear T2 hlft
            obtain ⟨q, hq, rfl, hI⟩ := hrel
            by_cases hlt : q < (gl H).length
            · as_aux_lemma =>
                obtain ⟨nn, hnn⟩ : ∃ nn, (gl H)[q] = nn := ⟨_, rfl⟩
                obtain ⟨hn4, G, hg⟩ := gl_mem (H := H) (n := (gl H)[q]) (List.getElem_mem hlt)
                rw [hnn] at hn4 hg
                have hin : ∀ W, NRow W (.slice Ag (gl H).length capg) (ints_of (gl H)) → ∃ g o, Ag = some ⟨g, o, none⟩ ∧ g < W.heap.size ∧ W.cell? ⟨g, o + q, none⟩ = some (.int .i64 (nn : Int)) := fun W hN => by
                  obtain ⟨g, o, cap', hv, hgW, hc⟩ := hN.at_ (i := q) (by rw [hli.out]; exact hlt)
                  obtain ⟨rfl, _⟩ : Ag = some ⟨g, o, none⟩ ∧ _ := by simpa using hv
                  refine ⟨g, o, rfl, hgW, ?_⟩
                  rw [hc]
                  unfold ints_of
                  rw [List.getElem_map, hnn]
                obtain ⟨g, o, rfl, _, _⟩ := hin _ hI.out.g
                have hc : Hid (∀ W, NRow W (.slice (some ⟨g, o, none⟩) (gl H).length capg) (ints_of (gl H)) → g < W.heap.size ∧ W.cell? ⟨g, o + q, none⟩ = some (.int .i64 (nn : Int))) := fun W hN => by
                  obtain ⟨g', o', e, h1, h2⟩ := hin W hN
                  obtain ⟨rfl, rfl⟩ : g = g' ∧ o = o' := by simpa using e
                  exact ⟨h1, h2⟩
                clear hin hnn
                have hCI := (HI.out.inv.gi hn4 hg).c
                have hclen := hCI.len
                have hcl4 : (withLeaf G.m G.c).length ≤ 4 := by rw [withLeaf_length]; exact hclen
                go_wp2_with fail
                go_loopw [19] (fun k wi => ∃ j : Nat, j ≤ 16 ∧ k = .int .i64 j ∧ Hid (SQ w wi h L K H rb (.slice (some ⟨g, o, none⟩) (gl H).length capg) (ints_of (gl H)) r)) (fun k _ => 16 - (intOf k).toNat)
                case atStart => exact ⟨0, Nat.zero_le _, rfl, hI.out⟩
                case round =>
                  clear hI
                  obtain ⟨j, hj, rfl, hJ⟩ := hrel
                  by_cases hjl : j < 16
                  · have hj2 : (j : Int) < 16 := by omega
                    have T := hJ.out
                    have cg := (hc.out _ T.g).2
                    have lg := (hc.out _ T.g).1
                    have rT := Lib.hid T
                    have hlf0 := mleaf_in (M := G.m) hjl
                    have hin := leaf_in HI.out.inv hn4 hg hjl n64
                    have hw1 := write_one HI.out hn4 hg hjl
                    cases hlf : G.m.leaf j with
                    | mk there wrt fr =>
                    rw [hlf] at hlf0 hin hw1
                    dsimp only at hin hw1
                    have HL := Lib.hid hlf0
                    obtain ⟨f0, f1, _⟩ := hin
                    clear hlf0 hlf
                    have hf64 : fr < 64 := by omega
                    cases wrt with
                    | true =>
                      have hr1 := HR.out fr.toNat
                      rw [hw1 rfl] at hr1
                      have HR1 := Lib.hid hr1
                      clear hr1 hw1
                      go_wp2_with (first
                        | (go_at_call 11; refine (hleafC_some rT.out.hr hn4 hg (j : Int)).mono ?_; rw [HL.out]; rintro e w6 ⟨rfl, u6⟩; unfold LeafM.val errv; have T6 := (rT.out.non u6); have c6 := T6.rt.cell (i := fr.toNat) (by omega); unfold ints at c6; rw [HR1.out] at c6; have l6 := T6.rt.lt)
                        | fail)
                      go_roundw
                      case rel => first | exact ⟨j + 1, by omega, by go_num, T6.alloc _⟩ | ((repeat apply Exists.intro); refine ⟨?_, rfl⟩; exact ⟨j + 1, by omega, by go_num, T6.alloc _⟩)
                      case measure => simp [intOf]; omega
                    | false =>
                      clear hw1
                      go_wp2_with (first
                        | (go_at_call 11; refine (hleafC_some rT.out.hr hn4 hg (j : Int)).mono ?_; rw [HL.out]; rintro e w6 ⟨rfl, u6⟩; unfold LeafM.val errv; have T6 := (rT.out.non u6))
                        | fail)
                      go_roundw
                      case rel => first | exact ⟨j + 1, by omega, by go_num, T6.alloc _⟩ | ((repeat apply Exists.intro); refine ⟨?_, rfl⟩; exact ⟨j + 1, by omega, by go_num, T6.alloc _⟩)
                      case measure => simp [intOf]; omega
                  · have hj3 : ¬ (j : Int) < 16 := by omega
                    have T := hJ.out
                    have rT := Lib.hid T
                    have cg := (hc.out _ T.g).2
                    have lg := (hc.out _ T.g).1
                    clear hJ
                    have hent : ∀ e ∈ withLeaf G.m G.c, 0 ≤ e.to ∧ e.to < 16 ∧ e.leaf = G.m.leaf e.to.toNat := fun e he => by
                      unfold withLeaf at he
                      obtain ⟨e0, h0, rfl⟩ := List.mem_map.1 he
                      have := hCI.ent e0 h0
                      exact ⟨this.1, this.2.1, rfl⟩
                    have HE := Lib.hid hent
                    obtain ⟨C, hC⟩ : ∃ C, withLeaf G.m G.c = C := ⟨_, rfl⟩
                    rw [hC] at hcl4 hent HE
                    have HCC := Lib.hid hC
                    clear hent hC hCI
                    go_upto_region 39 with (first
                      | (go_at_call 34; refine (hcached_any rT.out.hr hn4 hg hclen).mono ?_; rw [HCC.out]; rintro e w7 ⟨vC, rfl, e7, f7, u7⟩; have T7 := rT.out.non u7)
                      | fail)
                    obtain ⟨AC, capC, rfl⟩ := e7.form
                    have hCl : (C.length : Int) ≤ 4 := by omega
                    have D7 := Lib.hid (And.intro T7 e7)
                    clear T rT T7 e7 f7 u7 cg lg
                    go_wp2_with fail
                    go_loopw [24] (fun k wi => ∃ j : Nat, j ≤ C.length ∧ k = .int .i64 j ∧ Hid (SQ w wi h L K H rb (.slice (some ⟨g, o, none⟩) (gl H).length capg) (ints_of (gl H)) r ∧ ERow wi (.slice AC C.length capC) C)) (fun k _ => C.length - (intOf k).toNat)
                    case atStart => exact ⟨0, Nat.zero_le _, rfl, D7.out⟩
                    case round =>
                      clear D7
                      obtain ⟨k, hk, rfl, hM⟩ := hrel
                      have T := hM.out.1
                      have E := hM.out.2
                      by_cases hkl : k < C.length
                      · obtain ⟨d0, d1, hl⟩ := HE.out C[k] (List.getElem_mem hkl)
                        obtain ⟨g2, o2, cap2, hv2, hg2, hE2⟩ := E.at_ hkl
                        obtain ⟨rfl, rfl⟩ : AC = some ⟨g2, o2, none⟩ ∧ capC = cap2 := by simpa using hv2
                        clear hv2
                        have hEA : Hid (∀ W, ERow W (.slice (some ⟨g2, o2, none⟩) C.length capC) C → EAt W g2 (o2 + k * 7) C[k]) := fun W h => by
                          obtain ⟨g', o', cap', e1, _, e3⟩ := h.at_ hkl
                          obtain ⟨⟨rfl, rfl⟩, _⟩ : (g2 = g' ∧ o2 = o') ∧ capC = cap' := by simpa using e1
                          exact e3
                        obtain ⟨x, hx⟩ : ∃ x, C[k] = x := ⟨_, rfl⟩
                        rw [hx] at d0 d1 hl hE2 hEA
                        clear hx
                        obtain ⟨xr, xp, xt, xm, ⟨l0, l1, l2⟩⟩ := x
                        dsimp only at d0 d1 hl
                        have HLx : Hid (mleaf G.m xt = (⟨l0, l1, l2⟩, 0)) := by
                          have := mleaf_in (M := G.m) (show xt.toNat < 16 by omega)
                          rw [Int.toNat_of_nonneg d0] at this
                          rw [hl]; exact this
                        have cg := (hc.out _ T.g).2
                        have lg := (hc.out _ T.g).1
                        have e2 := hE2.c2
                        clear hl
                        dsimp only at e2
                        go_upto_region 44 with fail
                        go_cut [25, 26] from 204 to 217 (fun b e wc => ∃ Bx, b = .pointer (some ⟨Bx, 0, none⟩) ∧ e = .nilIface ∧ Hid (SQ w wc h L K H rb (.slice (some ⟨g, o, none⟩) (gl H).length capg) (ints_of (gl H)) r ∧ ERow wc (.slice (some ⟨g2, o2, none⟩) C.length capC) C ∧ LBox wc Bx ⟨l0, l1, l2⟩))
                        case first =>
                          go_region_held3 (fun w' => w'.cell? ⟨g, o + q, none⟩ = some (.int .i64 (nn : Int)) ∧ w'.cell? ⟨g2, o2 + k * 7 + 2, none⟩ = some (.int .i64 xt)) (first | exact ⟨cg, e2⟩ | exact ⟨Upd.cell (S := Non) (by repeat (first | assumption | exact Upd.refl _ _ | apply Upd.alloc | apply Upd.drew | apply Upd.drewN | refine Upd.tbox ?_ (Nat.le_refl _) _ _ _ | refine Upd.trans ?_ u8)) cg (fun h => h), Upd.cell (S := Non) (by repeat (first | assumption | exact Upd.refl _ _ | apply Upd.alloc | apply Upd.drew | apply Upd.drewN | refine Upd.tbox ?_ (Nat.le_refl _) _ _ _ | refine Upd.trans ?_ u8)) e2 (fun h => h)⟩) (first
                            | (go_at_call 11; refine Calls.mono (hleafC_some (SQ.hr (SQ.non T (by repeat (first | assumption | apply Upd.alloc | apply Upd.drew | apply Upd.drewN | exact Upd.refl _ _)))) hn4 hg xt) ?_; rw [HLx.out]; rintro e w8 ⟨rfl, u8⟩; unfold LeafM.val errv; obtain ⟨hcc, hff⟩ := u8.cells; have hz := u8.size; simp at hz))
                          all_goals go_wp2_with fail
                          all_goals go_meet
                          all_goals refine ⟨_, rfl, rfl, ?_⟩
                          all_goals with_reducible first
                            | exact sbox_a (T.non u8) (ERow.nonU E u8)
                            | exact sbox_a (T.drew.non u8) (ERow.nonU E.drew u8)
                            | exact sbox_b T E u8 rfl
                            | exact sbox_b T E ((Upd.refl Non _).drew.trans u8) rfl
                            | exact sbox_b T E ((Upd.refl Non _).drew.drew.trans u8) rfl
                            | exact sbox_b T.drew E.drew u8 rfl
                            | exact sbox_b T.drew E.drew ((Upd.refl Non _).drew.trans u8) rfl
                        case rest =>
                          obtain ⟨Bx, rfl, rfl, hH⟩ := hcut
                          clear hM T E hE2 cg lg e2 hg2
                          have T := hH.out.1
                          have E := hH.out.2.1
                          have LX := hH.out.2.2
                          obtain ⟨e0, e1, e2, e3, e4, e5, e6⟩ := hEA.out _ E
                          clear hH hEA
                          dsimp only at e4 e5 e6
                          generalize wc = wx at T E LX e0 e1 e2 e3 e4 e5 e6 ⊢
                          have x0 := LX.c0
                          have x1 : wx.cell? ⟨Bx, 1, none⟩ = some (.bool l1) := Row.cell LX (i := 1) (by omega)
                          have x2 := LX.c2
                          have lx := LX.lt
                          dsimp only at x0 x2
                          go_wp2_with fail
                          go_quiet (fail)
                          go_wp2_with fail
                          go_roundw
                          case rel => first | exact ⟨k + 1, by omega, by go_num, T.drewN _, E.drewN _⟩ | ((repeat apply Exists.intro); refine ⟨?_, rfl⟩; exact ⟨k + 1, by omega, by go_num, T.drewN _, E.drewN _⟩)
                          case measure => simp [intOf]; omega
                      · obtain rfl : k = C.length := by omega
                        have T8 := Lib.hid T
                        clear T E hM
                        go_wp2_with fail
                        go_roundw
                        case rel => first | exact ⟨q + 1, by omega, by go_num, T8.out⟩ | ((repeat apply Exists.intro); refine ⟨?_, rfl⟩; exact ⟨q + 1, by omega, by go_num, T8.out⟩)
                        case measure => simp [intOf]; omega
            · obtain rfl : q = (gl H).length := by omega
              have T8 := Lib.hid hI.out
              clear hI
              go_wp2_with fail
              go_ret
              exact ⟨rfl, T8.out.up⟩
end

end U
end Go.Proofs.Ytnhplapcdgnaaab
