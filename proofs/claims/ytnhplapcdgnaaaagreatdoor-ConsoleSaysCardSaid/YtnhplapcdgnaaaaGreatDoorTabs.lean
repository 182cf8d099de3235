import Derived.Test.YtnhplapcdgnaaaaGreatDoorLawX
set_option linter.unusedVariables false
set_option linter.unusedSimpArgs false
namespace Go.Proofs.YtnhplapcdgnaaaaGreatDoor
open Go.RowKit
namespace U

/-! Local arrays: of ints, of rows of sixteen bytes. -/
def ints (f : Nat → Int) : Nat → Value := fun i => .int .i64 (f i)
def fset (f : Nat → Int) (i : Nat) (v : Int) : Nat → Int := fun j => if j = i then v else f j
/-- N rows of sixteen bytes in block g, from offset o on. -/
structure BTab (w : World) (g T M o N : Nat) (f : Nat → Nat → UInt8) : Prop where
  ex : ∃ c, Row w g T M c ∧ o + 16 * N ≤ M ∧ ∀ i j, i < N → j < 16 → c (o + i * 16 + j) = .int .u8 (f i j).toNat
def bset (f : Nat → Nat → UInt8) (i k : Nat) (v : UInt8) : Nat → Nat → UInt8 := fun a j => if a = i then (if j = k then v else f i j) else f a j
def bsetR (f : Nat → Nat → UInt8) (i : Nat) (R : Nat → UInt8) : Nat → Nat → UInt8 := fun a j => if a = i then R j else f a j
section
variable {w w' : World} {g T M o N : Nat} {f : Nat → Nat → UInt8} {S : Nat → Prop}
theorem BTab.cell (h : BTab w g T M o N f) {i j : Nat} (hi : i < N) (hj : j < 16) : w.cell? ⟨g, o + i * 16 + j, none⟩ = some (.int .u8 (f i j).toNat) := by
  obtain ⟨c, h1, h2, h3⟩ := h.ex
  rw [h1.cell (by omega), h3 i j hi hj]
theorem BTab.fr (h : BTab w g T M o N f) (i : Nat) : w.frozen? ⟨g, i, none⟩ = false := by
  obtain ⟨c, h1, _⟩ := h.ex
  exact h1.frozen i
theorem BTab.lt (h : BTab w g T M o N f) : g < w.heap.size := by
  obtain ⟨c, h1, _⟩ := h.ex
  exact h1.lt
theorem BTab.keep (h : BTab w g T M o N f) (e : w'.heap[g]? = w.heap[g]?) : BTab w' g T M o N f := by
  obtain ⟨c, h1, h2⟩ := h.ex
  exact ⟨c, h1.keep e, h2⟩
theorem BTab.upd_ (h : BTab w g T M o N f) (u : Upd S w w') (hS : ¬ S g) : BTab w' g T M o N f := h.keep (u.block g h.lt hS)
theorem BTab.set_ (h : BTab w g T M o N f) {i k : Nat} {v : UInt8} (hi : i < N) (hk : k < 16) : BTab (w.setCell ⟨g, o + i * 16 + k, none⟩ (.int .u8 v.toNat)) g T M o N (bset f i k v) := by
  obtain ⟨c, h1, h2, h3⟩ := h.ex
  refine ⟨_, h1.set_ _, h2, fun a j ha hj => ?_⟩
  unfold upd bset
  by_cases e : a = i
  · subst e
    by_cases e2 : j = k
    · subst e2; simp
    · rw [if_neg (by omega)]; simp [e2, h3 a j ha hj]
  · rw [if_neg (by omega)]; simp [e, h3 a j ha hj]
theorem BTab.setR (h : BTab w g T M o N f) {i : Nat} (hi : i < N) (R : Nat → UInt8) : BTab (w.setCells g (o + i * 16) (rowL R)) g T M o N (bsetR f i R) := by
  obtain ⟨c, h1, h2, h3⟩ := h.ex
  refine ⟨_, Row.setCells (rowL R) (o + i * 16) _ _ h1, h2, fun a j ha hj => ?_⟩
  unfold updL bsetR
  by_cases e : a = i
  · subst e
    rw [if_pos (by rw [rowL_length]; omega), show o + a * 16 + j - (o + a * 16) = j from by omega]
    simp [rowL_get R hj]
  · rw [if_neg (by rw [rowL_length]; omega)]; simp [e, h3 a j ha hj]
theorem BTab.store (h : BTab w g T M o N f) {i : Nat} (hi : i < N) (R : Nat → UInt8) :
    (Instr.storeAt 41 (.pointer (some ⟨g, o + i * 16, none⟩)) (.agg (rowL R).toArray)).run Tryz.prog w = .ok () (w.setCells g (o + i * 16) (rowL R)) := by
  obtain ⟨c, h1, h2, h3⟩ := h.ex
  refine store_row (P := Tryz.prog) h1 41 (o + i * 16) (rowL R) (by rw [rowL_length]; omega) (by rw [rowL_length]; kernel_rfl) ?_
  intro v hv
  simp only [rowL, rowB, List.map_map, List.mem_map] at hv
  obtain ⟨_, _, rfl⟩ := hv
  rfl
theorem BTab.storeA (h : BTab w g T M o N f) {i a : Nat} (hi : i < N) (R : Nat → UInt8) (ha : a = o + i * 16) :
    (Instr.storeAt 41 (.pointer (some ⟨g, a, none⟩)) (.agg (rowL R).toArray)).run Tryz.prog w = .ok () (w.setCells g a (rowL R)) := by subst ha; exact h.store hi R
theorem BTab.cellA (h : BTab w g T M o N f) {i j a : Nat} (hi : i < N) (hj : j < 16) (ha : a = o + i * 16 + j) : w.cell? ⟨g, a, none⟩ = some (.int .u8 (f i j).toNat) := by subst ha; exact h.cell hi hj
theorem BTab.load (h : BTab w g T M o N f) {i : Nat} (hi : i < N) :
    (Instr.loadAt 41 (.pointer (some ⟨g, o + i * 16, none⟩))).run Tryz.prog w = .ok (.agg (rowL (f i)).toArray) w := by
  obtain ⟨c, h1, h2, h3⟩ := h.ex
  rw [load_row (P := Tryz.prog) h1 41 (o + i * 16) 16 (.array 16 5) (by omega) Tryz.underlying41 rfl (by kernel_rfl)]
  have e : seg c (o + i * 16) 16 = rowL (f i) := by
    unfold seg rowL rowB
    rw [List.map_map]
    exact List.map_congr_left fun j hj => h3 i j hi (by simpa using hj)
  rw [e]
end
theorem ints_set {w : World} {g T N : Nat} {f : Nat → Int} (h : Row w g T N (ints f)) {i : Nat} (v : Int) : Row (w.setCell ⟨g, i, none⟩ (.int .i64 v)) g T N (ints (fset f i v)) :=
  (h.set_ _).congr fun j _ => by unfold upd ints fset; split <;> rfl

/-! Contracts of a pool, told apart by what they answer. -/
section
variable {w : World} {L : PoolAt} {P : PoolM}
theorem take_no (r : PoolRep w L P) (h : P.free = none) :
    Calls Tryz.prog 177 #[.pointer (some ⟨L.p, 0, none⟩)] w fun e w' => e = .returned (.tuple #[.int .i64 0, .iface 37 (.int .i64 3)]) ∧ PoolRep w' L P ∧ Upd L.own w w' := by
  have ht : P.take = (P, 0, 3) := by unfold PoolM.take; rw [h]
  have := take_any w L P r
  rw [ht] at this
  exact this
theorem take_yes (r : PoolRep w L P) {f : Nat} (h : P.free = some f) :
    Calls Tryz.prog 177 #[.pointer (some ⟨L.p, 0, none⟩)] w fun e w' => e = .returned (.tuple #[.int .i64 f, .nilIface]) ∧ PoolRep w' L ((P.setRef f 1).setRow f fun _ => 0) ∧ Upd L.own w w' := by
  have ht : P.take = ((P.setRef f 1).setRow f fun _ => 0, f, 0) := by unfold PoolM.take; rw [h]
  have := take_any w L P r
  rw [ht] at this
  exact this
theorem share_no (r : PoolRep w L P) {f : Int} (h : P.used f = false) :
    Calls Tryz.prog 172 #[.pointer (some ⟨L.p, 0, none⟩), .int .i64 f] w fun e w' => e = .returned (.iface 37 (.int .i64 2)) ∧ PoolRep w' L P ∧ Upd L.own w w' := by
  have ht : P.share f 1 = (P, 2) := by unfold PoolM.share; rw [h]; rfl
  have := share_any w L P r f
  rw [ht] at this
  exact this
theorem share_yes (r : PoolRep w L P) {f : Int} (h : P.used f = true) (hb : P.refs f.toNat ≤ 1000000) :
    Calls Tryz.prog 172 #[.pointer (some ⟨L.p, 0, none⟩), .int .i64 f] w fun e w' => e = .returned .nilIface ∧ PoolRep w' L (P.setRef f.toNat (P.refs f.toNat + 1)) ∧ Upd L.own w w' := by
  have ht : P.share f 1 = (P.setRef f.toNat (P.refs f.toNat + 1), 0) := by
    unfold PoolM.share; rw [h]
    have h0 : 0 < P.refs f.toNat := by simp [PoolM.used] at h; omega
    rw [show wrap64 (P.refs f.toNat + 1) = P.refs f.toNat + 1 from IntWalk.wrap64_in _ ⟨by omega, by omega⟩]; rfl
  have := share_any w L P r f
  rw [ht] at this
  exact this
theorem drop_no (r : PoolRep w L P) {f : Int} (h : P.used f = false) :
    Calls Tryz.prog 169 #[.pointer (some ⟨L.p, 0, none⟩), .int .i64 f] w fun e w' => e = .returned (.iface 37 (.int .i64 2)) ∧ PoolRep w' L P ∧ Upd L.own w w' := by
  have ht : P.share f (-1) = (P, 2) := by unfold PoolM.share; rw [h]; rfl
  have := drop_any w L P r f
  rw [ht] at this
  exact this
theorem drop_yes (r : PoolRep w L P) {f : Int} (h : P.used f = true) (hb : P.refs f.toNat ≤ 1000000) :
    Calls Tryz.prog 169 #[.pointer (some ⟨L.p, 0, none⟩), .int .i64 f] w fun e w' => e = .returned .nilIface ∧ PoolRep w' L (P.setRef f.toNat (P.refs f.toNat - 1)) ∧ Upd L.own w w' := by
  have ht : P.share f (-1) = (P.setRef f.toNat (P.refs f.toNat - 1), 0) := by
    unfold PoolM.share; rw [h]
    have h0 : 0 < P.refs f.toNat := by simp [PoolM.used] at h; omega
    rw [show wrap64 (P.refs f.toNat + -1) = P.refs f.toNat - 1 from by rw [IntWalk.wrap64_in _ ⟨by omega, by omega⟩]; omega]; rfl
  have := drop_any w L P r f
  rw [ht] at this
  exact this
/-- Set: it may be done? -/
def PoolM.mayset (P : PoolM) (f a : Int) : Bool := decide (0 ≤ a) && (decide (a < 16) && (P.used f && decide (P.refs f.toNat ≤ 1)))
theorem set_no (r : PoolRep w L P) {f a : Int} (v : UInt8) (h : P.mayset f a = false) :
    Calls Tryz.prog 126 #[.pointer (some ⟨L.p, 0, none⟩), .int .i64 f, .int .i64 a, .int .u8 v.toNat] w fun e w' => (∃ k : Nat, e = .returned (.iface 37 (.int .i64 k))) ∧ PoolRep w' L P ∧ Upd L.own w w' := by
  have ht : (P.set f a v).1 = P ∧ (P.set f a v).2 ≠ 0 := by
    unfold PoolM.set
    split
    · exact ⟨rfl, by simp⟩
    · rename_i h1
      split
      · rename_i h2
        split
        · exact ⟨rfl, by simp⟩
        · rename_i h3
          unfold PoolM.mayset at h
          rw [h2] at h
          simp at h
          omega
      · exact ⟨rfl, by simp⟩
  refine (set_any w L P r f a v).mono ?_
  rintro e w' ⟨rfl, h1, h2⟩
  rw [ht.1] at h1
  exact ⟨⟨_, by rw [errv, if_neg ht.2]⟩, h1, h2⟩
theorem set_yes (r : PoolRep w L P) {f a : Int} (v : UInt8) (h : P.mayset f a = true) :
    Calls Tryz.prog 126 #[.pointer (some ⟨L.p, 0, none⟩), .int .i64 f, .int .i64 a, .int .u8 v.toNat] w fun e w' => e = .returned .nilIface ∧ PoolRep w' L (P.setByte f.toNat a.toNat v) ∧ Upd L.own w w' := by
  have ht : P.set f a v = (P.setByte f.toNat a.toNat v, 0) := by
    unfold PoolM.mayset at h
    simp only [Bool.and_eq_true, decide_eq_true_eq] at h
    unfold PoolM.set
    rw [if_neg (by omega), if_pos h.2.2.1, if_neg (by omega)]
  have := set_any w L P r f a v
  rw [ht] at this
  exact this
theorem left_zero (h : P.free = none) : P.left = 0 := by
  unfold PoolM.left PoolM.leftTo PoolM.free at *
  rw [List.countP_eq_zero]
  intro i hi
  have := List.find?_eq_none.1 h i hi
  simpa using this
end

end U
end Go.Proofs.YtnhplapcdgnaaaaGreatDoor
