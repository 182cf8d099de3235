import Derived.Test.YtnhplapcdgnaaabPoolX
set_option linter.unusedVariables false
set_option linter.unusedSimpArgs false
namespace Go.Proofs.Ytnhplapcdgnaaab
open Go.RowKit
namespace U

theorem light_law (w : World) (A : Option Addr) (len cap : Nat) (k : Int) :
    Calls Try.prog 6 #[.slice A len cap, .int .i64 k] w fun e w' => e = .returned (.bool (decide ((len : Int) ≤ k))) ∧ w = w' := by
  go_enter Try.func6, Try.ntmps6
  go_wp2
  go_ret
  exact ⟨rfl, rfl⟩

/-- One act, as the law's input has it. -/
structure ActM where
  kind : ByteArray
  n : Int
  a : Int
  b : Int
  v : UInt8
  on : Bool

structure ActAt (w : World) (b o : Nat) (x : ActM) : Prop where
  c0 : w.cell? ⟨b, o, none⟩ = some (.string x.kind)
  c1 : w.cell? ⟨b, o + 1, none⟩ = some (.int .i64 x.n)
  c2 : w.cell? ⟨b, o + 2, none⟩ = some (.int .i64 x.a)
  c3 : w.cell? ⟨b, o + 3, none⟩ = some (.int .i64 x.b)
  c4 : w.cell? ⟨b, o + 4, none⟩ = some (.int .u8 x.v.toNat)
  c5 : w.cell? ⟨b, o + 5, none⟩ = some (.bool x.on)

/-- A slice of acts that came in. -/
def ActsAt (w : World) (A : Option Addr) (l : List ActM) : Prop :=
  l = [] ∨ ∃ b o, A = some ⟨b, o, none⟩ ∧ b < w.heap.size ∧ ∀ i x, l[i]? = some x → ActAt w b (o + i * 6) x
theorem ActAt.upd_ {S : Nat → Prop} {w w' : World} {b o : Nat} {x : ActM} (h : ActAt w b o x) (hu : Upd S w w') (hb : ¬ S b) : ActAt w' b o x :=
  ⟨hu.cell h.c0 hb, hu.cell h.c1 hb, hu.cell h.c2 hb, hu.cell h.c3 hb, hu.cell h.c4 hb, hu.cell h.c5 hb⟩

section
variable {w0 w w' : World} {L : PoolAt} {m B : Nat} {P Q P' : PoolM} {x : ActM}
theorem PoolRep.lts (r : PoolRep w L P) : L.p < w.heap.size ∧ L.bb < w.heap.size ∧ L.rb < w.heap.size := by
  obtain ⟨_, _, hB, _⟩ := r.bytes
  obtain ⟨_, _, hR, _⟩ := r.counts
  exact ⟨r.st.lt, hB.lt, hR.lt⟩
theorem ActAt.new (w : World) (x : ActM) : ActAt (w.alloc (.cells #[.string x.kind, .int .i64 x.n, .int .i64 x.a, .int .i64 x.b, .int .u8 x.v.toNat, .bool x.on] 32)) w.heap.size 0 x := by
  have h := fun j => cell_of_row _ w.heap.size j _ _ (0, 0) (heap_alloc_new w (.cells #[.string x.kind, .int .i64 x.n, .int .i64 x.a, .int .i64 x.b, .int .u8 x.v.toNat, .bool x.on] 32))
  exact ⟨h 0, h 1, h 2, h 3, h 4, h 5⟩
theorem ActAt.drewN {o : Nat} (h : ActAt w B o x) (n : Nat) : ActAt (w.drewN n) B o x := ⟨h.c0, h.c1, h.c2, h.c3, h.c4, h.c5⟩
end
/-- Counts are small: as many as acts were done. -/
def Small (k : Nat) (P : PoolM) : Prop := ∀ i, 0 ≤ P.refs i ∧ P.refs i ≤ k
theorem Small.mono {k k' : Nat} {P : PoolM} (h : Small k P) (hk : k ≤ k') : Small k' P := fun i => ⟨(h i).1, by have := (h i).2; omega⟩
theorem Small.take {k : Nat} {P : PoolM} (h : Small k P) : Small (k + 1) P.take.1 := by
  unfold PoolM.take
  cases P.free with
  | none => exact h.mono (by omega)
  | some f => intro i; show 0 ≤ (if i = f then 1 else P.refs i) ∧ (if i = f then 1 else P.refs i) ≤ _; have := h i; split <;> omega
theorem Small.share {k : Nat} {P : PoolM} (h : Small k P) (hk : k ≤ 1000000) (f by_ : Int) (hb : by_ = 1 ∨ by_ = -1) : Small (k + 1) (P.share f by_).1 := by
  unfold PoolM.share
  by_cases hu : P.used f = true
  · rw [if_pos hu]
    intro i
    show 0 ≤ (if i = f.toNat then wrap64 (P.refs f.toNat + by_) else P.refs i) ∧ (if i = f.toNat then wrap64 (P.refs f.toNat + by_) else P.refs i) ≤ _
    have h1 := h i
    have h2 := h f.toNat
    have h3 : 0 < P.refs f.toNat := by simp [PoolM.used] at hu; omega
    have hw : wrap64 (P.refs f.toNat + by_) = P.refs f.toNat + by_ := IntWalk.wrap64_in _ ⟨by omega, by omega⟩
    rw [hw]
    split <;> rcases hb with rfl | rfl <;> omega
  · rw [if_neg hu]; exact h.mono (by omega)
theorem set_refs (P : PoolM) (f a : Int) (v : UInt8) : (P.set f a v).1.refs = P.refs := by
  unfold PoolM.set; repeat' split
  all_goals rfl
theorem fill_refs (P : PoolM) (f g : Int) : (P.fill f g).1.refs = P.refs := by
  unfold PoolM.fill; repeat' split
  all_goals rfl
theorem Small.of_refs {k : Nat} {P P' : PoolM} (h : Small k P) (e : P'.refs = P.refs) : Small (k + 1) P' := fun i => by rw [e]; exact h.mono (by omega) i

theorem take_n (P : PoolM) : P.take.1.n = P.n := by unfold PoolM.take; split <;> rfl
theorem share_n (P : PoolM) (f b : Int) : (P.share f b).1.n = P.n := by unfold PoolM.share; split <;> rfl
theorem set_n (P : PoolM) (f a : Int) (v : UInt8) : (P.set f a v).1.n = P.n := by
  unfold PoolM.set; repeat' split
  all_goals rfl
theorem fill_n (P : PoolM) (f g : Int) : (P.fill f g).1.n = P.n := by
  unfold PoolM.fill; repeat' split
  all_goals rfl

end U
end Go.Proofs.Ytnhplapcdgnaaab
