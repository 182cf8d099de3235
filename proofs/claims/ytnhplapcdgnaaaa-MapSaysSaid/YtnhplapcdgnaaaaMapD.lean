import Derived.Test.YtnhplapcdgnaaaaMapC
set_option linter.unusedVariables false
set_option linter.unusedSimpArgs false
namespace Go.Proofs.Ytnhplapcdgnaaaa
open Go.RowKit
namespace U

/-- Is just one page in a frame? -/
def PoolM.one (P : PoolM) (f : Int) : Bool := (P.of f).2.2 == 0 && (P.of f).2.1 == 1
/-- A frame is taken for a page; what it had comes with it. -/
def PoolM.move (P : PoolM) (l : LeafM) (f : Nat) : PoolM := if l.there then (((P.take.1).fill f l.frame).1.share l.frame (-1)).1 else P.take.1
def mtouch (P : PoolM) (M : MapM) (n : Int) (write : Bool) : PoolM × MapM × Int × Bool × Nat :=
  if onB n then
    if M.state n.toNat = 0 then (P, M, 0, false, 2) else
    if M.state n.toNat = 2 then (P, M, 0, false, 6) else
    if (M.leaf n.toNat).there && ((M.leaf n.toNat).write || !write) then (P, M, (M.leaf n.toNat).frame, false, 0) else
    if (M.leaf n.toNat).there && P.one (M.leaf n.toNat).frame then (P, M.setLeaf n.toNat { M.leaf n.toNat with write := true }, (M.leaf n.toNat).frame, false, 0) else
    match P.free with
    | none => (P, M, 0, false, 3)
    | some f => (P.move (M.leaf n.toNat) f, M.setLeaf n.toNat ⟨true, true, f⟩, f, (M.leaf n.toNat).there, 0)
  else (P, M, 0, false, 1)

def TouchPost (w : World) (L : PoolAt) (g N : Nat) (x : PoolM × MapM × Int × Bool × Nat) (e : Ending) (w' : World) : Prop :=
  e = .returned (.tuple #[.int .i64 x.2.2.1, .bool x.2.2.2.1, errv x.2.2.2.2]) ∧ PoolRep w' L x.1 ∧ MRep w' g 146 N L.p x.2.1 ∧ Upd (ownM L g) w w'

set_option maxRecDepth 100000 in
set_option maxHeartbeats 1000000 in
theorem touch_stay (w : World) (L : PoolAt) (P : PoolM) (g N : Nat) (M : MapM) (rp : PoolRep w L P) (r : MRep w g 146 N L.p M) (k : Nat) (hk : k < 16) (wr : Bool)
    (s0 : M.state k ≠ 0) (s2 : M.state k ≠ 2) (ht : (M.leaf k).there = true) (hw : (M.leaf k).write = true ∨ wr = false) :
    Calls Try.prog 51 #[.pointer (some ⟨g, 0, none⟩), .int .i64 k, .bool wr] w (TouchPost w L g N (P, M, (M.leaf k).frame, false, 0)) := by
  have ho' : onB k = true := onB_iff.2 ⟨by omega, by omega⟩
  have c1 := r.st hk
  have c2 := r.l0 hk
  have c3 := r.l1 hk
  have c4 := r.l2 hk
  have lg := r.lt
  have s0' : (M.state k == 0) = false := by simpa using s0
  have s2' : (M.state k == 2) = false := by simpa using s2
  clear s0 s2
  cases hwl : (M.leaf k).write with
  | true =>
    rw [hwl] at c3
    clear hw hwl
    go_enter Try.func51, Try.ntmps51
    go_wp2_with (go_at_call 85; refine (on_any _ _).mono ?_; rintro e w' ⟨rfl, rfl⟩)
    all_goals go_ret3
    all_goals exact ⟨rfl, rp.alloc _, r.alloc _, (Upd.refl _ _).alloc _⟩
  | false =>
    have hw' : wr = false := by rcases hw with h | h <;> simp_all
    subst hw'
    rw [hwl] at c3
    clear hw hwl
    go_enter Try.func51, Try.ntmps51
    go_wp2_with (go_at_call 85; refine (on_any _ _).mono ?_; rintro e w' ⟨rfl, rfl⟩)
    all_goals go_ret3
    all_goals exact ⟨rfl, rp.alloc _, r.alloc _, (Upd.refl _ _).alloc _⟩

end U
end Go.Proofs.Ytnhplapcdgnaaaa
