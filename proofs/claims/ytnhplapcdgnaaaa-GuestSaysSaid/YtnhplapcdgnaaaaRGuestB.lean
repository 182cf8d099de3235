import Derived.Test.YtnhplapcdgnaaaaRGuest
import Derived.Test.YtnhplapcdgnaaaaGuestG
import Derived.Deep.Cut
set_option linter.unusedVariables false
set_option linter.unusedSimpArgs false
namespace Go.Proofs.Ytnhplapcdgnaaaa
open Go.RowKit
namespace U

/-! The reference's guest: the frame of an address. -/
section
variable {w W : World} {m r : Nat} {v0 v : Value} {P : PoolM} {E : Nat → Nat} {G : GuestM}

def RFramePost (w : World) (m r : Nat) (v0 : Value) (x : PoolM × GuestM × Int × Nat) (e : Ending) (w' : World) : Prop :=
  e = .returned (.tuple #[.int .i64 x.2.2.1, .int .i64 x.2.2.2]) ∧ ∃ v', RG w w' m r v0 v' x.1 x.2.1.m x.2.1.c x.2.1.root x.2.1.walks

/-- Touch, as the reference's guest calls it. -/
theorem rgtouch_any (t : RG w W m r v0 v P G.m G.c G.root G.walks) (hI : GInv P G E) (n : Int) (wr : Bool) :
    Calls Try.prog 94 #[.pointer (some ⟨r, 0, none⟩), .int .i64 n, .bool wr] W fun e w' =>
      e = .returned (.tuple #[.int .i64 (mtouch P G.m n wr).2.2.1, .bool (mtouch P G.m n wr).2.2.2.1, .int .i64 (mtouch P G.m n wr).2.2.2.2]) ∧ RG w w' m r v0 v (mtouch P G.m n wr).1 (mtouch P G.m n wr).2.1 G.c G.root G.walks :=
  (rtouch_any (by decide) W P r G.m (xg v G.root G.walks) hI.m t.rp t.mr n wr).mono (by rintro e w2 ⟨rfl, r2, q2, u2⟩; exact ⟨rfl, t.mapP r2 q2 u2⟩)

set_option maxRecDepth 100000 in
set_option maxHeartbeats 1000000 in
theorem rframe_off (t : RG w W m r v0 v P G.m G.c G.root G.walks) (addr : Int) (wr : Bool) (h : addr < 0 ∨ 255 < addr) :
    Calls Try.prog 137 #[.pointer (some ⟨r, 0, none⟩), .int .i64 addr, .bool wr] W (RFramePost w m r v0 (gframe P G addr wr)) := by
  have hF : Hid (gframe P G addr wr = (P, G, 0, 1)) := by show _ = _; unfold gframe; rw [if_pos h]
  go_enter Try.func137, Try.ntmps137
  go_wp2_with fail
  all_goals first | (exfalso; simp_all; done) | go_ret2
  all_goals exact ⟨by rw [hF.out]; rfl, v, by rw [hF.out]; exact t⟩

set_option maxRecDepth 100000 in
set_option maxHeartbeats 1000000 in
theorem rframe_plain (t : RG w W m r v0 v P G.m G.c G.root G.walks) (hI : GInv P G E) (addr : Int) (wr : Bool) (h0 : 0 ≤ addr) (h1 : addr ≤ 255) (hr : G.root < 0) :
    Calls Try.prog 137 #[.pointer (some ⟨r, 0, none⟩), .int .i64 addr, .bool wr] W (RFramePost w m r v0 (gframe P G addr wr)) := by
  have hF : Hid (gframe P G addr wr = ((mtouch P G.m (addr / 16) wr).1, { G with m := (mtouch P G.m (addr / 16) wr).2.1 }, (mtouch P G.m (addr / 16) wr).2.2.1, (mtouch P G.m (addr / 16) wr).2.2.2.2)) := by
    show _ = _; unfold gframe gtouch; rw [if_neg (by omega), if_pos hr]
  have c2 := t.c66
  have lg := t.lt
  have hroot : G.root = -1 := by have := hI.r0; omega
  rw [hroot] at c2
  have htouch := Lib.hid (rgtouch_any t hI (addr / 16) wr)
  clear hroot hr
  go_enter Try.func137, Try.ntmps137
  go_wp2_with (first
    | (go_at_call 94; refine htouch.out.mono ?_; rintro e w2 ⟨rfl, t2⟩)
    | fail)
  all_goals go_ret2
  all_goals exact ⟨by rw [hF.out]; rfl, v, by rw [hF.out]; exact t2⟩
end

end U
end Go.Proofs.Ytnhplapcdgnaaaa
