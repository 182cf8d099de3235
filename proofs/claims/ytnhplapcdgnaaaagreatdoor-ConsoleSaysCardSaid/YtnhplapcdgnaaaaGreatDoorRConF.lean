import Derived.Test.YtnhplapcdgnaaaaGreatDoorRConDX
import Derived.Test.YtnhplapcdgnaaaaGreatDoorConPX
set_option linter.unusedVariables false
set_option linter.unusedSimpArgs false
namespace Go.Proofs.YtnhplapcdgnaaaaGreatDoor
open Go.RowKit
namespace U

/-! The reference's many (written by gen_rsay.py). -/
set_option maxRecDepth 100000 in
set_option maxHeartbeats 4000000 in
theorem rmany_some (w : World) (x : ByteArray) (q : CK × Nat) (h : (x.data.toList, q) ∈ ckL) : Calls Tryz.prog 13 #[.string x] w fun e w' => e = .returned (.int .i64 q.2) ∧ w = w' := by
  obtain ⟨k, m⟩ := q
  unfold ckL at h
  simp only [List.mem_cons, Prod.mk.injEq, List.not_mem_nil, or_false] at h
  rcases h with ⟨hx, rfl, rfl⟩ | ⟨hx, rfl, rfl⟩ | ⟨hx, rfl, rfl⟩ | ⟨hx, rfl, rfl⟩ | ⟨hx, rfl, rfl⟩ | ⟨hx, rfl, rfl⟩ | ⟨hx, rfl, rfl⟩ | ⟨hx, rfl, rfl⟩ | ⟨hx, rfl, rfl⟩ | ⟨hx, rfl, rfl⟩ | ⟨hx, rfl, rfl⟩ | ⟨hx, rfl, rfl⟩ | ⟨hx, rfl, rfl⟩ | ⟨hx, rfl, rfl⟩ | ⟨hx, rfl, rfl⟩ | ⟨hx, rfl, rfl⟩ | ⟨hx, rfl, rfl⟩ | ⟨hx, rfl, rfl⟩
  · have h0 := test_codes2 hx (m := [97, 100, 100]) (b := true) rfl
    have h1 := test_codes2 hx (m := [114, 101, 109, 111, 118, 101]) (b := false) rfl
    have h2 := test_codes2 hx (m := [112, 108, 117, 103]) (b := false) rfl
    have h3 := test_codes2 hx (m := [117, 110, 112, 108, 117, 103]) (b := false) rfl
    have h4 := test_codes2 hx (m := [103, 105, 118, 101]) (b := false) rfl
    have h5 := test_codes2 hx (m := [98, 97, 99, 107]) (b := false) rfl
    have h6 := test_codes2 hx (m := [108, 111, 97, 100]) (b := false) rfl
    have h7 := test_codes2 hx (m := [115, 116, 111, 114, 101]) (b := false) rfl
    have h8 := test_codes2 hx (m := [114, 111, 111, 116]) (b := false) rfl
    have h9 := test_codes2 hx (m := [102, 111, 114, 103, 101, 116]) (b := false) rfl
    have h10 := test_codes2 hx (m := [100, 114, 111, 112]) (b := false) rfl
    have h11 := test_codes2 hx (m := [115, 99, 97, 110]) (b := false) rfl
    have h12 := test_codes2 hx (m := [115, 99, 97, 110, 97, 108, 108]) (b := false) rfl
    have h13 := test_codes2 hx (m := [103, 117, 101, 115, 116, 115]) (b := false) rfl
    have h14 := test_codes2 hx (m := [108, 101, 102, 116]) (b := false) rfl
    have h15 := test_codes2 hx (m := [112, 114, 111, 109, 105, 115, 101, 100]) (b := false) rfl
    have h16 := test_codes2 hx (m := [102, 114, 97, 109, 101]) (b := false) rfl
    have h17 := test_codes2 hx (m := [112, 97, 103, 101]) (b := false) rfl
    clear hx
    go_enter Tryz.func13, Tryz.ntmps13
    go_wp2_with fail
    go_ret
    exact ⟨rfl, rfl⟩
  · have h0 := test_codes2 hx (m := [97, 100, 100]) (b := false) rfl
    have h1 := test_codes2 hx (m := [114, 101, 109, 111, 118, 101]) (b := true) rfl
    have h2 := test_codes2 hx (m := [112, 108, 117, 103]) (b := false) rfl
    have h3 := test_codes2 hx (m := [117, 110, 112, 108, 117, 103]) (b := false) rfl
    have h4 := test_codes2 hx (m := [103, 105, 118, 101]) (b := false) rfl
    have h5 := test_codes2 hx (m := [98, 97, 99, 107]) (b := false) rfl
    have h6 := test_codes2 hx (m := [108, 111, 97, 100]) (b := false) rfl
    have h7 := test_codes2 hx (m := [115, 116, 111, 114, 101]) (b := false) rfl
    have h8 := test_codes2 hx (m := [114, 111, 111, 116]) (b := false) rfl
    have h9 := test_codes2 hx (m := [102, 111, 114, 103, 101, 116]) (b := false) rfl
    have h10 := test_codes2 hx (m := [100, 114, 111, 112]) (b := false) rfl
    have h11 := test_codes2 hx (m := [115, 99, 97, 110]) (b := false) rfl
    have h12 := test_codes2 hx (m := [115, 99, 97, 110, 97, 108, 108]) (b := false) rfl
    have h13 := test_codes2 hx (m := [103, 117, 101, 115, 116, 115]) (b := false) rfl
    have h14 := test_codes2 hx (m := [108, 101, 102, 116]) (b := false) rfl
    have h15 := test_codes2 hx (m := [112, 114, 111, 109, 105, 115, 101, 100]) (b := false) rfl
    have h16 := test_codes2 hx (m := [102, 114, 97, 109, 101]) (b := false) rfl
    have h17 := test_codes2 hx (m := [112, 97, 103, 101]) (b := false) rfl
    clear hx
    go_enter Tryz.func13, Tryz.ntmps13
    go_wp2_with fail
    go_ret
    exact ⟨rfl, rfl⟩
  · have h0 := test_codes2 hx (m := [97, 100, 100]) (b := false) rfl
    have h1 := test_codes2 hx (m := [114, 101, 109, 111, 118, 101]) (b := false) rfl
    have h2 := test_codes2 hx (m := [112, 108, 117, 103]) (b := true) rfl
    have h3 := test_codes2 hx (m := [117, 110, 112, 108, 117, 103]) (b := false) rfl
    have h4 := test_codes2 hx (m := [103, 105, 118, 101]) (b := false) rfl
    have h5 := test_codes2 hx (m := [98, 97, 99, 107]) (b := false) rfl
    have h6 := test_codes2 hx (m := [108, 111, 97, 100]) (b := false) rfl
    have h7 := test_codes2 hx (m := [115, 116, 111, 114, 101]) (b := false) rfl
    have h8 := test_codes2 hx (m := [114, 111, 111, 116]) (b := false) rfl
    have h9 := test_codes2 hx (m := [102, 111, 114, 103, 101, 116]) (b := false) rfl
    have h10 := test_codes2 hx (m := [100, 114, 111, 112]) (b := false) rfl
    have h11 := test_codes2 hx (m := [115, 99, 97, 110]) (b := false) rfl
    have h12 := test_codes2 hx (m := [115, 99, 97, 110, 97, 108, 108]) (b := false) rfl
    have h13 := test_codes2 hx (m := [103, 117, 101, 115, 116, 115]) (b := false) rfl
    have h14 := test_codes2 hx (m := [108, 101, 102, 116]) (b := false) rfl
    have h15 := test_codes2 hx (m := [112, 114, 111, 109, 105, 115, 101, 100]) (b := false) rfl
    have h16 := test_codes2 hx (m := [102, 114, 97, 109, 101]) (b := false) rfl
    have h17 := test_codes2 hx (m := [112, 97, 103, 101]) (b := false) rfl
    clear hx
    go_enter Tryz.func13, Tryz.ntmps13
    go_wp2_with fail
    go_ret
    exact ⟨rfl, rfl⟩
  · have h0 := test_codes2 hx (m := [97, 100, 100]) (b := false) rfl
    have h1 := test_codes2 hx (m := [114, 101, 109, 111, 118, 101]) (b := false) rfl
    have h2 := test_codes2 hx (m := [112, 108, 117, 103]) (b := false) rfl
    have h3 := test_codes2 hx (m := [117, 110, 112, 108, 117, 103]) (b := true) rfl
    have h4 := test_codes2 hx (m := [103, 105, 118, 101]) (b := false) rfl
    have h5 := test_codes2 hx (m := [98, 97, 99, 107]) (b := false) rfl
    have h6 := test_codes2 hx (m := [108, 111, 97, 100]) (b := false) rfl
    have h7 := test_codes2 hx (m := [115, 116, 111, 114, 101]) (b := false) rfl
    have h8 := test_codes2 hx (m := [114, 111, 111, 116]) (b := false) rfl
    have h9 := test_codes2 hx (m := [102, 111, 114, 103, 101, 116]) (b := false) rfl
    have h10 := test_codes2 hx (m := [100, 114, 111, 112]) (b := false) rfl
    have h11 := test_codes2 hx (m := [115, 99, 97, 110]) (b := false) rfl
    have h12 := test_codes2 hx (m := [115, 99, 97, 110, 97, 108, 108]) (b := false) rfl
    have h13 := test_codes2 hx (m := [103, 117, 101, 115, 116, 115]) (b := false) rfl
    have h14 := test_codes2 hx (m := [108, 101, 102, 116]) (b := false) rfl
    have h15 := test_codes2 hx (m := [112, 114, 111, 109, 105, 115, 101, 100]) (b := false) rfl
    have h16 := test_codes2 hx (m := [102, 114, 97, 109, 101]) (b := false) rfl
    have h17 := test_codes2 hx (m := [112, 97, 103, 101]) (b := false) rfl
    clear hx
    go_enter Tryz.func13, Tryz.ntmps13
    go_wp2_with fail
    go_ret
    exact ⟨rfl, rfl⟩
  · have h0 := test_codes2 hx (m := [97, 100, 100]) (b := false) rfl
    have h1 := test_codes2 hx (m := [114, 101, 109, 111, 118, 101]) (b := false) rfl
    have h2 := test_codes2 hx (m := [112, 108, 117, 103]) (b := false) rfl
    have h3 := test_codes2 hx (m := [117, 110, 112, 108, 117, 103]) (b := false) rfl
    have h4 := test_codes2 hx (m := [103, 105, 118, 101]) (b := true) rfl
    have h5 := test_codes2 hx (m := [98, 97, 99, 107]) (b := false) rfl
    have h6 := test_codes2 hx (m := [108, 111, 97, 100]) (b := false) rfl
    have h7 := test_codes2 hx (m := [115, 116, 111, 114, 101]) (b := false) rfl
    have h8 := test_codes2 hx (m := [114, 111, 111, 116]) (b := false) rfl
    have h9 := test_codes2 hx (m := [102, 111, 114, 103, 101, 116]) (b := false) rfl
    have h10 := test_codes2 hx (m := [100, 114, 111, 112]) (b := false) rfl
    have h11 := test_codes2 hx (m := [115, 99, 97, 110]) (b := false) rfl
    have h12 := test_codes2 hx (m := [115, 99, 97, 110, 97, 108, 108]) (b := false) rfl
    have h13 := test_codes2 hx (m := [103, 117, 101, 115, 116, 115]) (b := false) rfl
    have h14 := test_codes2 hx (m := [108, 101, 102, 116]) (b := false) rfl
    have h15 := test_codes2 hx (m := [112, 114, 111, 109, 105, 115, 101, 100]) (b := false) rfl
    have h16 := test_codes2 hx (m := [102, 114, 97, 109, 101]) (b := false) rfl
    have h17 := test_codes2 hx (m := [112, 97, 103, 101]) (b := false) rfl
    clear hx
    go_enter Tryz.func13, Tryz.ntmps13
    go_wp2_with fail
    go_ret
    exact ⟨rfl, rfl⟩
  · have h0 := test_codes2 hx (m := [97, 100, 100]) (b := false) rfl
    have h1 := test_codes2 hx (m := [114, 101, 109, 111, 118, 101]) (b := false) rfl
    have h2 := test_codes2 hx (m := [112, 108, 117, 103]) (b := false) rfl
    have h3 := test_codes2 hx (m := [117, 110, 112, 108, 117, 103]) (b := false) rfl
    have h4 := test_codes2 hx (m := [103, 105, 118, 101]) (b := false) rfl
    have h5 := test_codes2 hx (m := [98, 97, 99, 107]) (b := true) rfl
    have h6 := test_codes2 hx (m := [108, 111, 97, 100]) (b := false) rfl
    have h7 := test_codes2 hx (m := [115, 116, 111, 114, 101]) (b := false) rfl
    have h8 := test_codes2 hx (m := [114, 111, 111, 116]) (b := false) rfl
    have h9 := test_codes2 hx (m := [102, 111, 114, 103, 101, 116]) (b := false) rfl
    have h10 := test_codes2 hx (m := [100, 114, 111, 112]) (b := false) rfl
    have h11 := test_codes2 hx (m := [115, 99, 97, 110]) (b := false) rfl
    have h12 := test_codes2 hx (m := [115, 99, 97, 110, 97, 108, 108]) (b := false) rfl
    have h13 := test_codes2 hx (m := [103, 117, 101, 115, 116, 115]) (b := false) rfl
    have h14 := test_codes2 hx (m := [108, 101, 102, 116]) (b := false) rfl
    have h15 := test_codes2 hx (m := [112, 114, 111, 109, 105, 115, 101, 100]) (b := false) rfl
    have h16 := test_codes2 hx (m := [102, 114, 97, 109, 101]) (b := false) rfl
    have h17 := test_codes2 hx (m := [112, 97, 103, 101]) (b := false) rfl
    clear hx
    go_enter Tryz.func13, Tryz.ntmps13
    go_wp2_with fail
    go_ret
    exact ⟨rfl, rfl⟩
  · have h0 := test_codes2 hx (m := [97, 100, 100]) (b := false) rfl
    have h1 := test_codes2 hx (m := [114, 101, 109, 111, 118, 101]) (b := false) rfl
    have h2 := test_codes2 hx (m := [112, 108, 117, 103]) (b := false) rfl
    have h3 := test_codes2 hx (m := [117, 110, 112, 108, 117, 103]) (b := false) rfl
    have h4 := test_codes2 hx (m := [103, 105, 118, 101]) (b := false) rfl
    have h5 := test_codes2 hx (m := [98, 97, 99, 107]) (b := false) rfl
    have h6 := test_codes2 hx (m := [108, 111, 97, 100]) (b := true) rfl
    have h7 := test_codes2 hx (m := [115, 116, 111, 114, 101]) (b := false) rfl
    have h8 := test_codes2 hx (m := [114, 111, 111, 116]) (b := false) rfl
    have h9 := test_codes2 hx (m := [102, 111, 114, 103, 101, 116]) (b := false) rfl
    have h10 := test_codes2 hx (m := [100, 114, 111, 112]) (b := false) rfl
    have h11 := test_codes2 hx (m := [115, 99, 97, 110]) (b := false) rfl
    have h12 := test_codes2 hx (m := [115, 99, 97, 110, 97, 108, 108]) (b := false) rfl
    have h13 := test_codes2 hx (m := [103, 117, 101, 115, 116, 115]) (b := false) rfl
    have h14 := test_codes2 hx (m := [108, 101, 102, 116]) (b := false) rfl
    have h15 := test_codes2 hx (m := [112, 114, 111, 109, 105, 115, 101, 100]) (b := false) rfl
    have h16 := test_codes2 hx (m := [102, 114, 97, 109, 101]) (b := false) rfl
    have h17 := test_codes2 hx (m := [112, 97, 103, 101]) (b := false) rfl
    clear hx
    go_enter Tryz.func13, Tryz.ntmps13
    go_wp2_with fail
    go_ret
    exact ⟨rfl, rfl⟩
  · have h0 := test_codes2 hx (m := [97, 100, 100]) (b := false) rfl
    have h1 := test_codes2 hx (m := [114, 101, 109, 111, 118, 101]) (b := false) rfl
    have h2 := test_codes2 hx (m := [112, 108, 117, 103]) (b := false) rfl
    have h3 := test_codes2 hx (m := [117, 110, 112, 108, 117, 103]) (b := false) rfl
    have h4 := test_codes2 hx (m := [103, 105, 118, 101]) (b := false) rfl
    have h5 := test_codes2 hx (m := [98, 97, 99, 107]) (b := false) rfl
    have h6 := test_codes2 hx (m := [108, 111, 97, 100]) (b := false) rfl
    have h7 := test_codes2 hx (m := [115, 116, 111, 114, 101]) (b := true) rfl
    have h8 := test_codes2 hx (m := [114, 111, 111, 116]) (b := false) rfl
    have h9 := test_codes2 hx (m := [102, 111, 114, 103, 101, 116]) (b := false) rfl
    have h10 := test_codes2 hx (m := [100, 114, 111, 112]) (b := false) rfl
    have h11 := test_codes2 hx (m := [115, 99, 97, 110]) (b := false) rfl
    have h12 := test_codes2 hx (m := [115, 99, 97, 110, 97, 108, 108]) (b := false) rfl
    have h13 := test_codes2 hx (m := [103, 117, 101, 115, 116, 115]) (b := false) rfl
    have h14 := test_codes2 hx (m := [108, 101, 102, 116]) (b := false) rfl
    have h15 := test_codes2 hx (m := [112, 114, 111, 109, 105, 115, 101, 100]) (b := false) rfl
    have h16 := test_codes2 hx (m := [102, 114, 97, 109, 101]) (b := false) rfl
    have h17 := test_codes2 hx (m := [112, 97, 103, 101]) (b := false) rfl
    clear hx
    go_enter Tryz.func13, Tryz.ntmps13
    go_wp2_with fail
    go_ret
    exact ⟨rfl, rfl⟩
  · have h0 := test_codes2 hx (m := [97, 100, 100]) (b := false) rfl
    have h1 := test_codes2 hx (m := [114, 101, 109, 111, 118, 101]) (b := false) rfl
    have h2 := test_codes2 hx (m := [112, 108, 117, 103]) (b := false) rfl
    have h3 := test_codes2 hx (m := [117, 110, 112, 108, 117, 103]) (b := false) rfl
    have h4 := test_codes2 hx (m := [103, 105, 118, 101]) (b := false) rfl
    have h5 := test_codes2 hx (m := [98, 97, 99, 107]) (b := false) rfl
    have h6 := test_codes2 hx (m := [108, 111, 97, 100]) (b := false) rfl
    have h7 := test_codes2 hx (m := [115, 116, 111, 114, 101]) (b := false) rfl
    have h8 := test_codes2 hx (m := [114, 111, 111, 116]) (b := true) rfl
    have h9 := test_codes2 hx (m := [102, 111, 114, 103, 101, 116]) (b := false) rfl
    have h10 := test_codes2 hx (m := [100, 114, 111, 112]) (b := false) rfl
    have h11 := test_codes2 hx (m := [115, 99, 97, 110]) (b := false) rfl
    have h12 := test_codes2 hx (m := [115, 99, 97, 110, 97, 108, 108]) (b := false) rfl
    have h13 := test_codes2 hx (m := [103, 117, 101, 115, 116, 115]) (b := false) rfl
    have h14 := test_codes2 hx (m := [108, 101, 102, 116]) (b := false) rfl
    have h15 := test_codes2 hx (m := [112, 114, 111, 109, 105, 115, 101, 100]) (b := false) rfl
    have h16 := test_codes2 hx (m := [102, 114, 97, 109, 101]) (b := false) rfl
    have h17 := test_codes2 hx (m := [112, 97, 103, 101]) (b := false) rfl
    clear hx
    go_enter Tryz.func13, Tryz.ntmps13
    go_wp2_with fail
    go_ret
    exact ⟨rfl, rfl⟩
  · have h0 := test_codes2 hx (m := [97, 100, 100]) (b := false) rfl
    have h1 := test_codes2 hx (m := [114, 101, 109, 111, 118, 101]) (b := false) rfl
    have h2 := test_codes2 hx (m := [112, 108, 117, 103]) (b := false) rfl
    have h3 := test_codes2 hx (m := [117, 110, 112, 108, 117, 103]) (b := false) rfl
    have h4 := test_codes2 hx (m := [103, 105, 118, 101]) (b := false) rfl
    have h5 := test_codes2 hx (m := [98, 97, 99, 107]) (b := false) rfl
    have h6 := test_codes2 hx (m := [108, 111, 97, 100]) (b := false) rfl
    have h7 := test_codes2 hx (m := [115, 116, 111, 114, 101]) (b := false) rfl
    have h8 := test_codes2 hx (m := [114, 111, 111, 116]) (b := false) rfl
    have h9 := test_codes2 hx (m := [102, 111, 114, 103, 101, 116]) (b := true) rfl
    have h10 := test_codes2 hx (m := [100, 114, 111, 112]) (b := false) rfl
    have h11 := test_codes2 hx (m := [115, 99, 97, 110]) (b := false) rfl
    have h12 := test_codes2 hx (m := [115, 99, 97, 110, 97, 108, 108]) (b := false) rfl
    have h13 := test_codes2 hx (m := [103, 117, 101, 115, 116, 115]) (b := false) rfl
    have h14 := test_codes2 hx (m := [108, 101, 102, 116]) (b := false) rfl
    have h15 := test_codes2 hx (m := [112, 114, 111, 109, 105, 115, 101, 100]) (b := false) rfl
    have h16 := test_codes2 hx (m := [102, 114, 97, 109, 101]) (b := false) rfl
    have h17 := test_codes2 hx (m := [112, 97, 103, 101]) (b := false) rfl
    clear hx
    go_enter Tryz.func13, Tryz.ntmps13
    go_wp2_with fail
    go_ret
    exact ⟨rfl, rfl⟩
  · have h0 := test_codes2 hx (m := [97, 100, 100]) (b := false) rfl
    have h1 := test_codes2 hx (m := [114, 101, 109, 111, 118, 101]) (b := false) rfl
    have h2 := test_codes2 hx (m := [112, 108, 117, 103]) (b := false) rfl
    have h3 := test_codes2 hx (m := [117, 110, 112, 108, 117, 103]) (b := false) rfl
    have h4 := test_codes2 hx (m := [103, 105, 118, 101]) (b := false) rfl
    have h5 := test_codes2 hx (m := [98, 97, 99, 107]) (b := false) rfl
    have h6 := test_codes2 hx (m := [108, 111, 97, 100]) (b := false) rfl
    have h7 := test_codes2 hx (m := [115, 116, 111, 114, 101]) (b := false) rfl
    have h8 := test_codes2 hx (m := [114, 111, 111, 116]) (b := false) rfl
    have h9 := test_codes2 hx (m := [102, 111, 114, 103, 101, 116]) (b := false) rfl
    have h10 := test_codes2 hx (m := [100, 114, 111, 112]) (b := true) rfl
    have h11 := test_codes2 hx (m := [115, 99, 97, 110]) (b := false) rfl
    have h12 := test_codes2 hx (m := [115, 99, 97, 110, 97, 108, 108]) (b := false) rfl
    have h13 := test_codes2 hx (m := [103, 117, 101, 115, 116, 115]) (b := false) rfl
    have h14 := test_codes2 hx (m := [108, 101, 102, 116]) (b := false) rfl
    have h15 := test_codes2 hx (m := [112, 114, 111, 109, 105, 115, 101, 100]) (b := false) rfl
    have h16 := test_codes2 hx (m := [102, 114, 97, 109, 101]) (b := false) rfl
    have h17 := test_codes2 hx (m := [112, 97, 103, 101]) (b := false) rfl
    clear hx
    go_enter Tryz.func13, Tryz.ntmps13
    go_wp2_with fail
    go_ret
    exact ⟨rfl, rfl⟩
  · have h0 := test_codes2 hx (m := [97, 100, 100]) (b := false) rfl
    have h1 := test_codes2 hx (m := [114, 101, 109, 111, 118, 101]) (b := false) rfl
    have h2 := test_codes2 hx (m := [112, 108, 117, 103]) (b := false) rfl
    have h3 := test_codes2 hx (m := [117, 110, 112, 108, 117, 103]) (b := false) rfl
    have h4 := test_codes2 hx (m := [103, 105, 118, 101]) (b := false) rfl
    have h5 := test_codes2 hx (m := [98, 97, 99, 107]) (b := false) rfl
    have h6 := test_codes2 hx (m := [108, 111, 97, 100]) (b := false) rfl
    have h7 := test_codes2 hx (m := [115, 116, 111, 114, 101]) (b := false) rfl
    have h8 := test_codes2 hx (m := [114, 111, 111, 116]) (b := false) rfl
    have h9 := test_codes2 hx (m := [102, 111, 114, 103, 101, 116]) (b := false) rfl
    have h10 := test_codes2 hx (m := [100, 114, 111, 112]) (b := false) rfl
    have h11 := test_codes2 hx (m := [115, 99, 97, 110]) (b := true) rfl
    have h12 := test_codes2 hx (m := [115, 99, 97, 110, 97, 108, 108]) (b := false) rfl
    have h13 := test_codes2 hx (m := [103, 117, 101, 115, 116, 115]) (b := false) rfl
    have h14 := test_codes2 hx (m := [108, 101, 102, 116]) (b := false) rfl
    have h15 := test_codes2 hx (m := [112, 114, 111, 109, 105, 115, 101, 100]) (b := false) rfl
    have h16 := test_codes2 hx (m := [102, 114, 97, 109, 101]) (b := false) rfl
    have h17 := test_codes2 hx (m := [112, 97, 103, 101]) (b := false) rfl
    clear hx
    go_enter Tryz.func13, Tryz.ntmps13
    go_wp2_with fail
    go_ret
    exact ⟨rfl, rfl⟩
  · have h0 := test_codes2 hx (m := [97, 100, 100]) (b := false) rfl
    have h1 := test_codes2 hx (m := [114, 101, 109, 111, 118, 101]) (b := false) rfl
    have h2 := test_codes2 hx (m := [112, 108, 117, 103]) (b := false) rfl
    have h3 := test_codes2 hx (m := [117, 110, 112, 108, 117, 103]) (b := false) rfl
    have h4 := test_codes2 hx (m := [103, 105, 118, 101]) (b := false) rfl
    have h5 := test_codes2 hx (m := [98, 97, 99, 107]) (b := false) rfl
    have h6 := test_codes2 hx (m := [108, 111, 97, 100]) (b := false) rfl
    have h7 := test_codes2 hx (m := [115, 116, 111, 114, 101]) (b := false) rfl
    have h8 := test_codes2 hx (m := [114, 111, 111, 116]) (b := false) rfl
    have h9 := test_codes2 hx (m := [102, 111, 114, 103, 101, 116]) (b := false) rfl
    have h10 := test_codes2 hx (m := [100, 114, 111, 112]) (b := false) rfl
    have h11 := test_codes2 hx (m := [115, 99, 97, 110]) (b := false) rfl
    have h12 := test_codes2 hx (m := [115, 99, 97, 110, 97, 108, 108]) (b := true) rfl
    have h13 := test_codes2 hx (m := [103, 117, 101, 115, 116, 115]) (b := false) rfl
    have h14 := test_codes2 hx (m := [108, 101, 102, 116]) (b := false) rfl
    have h15 := test_codes2 hx (m := [112, 114, 111, 109, 105, 115, 101, 100]) (b := false) rfl
    have h16 := test_codes2 hx (m := [102, 114, 97, 109, 101]) (b := false) rfl
    have h17 := test_codes2 hx (m := [112, 97, 103, 101]) (b := false) rfl
    clear hx
    go_enter Tryz.func13, Tryz.ntmps13
    go_wp2_with fail
    go_ret
    exact ⟨rfl, rfl⟩
  · have h0 := test_codes2 hx (m := [97, 100, 100]) (b := false) rfl
    have h1 := test_codes2 hx (m := [114, 101, 109, 111, 118, 101]) (b := false) rfl
    have h2 := test_codes2 hx (m := [112, 108, 117, 103]) (b := false) rfl
    have h3 := test_codes2 hx (m := [117, 110, 112, 108, 117, 103]) (b := false) rfl
    have h4 := test_codes2 hx (m := [103, 105, 118, 101]) (b := false) rfl
    have h5 := test_codes2 hx (m := [98, 97, 99, 107]) (b := false) rfl
    have h6 := test_codes2 hx (m := [108, 111, 97, 100]) (b := false) rfl
    have h7 := test_codes2 hx (m := [115, 116, 111, 114, 101]) (b := false) rfl
    have h8 := test_codes2 hx (m := [114, 111, 111, 116]) (b := false) rfl
    have h9 := test_codes2 hx (m := [102, 111, 114, 103, 101, 116]) (b := false) rfl
    have h10 := test_codes2 hx (m := [100, 114, 111, 112]) (b := false) rfl
    have h11 := test_codes2 hx (m := [115, 99, 97, 110]) (b := false) rfl
    have h12 := test_codes2 hx (m := [115, 99, 97, 110, 97, 108, 108]) (b := false) rfl
    have h13 := test_codes2 hx (m := [103, 117, 101, 115, 116, 115]) (b := true) rfl
    have h14 := test_codes2 hx (m := [108, 101, 102, 116]) (b := false) rfl
    have h15 := test_codes2 hx (m := [112, 114, 111, 109, 105, 115, 101, 100]) (b := false) rfl
    have h16 := test_codes2 hx (m := [102, 114, 97, 109, 101]) (b := false) rfl
    have h17 := test_codes2 hx (m := [112, 97, 103, 101]) (b := false) rfl
    clear hx
    go_enter Tryz.func13, Tryz.ntmps13
    go_wp2_with fail
    go_ret
    exact ⟨rfl, rfl⟩
  · have h0 := test_codes2 hx (m := [97, 100, 100]) (b := false) rfl
    have h1 := test_codes2 hx (m := [114, 101, 109, 111, 118, 101]) (b := false) rfl
    have h2 := test_codes2 hx (m := [112, 108, 117, 103]) (b := false) rfl
    have h3 := test_codes2 hx (m := [117, 110, 112, 108, 117, 103]) (b := false) rfl
    have h4 := test_codes2 hx (m := [103, 105, 118, 101]) (b := false) rfl
    have h5 := test_codes2 hx (m := [98, 97, 99, 107]) (b := false) rfl
    have h6 := test_codes2 hx (m := [108, 111, 97, 100]) (b := false) rfl
    have h7 := test_codes2 hx (m := [115, 116, 111, 114, 101]) (b := false) rfl
    have h8 := test_codes2 hx (m := [114, 111, 111, 116]) (b := false) rfl
    have h9 := test_codes2 hx (m := [102, 111, 114, 103, 101, 116]) (b := false) rfl
    have h10 := test_codes2 hx (m := [100, 114, 111, 112]) (b := false) rfl
    have h11 := test_codes2 hx (m := [115, 99, 97, 110]) (b := false) rfl
    have h12 := test_codes2 hx (m := [115, 99, 97, 110, 97, 108, 108]) (b := false) rfl
    have h13 := test_codes2 hx (m := [103, 117, 101, 115, 116, 115]) (b := false) rfl
    have h14 := test_codes2 hx (m := [108, 101, 102, 116]) (b := true) rfl
    have h15 := test_codes2 hx (m := [112, 114, 111, 109, 105, 115, 101, 100]) (b := false) rfl
    have h16 := test_codes2 hx (m := [102, 114, 97, 109, 101]) (b := false) rfl
    have h17 := test_codes2 hx (m := [112, 97, 103, 101]) (b := false) rfl
    clear hx
    go_enter Tryz.func13, Tryz.ntmps13
    go_wp2_with fail
    go_ret
    exact ⟨rfl, rfl⟩
  · have h0 := test_codes2 hx (m := [97, 100, 100]) (b := false) rfl
    have h1 := test_codes2 hx (m := [114, 101, 109, 111, 118, 101]) (b := false) rfl
    have h2 := test_codes2 hx (m := [112, 108, 117, 103]) (b := false) rfl
    have h3 := test_codes2 hx (m := [117, 110, 112, 108, 117, 103]) (b := false) rfl
    have h4 := test_codes2 hx (m := [103, 105, 118, 101]) (b := false) rfl
    have h5 := test_codes2 hx (m := [98, 97, 99, 107]) (b := false) rfl
    have h6 := test_codes2 hx (m := [108, 111, 97, 100]) (b := false) rfl
    have h7 := test_codes2 hx (m := [115, 116, 111, 114, 101]) (b := false) rfl
    have h8 := test_codes2 hx (m := [114, 111, 111, 116]) (b := false) rfl
    have h9 := test_codes2 hx (m := [102, 111, 114, 103, 101, 116]) (b := false) rfl
    have h10 := test_codes2 hx (m := [100, 114, 111, 112]) (b := false) rfl
    have h11 := test_codes2 hx (m := [115, 99, 97, 110]) (b := false) rfl
    have h12 := test_codes2 hx (m := [115, 99, 97, 110, 97, 108, 108]) (b := false) rfl
    have h13 := test_codes2 hx (m := [103, 117, 101, 115, 116, 115]) (b := false) rfl
    have h14 := test_codes2 hx (m := [108, 101, 102, 116]) (b := false) rfl
    have h15 := test_codes2 hx (m := [112, 114, 111, 109, 105, 115, 101, 100]) (b := true) rfl
    have h16 := test_codes2 hx (m := [102, 114, 97, 109, 101]) (b := false) rfl
    have h17 := test_codes2 hx (m := [112, 97, 103, 101]) (b := false) rfl
    clear hx
    go_enter Tryz.func13, Tryz.ntmps13
    go_wp2_with fail
    go_ret
    exact ⟨rfl, rfl⟩
  · have h0 := test_codes2 hx (m := [97, 100, 100]) (b := false) rfl
    have h1 := test_codes2 hx (m := [114, 101, 109, 111, 118, 101]) (b := false) rfl
    have h2 := test_codes2 hx (m := [112, 108, 117, 103]) (b := false) rfl
    have h3 := test_codes2 hx (m := [117, 110, 112, 108, 117, 103]) (b := false) rfl
    have h4 := test_codes2 hx (m := [103, 105, 118, 101]) (b := false) rfl
    have h5 := test_codes2 hx (m := [98, 97, 99, 107]) (b := false) rfl
    have h6 := test_codes2 hx (m := [108, 111, 97, 100]) (b := false) rfl
    have h7 := test_codes2 hx (m := [115, 116, 111, 114, 101]) (b := false) rfl
    have h8 := test_codes2 hx (m := [114, 111, 111, 116]) (b := false) rfl
    have h9 := test_codes2 hx (m := [102, 111, 114, 103, 101, 116]) (b := false) rfl
    have h10 := test_codes2 hx (m := [100, 114, 111, 112]) (b := false) rfl
    have h11 := test_codes2 hx (m := [115, 99, 97, 110]) (b := false) rfl
    have h12 := test_codes2 hx (m := [115, 99, 97, 110, 97, 108, 108]) (b := false) rfl
    have h13 := test_codes2 hx (m := [103, 117, 101, 115, 116, 115]) (b := false) rfl
    have h14 := test_codes2 hx (m := [108, 101, 102, 116]) (b := false) rfl
    have h15 := test_codes2 hx (m := [112, 114, 111, 109, 105, 115, 101, 100]) (b := false) rfl
    have h16 := test_codes2 hx (m := [102, 114, 97, 109, 101]) (b := true) rfl
    have h17 := test_codes2 hx (m := [112, 97, 103, 101]) (b := false) rfl
    clear hx
    go_enter Tryz.func13, Tryz.ntmps13
    go_wp2_with fail
    go_ret
    exact ⟨rfl, rfl⟩
  · have h0 := test_codes2 hx (m := [97, 100, 100]) (b := false) rfl
    have h1 := test_codes2 hx (m := [114, 101, 109, 111, 118, 101]) (b := false) rfl
    have h2 := test_codes2 hx (m := [112, 108, 117, 103]) (b := false) rfl
    have h3 := test_codes2 hx (m := [117, 110, 112, 108, 117, 103]) (b := false) rfl
    have h4 := test_codes2 hx (m := [103, 105, 118, 101]) (b := false) rfl
    have h5 := test_codes2 hx (m := [98, 97, 99, 107]) (b := false) rfl
    have h6 := test_codes2 hx (m := [108, 111, 97, 100]) (b := false) rfl
    have h7 := test_codes2 hx (m := [115, 116, 111, 114, 101]) (b := false) rfl
    have h8 := test_codes2 hx (m := [114, 111, 111, 116]) (b := false) rfl
    have h9 := test_codes2 hx (m := [102, 111, 114, 103, 101, 116]) (b := false) rfl
    have h10 := test_codes2 hx (m := [100, 114, 111, 112]) (b := false) rfl
    have h11 := test_codes2 hx (m := [115, 99, 97, 110]) (b := false) rfl
    have h12 := test_codes2 hx (m := [115, 99, 97, 110, 97, 108, 108]) (b := false) rfl
    have h13 := test_codes2 hx (m := [103, 117, 101, 115, 116, 115]) (b := false) rfl
    have h14 := test_codes2 hx (m := [108, 101, 102, 116]) (b := false) rfl
    have h15 := test_codes2 hx (m := [112, 114, 111, 109, 105, 115, 101, 100]) (b := false) rfl
    have h16 := test_codes2 hx (m := [102, 114, 97, 109, 101]) (b := false) rfl
    have h17 := test_codes2 hx (m := [112, 97, 103, 101]) (b := true) rfl
    clear hx
    go_enter Tryz.func13, Tryz.ntmps13
    go_wp2_with fail
    go_ret
    exact ⟨rfl, rfl⟩
set_option maxRecDepth 100000 in
set_option maxHeartbeats 4000000 in
theorem rmany_none (w : World) (x : ByteArray) (h : ckOf x.data.toList = none) : Calls Tryz.prog 13 #[.string x] w fun e w' => e = .returned (.int .i64 (-1)) ∧ w = w' := by
  have h0 := test_codes2 (x := x) rfl (ck_none h (p := ([97, 100, 100], .add, 0)) (by simp [ckL]))
  have h1 := test_codes2 (x := x) rfl (ck_none h (p := ([114, 101, 109, 111, 118, 101], .remove, 1)) (by simp [ckL]))
  have h2 := test_codes2 (x := x) rfl (ck_none h (p := ([112, 108, 117, 103], .plug, 2)) (by simp [ckL]))
  have h3 := test_codes2 (x := x) rfl (ck_none h (p := ([117, 110, 112, 108, 117, 103], .unplug, 2)) (by simp [ckL]))
  have h4 := test_codes2 (x := x) rfl (ck_none h (p := ([103, 105, 118, 101], .give, 2)) (by simp [ckL]))
  have h5 := test_codes2 (x := x) rfl (ck_none h (p := ([98, 97, 99, 107], .back, 2)) (by simp [ckL]))
  have h6 := test_codes2 (x := x) rfl (ck_none h (p := ([108, 111, 97, 100], .load, 2)) (by simp [ckL]))
  have h7 := test_codes2 (x := x) rfl (ck_none h (p := ([115, 116, 111, 114, 101], .store, 3)) (by simp [ckL]))
  have h8 := test_codes2 (x := x) rfl (ck_none h (p := ([114, 111, 111, 116], .root, 2)) (by simp [ckL]))
  have h9 := test_codes2 (x := x) rfl (ck_none h (p := ([102, 111, 114, 103, 101, 116], .forget, 2)) (by simp [ckL]))
  have h10 := test_codes2 (x := x) rfl (ck_none h (p := ([100, 114, 111, 112], .drop, 2)) (by simp [ckL]))
  have h11 := test_codes2 (x := x) rfl (ck_none h (p := ([115, 99, 97, 110], .scan, 2)) (by simp [ckL]))
  have h12 := test_codes2 (x := x) rfl (ck_none h (p := ([115, 99, 97, 110, 97, 108, 108], .scanall, 0)) (by simp [ckL]))
  have h13 := test_codes2 (x := x) rfl (ck_none h (p := ([103, 117, 101, 115, 116, 115], .guests, 0)) (by simp [ckL]))
  have h14 := test_codes2 (x := x) rfl (ck_none h (p := ([108, 101, 102, 116], .left, 0)) (by simp [ckL]))
  have h15 := test_codes2 (x := x) rfl (ck_none h (p := ([112, 114, 111, 109, 105, 115, 101, 100], .promised, 0)) (by simp [ckL]))
  have h16 := test_codes2 (x := x) rfl (ck_none h (p := ([102, 114, 97, 109, 101], .frame, 1)) (by simp [ckL]))
  have h17 := test_codes2 (x := x) rfl (ck_none h (p := ([112, 97, 103, 101], .page, 2)) (by simp [ckL]))
  clear h
  go_enter Tryz.func13, Tryz.ntmps13
  go_wp2_with fail
  go_ret
  exact ⟨rfl, rfl⟩
theorem ck_le {l : List UInt8} {q : CK × Nat} (hk : ckOf l = some q) : q.2 ≤ 3 := by
  have := ck_mem hk
  obtain ⟨q1, q2⟩ := q
  unfold ckL at this
  simp only [List.mem_cons, Prod.mk.injEq, List.not_mem_nil, or_false] at this
  show q2 ≤ 3
  omega
theorem words_len {s x : ByteArray} {args : List ByteArray} (h : wordsB s = x :: args) : args.length ≤ s.size := by
  have h1 := wordsB_length s
  rw [h] at h1
  have h2 := Lib.countB_le spB (by decide) s.size s (Nat.le_refl _)
  simp at h1
  omega
section
variable {w : World} {o m : Nat} {R : Nat → Nat × Value} {H : HostM}
set_option maxRecDepth 100000 in
set_option maxHeartbeats 4000000 in
theorem rsay_bad (r : RHRep w o m R H) (s : ByteArray) (hs : s.size ≤ 300) {x : ByteArray} {args : List ByteArray} (hw : wordsB s = x :: args)
    (hb : ckOf x.data.toList = none ∨ ∃ q, ckOf x.data.toList = some q ∧ ¬ (args.length = q.2 ∧ s.size ≤ 200)) :
    Calls Tryz.prog 8 #[.pointer (some ⟨o, 0, none⟩), .string s] w (RDoPost w o m R H (H, faultS 9)) := by
  have hlen := words_len hw
  go_enter Tryz.func8, Tryz.ntmps8
  go_upto_region 2 with (first
    | (go_at_call 12; refine Calls.mono (rwords_any _ s hs) ?_; rintro e w2 ⟨v, rfl, hv, hf, u2⟩)
    | fail)
  rw [hw] at hv
  obtain ⟨g, o2, cap, rfl, lg, hc⟩ := hv.at_ (i := 0) (by simp)
  have hc : w2.cell? ⟨g, o2, none⟩ = some (.string x) := hc
  generalize hN : (x :: args).length = N at hv ⊢
  have hN0 : (0 : Int) < N := by rw [← hN]; simp
  have hN2 : args.length + 1 = N := hN
  have hN3 : N ≤ 1000 := by omega
  have T2 := (RH.start r).non u2
  have e4 : IntKind.i64.wrap ((N : Int) - 1) = (N : Int) - 1 := IntWalk.i64_in _ (by constructor <;> omega)
  clear hN hv hf
  rcases hb with hk | ⟨q, hk, hb⟩
  · have e3 : ((-1 : Int) == (N : Int) - 1) = false := by simp; omega
    go_wp2_with (first
      | (go_at_call 13; refine Calls.mono (rmany_none _ x hk) ?_; rintro e w3 ⟨rfl, rfl⟩)
      | (go_at_call 14; refine Calls.mono (rfault_any _ 9 (by omega)) ?_; rintro e w4 ⟨rfl, u4⟩)
      | fail)
    go_ret
    exact ⟨rfl, _, T2.non u4⟩
  · have hq := ck_le hk
    by_cases hl : args.length = q.2
    · have hs2 : (200 : Int) < s.size := by
        have : ¬ s.size ≤ 200 := fun e => hb ⟨hl, e⟩
        omega
      have e3 : ((q.2 : Int) == (N : Int) - 1) = true := by simp; omega
      clear hb
      go_wp2_with (first
        | (go_at_call 13; refine Calls.mono (rmany_some _ x q (ck_mem hk)) ?_; rintro e w3 ⟨rfl, rfl⟩)
        | (go_at_call 14; refine Calls.mono (rfault_any _ 9 (by omega)) ?_; rintro e w4 ⟨rfl, u4⟩)
        | fail)
      go_ret
      exact ⟨rfl, _, T2.non u4⟩
    · have e3 : ((q.2 : Int) == (N : Int) - 1) = false := by simp; omega
      clear hb
      go_wp2_with (first
        | (go_at_call 13; refine Calls.mono (rmany_some _ x q (ck_mem hk)) ?_; rintro e w3 ⟨rfl, rfl⟩)
        | (go_at_call 14; refine Calls.mono (rfault_any _ 9 (by omega)) ?_; rintro e w4 ⟨rfl, u4⟩)
        | fail)
      go_ret
      exact ⟨rfl, _, T2.non u4⟩
end
/-- What the loop over a line's words has read. -/
structure RSI (w wr : World) (v : Value) (L : List ByteArray) (gb : Nat) (args : List ByteArray) (j : Nat) (ns : List Int) : Prop where
  up : Upd Non w wr
  sr : SRow wr v L
  row : Row wr gb 53 3 (fun i => .int .i64 (ns.getD i 0))
  old : w.heap.size ≤ gb
  is : numsOf (args.take j) = some ns
  len : ns.length = j
theorem getD_snoc (ns : List Int) (z : Int) : (fun i => Value.int .i64 ((ns ++ [z]).getD i 0)) = upd (fun i => Value.int .i64 (ns.getD i 0)) ns.length (.int .i64 z) := by
  funext i
  unfold upd
  by_cases h : i = ns.length
  · subst h; simp
  · by_cases h2 : i < ns.length
    · simp [h, List.getElem?_append_left h2]
    · simp [h]
      have h3 : ¬ i < (ns ++ [z]).length := by simp; omega
      rw [List.getElem?_eq_none (by omega), List.getElem?_eq_none (by omega)]
theorem RSI.non {w wr w2 : World} {v : Value} {L args : List ByteArray} {gb j : Nat} {ns : List Int} (t : RSI w wr v L gb args j ns) (u : Upd Non wr w2) : RSI w w2 v L gb args j ns :=
  ⟨t.up.trans u, t.sr.upd_ u (fun _ _ => (fun h => h)), t.row.upd_ u (fun h => h), t.old, t.is, t.len⟩
theorem RSI.step {w w2 : World} {v : Value} {L args : List ByteArray} {gb j : Nat} {ns : List Int} (t : RSI w w2 v L gb args j ns) {y : ByteArray} {z : Int} (hy : args.take (j + 1) = args.take j ++ [y]) (hz : numL y.data.toList = some z) :
    RSI w (w2.setCell ⟨gb, j, none⟩ (.int .i64 z)) v L gb args (j + 1) (ns ++ [z]) := by
  have hl := t.len
  subst hl
  have u : Upd (at1 gb) w2 (w2.setCell ⟨gb, ns.length, none⟩ (.int .i64 z)) := Upd.setCell (S := at1 gb) (p := ⟨gb, ns.length, none⟩) (Upd.refl _ _) (fun _ => (rfl : gb = gb)) _
  refine ⟨t.up.over u (fun i hi => by have hi : i = gb := hi; rw [hi]; exact t.old), t.sr.upd_ u (fun g hg e => ?_), ?_, t.old, ?_, by simp⟩
  · have e : g = gb := e
    subst e
    exact t.sr.ne_row t.row (by decide) hg
  · rw [getD_snoc]
    exact t.row.set_ _
  · rw [hy]
    exact numsOf_snoc _ _ t.is hz
theorem arr3_row (w : World) : Row (w.alloc (.cells #[.int .i64 0, .int .i64 0, .int .i64 0] 53)) w.heap.size 53 3 (fun i => .int .i64 (([] : List Int).getD i 0)) := by
  refine ⟨_, heap_alloc_new w _, rfl, fun i hi => ?_⟩
  match i, hi with
  | 0, _ => rfl
  | 1, _ => rfl
  | 2, _ => rfl
theorem Box3.drew {W : World} {g : Nat} {a b c : Int} (t : Box3 W g a b c) : Box3 W.drew g a b c := t.non (Upd.refl _ _).drew
theorem Box3.alloc {W : World} {g : Nat} {a b c : Int} (t : Box3 W g a b c) (o : Obj) : Box3 (W.alloc o) g a b c := t.non ((Upd.refl _ _).alloc o)
theorem first_row (w : World) : Row (w.alloc (.cells #[.int .i64 0, .int .i64 0] 64)) w.heap.size 64 2 (fun _ => .int .i64 0) := by
  refine ⟨_, heap_alloc_new w _, rfl, fun i hi => ?_⟩
  match i, hi with
  | 0, _ => rfl
  | 1, _ => rfl
theorem cell2 (w : World) {B : Nat} {x y v : Value} {a : Addr} (hc : w.cell? a = some v) (hne : a.block ≠ B) : ((w.setCell ⟨B, 0, none⟩ x).setCell ⟨B, 1, none⟩ y).cell? a = some v := by
  have u1 : Upd (at1 B) w (w.setCell ⟨B, 0, none⟩ x) := Upd.setCell (S := at1 B) (p := ⟨B, 0, none⟩) (Upd.refl _ _) (fun _ => (rfl : B = B)) _
  have u2 : Upd (at1 B) w ((w.setCell ⟨B, 0, none⟩ x).setCell ⟨B, 1, none⟩ y) := Upd.setCell (S := at1 B) (p := ⟨B, 1, none⟩) u1 (fun _ => (rfl : B = B)) _
  exact u2.cell hc hne
theorem RH.set2 {S : Nat → Prop} {w wr w5 : World} {o m : Nat} {R : Nat → Nat × Value} {H : HostM} {x y : Value} (T : RH S w wr o m R H) (t : RH S w w5 o m R H) : RH S w ((w5.setCell ⟨wr.heap.size, 0, none⟩ x).setCell ⟨wr.heap.size, 1, none⟩ y) o m R H := by
  have u1 : Upd (at1 wr.heap.size) w5 (w5.setCell ⟨wr.heap.size, 0, none⟩ x) := Upd.setCell (S := at1 wr.heap.size) (p := ⟨wr.heap.size, 0, none⟩) (Upd.refl _ _) (fun _ => (rfl : wr.heap.size = wr.heap.size)) _
  have u2 : Upd (at1 wr.heap.size) w5 ((w5.setCell ⟨wr.heap.size, 0, none⟩ x).setCell ⟨wr.heap.size, 1, none⟩ y) := Upd.setCell (S := at1 wr.heap.size) (p := ⟨wr.heap.size, 1, none⟩) u1 (fun _ => (rfl : wr.heap.size = wr.heap.size)) _
  refine ⟨t.rep.upd_ u2 (fun k h1 h2 => ?_), t.own, t.up.over' u2 (fun i hi => .inr ?_)⟩
  · have h2 : k = wr.heap.size := h2
    have := T.rep.lts k h1
    omega
  · have hi : i = wr.heap.size := hi
    rw [hi]
    exact T.up.size
theorem srow_cell {w : World} {g o N cap : Nat} {L : List ByteArray} (h : SRow w (.slice (some ⟨g, o, none⟩) N cap) L) : g < w.heap.size ∧ ∀ i y, L[i]? = some y → w.cell? ⟨g, o + i, none⟩ = some (.string y) := by
  rcases h with ⟨e, _⟩ | ⟨g2, o2, cap2, C, e, h1, h2, h3, h4, h5⟩
  · cases e
  · injection e with e1 e2 e3
    injection e1 with e1
    injection e1 with e1 e4
    subst e1 e4
    exact ⟨heap_lt h3, h5⟩
theorem cdo_off {H : HostM} {k : CK} {a b c : Int} (hk : k = .load ∨ (k = .store ∧ ¬ (c < 0 ∨ 255 < c)) ∨ k = .root ∨ k = .forget ∨ k = .drop ∨ k = .page) (h : a < 0 ∨ 3 < a) : cdo H k a b c = (H, faultS 1) := by
  rcases hk with rfl | ⟨rfl, hc⟩ | rfl | rfl | rfl | rfl
  · show ((hload H a b).1, toldS (hload H a b).2.1.toNat (hload H a b).2.2) = _
    rw [hload_off h]; rfl
  · show (if c < 0 ∨ 255 < c then (H, faultS 1) else _) = _
    rw [if_neg hc, show hstore H a b (UInt8.ofNat c.toNat) = (H, 1) from hon_off h]; rfl
  · show ((hroot H a b).1, doneS (hroot H a b).2) = _
    rw [show hroot H a b = (H, 1) from hon_off h]; rfl
  · show ((hforget H a b).1, doneS (hforget H a b).2) = _
    rw [show hforget H a b = (H, 1) from hon_off h]; rfl
  · show ((hforgetAll H a b).1, doneS (hforgetAll H a b).2) = _
    rw [show hforgetAll H a b = (H, 1) from hon_off h]; rfl
  · show (H, pageS H a b) = _
    rw [pageS_err (e := 1) (s := 0) (by unfold hstate; rw [if_pos h]) (by omega)]
theorem cdo_gone {H : HostM} {k : CK} {n : Nat} {b c : Int} (hk : k = .load ∨ (k = .store ∧ ¬ (c < 0 ∨ 255 < c)) ∨ k = .root ∨ k = .forget ∨ k = .drop ∨ k = .page) (hn : n < 4) (h : H.g n = none) : cdo H k n b c = (H, faultS 2) := by
  rcases hk with rfl | ⟨rfl, hc⟩ | rfl | rfl | rfl | rfl
  · show ((hload H n b).1, toldS (hload H n b).2.1.toNat (hload H n b).2.2) = _
    rw [hload_none hn h]; rfl
  · show (if c < 0 ∨ 255 < c then (H, faultS 1) else _) = _
    rw [if_neg hc, show hstore H n b (UInt8.ofNat c.toNat) = (H, 2) from hon_none hn h]; rfl
  · show ((hroot H n b).1, doneS (hroot H n b).2) = _
    rw [show hroot H n b = (H, 2) from hon_none hn h]; rfl
  · show ((hforget H n b).1, doneS (hforget H n b).2) = _
    rw [show hforget H n b = (H, 2) from hon_none hn h]; rfl
  · show ((hforgetAll H n b).1, doneS (hforgetAll H n b).2) = _
    rw [show hforgetAll H n b = (H, 2) from hon_none hn h]; rfl
  · show (H, pageS H n b) = _
    rw [pageS_err (e := 2) (s := 0) (by unfold hstate; rw [if_neg (by omega), Int.toNat_natCast, h]) (by omega)]

end U
end Go.Proofs.YtnhplapcdgnaaaaGreatDoor
