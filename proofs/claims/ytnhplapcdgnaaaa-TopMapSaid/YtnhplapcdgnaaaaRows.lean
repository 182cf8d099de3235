/-
  No cell of these rows narrows 'for every input' (looked for: loops, veiled, ifaces, maps, wideKeys, modest, calm, conditions, laid).
  DERIVED. THE GIVEN ROWS OF THIS SEAT. 9 by the template 'for every input the law returns true; each argument reads behind the call as it read before'; 0 by the template 'total and deterministic' (their statements: YtnhplapcdgnaaaaTotals.lean).
  GIVEN WITH THE SEED: the statements are not yours to turn. If you find one false, say at which input.
  Laid BY PROGRAM, IN A SANDBOX (cutbox-rows.mjs): the forced cells as the released guide's own fill.sh prints them over the translation b793a7bc1873dd79… (all of the seat's roots in one cut). By AI agents, Wed Nov 11 2026. No macro, syntax, notation, axiom, sorry.
-/
import Derived.Test.YtnhplapcdgnaaaaChecked
import GoSem.Claim
import GoSem.ClaimJoined
import GoSem.ClaimMapViews
import Derived.JoinedTies
import Derived.KernelRfl
namespace Go.Proofs.Ytnhplapcdgnaaaa
/- THE CELL 'sum', in the pinned program and in every row, IS THE sha256 OF THE DUMP (.gsa) THAT YtnhplapcdgnaaaaProg.lean LOADS. Nothing in Lean hashes anything: it is a label: what it is worth is what the hold of that sum in a sandbox is worth. -/
noncomputable def Try.pinned : Pinned := { name := "ytnhplapcdgnaaaa", sum := "b793a7bc1873dd7963800299e9827c93fa47f84a48f8ab7fe9a5ec3e72e11e55", checked := Try.checked }
namespace Rows
def none {H : Type} : Left H := { results := [], args := [] }

/-- 'undercroftlaw.CacheSays': WHATEVER THE INPUT: true; the input reads as it did. -/
def cacheSaysSpec : ChangeSpec := { name := "cacheSays", fn := fun _ => fun
  | [d] => { results := [.lit (.bool true)], args := [d] }
  | _ => none }
def cacheSaysRow : OpenClaim := { program := "ytnhplapcdgnaaaa", sum := "b793a7bc1873dd7963800299e9827c93fa47f84a48f8ab7fe9a5ec3e72e11e55", func := "undercroft/undercroftlaw.CacheSays", spec := "cacheSays", unfollowed := true, recurses := true, apart := false }
def CacheSaysSaid : Prop := cacheSaysRow.holds Try.pinned (OpenSpec.ofChange cacheSaysSpec)

/-- ITS FALSE NEIGHBOUR: 'it returns false'. Refute it at one input. -/
def cacheSaysWrong : ChangeSpec := { name := "cacheSays", fn := fun _ => fun
  | [d] => { results := [.lit (.bool false)], args := [d] }
  | _ => none }
def CacheSaysWrongFalsely : Prop := cacheSaysRow.holds Try.pinned (OpenSpec.ofChange cacheSaysWrong)

/-- 'undercroftlaw.PoolSays': WHATEVER THE INPUT: true; the input reads as it did. -/
def poolSaysSpec : ChangeSpec := { name := "poolSays", fn := fun _ => fun
  | [d1, d2] => { results := [.lit (.bool true)], args := [d1, d2] }
  | _ => none }
def poolSaysRow : OpenClaim := { program := "ytnhplapcdgnaaaa", sum := "b793a7bc1873dd7963800299e9827c93fa47f84a48f8ab7fe9a5ec3e72e11e55", func := "undercroft/undercroftlaw.PoolSays", spec := "poolSays", apart := false }
def PoolSaysSaid : Prop := poolSaysRow.holds Try.pinned (OpenSpec.ofChange poolSaysSpec)

/-- ITS FALSE NEIGHBOUR: 'it returns false'. Refute it at one input. -/
def poolSaysWrong : ChangeSpec := { name := "poolSays", fn := fun _ => fun
  | [d1, d2] => { results := [.lit (.bool false)], args := [d1, d2] }
  | _ => none }
def PoolSaysWrongFalsely : Prop := poolSaysRow.holds Try.pinned (OpenSpec.ofChange poolSaysWrong)

/-- 'undercrofttop.TopCache': WHATEVER THE INPUT: true; the input reads as it did. -/
def topCacheSpec : ChangeSpec := { name := "topCache", fn := fun _ => fun
  | [d] => { results := [.lit (.bool true)], args := [d] }
  | _ => none }
def topCacheRow : OpenClaim := { program := "ytnhplapcdgnaaaa", sum := "b793a7bc1873dd7963800299e9827c93fa47f84a48f8ab7fe9a5ec3e72e11e55", func := "undercroft/undercrofttop.TopCache", spec := "topCache", unfollowed := true, recurses := true, apart := false }
def TopCacheSaid : Prop := topCacheRow.holds Try.pinned (OpenSpec.ofChange topCacheSpec)

/-- ITS FALSE NEIGHBOUR: 'it returns false'. Refute it at one input. -/
def topCacheWrong : ChangeSpec := { name := "topCache", fn := fun _ => fun
  | [d] => { results := [.lit (.bool false)], args := [d] }
  | _ => none }
def TopCacheWrongFalsely : Prop := topCacheRow.holds Try.pinned (OpenSpec.ofChange topCacheWrong)

/-- 'undercrofttop.TopPool': WHATEVER THE INPUT: true; the input reads as it did. -/
def topPoolSpec : ChangeSpec := { name := "topPool", fn := fun _ => fun
  | [d1, d2] => { results := [.lit (.bool true)], args := [d1, d2] }
  | _ => none }
def topPoolRow : OpenClaim := { program := "ytnhplapcdgnaaaa", sum := "b793a7bc1873dd7963800299e9827c93fa47f84a48f8ab7fe9a5ec3e72e11e55", func := "undercroft/undercrofttop.TopPool", spec := "topPool", apart := false }
def TopPoolSaid : Prop := topPoolRow.holds Try.pinned (OpenSpec.ofChange topPoolSpec)

/-- ITS FALSE NEIGHBOUR: 'it returns false'. Refute it at one input. -/
def topPoolWrong : ChangeSpec := { name := "topPool", fn := fun _ => fun
  | [d1, d2] => { results := [.lit (.bool false)], args := [d1, d2] }
  | _ => none }
def TopPoolWrongFalsely : Prop := topPoolRow.holds Try.pinned (OpenSpec.ofChange topPoolWrong)

/-- 'undercroftlaw.MapSays': WHATEVER THE INPUT: true; the input reads as it did. -/
def mapSaysSpec : ChangeSpec := { name := "mapSays", fn := fun _ => fun
  | [d1, d2] => { results := [.lit (.bool true)], args := [d1, d2] }
  | _ => none }
def mapSaysRow : OpenClaim := { program := "ytnhplapcdgnaaaa", sum := "b793a7bc1873dd7963800299e9827c93fa47f84a48f8ab7fe9a5ec3e72e11e55", func := "undercroft/undercroftlaw.MapSays", spec := "mapSays", apart := false }
def MapSaysSaid : Prop := mapSaysRow.holds Try.pinned (OpenSpec.ofChange mapSaysSpec)

/-- ITS FALSE NEIGHBOUR: 'it returns false'. Refute it at one input. -/
def mapSaysWrong : ChangeSpec := { name := "mapSays", fn := fun _ => fun
  | [d1, d2] => { results := [.lit (.bool false)], args := [d1, d2] }
  | _ => none }
def MapSaysWrongFalsely : Prop := mapSaysRow.holds Try.pinned (OpenSpec.ofChange mapSaysWrong)

/-- 'undercrofttop.TopMap': WHATEVER THE INPUT: true; the input reads as it did. -/
def topMapSpec : ChangeSpec := { name := "topMap", fn := fun _ => fun
  | [d1, d2] => { results := [.lit (.bool true)], args := [d1, d2] }
  | _ => none }
def topMapRow : OpenClaim := { program := "ytnhplapcdgnaaaa", sum := "b793a7bc1873dd7963800299e9827c93fa47f84a48f8ab7fe9a5ec3e72e11e55", func := "undercroft/undercrofttop.TopMap", spec := "topMap", apart := false }
def TopMapSaid : Prop := topMapRow.holds Try.pinned (OpenSpec.ofChange topMapSpec)

/-- ITS FALSE NEIGHBOUR: 'it returns false'. Refute it at one input. -/
def topMapWrong : ChangeSpec := { name := "topMap", fn := fun _ => fun
  | [d1, d2] => { results := [.lit (.bool false)], args := [d1, d2] }
  | _ => none }
def TopMapWrongFalsely : Prop := topMapRow.holds Try.pinned (OpenSpec.ofChange topMapWrong)

/-- 'undercroftlaw.GuestSays': WHATEVER THE INPUT: true; the input reads as it did. -/
def guestSaysSpec : ChangeSpec := { name := "guestSays", fn := fun _ => fun
  | [d1, d2] => { results := [.lit (.bool true)], args := [d1, d2] }
  | _ => none }
def guestSaysRow : OpenClaim := { program := "ytnhplapcdgnaaaa", sum := "b793a7bc1873dd7963800299e9827c93fa47f84a48f8ab7fe9a5ec3e72e11e55", func := "undercroft/undercroftlaw.GuestSays", spec := "guestSays", unfollowed := true, recurses := true, apart := false }
def GuestSaysSaid : Prop := guestSaysRow.holds Try.pinned (OpenSpec.ofChange guestSaysSpec)

/-- ITS FALSE NEIGHBOUR: 'it returns false'. Refute it at one input. -/
def guestSaysWrong : ChangeSpec := { name := "guestSays", fn := fun _ => fun
  | [d1, d2] => { results := [.lit (.bool false)], args := [d1, d2] }
  | _ => none }
def GuestSaysWrongFalsely : Prop := guestSaysRow.holds Try.pinned (OpenSpec.ofChange guestSaysWrong)

/-- 'undercrofttop.TopFlat': WHATEVER THE INPUT: true; the input reads as it did. -/
def topFlatSpec : ChangeSpec := { name := "topFlat", fn := fun _ => fun
  | [d1, d2] => { results := [.lit (.bool true)], args := [d1, d2] }
  | _ => none }
def topFlatRow : OpenClaim := { program := "ytnhplapcdgnaaaa", sum := "b793a7bc1873dd7963800299e9827c93fa47f84a48f8ab7fe9a5ec3e72e11e55", func := "undercroft/undercrofttop.TopFlat", spec := "topFlat", unfollowed := true, recurses := true, apart := false }
def TopFlatSaid : Prop := topFlatRow.holds Try.pinned (OpenSpec.ofChange topFlatSpec)

/-- ITS FALSE NEIGHBOUR: 'it returns false'. Refute it at one input. -/
def topFlatWrong : ChangeSpec := { name := "topFlat", fn := fun _ => fun
  | [d1, d2] => { results := [.lit (.bool false)], args := [d1, d2] }
  | _ => none }
def TopFlatWrongFalsely : Prop := topFlatRow.holds Try.pinned (OpenSpec.ofChange topFlatWrong)

/-- 'undercrofttop.TopApart': WHATEVER THE INPUT: true; the input reads as it did. -/
def topApartSpec : ChangeSpec := { name := "topApart", fn := fun _ => fun
  | [d1, d2, d3] => { results := [.lit (.bool true)], args := [d1, d2, d3] }
  | _ => none }
def topApartRow : OpenClaim := { program := "ytnhplapcdgnaaaa", sum := "b793a7bc1873dd7963800299e9827c93fa47f84a48f8ab7fe9a5ec3e72e11e55", func := "undercroft/undercrofttop.TopApart", spec := "topApart", unfollowed := true, recurses := true, apart := false }
def TopApartSaid : Prop := topApartRow.holds Try.pinned (OpenSpec.ofChange topApartSpec)

/-- ITS FALSE NEIGHBOUR: 'it returns false'. Refute it at one input. -/
def topApartWrong : ChangeSpec := { name := "topApart", fn := fun _ => fun
  | [d1, d2, d3] => { results := [.lit (.bool false)], args := [d1, d2, d3] }
  | _ => none }
def TopApartWrongFalsely : Prop := topApartRow.holds Try.pinned (OpenSpec.ofChange topApartWrong)

/- THE SECOND FORM. 'bulk': how many values and letters a reading holds, each counted each time it is reached (what is shared counts as often as it is met; a slice's spare places count too). A statement '..UptoSaid' is the law's where the arguments, and the package variables that the reading takes, are together of bulk at most 1048576: NARROWER than '..Said'. Prove '..Said' where nothing that the law and all that it calls make is longer than what came in: it says more and counts as full. Else prove '..UptoSaid'. A law counts once. -/
mutual
def uptoBulk {H : Type} : DataW H → Nat
  | .lit (.string bytes) => bytes.length + 1
  | .lit _ => 1
  | .nil => 1
  | .ptr d => uptoBulk d + 1
  | .slice elems spare => uptoBulkAll elems + uptoBulkAll spare + 1
  | .agg parts => uptoBulkAll parts + 1
  | .iface _ d => uptoBulk d + 1
  | .map entries => uptoBulkEntries entries + 1
  | .held _ => 1
def uptoBulkAll {H : Type} : List (DataW H) → Nat
  | [] => 0
  | d :: r => uptoBulk d + uptoBulkAll r
def uptoBulkEntries {H : Type} : List (Lit × DataW H) → Nat
  | [] => 0
  | x :: r => uptoBulkEntry x + uptoBulkEntries r
def uptoBulkEntry {H : Type} : Lit × DataW H → Nat
  | (.string bytes, d) => bytes.length + uptoBulk d + 1
  | (_, d) => uptoBulk d + 1
 end
def uptoSmall : (H : Type) → List (DataW H) → Bool := fun _ ds => decide (uptoBulkAll ds ≤ 1048576)
def OpenSpec.upto (s : _root_.Go.ChangeSpec) : _root_.Go.OpenSpec := { _root_.Go.OpenSpec.ofChange s with cond := some uptoSmall }

/-- 'undercroftlaw.CacheSays', WHERE WHAT IT READS IS OF BULK AT MOST 1048576: true; the input reads as it did. -/
def cacheSaysUptoRow : OpenClaim := { program := "ytnhplapcdgnaaaa", sum := "b793a7bc1873dd7963800299e9827c93fa47f84a48f8ab7fe9a5ec3e72e11e55", func := "undercroft/undercroftlaw.CacheSays", spec := "cacheSays", unfollowed := true, recurses := true, apart := false, narrowed := true }
def CacheSaysUptoSaid : Prop := cacheSaysUptoRow.holds Try.pinned (OpenSpec.upto cacheSaysSpec)

/-- 'undercroftlaw.PoolSays', WHERE WHAT IT READS IS OF BULK AT MOST 1048576: true; the input reads as it did. -/
def poolSaysUptoRow : OpenClaim := { program := "ytnhplapcdgnaaaa", sum := "b793a7bc1873dd7963800299e9827c93fa47f84a48f8ab7fe9a5ec3e72e11e55", func := "undercroft/undercroftlaw.PoolSays", spec := "poolSays", apart := false, narrowed := true }
def PoolSaysUptoSaid : Prop := poolSaysUptoRow.holds Try.pinned (OpenSpec.upto poolSaysSpec)

/-- 'undercrofttop.TopCache', WHERE WHAT IT READS IS OF BULK AT MOST 1048576: true; the input reads as it did. -/
def topCacheUptoRow : OpenClaim := { program := "ytnhplapcdgnaaaa", sum := "b793a7bc1873dd7963800299e9827c93fa47f84a48f8ab7fe9a5ec3e72e11e55", func := "undercroft/undercrofttop.TopCache", spec := "topCache", unfollowed := true, recurses := true, apart := false, narrowed := true }
def TopCacheUptoSaid : Prop := topCacheUptoRow.holds Try.pinned (OpenSpec.upto topCacheSpec)

/-- 'undercrofttop.TopPool', WHERE WHAT IT READS IS OF BULK AT MOST 1048576: true; the input reads as it did. -/
def topPoolUptoRow : OpenClaim := { program := "ytnhplapcdgnaaaa", sum := "b793a7bc1873dd7963800299e9827c93fa47f84a48f8ab7fe9a5ec3e72e11e55", func := "undercroft/undercrofttop.TopPool", spec := "topPool", apart := false, narrowed := true }
def TopPoolUptoSaid : Prop := topPoolUptoRow.holds Try.pinned (OpenSpec.upto topPoolSpec)

/-- 'undercroftlaw.MapSays', WHERE WHAT IT READS IS OF BULK AT MOST 1048576: true; the input reads as it did. -/
def mapSaysUptoRow : OpenClaim := { program := "ytnhplapcdgnaaaa", sum := "b793a7bc1873dd7963800299e9827c93fa47f84a48f8ab7fe9a5ec3e72e11e55", func := "undercroft/undercroftlaw.MapSays", spec := "mapSays", apart := false, narrowed := true }
def MapSaysUptoSaid : Prop := mapSaysUptoRow.holds Try.pinned (OpenSpec.upto mapSaysSpec)

/-- 'undercrofttop.TopMap', WHERE WHAT IT READS IS OF BULK AT MOST 1048576: true; the input reads as it did. -/
def topMapUptoRow : OpenClaim := { program := "ytnhplapcdgnaaaa", sum := "b793a7bc1873dd7963800299e9827c93fa47f84a48f8ab7fe9a5ec3e72e11e55", func := "undercroft/undercrofttop.TopMap", spec := "topMap", apart := false, narrowed := true }
def TopMapUptoSaid : Prop := topMapUptoRow.holds Try.pinned (OpenSpec.upto topMapSpec)

/-- 'undercroftlaw.GuestSays', WHERE WHAT IT READS IS OF BULK AT MOST 1048576: true; the input reads as it did. -/
def guestSaysUptoRow : OpenClaim := { program := "ytnhplapcdgnaaaa", sum := "b793a7bc1873dd7963800299e9827c93fa47f84a48f8ab7fe9a5ec3e72e11e55", func := "undercroft/undercroftlaw.GuestSays", spec := "guestSays", unfollowed := true, recurses := true, apart := false, narrowed := true }
def GuestSaysUptoSaid : Prop := guestSaysUptoRow.holds Try.pinned (OpenSpec.upto guestSaysSpec)

/-- 'undercrofttop.TopFlat', WHERE WHAT IT READS IS OF BULK AT MOST 1048576: true; the input reads as it did. -/
def topFlatUptoRow : OpenClaim := { program := "ytnhplapcdgnaaaa", sum := "b793a7bc1873dd7963800299e9827c93fa47f84a48f8ab7fe9a5ec3e72e11e55", func := "undercroft/undercrofttop.TopFlat", spec := "topFlat", unfollowed := true, recurses := true, apart := false, narrowed := true }
def TopFlatUptoSaid : Prop := topFlatUptoRow.holds Try.pinned (OpenSpec.upto topFlatSpec)

/-- 'undercrofttop.TopApart', WHERE WHAT IT READS IS OF BULK AT MOST 1048576: true; the input reads as it did. -/
def topApartUptoRow : OpenClaim := { program := "ytnhplapcdgnaaaa", sum := "b793a7bc1873dd7963800299e9827c93fa47f84a48f8ab7fe9a5ec3e72e11e55", func := "undercroft/undercrofttop.TopApart", spec := "topApart", unfollowed := true, recurses := true, apart := false, narrowed := true }
def TopApartUptoSaid : Prop := topApartUptoRow.holds Try.pinned (OpenSpec.upto topApartSpec)

end Rows
end Go.Proofs.Ytnhplapcdgnaaaa
