import Derived.Shelf.Strings.OnBuilder
import Derived.Shelf.Small.Wraps
import Derived.Shelf.LaysM
import Derived.Shelf.Strconv.Itoa3
import Derived.Shelf.Strings.Split
import Derived.Shelf.Strings.SplitShaped
import Derived.Test.YtnhplapcdgnaaaaGreatDoorRows
import Derived.Lib.SplitLaws
import Derived.Lib.ItoaNum
import Derived.Lib.Join
import Derived.Test.YtnhplapcdgnaaaaGreatDoorMem
import Derived.Test.YtnhplapcdgnaaaaGreatDoorCacheX
import Derived.Lib.AppendIntMem
import Derived.Lib.SlBytesRow
import Derived.Deep.RegionWith
import Derived.BigQuiet
/- Contracts of the library's functions at this program, laid by the kit's shelf. -/
namespace Go.Proofs
open Go.Shelf
def Tryz.powName : String := (Go.Proofs.YtnhplapcdgnaaaaGreatDoor.Rows.consoleSaysRow.named).getD 3 ""
def Tryz.lays156_ren : Go.Shelf.Ren := ⟨fun | 156 => 103 | 165 => 133 | 166 => 134 | 169 => 135 | 240 => 159 | 241 => 160 | 276 => 173 | 277 => 174 | n => n, fun | 31 => 22 | 9 => 9 | 3 => 3 | 4 => 4 | 0 => 0 | 20 => 20 | 72 => 163 | 76 => 108 | 70 => 161 | 37 => 96 | 75 => 25 | 127 => 183 | 164 => 197 | 5 => 5 | 80 => 166 | n => n, fun | n => n⟩
theorem Tryz.lays156 : Go.Proofs.Lays.n156 Tryz.prog Tryz.lays156_ren := {
  mixed := by kernel_rfl
  f156 := Tryz.func103.trans (congrArg some (by kernel_rfl))
  f165 := Tryz.func133.trans (congrArg some (by kernel_rfl))
  f166 := Tryz.func134.trans (congrArg some (by kernel_rfl))
  f169 := Tryz.func135.trans (congrArg some (by kernel_rfl))
  f240 := Tryz.func159.trans (congrArg some (by kernel_rfl))
  f241 := Tryz.func160.trans (congrArg some (by kernel_rfl))
  f276 := Tryz.func173.trans (congrArg some (by kernel_rfl))
  f277 := Tryz.func174.trans (congrArg some (by kernel_rfl))
  t0 := Tryz.underlying0
  a0 := Tryz.isAgg0
  z0 := Tryz.sizeOf0
  v0 := Tryz.zeroValue0
  t3 := Tryz.underlying3
  a3 := Tryz.isAgg3
  z3 := Tryz.sizeOf3
  v3 := Tryz.zeroValue3
  t4 := Tryz.underlying4
  a4 := Tryz.isAgg4
  z4 := Tryz.sizeOf4
  v4 := Tryz.zeroValue4
  t9 := Tryz.underlying9
  a9 := Tryz.isAgg9
  z9 := Tryz.sizeOf9
  v9 := Tryz.zeroValue9
  t20 := Tryz.underlying20
  a20 := Tryz.isAgg20
  z20 := Tryz.sizeOf20
  v20 := Tryz.zeroValue20
  t31 := Tryz.underlying22
  a31 := Tryz.isAgg22
  z31 := Tryz.sizeOf22
  v31 := Tryz.zeroValue22
  t37 := Tryz.underlying96
  a37 := Tryz.isAgg96
  z37 := Tryz.sizeOf96
  v37 := Tryz.zeroValue96
  t70 := Tryz.underlying161
  a70 := Tryz.isAgg161
  z70 := Tryz.sizeOf161
  v70 := Tryz.zeroValue161
  t72 := Tryz.underlying163
  a72 := Tryz.isAgg163
  z72 := Tryz.sizeOf163
  v72 := Tryz.zeroValue163
  t75 := Tryz.underlying25
  a75 := Tryz.isAgg25
  z75 := Tryz.sizeOf25
  v75 := Tryz.zeroValue25
  t76 := Tryz.underlying108
  a76 := Tryz.isAgg108
  z76 := Tryz.sizeOf108
  v76 := Tryz.zeroValue108
  t127 := Tryz.underlying183
  a127 := Tryz.isAgg183
  z127 := Tryz.sizeOf183
  v127 := Tryz.zeroValue183
  t164 := Tryz.underlying197
  a164 := Tryz.isAgg197
  z164 := Tryz.sizeOf197
  v164 := Tryz.zeroValue197 }
theorem Tryz.Builder_Extra_156 : Builder.Extra Tryz.prog Tryz.lays156_ren := {
  sizeBuilder := by kernel_rfl
  liesBuilder := by kernel_rfl
  t5 := Tryz.underlying5
  a5 := Tryz.isAgg5
  z5 := Tryz.sizeOf5
  v5 := Tryz.zeroValue5
  infoByte := by kernel_rfl
  cellsByte := by kernel_rfl
  sizeByte := by kernel_rfl
  neB5 := by decide }
open Go.RowKit in
theorem Tryz.strings_Join_none (a : Option Addr) (c : Nat) (sep : ByteArray) (w : World) :
    Calls Tryz.prog 103 #[.slice a 0 c, .string sep] w fun e w' => e = .returned (.string ⟨#[]⟩) ∧ w' = w := Any.strings_Join_none Tryz.lays156 Tryz.Builder_Extra_156 a c sep w
open Go.RowKit in
theorem Tryz.strings_Join (bk o c : Nat) (xs : List ByteArray) (sep : ByteArray) (w : World) (hcells : ∀ (j : Nat) x, xs[j]? = some x → w.cell? ⟨bk, o + j, none⟩ = some (.string x)) (hbk : bk < w.heap.size) (hN : xs.length ≤ 140737488355328) (hcap : xs.length ≤ c) (hlen : (Lib.join (xs.map (·.data.toList)) sep.data.toList).length ≤ 140737488355328) :
    Calls Tryz.prog 103 #[.slice (some ⟨bk, o, none⟩) xs.length c, .string sep] w fun e w' => e = .returned (.string ⟨(Lib.join (xs.map (·.data.toList)) sep.data.toList).toArray⟩) ∧ Below w.heap.size w w' := Any.strings_Join Tryz.lays156 Tryz.Builder_Extra_156 bk o c xs sep w hcells hbk hN hcap hlen
def Tryz.lays121_ren : Go.Shelf.Ren := ⟨fun | 121 => 66 | 214 => 102 | n => n, fun | 4 => 4 | 9 => 9 | n => n, fun | n => n⟩
theorem Tryz.lays121 : Go.Proofs.Lays.n121 Tryz.prog Tryz.lays121_ren := {
  mixed := by kernel_rfl
  f121 := Tryz.func66.trans (congrArg some (by kernel_rfl))
  f214 := Tryz.func102.trans (congrArg some (by kernel_rfl))
  t4 := Tryz.underlying4
  a4 := Tryz.isAgg4
  z4 := Tryz.sizeOf4
  v4 := Tryz.zeroValue4
  t9 := Tryz.underlying9
  a9 := Tryz.isAgg9
  z9 := Tryz.sizeOf9
  v9 := Tryz.zeroValue9 }
open Go.RowKit in
theorem Tryz.strconv_FormatBool (b : Bool) (w : World) :
    Calls Tryz.prog 66 #[.bool b] w fun e w' => e = .returned (.string ⟨(Lib.formatBool b).toArray⟩) ∧ w' = w := Any.strconv_FormatBool Tryz.lays121 b w
def Tryz.laysM171_ren : Go.Shelf.Ren := ⟨fun | 171 => 51 | 243 => 85 | 246 => 116 | 283 => 142 | 284 => 143 | 285 => 144 | 286 => 145 | 129 => 164 | 317 => 163 | 318 => 165 | 319 => 166 | 320 => 167 | 337 => 175 | 338 => 176 | n => n, fun | 3 => 3 | 9 => 9 | 2 => 2 | 4 => 4 | 171 => 168 | 0 => 0 | 53 => 169 | 37 => 96 | 5 => 5 | 173 => 172 | 212 => 192 | 51 => 188 | 20 => 20 | 213 => 193 | 46 => 167 | 232 => 202 | 233 => 203 | n => n, fun | 17 => 3 | 18 => 4 | 19 => 5 | n => n⟩
theorem Tryz.laysM171 : Go.Proofs.LaysM.n171 Tryz.prog Tryz.laysM171_ren := {
  mixed := by kernel_rfl
  f129 := Tryz.func164.trans (congrArg some (by kernel_rfl))
  f171 := Tryz.func51.trans (congrArg some (by kernel_rfl))
  f243 := Tryz.func85.trans (congrArg some (by kernel_rfl))
  f246 := Tryz.func116.trans (congrArg some (by kernel_rfl))
  f283 := Tryz.func142.trans (congrArg some (by kernel_rfl))
  f284 := Tryz.func143.trans (congrArg some (by kernel_rfl))
  f285 := Tryz.func144.trans (congrArg some (by kernel_rfl))
  f286 := Tryz.func145.trans (congrArg some (by kernel_rfl))
  f317 := Tryz.func163.trans (congrArg some (by kernel_rfl))
  f318 := Tryz.func165.trans (congrArg some (by kernel_rfl))
  f319 := Tryz.func166.trans (congrArg some (by kernel_rfl))
  f320 := Tryz.func167.trans (congrArg some (by kernel_rfl))
  f337 := Tryz.func175.trans (congrArg some (by kernel_rfl))
  f338 := Tryz.func176.trans (congrArg some (by kernel_rfl))
  t0 := Tryz.underlying0
  a0 := Tryz.isAgg0
  z0 := Tryz.sizeOf0
  v0 := Tryz.zeroValue0
  t2 := Tryz.underlying2
  a2 := Tryz.isAgg2
  z2 := Tryz.sizeOf2
  v2 := Tryz.zeroValue2
  t3 := Tryz.underlying3
  a3 := Tryz.isAgg3
  z3 := Tryz.sizeOf3
  v3 := Tryz.zeroValue3
  t4 := Tryz.underlying4
  a4 := Tryz.isAgg4
  z4 := Tryz.sizeOf4
  v4 := Tryz.zeroValue4
  t5 := Tryz.underlying5
  a5 := Tryz.isAgg5
  z5 := Tryz.sizeOf5
  v5 := Tryz.zeroValue5
  t9 := Tryz.underlying9
  a9 := Tryz.isAgg9
  z9 := Tryz.sizeOf9
  v9 := Tryz.zeroValue9
  t20 := Tryz.underlying20
  a20 := Tryz.isAgg20
  z20 := Tryz.sizeOf20
  v20 := Tryz.zeroValue20
  t37 := Tryz.underlying96
  a37 := Tryz.isAgg96
  z37 := Tryz.sizeOf96
  v37 := Tryz.zeroValue96
  t46 := Tryz.underlying167
  a46 := Tryz.isAgg167
  z46 := Tryz.sizeOf167
  v46 := Tryz.zeroValue167
  t51 := Tryz.underlying188
  a51 := Tryz.isAgg188
  z51 := Tryz.sizeOf188
  v51 := Tryz.zeroValue188
  t53 := Tryz.underlying169
  a53 := Tryz.isAgg169
  z53 := Tryz.sizeOf169
  v53 := Tryz.zeroValue169
  t171 := Tryz.underlying168
  a171 := Tryz.isAgg168
  z171 := Tryz.sizeOf168
  v171 := Tryz.zeroValue168
  t173 := Tryz.underlying172
  a173 := Tryz.isAgg172
  z173 := Tryz.sizeOf172
  v173 := Tryz.zeroValue172
  t212 := Tryz.underlying192
  a212 := Tryz.isAgg192
  z212 := Tryz.sizeOf192
  v212 := Tryz.zeroValue192
  t213 := Tryz.underlying193
  a213 := Tryz.isAgg193
  z213 := Tryz.sizeOf193
  t232 := Tryz.underlying202
  a232 := Tryz.isAgg202
  z232 := Tryz.sizeOf202
  v232 := Tryz.zeroValue202
  t233 := Tryz.underlying203
  a233 := Tryz.isAgg203
  z233 := Tryz.sizeOf203
  v233 := Tryz.zeroValue203
  g17 := by kernel_rfl
  g18 := by kernel_rfl
  g19 := by kernel_rfl
  i0 := by kernel_rfl
  i2 := by kernel_rfl
  i3 := by kernel_rfl
  i4 := by kernel_rfl
  i5 := by kernel_rfl
  i9 := by kernel_rfl
  i20 := by kernel_rfl
  i37 := by kernel_rfl
  i46 := by kernel_rfl
  i51 := by kernel_rfl
  i53 := by kernel_rfl
  i171 := by kernel_rfl
  i173 := by kernel_rfl
  i212 := by kernel_rfl
  i232 := by kernel_rfl
  i233 := by kernel_rfl
  m17 := by kernel_rfl
  m18 := by kernel_rfl
  m19 := by kernel_rfl }
open Go.RowKit Go.Sort Go.Lib in
theorem Tryz.strconv_Itoa (n : Int) (h0 : -9223372036854775808 ≤ n) (h1 : n ≤ 9223372036854775807) (w : World) (htab : Lib.TabIs Tryz.prog w Tryz.powName .u64 Lib.pow10Tab) :
    Calls Tryz.prog 51 #[.int .i64 n] w fun e w' => e = .returned (.string ⟨(Lib.itoa n).toArray⟩) ∧ ∃ k os, w' = grow (w.drewN k) os := Any.strconv_Itoa Tryz.laysM171 n h0 h1 w htab
def Tryz.lays171_ren : Go.Shelf.Ren := ⟨fun | 171 => 51 | 243 => 85 | 246 => 116 | 283 => 142 | 284 => 143 | 285 => 144 | 286 => 145 | 129 => 164 | 317 => 163 | 318 => 165 | 319 => 166 | 320 => 167 | 337 => 175 | 338 => 176 | n => n, fun | 3 => 3 | 9 => 9 | 2 => 2 | 4 => 4 | 171 => 168 | 0 => 0 | 53 => 169 | 37 => 96 | 5 => 5 | 173 => 172 | 212 => 192 | 51 => 188 | 20 => 20 | 213 => 193 | 46 => 167 | 232 => 202 | 233 => 203 | n => n, fun | 17 => 3 | 18 => 4 | 19 => 5 | n => n⟩
theorem Tryz.lays171 : Go.Proofs.Lays.n171 Tryz.prog Tryz.lays171_ren := {
  mixed := by kernel_rfl
  f129 := Tryz.func164.trans (congrArg some (by kernel_rfl))
  f171 := Tryz.func51.trans (congrArg some (by kernel_rfl))
  f243 := Tryz.func85.trans (congrArg some (by kernel_rfl))
  f246 := Tryz.func116.trans (congrArg some (by kernel_rfl))
  f283 := Tryz.func142.trans (congrArg some (by kernel_rfl))
  f284 := Tryz.func143.trans (congrArg some (by kernel_rfl))
  f285 := Tryz.func144.trans (congrArg some (by kernel_rfl))
  f286 := Tryz.func145.trans (congrArg some (by kernel_rfl))
  f317 := Tryz.func163.trans (congrArg some (by kernel_rfl))
  f318 := Tryz.func165.trans (congrArg some (by kernel_rfl))
  f319 := Tryz.func166.trans (congrArg some (by kernel_rfl))
  f320 := Tryz.func167.trans (congrArg some (by kernel_rfl))
  f337 := Tryz.func175.trans (congrArg some (by kernel_rfl))
  f338 := Tryz.func176.trans (congrArg some (by kernel_rfl))
  t0 := Tryz.underlying0
  a0 := Tryz.isAgg0
  z0 := Tryz.sizeOf0
  v0 := Tryz.zeroValue0
  t2 := Tryz.underlying2
  a2 := Tryz.isAgg2
  z2 := Tryz.sizeOf2
  v2 := Tryz.zeroValue2
  t3 := Tryz.underlying3
  a3 := Tryz.isAgg3
  z3 := Tryz.sizeOf3
  v3 := Tryz.zeroValue3
  t4 := Tryz.underlying4
  a4 := Tryz.isAgg4
  z4 := Tryz.sizeOf4
  v4 := Tryz.zeroValue4
  t5 := Tryz.underlying5
  a5 := Tryz.isAgg5
  z5 := Tryz.sizeOf5
  v5 := Tryz.zeroValue5
  t9 := Tryz.underlying9
  a9 := Tryz.isAgg9
  z9 := Tryz.sizeOf9
  v9 := Tryz.zeroValue9
  t20 := Tryz.underlying20
  a20 := Tryz.isAgg20
  z20 := Tryz.sizeOf20
  v20 := Tryz.zeroValue20
  t37 := Tryz.underlying96
  a37 := Tryz.isAgg96
  z37 := Tryz.sizeOf96
  v37 := Tryz.zeroValue96
  t46 := Tryz.underlying167
  a46 := Tryz.isAgg167
  z46 := Tryz.sizeOf167
  v46 := Tryz.zeroValue167
  t51 := Tryz.underlying188
  a51 := Tryz.isAgg188
  z51 := Tryz.sizeOf188
  v51 := Tryz.zeroValue188
  t53 := Tryz.underlying169
  a53 := Tryz.isAgg169
  z53 := Tryz.sizeOf169
  v53 := Tryz.zeroValue169
  t171 := Tryz.underlying168
  a171 := Tryz.isAgg168
  z171 := Tryz.sizeOf168
  v171 := Tryz.zeroValue168
  t173 := Tryz.underlying172
  a173 := Tryz.isAgg172
  z173 := Tryz.sizeOf172
  v173 := Tryz.zeroValue172
  t212 := Tryz.underlying192
  a212 := Tryz.isAgg192
  z212 := Tryz.sizeOf192
  v212 := Tryz.zeroValue192
  t213 := Tryz.underlying193
  a213 := Tryz.isAgg193
  z213 := Tryz.sizeOf193
  t232 := Tryz.underlying202
  a232 := Tryz.isAgg202
  z232 := Tryz.sizeOf202
  v232 := Tryz.zeroValue202
  t233 := Tryz.underlying203
  a233 := Tryz.isAgg203
  z233 := Tryz.sizeOf203
  v233 := Tryz.zeroValue203
  g17 := by kernel_rfl
  g18 := by kernel_rfl
  g19 := by kernel_rfl }
open Go.RowKit Go.Sort Go.Lib in
theorem Tryz.strconv_Itoa_small (i : Nat) (hi : i < 100) (w : World) :
    Calls Tryz.prog 51 #[.int .i64 i] w fun e w' => e = .returned (.string ⟨(Lib.decDigits i).toArray⟩) ∧ w' = w := Any.strconv_Itoa_small Tryz.lays171 i hi w
def Tryz.lays146_ren : Go.Shelf.Ren := ⟨fun | 146 => 33 | 221 => 50 | 268 => 82 | 138 => 83 | 143 => 84 | 195 => 112 | 197 => 113 | 218 => 114 | 219 => 115 | 260 => 137 | 217 => 138 | 225 => 139 | 224 => 140 | 267 => 141 | 266 => 161 | 314 => 162 | n => n, fun | 9 => 9 | 31 => 22 | 3 => 3 | 4 => 4 | 0 => 0 | 105 => 147 | 21 => 21 | 5 => 5 | 46 => 167 | 119 => 184 | 139 => 187 | 138 => 186 | 146 => 189 | 51 => 188 | n => n, fun | 1 => 0 | 3 => 1 | 4 => 2 | n => n⟩
theorem Tryz.lays146 : Go.Proofs.Lays.n146 Tryz.prog Tryz.lays146_ren := {
  mixed := by kernel_rfl
  f138 := Tryz.func83.trans (congrArg some (by kernel_rfl))
  f143 := Tryz.func84.trans (congrArg some (by kernel_rfl))
  f146 := Tryz.func33.trans (congrArg some (by kernel_rfl))
  f195 := Tryz.func112.trans (congrArg some (by kernel_rfl))
  f197 := Tryz.func113.trans (congrArg some (by kernel_rfl))
  f217 := Tryz.func138.trans (congrArg some (by kernel_rfl))
  f218 := Tryz.func114.trans (congrArg some (by kernel_rfl))
  f219 := Tryz.func115.trans (congrArg some (by kernel_rfl))
  f221 := Tryz.func50.trans (congrArg some (by kernel_rfl))
  f224 := Tryz.func140.trans (congrArg some (by kernel_rfl))
  f225 := Tryz.func139.trans (congrArg some (by kernel_rfl))
  f260 := Tryz.func137.trans (congrArg some (by kernel_rfl))
  f266 := Tryz.func161.trans (congrArg some (by kernel_rfl))
  f267 := Tryz.func141.trans (congrArg some (by kernel_rfl))
  f268 := Tryz.func82.trans (congrArg some (by kernel_rfl))
  f314 := Tryz.func162.trans (congrArg some (by kernel_rfl))
  t0 := Tryz.underlying0
  a0 := Tryz.isAgg0
  z0 := Tryz.sizeOf0
  v0 := Tryz.zeroValue0
  t3 := Tryz.underlying3
  a3 := Tryz.isAgg3
  z3 := Tryz.sizeOf3
  v3 := Tryz.zeroValue3
  t4 := Tryz.underlying4
  a4 := Tryz.isAgg4
  z4 := Tryz.sizeOf4
  v4 := Tryz.zeroValue4
  t5 := Tryz.underlying5
  a5 := Tryz.isAgg5
  z5 := Tryz.sizeOf5
  v5 := Tryz.zeroValue5
  t9 := Tryz.underlying9
  a9 := Tryz.isAgg9
  z9 := Tryz.sizeOf9
  v9 := Tryz.zeroValue9
  t21 := Tryz.underlying21
  a21 := Tryz.isAgg21
  z21 := Tryz.sizeOf21
  v21 := Tryz.zeroValue21
  t31 := Tryz.underlying22
  a31 := Tryz.isAgg22
  z31 := Tryz.sizeOf22
  v31 := Tryz.zeroValue22
  t46 := Tryz.underlying167
  a46 := Tryz.isAgg167
  z46 := Tryz.sizeOf167
  v46 := Tryz.zeroValue167
  t51 := Tryz.underlying188
  a51 := Tryz.isAgg188
  z51 := Tryz.sizeOf188
  v51 := Tryz.zeroValue188
  t105 := Tryz.underlying147
  a105 := Tryz.isAgg147
  z105 := Tryz.sizeOf147
  v105 := Tryz.zeroValue147
  t119 := Tryz.underlying184
  a119 := Tryz.isAgg184
  z119 := Tryz.sizeOf184
  t138 := Tryz.underlying186
  a138 := Tryz.isAgg186
  z138 := Tryz.sizeOf186
  v138 := Tryz.zeroValue186
  t139 := Tryz.underlying187
  a139 := Tryz.isAgg187
  z139 := Tryz.sizeOf187
  v139 := Tryz.zeroValue187
  t146 := Tryz.underlying189
  a146 := Tryz.isAgg189
  z146 := Tryz.sizeOf189
  v146 := Tryz.zeroValue189
  g1 := by kernel_rfl
  g3 := by kernel_rfl
  g4 := by kernel_rfl }
open Go.RowKit Go.Lib in
theorem Tryz.strings_Split (s sep : ByteArray) (m : Int) (w : World) (hs : s.size < 4294967281) (hm : w.cell? ⟨0, 0, none⟩ = some (.int .i64 m)) (h1 : 1 ≤ sep.size) :
    Calls Tryz.prog 33 #[.string s, .string sep] w fun e w' =>
      e = .returned (.slice (some ⟨w.heap.size, 0, none⟩) (Lib.countB s sep + 1) (Lib.countB s sep + 1)) ∧ w' = w.alloc (.cells ((Lib.splitB sep 0 (Lib.countB s sep) s).map Value.string).toArray 9) := Any.strings_Split Tryz.lays146 (by kernel_rfl) s sep m w hs hm h1
def Tryz.laysM146_ren : Go.Shelf.Ren := ⟨fun | 146 => 33 | 221 => 50 | 268 => 82 | 138 => 83 | 143 => 84 | 195 => 112 | 197 => 113 | 218 => 114 | 219 => 115 | 260 => 137 | 217 => 138 | 225 => 139 | 224 => 140 | 267 => 141 | 266 => 161 | 314 => 162 | n => n, fun | 9 => 9 | 31 => 22 | 3 => 3 | 4 => 4 | 0 => 0 | 105 => 147 | 21 => 21 | 5 => 5 | 46 => 167 | 119 => 184 | 139 => 187 | 138 => 186 | 146 => 189 | 51 => 188 | n => n, fun | 1 => 0 | 3 => 1 | 4 => 2 | n => n⟩
theorem Tryz.laysM146 : Go.Proofs.LaysM.n146 Tryz.prog Tryz.laysM146_ren := {
  mixed := by kernel_rfl
  f138 := Tryz.func83.trans (congrArg some (by kernel_rfl))
  f143 := Tryz.func84.trans (congrArg some (by kernel_rfl))
  f146 := Tryz.func33.trans (congrArg some (by kernel_rfl))
  f195 := Tryz.func112.trans (congrArg some (by kernel_rfl))
  f197 := Tryz.func113.trans (congrArg some (by kernel_rfl))
  f217 := Tryz.func138.trans (congrArg some (by kernel_rfl))
  f218 := Tryz.func114.trans (congrArg some (by kernel_rfl))
  f219 := Tryz.func115.trans (congrArg some (by kernel_rfl))
  f221 := Tryz.func50.trans (congrArg some (by kernel_rfl))
  f224 := Tryz.func140.trans (congrArg some (by kernel_rfl))
  f225 := Tryz.func139.trans (congrArg some (by kernel_rfl))
  f260 := Tryz.func137.trans (congrArg some (by kernel_rfl))
  f266 := Tryz.func161.trans (congrArg some (by kernel_rfl))
  f267 := Tryz.func141.trans (congrArg some (by kernel_rfl))
  f268 := Tryz.func82.trans (congrArg some (by kernel_rfl))
  f314 := Tryz.func162.trans (congrArg some (by kernel_rfl))
  t0 := Tryz.underlying0
  a0 := Tryz.isAgg0
  z0 := Tryz.sizeOf0
  v0 := Tryz.zeroValue0
  t3 := Tryz.underlying3
  a3 := Tryz.isAgg3
  z3 := Tryz.sizeOf3
  v3 := Tryz.zeroValue3
  t4 := Tryz.underlying4
  a4 := Tryz.isAgg4
  z4 := Tryz.sizeOf4
  v4 := Tryz.zeroValue4
  t5 := Tryz.underlying5
  a5 := Tryz.isAgg5
  z5 := Tryz.sizeOf5
  v5 := Tryz.zeroValue5
  t9 := Tryz.underlying9
  a9 := Tryz.isAgg9
  z9 := Tryz.sizeOf9
  v9 := Tryz.zeroValue9
  t21 := Tryz.underlying21
  a21 := Tryz.isAgg21
  z21 := Tryz.sizeOf21
  v21 := Tryz.zeroValue21
  t31 := Tryz.underlying22
  a31 := Tryz.isAgg22
  z31 := Tryz.sizeOf22
  v31 := Tryz.zeroValue22
  t46 := Tryz.underlying167
  a46 := Tryz.isAgg167
  z46 := Tryz.sizeOf167
  v46 := Tryz.zeroValue167
  t51 := Tryz.underlying188
  a51 := Tryz.isAgg188
  z51 := Tryz.sizeOf188
  v51 := Tryz.zeroValue188
  t105 := Tryz.underlying147
  a105 := Tryz.isAgg147
  z105 := Tryz.sizeOf147
  v105 := Tryz.zeroValue147
  t119 := Tryz.underlying184
  a119 := Tryz.isAgg184
  z119 := Tryz.sizeOf184
  t138 := Tryz.underlying186
  a138 := Tryz.isAgg186
  z138 := Tryz.sizeOf186
  v138 := Tryz.zeroValue186
  t139 := Tryz.underlying187
  a139 := Tryz.isAgg187
  z139 := Tryz.sizeOf187
  v139 := Tryz.zeroValue187
  t146 := Tryz.underlying189
  a146 := Tryz.isAgg189
  z146 := Tryz.sizeOf189
  v146 := Tryz.zeroValue189
  g1 := by kernel_rfl
  g3 := by kernel_rfl
  g4 := by kernel_rfl
  i0 := by kernel_rfl
  i3 := by kernel_rfl
  i4 := by kernel_rfl
  i5 := by kernel_rfl
  i9 := by kernel_rfl
  i21 := by kernel_rfl
  i31 := by kernel_rfl
  i46 := by kernel_rfl
  i51 := by kernel_rfl
  i105 := by kernel_rfl
  i138 := by kernel_rfl
  i139 := by kernel_rfl
  i146 := by kernel_rfl
  m1 := by kernel_rfl
  s1_3 := fun w h => Go.Proofs.cell_of_shapedOpen_int (zero := #[.int .i64 0]) (t := 3) h (of_decide_eq_true (by kernel_rfl)) (by kernel_rfl) rfl (by kernel_rfl) (by kernel_rfl) Tryz.underlying3
  m3 := by kernel_rfl
  m4 := by kernel_rfl }
open Go.RowKit Go.Lib in
theorem Tryz.strings_Split_shaped (s sep : ByteArray) (w : World) (h : w.ShapedOpen Tryz.prog) (hs : s.size < 4294967281) (h1 : 1 ≤ sep.size) :
    Calls Tryz.prog 33 #[.string s, .string sep] w fun e w' =>
      e = .returned (.slice (some ⟨w.heap.size, 0, none⟩) (Lib.countB s sep + 1) (Lib.countB s sep + 1)) ∧ w' = w.alloc (.cells ((Lib.splitB sep 0 (Lib.countB s sep) s).map Value.string).toArray 9) := Any.strings_Split_shaped Tryz.laysM146 s sep w h hs h1
end Go.Proofs

set_option linter.unusedVariables false
set_option linter.unusedSimpArgs false
namespace Go.Proofs.YtnhplapcdgnaaaaGreatDoor
open Go.RowKit
namespace U

/-! Plain laws of lines: words, numbers. -/
/-- The words of a list of bytes; cur is the word that is being read. -/
def wa (cur : List UInt8) : List UInt8 → List (List UInt8)
  | [] => [cur]
  | c :: t => if c = 32 then cur :: wa [] t else wa (cur ++ [c]) t
def wordsL (s : List UInt8) : List (List UInt8) := wa [] s
theorem wa_pre (x : List UInt8) : ∀ (s cur : List UInt8), ∃ h r, wa cur s = h :: r ∧ wa (x ++ cur) s = (x ++ h) :: r
  | [], cur => ⟨cur, [], rfl, rfl⟩
  | c :: t, cur => by
    unfold wa
    by_cases e : c = 32
    · rw [if_pos e, if_pos e]
      exact ⟨cur, wa [] t, rfl, rfl⟩
    · rw [if_neg e, if_neg e]
      obtain ⟨h, r, h1, h2⟩ := wa_pre x t (cur ++ [c])
      exact ⟨h, r, h1, by rw [List.append_assoc]; exact h2⟩
theorem wa_none : ∀ (s cur : List UInt8), s.count 32 = 0 → wa cur s = [cur ++ s]
  | [], cur, _ => by unfold wa; rw [List.append_nil]
  | c :: t, cur, h => by
    have hc : c ≠ 32 := by rintro rfl; simp at h
    rw [List.count_cons_of_ne (by simpa using hc)] at h
    unfold wa
    rw [if_neg hc, wa_none t _ h, List.append_assoc]
    rfl
theorem split_one : ∀ s : List UInt8, Lib.splitK [32] 0 (s.count 32) s = wordsL s
  | [] => rfl
  | c :: t => by
    have ih := split_one t
    by_cases e : c = 32
    · subst e
      rw [List.count_cons_self]
      have hix : Lib.index (32 :: t) [32] = 0 := by rw [Lib.index]; simp [List.isPrefixOf]
      unfold Lib.splitK
      rw [hix, if_neg (by decide), show ((0 : Int).toNat + 0) = 0 from rfl, show ((0 : Int).toNat + [(32 : UInt8)].length) = 1 from rfl, List.take_zero, List.drop_one, List.tail_cons, ih]
      show [] :: wa [] t = wa [] (32 :: t)
      rw [wa, if_pos rfl]
    · rw [List.count_cons_of_ne (by simpa using e)]
      cases hk : t.count 32 with
      | zero =>
        show [c :: t] = wa [] (c :: t)
        rw [wa, if_neg e, wa_none t _ hk]
        rfl
      | succ k =>
        rw [hk] at ih
        have hix : Lib.index (c :: t) [32] = if Lib.index t [32] == -1 then -1 else Lib.index t [32] + 1 := by
          have hp : ([32] : List UInt8).isPrefixOf (c :: t) = false := by simp [List.isPrefixOf, Ne.symm e]
          rw [Lib.index, hp]; simp
        have hge := Lib.index_ge t [32]
        have hne : Lib.index t [32] ≠ -1 := fun h => by
          have h2 := Lib.count_one 32 t
          rw [Lib.count_miss h, hk] at h2
          omega
        obtain ⟨i, hi⟩ : ∃ i : Nat, Lib.index t [32] = i := ⟨(Lib.index t [32]).toNat, by omega⟩
        rw [hi, if_neg (by simp)] at hix
        unfold Lib.splitK at ih ⊢
        rw [hi, if_neg (by simp)] at ih
        rw [hix, if_neg (by simp; omega), show (((i : Int) + 1).toNat + 0) = i + 1 by omega, show (((i : Int) + 1).toNat + [(32 : UInt8)].length) = i + 1 + 1 by simp]
        rw [show ((i : Int).toNat + 0) = i by omega, show ((i : Int).toNat + [(32 : UInt8)].length) = i + 1 by simp] at ih
        rw [List.take_succ_cons, List.drop_succ_cons]
        obtain ⟨h, r, h1, h2⟩ := wa_pre [c] t []
        unfold wordsL at ih ⊢
        rw [h1] at ih
        injection ih with ih1 ih2
        rw [ih1, ih2, wa, if_neg e]
        exact h2.symm
theorem wordsL_pos (s : List UInt8) : 0 < (wordsL s).length := by
  obtain ⟨h, r, h1, _⟩ := wa_pre [] s []
  unfold wordsL
  rw [h1]
  simp

/-! Numbers. -/
def isDig (c : UInt8) : Bool := 48 ≤ c && c ≤ 57
def valL (l : List UInt8) : Nat := l.foldl (fun n c => 10 * n + (c.toNat - 48)) 0
theorem valL_snoc (l : List UInt8) (c : UInt8) : valL (l ++ [c]) = 10 * valL l + (c.toNat - 48) := by unfold valL; rw [List.foldl_append]; rfl
theorem isDig_iff {c : UInt8} : isDig c = true ↔ 48 ≤ c.toNat ∧ c.toNat ≤ 57 := by
  unfold isDig
  rw [Bool.and_eq_true, decide_eq_true_iff, decide_eq_true_iff, UInt8.le_iff_toNat_le, UInt8.le_iff_toNat_le]
  rfl
theorem valL_lt : ∀ (n : Nat) (l : List UInt8), l.length = n → (∀ c ∈ l, isDig c = true) → valL l < 10 ^ n := by
  intro n
  induction n with
  | zero => intro l hl _; rw [List.length_eq_zero_iff.1 hl]; decide
  | succ n ih =>
    intro l hl hd
    obtain ⟨a, c, rfl⟩ : ∃ a c, l = a ++ [c] := by
      rcases List.eq_nil_or_concat l with h | ⟨a, c, h⟩
      · rw [h] at hl; cases hl
      · exact ⟨a, c, by rw [h, List.concat_eq_append]⟩
    have h1 := ih a (by simpa using hl) (fun x hx => hd x (List.mem_append_left _ hx))
    have h2 := isDig_iff.1 (hd c (by simp))
    rw [valL_snoc, Nat.pow_succ]
    omega
def leads (l : List UInt8) : Bool := l.head? == some 48 && decide (1 < l.length)
theorem dec_small {u : Nat} (h : u < 10) : Lib.decDigits u = [UInt8.ofNat (48 + u)] := by rw [Lib.decDigits, dif_pos h]
theorem dec_big {u : Nat} (h : 10 ≤ u) : Lib.decDigits u = Lib.decDigits (u / 10) ++ [UInt8.ofNat (48 + u % 10)] := by rw [Lib.decDigits, dif_neg (by omega)]
theorem dec_pos (u : Nat) : 0 < (Lib.decDigits u).length := by
  by_cases h : u < 10
  · rw [dec_small h]; simp
  · rw [dec_big (by omega)]; simp
theorem dec_head : ∀ (n u : Nat), u ≤ n → 0 < u → (Lib.decDigits u).head? ≠ some 48 := by
  intro n
  induction n with
  | zero => intro u h1 h2; omega
  | succ n ih =>
    intro u h1 h2
    by_cases h : u < 10
    · rw [dec_small h]
      intro e
      have e : UInt8.ofNat (48 + u) = 48 := by simpa using e
      have := congrArg UInt8.toNat e
      simp at this
      omega
    · rw [dec_big (by omega), List.head?_append]
      have hp := dec_pos (u / 10)
      cases hq : (Lib.decDigits (u / 10)).head? with
      | none => rw [List.head?_eq_none_iff] at hq; rw [hq] at hp; cases hp
      | some y =>
        have := ih (u / 10) (by omega) (by omega)
        rw [hq] at this
        simpa using this
theorem dig_back {c : UInt8} (h : isDig c = true) : UInt8.ofNat (48 + (c.toNat - 48)) = c := by
  have := isDig_iff.1 h
  apply UInt8.toNat_inj.1
  simp
  omega
theorem dec_val : ∀ (n : Nat) (l : List UInt8), l.length = n + 1 → (∀ c ∈ l, isDig c = true) → leads l = false → Lib.decDigits (valL l) = l ∧ (l.head? ≠ some 48 → 0 < valL l) := by
  intro n
  induction n with
  | zero =>
    intro l hl hd hz
    obtain ⟨c, rfl⟩ : ∃ c, l = [c] := List.length_eq_one_iff.1 hl
    have hc := isDig_iff.1 (hd c (by simp))
    have hv : valL [c] = c.toNat - 48 := by show 10 * 0 + (c.toNat - 48) = _; omega
    rw [hv]
    refine ⟨?_, fun h => ?_⟩
    · rw [dec_small (by omega), dig_back (hd c (by simp))]
    · have : c.toNat ≠ 48 := fun e => h (by simp; exact UInt8.toNat_inj.1 e)
      omega
  | succ n ih =>
    intro l hl hd hz
    obtain ⟨a, c, rfl⟩ : ∃ a c, l = a ++ [c] := by
      rcases List.eq_nil_or_concat l with h | ⟨a, c, h⟩
      · rw [h] at hl; cases hl
      · exact ⟨a, c, by rw [h, List.concat_eq_append]⟩
    have ha : a.length = n + 1 := by simpa using hl
    obtain ⟨y, a', rfl⟩ : ∃ y a', a = y :: a' := by
      cases a with
      | nil => cases ha
      | cons y a' => exact ⟨y, a', rfl⟩
    have hy : y ≠ 48 := fun e => by
      subst e
      unfold leads at hz
      simp at hz
    have hd2 : ∀ x ∈ y :: a', isDig x = true := fun x hx => hd x (List.mem_append_left _ hx)
    have hc := isDig_iff.1 (hd c (by simp))
    obtain ⟨h1, h2⟩ := ih (y :: a') ha hd2 (by unfold leads; simp [hy])
    have h3 := h2 (by simpa using hy)
    rw [valL_snoc]
    refine ⟨?_, fun _ => by omega⟩
    rw [dec_big (by omega), show (10 * valL (y :: a') + (c.toNat - 48)) / 10 = valL (y :: a') by omega, show (10 * valL (y :: a') + (c.toNat - 48)) % 10 = c.toNat - 48 by omega, h1, dig_back (hd c (by simp))]
/-- A number's text is that of its value just where it has no noughts ahead. -/
theorem dec_same (l : List UInt8) (hd : ∀ c ∈ l, isDig c = true) : (Lib.decDigits (valL l) = l) ↔ (l ≠ [] ∧ leads l = false) := by
  constructor
  · intro e
    refine ⟨fun h => ?_, ?_⟩
    · rw [h] at e; have := dec_pos (valL []); rw [e] at this; cases this
    · cases hz : leads l with
      | false => rfl
      | true =>
        unfold leads at hz
        rw [Bool.and_eq_true, beq_iff_eq, decide_eq_true_iff] at hz
        by_cases h0 : valL l = 0
        · rw [h0, dec_small (by omega)] at e
          rw [← e] at hz
          exact absurd hz.2 (by simp)
        · have := dec_head (valL l) (valL l) (Nat.le_refl _) (by omega)
          rw [e] at this
          exact absurd hz.1 this
  · rintro ⟨h1, h2⟩
    cases l with
    | nil => exact absurd rfl h1
    | cons c t => exact (dec_val t.length (c :: t) rfl hd h2).1
/-- A word's number. -/
def numL (l : List UInt8) : Option Int :=
  if l = [45, 49] then some (-1)
  else if l = [] ∨ 5 < l.length ∨ leads l = true then none
  else if l.all isDig then some (valL l : Int) else none
theorem numL_val {l : List UInt8} {v : Int} (h : numL l = some v) : -1 ≤ v ∧ v < 100000 := by
  unfold numL at h
  split at h
  · cases h; omega
  · split at h
    · cases h
    · rename_i h1
      split at h
      · rename_i h2
        injection h with h
        subst h
        have := valL_lt l.length l rfl (fun c hc => List.all_eq_true.1 h2 c hc)
        have h5 : l.length ≤ 5 := by
          rcases Nat.lt_or_ge 5 l.length with h | h
          · exact absurd (.inr (.inl h)) h1
          · exact h
        have := Nat.pow_le_pow_right (n := 10) (by omega) h5
        omega
      · cases h

end U
end Go.Proofs.YtnhplapcdgnaaaaGreatDoor

set_option linter.unusedVariables false
set_option linter.unusedSimpArgs false
namespace Go.Proofs.YtnhplapcdgnaaaaGreatDoor
open Go.RowKit
namespace U

/-! Slices of strings; append. -/
theorem infoStr : (Tryz.prog.info? 9).map (fun i => (i.zero, i.size, i.bytes)) = some (some (.string ByteArray.empty), 1, 16) := by kernel_rfl
def SRow (w : World) (v : Value) (L : List ByteArray) : Prop :=
  (v = .slice none 0 0 ∧ L = []) ∨ ∃ g o cap C, v = .slice (some ⟨g, o, none⟩) L.length cap ∧ L.length ≤ cap ∧ cap ≤ maxLen ∧ w.heap[g]? = some (.cells C 9 (0, 0)) ∧ o + cap ≤ C.size ∧ ∀ i x, L[i]? = some x → w.cell? ⟨g, o + i, none⟩ = some (.string x)
def sflat (L : List ByteArray) : List Value := L.map Value.string
section
variable {w w' : World} {v : Value} {L : List ByteArray} {S : Nat → Prop}
theorem SRow.nil : SRow w (.slice none 0 0) [] := .inl ⟨rfl, rfl⟩
theorem SRow.keep (h : SRow w v L) (k : ∀ g, v.ownBlock = some g → w'.heap[g]? = w.heap[g]?) : SRow w' v L := by
  rcases h with h | ⟨g, o, cap, C, rfl, h1, h2, h3, h4, h5⟩
  · exact .inl h
  · have e := k g rfl
    refine .inr ⟨g, o, cap, C, rfl, h1, h2, e.trans h3, h4, fun i x hx => ?_⟩
    have := h5 i x hx
    rw [cell_of_row w g _ C _ (0, 0) h3] at this
    rw [cell_of_row w' g _ C _ (0, 0) (e.trans h3)]
    exact this
theorem SRow.lt (h : SRow w v L) {g : Nat} (hg : v.ownBlock = some g) : g < w.heap.size := by
  rcases h with ⟨rfl, _⟩ | ⟨g', o, cap, C, rfl, h1, h2, h3, h4, h5⟩
  · cases hg
  · have e : g' = g := by simpa [Value.ownBlock] using hg
    subst e
    exact (Array.getElem?_eq_some_iff.1 h3).1
theorem SRow.drewN (h : SRow w v L) (n : Nat) : SRow (w.drewN n) v L := h.keep fun _ _ => rfl
theorem SRow.drew (h : SRow w v L) : SRow w.drew v L := h.keep fun _ _ => rfl
theorem SRow.alloc (h : SRow w v L) (ob : Obj) : SRow (w.alloc ob) v L := h.keep fun g hg => Below.heap_alloc w ob g (h.lt hg)
theorem SRow.upd_ (h : SRow w v L) (u : Upd S w w') (hS : ∀ g, v.ownBlock = some g → ¬ S g) : SRow w' v L := h.keep fun g hg => u.block g (h.lt hg) (hS g hg)
theorem SRow.form (h : SRow w v L) : ∃ A cap, v = .slice A L.length cap := by
  rcases h with ⟨rfl, rfl⟩ | ⟨g, o, cap, C, rfl, _⟩
  · exact ⟨_, _, rfl⟩
  · exact ⟨_, _, rfl⟩
theorem SRow.at_ (h : SRow w v L) {i : Nat} (hi : i < L.length) : ∃ g o cap, v = .slice (some ⟨g, o, none⟩) L.length cap ∧ g < w.heap.size ∧ w.cell? ⟨g, o + i, none⟩ = some (.string L[i]) := by
  rcases h with ⟨rfl, rfl⟩ | ⟨g, o, cap, C, rfl, h1, h2, h3, h4, h5⟩
  · simp at hi
  · exact ⟨g, o, cap, rfl, (Array.getElem?_eq_some_iff.1 h3).1, h5 i _ (List.getElem?_eq_getElem hi)⟩
theorem SRow.ne_row {c t N : Nat} {f : Nat → Value} (h : SRow w v L) (r : Row w c t N f) (ht : t ≠ 9) : ¬ v.ownBlock = some c := by
  rcases h with ⟨rfl, _⟩ | ⟨g', o, cap, C, rfl, h1, h2, h3, h4, h5⟩
  · intro e; cases e
  · intro e
    have e2 : g' = c := by simpa [Value.ownBlock] using e
    obtain ⟨C', k1, _⟩ := r
    rw [e2, k1] at h3
    simp at h3
    exact ht h3.2
theorem SRow.fresh {g : Nat} {cap : Nat} {C : Array Value} (h : w.heap[g]? = some (.cells C 9 (0, 0))) (hc : L.length ≤ cap) (hm : cap ≤ maxLen) (hs : cap ≤ C.size)
    (hp : ∀ (j : Nat) (u : Value), (sflat L)[j]? = some u → C[j]? = some u) : SRow w (.slice (some ⟨g, 0, none⟩) L.length cap) L :=
  .inr ⟨g, 0, cap, C, rfl, hc, hm, h, by omega, fun i x hx => by
    rw [cell_of_row _ g _ _ _ (0, 0) h]
    refine hp _ _ ?_
    rw [Nat.zero_add]
    unfold sflat
    rw [List.getElem?_map, hx]; rfl⟩
end
theorem sflat_length (L : List ByteArray) : (sflat L).length = L.length := by unfold sflat; simp
theorem sflat_append (L M : List ByteArray) : sflat (L ++ M) = sflat L ++ sflat M := by unfold sflat; simp
theorem sflat_one_cell (L : List ByteArray) : ∀ u ∈ sflat L, u.oneCell' = true := by
  intro u hu
  unfold sflat at hu
  rw [List.mem_map] at hu
  obtain ⟨x, _, rfl⟩ := hu
  rfl
theorem sflat_get (L : List ByteArray) (i : Nat) : (sflat L)[i]? = (L[i]?).map Value.string := by unfold sflat; rw [List.getElem?_map]
/-- 'append(l, e)', e in a block of its own. -/
theorem run_append_s {w : World} {v : Value} {L : List ByteArray} (h : SRow w v L) (hl : L.length ≤ 100000) {B : Nat} {e : ByteArray} (hB : w.cell? ⟨B, 0, none⟩ = some (.string e)) (ty : TypeId) : ∃ v' w',
    (Builtin.append_ #[22, 22] ty #[v, .slice (some ⟨B, 0, none⟩) 1 1]).run Tryz.prog w = .ok v' w' ∧ SRow w' v' (L ++ [e]) ∧ Upd (fun k => v.ownBlock = some k) w w' ∧
      (v'.ownBlock = v.ownBlock ∨ v'.ownBlock = some w.heap.size) := by
  have hT := Tryz.underlying22
  obtain ⟨i0, hi, hz0, hz1, hz2⟩ := info_parts infoStr
  have news : ∀ j u, (sflat [e])[j]? = some u → w.cell? ((⟨B, 0, none⟩ : Addr).add j) = some u := fun j u hu => by
    rw [Addr.add_mid]
    have hj : j < 1 := by have := (List.getElem?_eq_some_iff.1 hu).1; rwa [sflat_length] at this
    obtain rfl : j = 0 := by omega
    have : u = .string e := by simpa [sflat] using hu.symm
    rw [this]; exact hB
  have nl : (sflat [e]).length = 1 * i0.size := by rw [sflat_length, hz1]; rfl
  have hnl : (L ++ [e]).length = L.length + 1 := by simp
  rcases h with ⟨rfl, rfl⟩ | ⟨g, o, cap, C, rfl, h1, h2, h3, h4, h5⟩
  · have hr := run_append_nil (P := Tryz.prog) w 22 ty 9 i0 _ hT hi hz0 ⟨B, 0, none⟩ 1 1 (sflat [e]) nl news (by omega) (by omega) (by rw [hz2]; omega)
    refine ⟨_, _, hr, ?_, ((Upd.refl _ _).drew).alloc _, .inr rfl⟩
    have hc := grownCap_ge w 1 0 9
    refine SRow.fresh (L := [e]) (heap_alloc_new w.drew _) hc (grownCap_le_maxLen w 1 0 _ (by unfold maxLen; omega)) ?_ (fun j u hu => ?_)
    · rw [Array.size_append, size_zeroCells, List.size_toArray, sflat_length]; simp [Value.cells]; omega
    · rw [Array.getElem?_append_left (by have := (List.getElem?_eq_some_iff.1 hu).1; simpa using this)]; simpa using hu
  · by_cases hroom : L.length + 1 ≤ cap
    · have hr := run_append_room_cells (P := Tryz.prog) w 22 ty 9 i0 hT hi g o L.length cap ⟨B, 0, none⟩ 1 1 (sflat [e]) nl news (sflat_one_cell _) hroom
        (fun j hj => by rw [sflat_length] at hj; simp at hj; rw [hz1, cell_of_row w g _ C _ (0, 0) h3, Array.getElem?_eq_getElem (by omega)]; rfl)
        (fun j hj => by simp [World.frozen?, h3])
      rw [hz1] at hr
      refine ⟨_, _, hr, ?_, Upd.setCells (S := fun k => (Value.slice (some ⟨g, o, none⟩) L.length cap).ownBlock = some k) (fun _ => rfl) _ _ _ (Upd.refl _ _), .inl rfl⟩
      have hrow : Row w g 9 C.size (fun i => C.getD i undef) := ⟨C, h3, rfl, fun i hi => by simp [hi]⟩
      have hrow2 := Row.setCells (sflat [e]) (o + L.length * 1) w _ hrow
      obtain ⟨C2, k1, k2, k3⟩ := hrow2
      refine .inr ⟨g, o, cap, C2, by rw [hnl], by rw [hnl]; exact hroom, h2, k1, by omega, fun i x hx => ?_⟩
      have hil : i < L.length + 1 := by have := (List.getElem?_eq_some_iff.1 hx).1; rwa [hnl] at this
      rw [cell_of_row _ g _ C2 _ (0, 0) k1, k3 _ (by omega)]
      unfold updL
      rw [sflat_length]
      by_cases hlt : i < L.length
      · rw [if_neg (by simp; omega)]
        rw [List.getElem?_append_left hlt] at hx
        have := h5 i x hx
        rw [cell_of_row w g _ C _ (0, 0) h3] at this
        simp [Array.getD_eq_getD_getElem?, this]
      · obtain rfl : i = L.length := by omega
        rw [if_pos (by simp)]
        rw [List.getElem?_append_right (Nat.le_refl _), Nat.sub_self] at hx
        simp at hx
        subst hx
        rw [show o + L.length - (o + L.length * 1) = 0 by omega]
        rfl
    · have hr := run_append_grow (P := Tryz.prog) w 22 ty 9 i0 _ hT hi hz0 ⟨g, o, none⟩ L.length cap (sflat L) (by rw [sflat_length, hz1]; omega)
        (fun j u hu => by
          rw [Addr.add_mid]
          rw [sflat_get] at hu
          cases hx : L[j]? with
          | none => rw [hx] at hu; cases hu
          | some x => rw [hx] at hu; have := h5 j x hx; simp at hu; rw [← hu]; exact this) ⟨B, 0, none⟩ 1 1 (sflat [e]) nl news (by omega) (by omega) (growslice_fits (by omega) (by rw [hz2]; omega))
      refine ⟨_, _, hr, ?_, ((Upd.refl _ _).drew).alloc _, .inr rfl⟩
      have hc := grownCap_ge w (L.length + 1) cap 9
      have hcm := grownCap_le_maxLen w (L.length + 1) cap 9 (by unfold maxLen; omega)
      have := SRow.fresh (L := L ++ [e]) (heap_alloc_new w.drew (.cells ((sflat L).toArray ++ (sflat [e]).toArray ++ Builtin.zeroCells (Value.cells (.string ByteArray.empty)) (grownCap w (L.length + 1) cap 9 - (L.length + 1))) 9))
        (cap := grownCap w (L.length + 1) cap 9) (by rw [hnl]; exact hc) hcm
        (by rw [Array.size_append, Array.size_append, size_zeroCells, List.size_toArray, List.size_toArray, sflat_length, sflat_length]; simp [Value.cells]; omega) (fun j u hu => by
          have hj : j < ((sflat L).toArray ++ (sflat [e]).toArray).size := by
            have := (List.getElem?_eq_some_iff.1 hu).1
            rw [sflat_append] at this
            simpa using this
          rw [Array.getElem?_append_left hj]
          rw [sflat_append] at hu
          simpa using hu)
      rw [hnl] at this
      exact this
theorem fresh_ofS {w0 w : World} {v v2 : Value} (hu : Upd Non w0 w) (h : Fresh w0 v) (hb : v2.ownBlock = v.ownBlock ∨ v2.ownBlock = some w.heap.size) : Fresh w0 v2 := fun g hg => by
  rcases hb with hb | hb
  · exact h g (hb ▸ hg)
  · have := hu.size
    rw [hb] at hg
    simp at hg
    omega
theorem sbox (w : World) (e : ByteArray) : (w.alloc (.cells #[.string e] 9)).cell? ⟨w.heap.size, 0, none⟩ = some (.string e) := by
  rw [cell_of_row _ w.heap.size 0 _ _ (0, 0) (heap_alloc_new w _)]; rfl
set_option maxRecDepth 100000 in
theorem wpl_append_s {ops : Array Oper} {rest : List Oper} {o : Oper} {a : Act} {w : World} {Q : Exit → Act → World → Prop} (hg : o.guard = none) (s x : Operand)
    (ho : o.op = .call { callee := .builtin .append, args := #[s, x], argTypes := #[22, 22] }) (v : Value) (B : Nat) (hs : a.eval s = v) (hx : a.eval x = .slice (some ⟨B, 0, none⟩) 1 1)
    (L : List ByteArray) (e : ByteArray) (h : SRow w v L) (hl : L.length ≤ 100000) (hB : w.cell? ⟨B, 0, none⟩ = some (.string e))
    (k : ∀ v' w', SRow w' v' (L ++ [e]) → Upd (fun k => v.ownBlock = some k) w w' → (v'.ownBlock = v.ownBlock ∨ v'.ownBlock = some w.heap.size) → wpList Tryz.prog ops Q rest (a.put o.dst v') w') :
    wpList Tryz.prog ops Q (o :: rest) a w := by
  obtain ⟨v', w', hrun, h1, h2, h3⟩ := run_append_s h hl hB o.type
  refine wpList_plain hg fun K hK => ?_
  unfold Oper.wp
  simp [execOp, ho, resolve, invoke, builtin, hs, hx, hrun, Result.andThen]
  exact hK _ _ (k v' w' h1 h2 h3)

end U
end Go.Proofs.YtnhplapcdgnaaaaGreatDoor

set_option linter.unusedVariables false
set_option linter.unusedSimpArgs false
namespace Go.Proofs.YtnhplapcdgnaaaaGreatDoor
open Go.RowKit
namespace U

/-! The library's functions, in the words of this proof. -/
/-- What the library's variables hold. -/
structure LW (w : World) : Prop where
  ml : ∃ m : Int, w.cell? ⟨0, 0, none⟩ = some (.int .i64 m)
  tab : Lib.TabIs Tryz.prog w Tryz.powName .u64 Lib.pow10Tab
theorem Upd.ofBelow {w w' : World} (h : Below w.heap.size w w') : Upd Non w w' := ⟨h.os, h.tape, h.output, h.size, fun k hk _ => h.block k hk⟩
theorem Upd.toBelow {w w' : World} (h : Upd Non w w') : Below w.heap.size w w' := h.below fun k hk => ⟨hk, fun h => h⟩
theorem LW.upd {w w' : World} (t : LW w) (u : Upd Non w w') : LW w' := by
  obtain ⟨m, hm⟩ := t.ml
  exact ⟨⟨m, u.cell hm (fun h => h)⟩, Lib.tabBelow_of_tabIs t.tab w' u.toBelow⟩
def strOf (l : List UInt8) : ByteArray := ⟨l.toArray⟩
theorem strOf_list (l : List UInt8) : (strOf l).data.toList = l := by unfold strOf; simp
theorem strOf_eq (s : ByteArray) : strOf s.data.toList = s := by unfold strOf; simp
/-- A number's text. -/
def numS (n : Nat) : ByteArray := strOf (Lib.decDigits n)
theorem upd_grow {w : World} (k : Nat) (os : Array Obj) : Upd Non w (Go.Sort.grow (w.drewN k) os) :=
  ⟨rfl, rfl, rfl, by simp [Go.Sort.grow], fun i hi _ => by
    exact Go.Sort.heap_grow_old (w.drewN k) os hi⟩
theorem itoa_any {w : World} (t : LW w) (n : Nat) (hn : n ≤ 9223372036854775807) : Calls Tryz.prog 51 #[.int .i64 n] w fun e w' => e = .returned (.string (numS n)) ∧ Upd Non w w' :=
  (Tryz.strconv_Itoa (n : Int) (by omega) (by omega) w t.tab).mono (by
    rintro e w2 ⟨rfl, k, os, rfl⟩
    refine ⟨?_, upd_grow k os⟩
    unfold numS strOf Lib.itoa
    rw [if_neg (by omega), Int.toNat_natCast])
theorem fbool_any (w : World) (b : Bool) : Calls Tryz.prog 66 #[.bool b] w fun e w' => e = .returned (.string (strOf (Lib.formatBool b))) ∧ w = w' :=
  (Tryz.strconv_FormatBool b w).mono (by rintro e w2 ⟨rfl, rfl⟩; exact ⟨rfl, rfl⟩)
def spB : ByteArray := { data := #[32] }
/-- The words of a line. -/
def wordsB (s : ByteArray) : List ByteArray := Lib.splitB spB 0 (Lib.countB s spB) s
theorem wordsB_list (s : ByteArray) : (wordsB s).map (·.data.toList) = wordsL s.data.toList := by
  unfold wordsB
  rw [Lib.splitB_data]
  have : Lib.countB s spB = s.data.toList.count 32 := by
    show Lib.count s.data.toList [32] = _
    rw [Lib.count_one]
  rw [this]
  exact split_one _
theorem wordsB_of (s : ByteArray) : wordsB s = (wordsL s.data.toList).map strOf := by
  rw [← wordsB_list, List.map_map]
  have : (strOf ∘ fun (x : ByteArray) => x.data.toList) = id := by funext x; exact strOf_eq x
  rw [this, List.map_id]
theorem wordsB_length (s : ByteArray) : (wordsB s).length = Lib.countB s spB + 1 := Lib.splitB_all spB (by decide) 0 _ s rfl
theorem split_any {w : World} (t : LW w) (s : ByteArray) (hs : s.size ≤ 300) : Calls Tryz.prog 33 #[.string s, .string spB] w fun e w' =>
    ∃ v, e = .returned v ∧ SRow w' v (wordsB s) ∧ Fresh w v ∧ Upd Non w w' := by
  obtain ⟨m, hm⟩ := t.ml
  refine (Tryz.strings_Split s spB m w (by omega) hm (by decide)).mono ?_
  rintro e w2 ⟨rfl, rfl⟩
  have hl := wordsB_length s
  have hle := Lib.countB_le spB (by decide) s.size s (Nat.le_refl _)
  refine ⟨_, rfl, ?_, fun g hg => ?_, (Upd.refl _ _).alloc _⟩
  · rw [← hl]
    refine SRow.fresh (L := wordsB s) (heap_alloc_new w _) (Nat.le_refl _) (by unfold maxLen; omega) (by simp [wordsB]) (fun j u hu => ?_)
    unfold sflat at hu
    show ((wordsB s).map Value.string).toArray[j]? = some u
    rw [List.getElem?_toArray]
    exact hu
  · simp [Value.ownBlock] at hg
    omega
/-- Numbers with a space between them; none: a dash. -/
def listS (l : List Nat) : ByteArray := if l = [] then strOf [45] else strOf (Lib.join (l.map Lib.decDigits) [32])
theorem sjoin_any {w : World} {v : Value} {xs : List ByteArray} (h : SRow w v xs) (h0 : xs ≠ []) (hl : xs.length ≤ 1000) (hj : (Lib.join (xs.map (·.data.toList)) [32]).length ≤ 100000) : Calls Tryz.prog 103 #[v, .string spB] w fun e w' =>
    e = .returned (.string (strOf (Lib.join (xs.map (·.data.toList)) [32]))) ∧ Upd Non w w' := by
  rcases h with ⟨rfl, rfl⟩ | ⟨g, o, cap, C, rfl, h1, h2, h3, h4, h5⟩
  · exact absurd rfl h0
  · exact (Tryz.strings_Join g o cap xs spB w h5 (heap_lt h3) (by omega) h1 (by show (Lib.join (xs.map (·.data.toList)) [32]).length ≤ _; omega)).mono (by
      rintro e w2 ⟨rfl, b⟩
      exact ⟨rfl, Upd.ofBelow b⟩)

end U
end Go.Proofs.YtnhplapcdgnaaaaGreatDoor

set_option linter.unusedVariables false
set_option linter.unusedSimpArgs false
namespace Go.Proofs.YtnhplapcdgnaaaaGreatDoor
open Go.RowKit
namespace U

/-! The reference's texts: decimal, fault, done. -/
theorem conv_one (W : World) (g : Nat) (c : UInt8) (h : W.cell? ⟨g, 0, none⟩ = some (.int .u8 c.toNat)) : (Go.convert 96 9 (.slice (some ⟨g, 0, none⟩) 1 1)).run Tryz.prog W = .ok (.string (strOf [c])) W := by
  have hb : Lib.Bytes W g 0 (strOf [c]) := fun i hi => by
    have hi : i < 1 := hi
    obtain rfl : i = 0 := by omega
    exact h
  exact Lib.run_convert_whole (P := Tryz.prog) W 96 5 9 Tryz.underlying96 Tryz.underlying5 Tryz.underlying9 g 0 (strOf [c]) hb 1
def digC (d : Nat) : UInt8 := UInt8.ofNat (48 + d)
theorem byte_dig {d : Nat} (h : d < 10) : (((digC d).toNat : Nat) : Int) = 48 + (d : Int) := by unfold digC; simp; omega
theorem conv_dig (W : World) (d : Nat) (hd : d < 10) : (Go.convert 96 9 (.slice (some ⟨W.heap.size, 0, none⟩) 1 1)).run Tryz.prog (W.alloc (.cells #[.int .u8 (48 + (d : Int))] 5)) = .ok (.string (strOf [digC d])) (W.alloc (.cells #[.int .u8 (48 + (d : Int))] 5)) := by
  refine conv_one _ _ _ ?_
  rw [byte_dig hd, cell_of_row _ W.heap.size 0 _ _ (0, 0) (heap_alloc_new W _)]
  rfl
theorem dec_le : ∀ (N u : Nat), u ≤ N → (Lib.decDigits u).length ≤ u + 1 := by
  intro N
  induction N with
  | zero => intro u h; obtain rfl : u = 0 := by omega
            rw [dec_small (by omega)]; simp
  | succ N ih =>
    intro u h
    by_cases h1 : u < 10
    · rw [dec_small h1]; simp
    · rw [dec_big (by omega), List.length_append]
      have := ih (u / 10) (by omega)
      simp
      omega
theorem strOf_size (l : List UInt8) : (strOf l).size = l.length := by unfold strOf; rfl
theorem numS_size {n : Nat} (h : n ≤ 1000000) : (numS n).size ≤ 1000001 := by
  unfold numS
  rw [strOf_size]
  have := dec_le n n (Nat.le_refl _)
  omega
set_option maxRecDepth 100000 in
set_option maxHeartbeats 2000000 in
theorem rdecimal_small (n : Nat) (hn : n < 10) (w : World) : Calls Tryz.prog 17 #[.int .i64 n] w fun e w' => e = .returned (.string (numS n)) ∧ Upd Non w w' := by
  have hk := fun W => conv_dig W n hn
  have hS := Lib.hid (show numS n = strOf [digC n] by unfold numS; rw [dec_small hn]; rfl)
  have h10 : (n : Int) < 10 := by omega
  go_enter Tryz.func17, Tryz.ntmps17
  go_wp2_with fail
  go_ret
  exact ⟨by rw [hS.out]; rfl, (Upd.refl _ _).alloc _⟩
theorem strOf_append (a b : List UInt8) : strOf a ++ strOf b = strOf (a ++ b) := by
  apply ByteArray.ext
  simp [strOf]
theorem cell_dig (W : World) (d : Nat) (hd : d < 10) : (W.alloc (.cells #[.int .u8 (48 + (d : Int))] 5)).cell? ⟨W.heap.size, 0, none⟩ = some (.int .u8 (digC d).toNat) := by
  rw [byte_dig hd, cell_of_row _ W.heap.size 0 _ _ (0, 0) (heap_alloc_new W _)]
  rfl
set_option maxRecDepth 100000 in
set_option maxHeartbeats 4000000 in
theorem rdecimal_any : ∀ (N n : Nat), n ≤ N → n ≤ 1000000 → ∀ w : World, Calls Tryz.prog 17 #[.int .i64 n] w fun e w' => e = .returned (.string (numS n)) ∧ Upd Non w w' := by
  intro N
  induction N with
  | zero => exact fun n h1 h2 w => rdecimal_small n (by omega) w
  | succ N ih =>
    intro n h1 h2 w
    by_cases hn : n < 10
    · exact rdecimal_small n hn w
    · obtain ⟨q, d, hd, rfl⟩ : ∃ q d, d < 10 ∧ n = 10 * q + d := ⟨n / 10, n % 10, by omega, by omega⟩
      rw [show ((10 * q + d : Nat) : Int) = 10 * (q : Int) + (d : Int) by omega]
      have hk := fun W => conv_dig W d hd
      have hkd := conv_one (w.alloc (.cells #[.int .u8 (48 + (d : Int))] 5)).drew w.heap.size (digC d) (cell_dig w d hd)
      have HC := Lib.hid (cell_dig w d hd)
      have hc := Lib.hid (ih q (by omega) (by omega))
      have hS := Lib.hid (show numS (10 * q + d) = numS q ++ strOf [digC d] by
        unfold numS
        rw [dec_big (by omega), strOf_append, show (10 * q + d) / 10 = q by omega, show (10 * q + d) % 10 = d by omega]; rfl)
      have h10 : ¬ 10 * (q : Int) + (d : Int) < 10 := by omega
      have e1 : (10 * (q : Int) + (d : Int)).tdiv 10 = q := by rw [Int.tdiv_eq_ediv_of_nonneg (by omega)]; omega
      have e2 : (10 * (q : Int) + (d : Int)).tmod 10 = d := by rw [Int.tmod_eq_emod_of_nonneg (by omega)]; omega
      have e3 : IntKind.i64.wrap (q : Int) = q := IntWalk.i64_in _ (by omega)
      have e4 : IntKind.i64.wrap (48 + (d : Int)) = 48 + (d : Int) := IntWalk.i64_in _ (by omega)
      have e5 : IntKind.u8.wrap (48 + (d : Int)) = 48 + (d : Int) := IntWalk.u8_in _ (by omega)
      have z1 := numS_size (n := q) (by omega)
      have z2 : (strOf [digC d]).size ≤ 1 := Nat.le_of_eq (strOf_size _)
      clear hn h1 h2 ih
      go_enter Tryz.func17, Tryz.ntmps17
      go_wp2_with fail
      go_region_with (go_at_call 17; refine Calls.mono (hc.out _) ?_; rintro e w2 ⟨rfl, u2⟩; try have k2 := conv_one w2 w.heap.size (digC d) (Upd.cell u2 HC.out (fun h => h)))
      all_goals go_wp2_with fail
      all_goals go_ret
      all_goals refine ⟨by rw [hS.out]; rfl, ?_⟩
      all_goals first
        | exact ((Upd.refl _ _).drew.trans u2).alloc _
        | exact (((Upd.refl _ _).alloc _).drew.trans u2)
        | exact (u2.alloc _)
        | exact (((Upd.refl _ _).alloc _).trans u2)
        | exact u2.drew
/-- An error's text. -/
def faultS (e : Nat) : ByteArray := strOf [101, 114, 114, 111, 114, 32] ++ numS e
def okS : ByteArray := { data := #[111, 107] }
def doneS (e : Nat) : ByteArray := if e = 0 then okS else faultS e
theorem errw_size : ({ data := #[101, 114, 114, 111, 114, 32] } : ByteArray).size ≤ 6 := Nat.le_refl _
set_option maxRecDepth 100000 in
theorem rfault_any (w : World) (e : Nat) (he : e ≤ 1000000) : Calls Tryz.prog 14 #[.int .i64 e] w fun x w' => x = .returned (.string (faultS e)) ∧ Upd Non w w' := by
  have z1 := numS_size he
  have z2 := errw_size
  go_enter Tryz.func14, Tryz.ntmps14
  go_wp2_with (first | (go_at_call 17; refine (rdecimal_any e e (Nat.le_refl _) he _).mono ?_; rintro e w2 ⟨rfl, u2⟩) | fail)
  go_ret
  exact ⟨rfl, u2⟩
set_option maxRecDepth 100000 in
theorem rdone_any (w : World) (e : Nat) (he : e ≤ 1000000) : Calls Tryz.prog 23 #[.int .i64 e] w fun x w' => x = .returned (.string (doneS e)) ∧ Upd Non w w' := by
  by_cases h0 : e = 0
  · have hD := Lib.hid (show doneS e = okS by unfold doneS; rw [if_pos h0])
    subst h0
    go_enter Tryz.func23, Tryz.ntmps23
    go_wp2_with (first | (go_at_call 14; refine (rfault_any _ 0 he).mono ?_; rintro e w2 ⟨rfl, u2⟩) | fail)
    go_ret
    exact ⟨by rw [hD.out]; rfl, Upd.refl _ _⟩
  · have hD := Lib.hid (show doneS e = faultS e by unfold doneS; rw [if_neg h0])
    have hp : (0 : Int) < (e : Int) := by omega
    clear h0
    go_enter Tryz.func23, Tryz.ntmps23
    go_wp2_with (first | (go_at_call 14; refine (rfault_any _ e he).mono ?_; rintro e w2 ⟨rfl, u2⟩) | fail)
    go_ret
    exact ⟨by rw [hD.out]; rfl, u2⟩

end U
end Go.Proofs.YtnhplapcdgnaaaaGreatDoor

set_option linter.unusedVariables false
set_option linter.unusedSimpArgs false
namespace Go.Proofs.YtnhplapcdgnaaaaGreatDoor
open Go.RowKit
namespace U

/-! The reference's texts: figures, words, listed, many. -/
theorem toList_go2 (bs : ByteArray) : ∀ (n i : Nat) (r : List UInt8), bs.size - i = n → ByteArray.toList.loop bs i r = r.reverse ++ bs.data.toList.drop i := by
  intro n
  induction n with
  | zero =>
    intro i r h
    unfold ByteArray.toList.loop
    rw [if_neg (by omega), List.drop_eq_nil_of_le (by simp; show bs.size ≤ i; omega), List.append_nil]
  | succ n ih =>
    intro i r h
    have hi : i < bs.size := by omega
    unfold ByteArray.toList.loop
    rw [if_pos hi, ih (i + 1) _ (by omega)]
    have hl : i < bs.data.toList.length := by simpa using hi
    rw [List.drop_eq_getElem_cons hl]
    have hd : i < bs.data.size := hi
    simp [ByteArray.get!]
    exact getElem!_pos bs.data i hd
theorem toList_dat (bs : ByteArray) : bs.toList = bs.data.toList := by
  unfold ByteArray.toList
  rw [toList_go2 bs _ 0 [] rfl]
  simp
theorem take_snoc (s : ByteArray) (k : Nat) (h : k < s.size) : s.data.toList.take (k + 1) = s.data.toList.take k ++ [s[k]] := by
  rw [List.take_succ_eq_append_getElem (by simpa using h)]; rfl
theorem dat_length (s : ByteArray) : s.data.toList.length = s.size := by simp
def FigPost (w : World) (s : ByteArray) (e : Ending) (w' : World) : Prop :=
  ∃ v : Int, e = .returned (.tuple #[.int .i64 v, .bool (numL s.data.toList).isSome]) ∧ (∀ z, numL s.data.toList = some z → v = z) ∧ Upd Non w w'
theorem num_minus {l : List UInt8} (h : l = [45, 49]) : numL l = some (-1) := by unfold numL; rw [if_pos h]
theorem num_none {l : List UInt8} (h : l ≠ [45, 49]) (k : l = [] ∨ 5 < l.length ∨ leads l = true) : numL l = none := by unfold numL; rw [if_neg h, if_pos k]
theorem num_bad {l : List UInt8} (h : l ≠ [45, 49]) {c : UInt8} (hc : c ∈ l) (k : isDig c = false) : numL l = none := by
  unfold numL
  rw [if_neg h]
  split
  · rfl
  · rw [if_neg]
    intro e
    have := List.all_eq_true.1 e c hc
    rw [k] at this
    cases this
theorem num_end {l : List UInt8} (h : l ≠ [45, 49]) (k : l.length ≤ 5) (d : ∀ c ∈ l, isDig c = true) : (numL l).isSome = decide (Lib.decDigits (valL l) = l) ∧ ∀ z, numL l = some z → ((valL l : Nat) : Int) = z := by
  have ds := dec_same l d
  unfold numL
  rw [if_neg h]
  by_cases e : l = [] ∨ 5 < l.length ∨ leads l = true
  · rw [if_pos e]
    refine ⟨?_, fun z hz => by cases hz⟩
    rw [decide_eq_false]
    · rfl
    · intro e2
      obtain ⟨h1, h2⟩ := ds.1 e2
      rcases e with e | e | e
      · exact h1 e
      · omega
      · rw [h2] at e; cases e
  · rw [if_neg e, if_pos (List.all_eq_true.2 d)]
    refine ⟨?_, fun z hz => by injection hz⟩
    rw [decide_eq_true]
    · rfl
    · refine ds.2 ⟨fun h => e (.inl h), ?_⟩
      cases hz : leads l with
      | false => rfl
      | true => exact absurd (.inr (.inr hz)) e
set_option maxRecDepth 100000 in
set_option maxHeartbeats 4000000 in
theorem rfigures_any (w : World) (s : ByteArray) (hs : s.size ≤ 300) : Calls Tryz.prog 15 #[.string s] w (FigPost w s) := by
  have hdl := dat_length s
  by_cases hm : s.data.toList = [45, 49]
  · have h1 : (s.toList == [45, 49]) = true := by rw [toList_dat, hm]; rfl
    have hN := Lib.hid (num_minus hm)
    clear hm hdl
    go_enter Tryz.func15, Tryz.ntmps15
    go_wp2_with fail
    go_ret2
    exact ⟨-1, by rw [hN.out]; rfl, (fun z hz => by rw [hN.out] at hz; injection hz), Upd.refl _ _⟩
  · have h1 : (s.toList == [45, 49]) = false := by rw [toList_dat]; simpa using hm
    have HM := Lib.hid hm
    clear hm
    by_cases h5 : s.size ≤ 5
    · have h52 : (s.size : Int) ≤ 5 := by omega
      have HL := Lib.hid hdl
      clear hdl
      go_enter Tryz.func15, Tryz.ntmps15
      go_wp2_with fail
      go_loop [4, 5] (fun n i => ∃ k : Nat, k ≤ s.size ∧ i = .int .i64 k ∧ n = .int .i64 (valL (s.data.toList.take k) : Nat) ∧ Hid (∀ c ∈ s.data.toList.take k, isDig c = true)) (fun _ i => s.size - (intOf i).toNat)
      case atStart => exact ⟨0, Nat.zero_le _, rfl, rfl, fun c hc => by cases hc⟩
      case round =>
        obtain ⟨k, hk, rfl, rfl, hD⟩ := hrel
        have hv0 := valL_lt _ _ rfl hD.out
        have hv : valL (s.data.toList.take k) < 100000 := by
          have h6 : (s.data.toList.take k).length ≤ 5 := by have := List.length_take_le k s.data.toList; omega
          have := Nat.pow_le_pow_right (n := 10) (by omega) h6
          omega
        clear hv0
        by_cases hlt : k < s.size
        · have hsn := Lib.hid (take_snoc s k hlt)
          have hmem : Hid (s[k] ∈ s.data.toList) := by
            have : s[k] ∈ s.data.toList.take (k + 1) := by rw [hsn.out]; simp
            exact List.mem_of_mem_take this
          cases hdig : isDig s[k] with
          | true =>
            obtain ⟨g1, g2⟩ := isDig_iff.1 hdig
            have g3 : ¬ ((s[k].toNat : Nat) : Int) < 48 := by omega
            have g4 : ((s[k].toNat : Nat) : Int) ≤ 57 := by omega
            have hvs := Lib.hid (valL_snoc (s.data.toList.take k) s[k])
            have hD2 : Hid (∀ c ∈ s.data.toList.take (k + 1), isDig c = true) := by
              intro c hc
              rw [hsn.out, List.mem_append] at hc
              rcases hc with hc | hc
              · exact hD.out c hc
              · rw [List.mem_singleton] at hc; rw [hc]; exact hdig
            clear hdig
            go_wp2_with fail
            go_round
            case rel => exact ⟨k + 1, by omega, by go_num, by rw [hsn.out, hvs.out]; go_num, hD2⟩
            case measure => simp [intOf]; omega
          | false =>
            have hN := Lib.hid (num_bad HM.out hmem.out hdig)
            by_cases g1 : s[k].toNat < 48
            · have g3 : ((s[k].toNat : Nat) : Int) < 48 := by omega
              clear hdig
              go_wp2_with fail
              go_ret2
              exact ⟨0, by rw [hN.out]; rfl, (fun z hz => by rw [hN.out] at hz; cases hz), Upd.refl _ _⟩
            · have g3 : ¬ ((s[k].toNat : Nat) : Int) < 48 := by omega
              have g4 : (57 : Int) < ((s[k].toNat : Nat) : Int) := by
                rcases Nat.lt_or_ge 57 s[k].toNat with h | h
                · omega
                · have := isDig_iff.2 ⟨by omega, h⟩; rw [hdig] at this; cases this
              clear hdig
              go_wp2_with fail
              go_ret2
              exact ⟨0, by rw [hN.out]; rfl, (fun z hz => by rw [hN.out] at hz; cases hz), Upd.refl _ _⟩
        · obtain rfl : k = s.size := by omega
          have ht : s.data.toList.take s.size = s.data.toList := List.take_of_length_le (by rw [HL.out]; exact Nat.le_refl _)
          rw [ht] at hv hD ⊢
          obtain ⟨e1, e2⟩ := num_end HM.out (by rw [HL.out]; exact h5) hD.out
          have E1 := Lib.hid e1
          have E2 := Lib.hid e2
          generalize valL s.data.toList = n at hv E1 E2
          have hS := Lib.hid (show ((numS n).toList == s.toList) = decide (Lib.decDigits n = s.data.toList) by rw [toList_dat, toList_dat]; unfold numS; rw [strOf_list]; rw [Bool.eq_iff_iff]; simp)
          clear e1 e2 ht hD
          go_wp2_with (first | (go_at_call 17; refine (rdecimal_any n n (Nat.le_refl _) (by omega) _).mono ?_; rintro e w2 ⟨rfl, u2⟩) | fail)
          go_ret2
          exact ⟨n, by rw [E1.out, ← hS.out]; rfl, E2.out, u2⟩
    · have h52 : ¬ (s.size : Int) ≤ 5 := by omega
      have hN := Lib.hid (num_none HM.out (.inr (.inl (by rw [hdl]; omega))))
      clear hdl
      go_enter Tryz.func15, Tryz.ntmps15
      go_wp2_with fail
      go_ret2
      exact ⟨0, by rw [hN.out]; rfl, (fun z hz => by rw [hN.out] at hz; cases hz), Upd.refl _ _⟩

end U
end Go.Proofs.YtnhplapcdgnaaaaGreatDoor
