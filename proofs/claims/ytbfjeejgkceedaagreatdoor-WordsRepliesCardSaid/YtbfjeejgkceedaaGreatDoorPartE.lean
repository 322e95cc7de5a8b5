import Derived.Test.YtbfjeejgkceedaaGreatDoorPartD
import Derived.Lib.ItoaLen
import Derived.Lib.AtoiErrMem
import Derived.OpenShut
import Derived.Deep.Slices
/-
  DERIVED: THE SHELF's CONTRACTS AT THIS DUMP, IN PLAIN WORDS (tools/lay-plain.mjs out of 'TryzShelf.lean', which tools/lay-shelf.mjs wrote): THE SAME DECLARATIONS UNDER THE SAME NAMES: 'import', 'namespace', 'open', 'def', 'theorem' AND NOTHING ELSE: no command of the shelf's: FOR A HAND-IN. Each laying: the table of numbers ('.._ren') and one theorem, a field a fact of the dump's own or the kernel's comparison; each contract: ONE APPLICATION.
-/
import Derived.Shelf.Strings.Builder1
import Derived.Shelf.Strings.Builder2
import Derived.Shelf.Strings.OnBuilder
import Derived.Shelf.Utf8.RuneCount
import Derived.Shelf.Strconv.Itoa0
import Derived.Shelf.Strconv.Itoa1
import Derived.Shelf.LaysM
import Derived.Shelf.Strconv.Itoa2
import Derived.Shelf.Strconv.Itoa3
import Derived.Shelf.Strconv.Itoa4
import Derived.Shelf.Strconv.ParseIntEmpty
import Derived.Shelf.Strconv.Clone
import Derived.Shelf.Strconv.SyntaxError
import Derived.Shelf.LaysC
import Derived.Shelf.Strconv.ToError
import Derived.Shelf.Strconv.Lower
import Derived.Shelf.Strconv.ParseUint10
import Derived.Shelf.Strconv.ParseUint10Empty
import Derived.Shelf.Strconv.ParseUint10Any
import Derived.Shelf.Strconv.ParseInt10
import Derived.Shelf.Strconv.RangeError
import Derived.Shelf.Strconv.ToErrorRange
import Derived.Shelf.Strconv.ParseUintEmpty
import Derived.Shelf.Strconv.ParseUint10b64
import Derived.Shelf.Strconv.ParseUint10b32
import Derived.Shelf.Strconv.ParseUint10b16
import Derived.Shelf.Strconv.ParseUint10b8
import Derived.Shelf.Strconv.ParseUint10At
import Derived.Shelf.Strconv.ParseInt10At64
import Derived.Shelf.Strconv.ParseInt10At32
import Derived.Shelf.Strconv.ParseInt10At16
import Derived.Shelf.Strconv.ParseInt10At8
import Derived.Shelf.Strconv.ParseInt10All
import Derived.Shelf.Strconv.ParseIntPublic10
import Derived.Shelf.Strconv.ErrVarParseInt
import Derived.Shelf.Strings.Search1
import Derived.Shelf.Strings.Search2
import Derived.Shelf.Strings.Search3
import Derived.Shelf.Strings.Cut
import Derived.Shelf.Strings.Count
import Derived.Shelf.Strings.Shaped
import Derived.Shelf.Strings.Split
import Derived.Shelf.Strings.SplitShaped
import Derived.Shelf.Unicode.Decode
import Derived.Shelf.Strings.RuneCount
import Derived.Shelf.Strings.Explode
import Derived.Shelf.Unicode.DecodeSlow
import Derived.Shelf.Unicode.DecodeAny
import Derived.Test.YtbfjeejgkceedaaGreatDoorProg
namespace Go.Proofs
open Go.Shelf
def Tryz.lays156_ren : Go.Shelf.Ren := ⟨fun | 156 => 58 | 165 => 91 | 166 => 92 | 169 => 93 | 240 => 122 | 241 => 123 | 276 => 137 | 277 => 138 | n => n, fun | 31 => 39 | 9 => 9 | 3 => 3 | 4 => 4 | 0 => 0 | 20 => 20 | 72 => 147 | 76 => 151 | 70 => 145 | 37 => 54 | 75 => 150 | 127 => 183 | 164 => 196 | 5 => 5 | 80 => 74 | n => n, fun | n => n⟩
theorem Tryz.lays156 : Go.Proofs.Lays.n156 Tryz.prog Tryz.lays156_ren := {
  mixed := by kernel_rfl
  f156 := Tryz.func58.trans (congrArg some (by kernel_rfl))
  f165 := Tryz.func91.trans (congrArg some (by kernel_rfl))
  f166 := Tryz.func92.trans (congrArg some (by kernel_rfl))
  f169 := Tryz.func93.trans (congrArg some (by kernel_rfl))
  f240 := Tryz.func122.trans (congrArg some (by kernel_rfl))
  f241 := Tryz.func123.trans (congrArg some (by kernel_rfl))
  f276 := Tryz.func137.trans (congrArg some (by kernel_rfl))
  f277 := Tryz.func138.trans (congrArg some (by kernel_rfl))
  t0 := Tryz.underlying0
  a0 := Tryz.isAgg0
  z0 := Tryz.sizeOf0
  v0 := Tryz.zeroValue0
  t3 := Tryz.underlying3
  a3 := Tryz.isAgg3
  z3 := Tryz.sizeOf3
  v3 := Tryz.zeroValue3
  t4 := Tryz.underlying4
  a4 := Tryz.isAgg4
  z4 := Tryz.sizeOf4
  v4 := Tryz.zeroValue4
  t9 := Tryz.underlying9
  a9 := Tryz.isAgg9
  z9 := Tryz.sizeOf9
  v9 := Tryz.zeroValue9
  t20 := Tryz.underlying20
  a20 := Tryz.isAgg20
  z20 := Tryz.sizeOf20
  v20 := Tryz.zeroValue20
  t31 := Tryz.underlying39
  a31 := Tryz.isAgg39
  z31 := Tryz.sizeOf39
  v31 := Tryz.zeroValue39
  t37 := Tryz.underlying54
  a37 := Tryz.isAgg54
  z37 := Tryz.sizeOf54
  v37 := Tryz.zeroValue54
  t70 := Tryz.underlying145
  a70 := Tryz.isAgg145
  z70 := Tryz.sizeOf145
  v70 := Tryz.zeroValue145
  t72 := Tryz.underlying147
  a72 := Tryz.isAgg147
  z72 := Tryz.sizeOf147
  v72 := Tryz.zeroValue147
  t75 := Tryz.underlying150
  a75 := Tryz.isAgg150
  z75 := Tryz.sizeOf150
  v75 := Tryz.zeroValue150
  t76 := Tryz.underlying151
  a76 := Tryz.isAgg151
  z76 := Tryz.sizeOf151
  v76 := Tryz.zeroValue151
  t127 := Tryz.underlying183
  a127 := Tryz.isAgg183
  z127 := Tryz.sizeOf183
  v127 := Tryz.zeroValue183
  t164 := Tryz.underlying196
  a164 := Tryz.isAgg196
  z164 := Tryz.sizeOf196
  v164 := Tryz.zeroValue196 }
theorem Tryz.Builder_Extra_156 : Builder.Extra Tryz.prog Tryz.lays156_ren := {
  sizeBuilder := by kernel_rfl
  liesBuilder := by kernel_rfl
  t5 := Tryz.underlying5
  a5 := Tryz.isAgg5
  z5 := Tryz.sizeOf5
  v5 := Tryz.zeroValue5
  infoByte := by kernel_rfl
  cellsByte := by kernel_rfl
  sizeByte := by kernel_rfl
  neB5 := by decide }
open Go.RowKit in
/-- No element: the empty string; the world is as it was. (Whatever the slice's address and capacity: a nil slice too.) (LAID: no walk: one application.) -/
theorem Tryz.strings_Join_none (a : Option Addr) (c : Nat) (sep : ByteArray) (w : World) :
    Calls Tryz.prog 58 #[.slice a 0 c, .string sep] w fun e w' => e = .returned (.string ⟨#[]⟩) ∧ w' = w := Any.strings_Join_none Tryz.lays156 Tryz.Builder_Extra_156 a c sep w
open Go.RowKit in
/-- strings.Join: "Join concatenates the elements of its first argument to create a single string. The separator string sep is placed between elements in the resulting string.": HOWEVER MANY ELEMENTS. Below the heap's end the world is as it was. (LAID: no walk: one application.) -/
theorem Tryz.strings_Join (bk o c : Nat) (xs : List ByteArray) (sep : ByteArray) (w : World) (hcells : ∀ (j : Nat) x, xs[j]? = some x → w.cell? ⟨bk, o + j, none⟩ = some (.string x)) (hbk : bk < w.heap.size) (hN : xs.length ≤ 140737488355328) (hcap : xs.length ≤ c) (hlen : (Lib.join (xs.map (·.data.toList)) sep.data.toList).length ≤ 140737488355328) :
    Calls Tryz.prog 58 #[.slice (some ⟨bk, o, none⟩) xs.length c, .string sep] w fun e w' => e = .returned (.string ⟨(Lib.join (xs.map (·.data.toList)) sep.data.toList).toArray⟩) ∧ Below w.heap.size w w' := Any.strings_Join Tryz.lays156 Tryz.Builder_Extra_156 bk o c xs sep w hcells hbk hN hcap hlen
def Tryz.laysM171_ren : Go.Shelf.Ren := ⟨fun | 171 => 44 | 243 => 73 | 246 => 90 | 283 => 118 | 284 => 119 | 285 => 120 | 286 => 121 | 129 => 133 | 317 => 132 | 318 => 134 | 319 => 135 | 320 => 136 | 337 => 149 | 338 => 150 | n => n, fun | 3 => 3 | 9 => 9 | 2 => 2 | 4 => 4 | 171 => 178 | 0 => 0 | 53 => 121 | 37 => 54 | 5 => 5 | 173 => 181 | 212 => 191 | 51 => 192 | 20 => 20 | 213 => 193 | 46 => 188 | 232 => 217 | 233 => 218 | n => n, fun | 17 => 0 | 18 => 6 | 19 => 7 | n => n⟩
theorem Tryz.laysM171 : Go.Proofs.LaysM.n171 Tryz.prog Tryz.laysM171_ren := {
  mixed := by kernel_rfl
  f129 := Tryz.func133.trans (congrArg some (by kernel_rfl))
  f171 := Tryz.func44.trans (congrArg some (by kernel_rfl))
  f243 := Tryz.func73.trans (congrArg some (by kernel_rfl))
  f246 := Tryz.func90.trans (congrArg some (by kernel_rfl))
  f283 := Tryz.func118.trans (congrArg some (by kernel_rfl))
  f284 := Tryz.func119.trans (congrArg some (by kernel_rfl))
  f285 := Tryz.func120.trans (congrArg some (by kernel_rfl))
  f286 := Tryz.func121.trans (congrArg some (by kernel_rfl))
  f317 := Tryz.func132.trans (congrArg some (by kernel_rfl))
  f318 := Tryz.func134.trans (congrArg some (by kernel_rfl))
  f319 := Tryz.func135.trans (congrArg some (by kernel_rfl))
  f320 := Tryz.func136.trans (congrArg some (by kernel_rfl))
  f337 := Tryz.func149.trans (congrArg some (by kernel_rfl))
  f338 := Tryz.func150.trans (congrArg some (by kernel_rfl))
  t0 := Tryz.underlying0
  a0 := Tryz.isAgg0
  z0 := Tryz.sizeOf0
  v0 := Tryz.zeroValue0
  t2 := Tryz.underlying2
  a2 := Tryz.isAgg2
  z2 := Tryz.sizeOf2
  v2 := Tryz.zeroValue2
  t3 := Tryz.underlying3
  a3 := Tryz.isAgg3
  z3 := Tryz.sizeOf3
  v3 := Tryz.zeroValue3
  t4 := Tryz.underlying4
  a4 := Tryz.isAgg4
  z4 := Tryz.sizeOf4
  v4 := Tryz.zeroValue4
  t5 := Tryz.underlying5
  a5 := Tryz.isAgg5
  z5 := Tryz.sizeOf5
  v5 := Tryz.zeroValue5
  t9 := Tryz.underlying9
  a9 := Tryz.isAgg9
  z9 := Tryz.sizeOf9
  v9 := Tryz.zeroValue9
  t20 := Tryz.underlying20
  a20 := Tryz.isAgg20
  z20 := Tryz.sizeOf20
  v20 := Tryz.zeroValue20
  t37 := Tryz.underlying54
  a37 := Tryz.isAgg54
  z37 := Tryz.sizeOf54
  v37 := Tryz.zeroValue54
  t46 := Tryz.underlying188
  a46 := Tryz.isAgg188
  z46 := Tryz.sizeOf188
  v46 := Tryz.zeroValue188
  t51 := Tryz.underlying192
  a51 := Tryz.isAgg192
  z51 := Tryz.sizeOf192
  v51 := Tryz.zeroValue192
  t53 := Tryz.underlying121
  a53 := Tryz.isAgg121
  z53 := Tryz.sizeOf121
  v53 := Tryz.zeroValue121
  t171 := Tryz.underlying178
  a171 := Tryz.isAgg178
  z171 := Tryz.sizeOf178
  v171 := Tryz.zeroValue178
  t173 := Tryz.underlying181
  a173 := Tryz.isAgg181
  z173 := Tryz.sizeOf181
  v173 := Tryz.zeroValue181
  t212 := Tryz.underlying191
  a212 := Tryz.isAgg191
  z212 := Tryz.sizeOf191
  v212 := Tryz.zeroValue191
  t213 := Tryz.underlying193
  a213 := Tryz.isAgg193
  z213 := Tryz.sizeOf193
  t232 := Tryz.underlying217
  a232 := Tryz.isAgg217
  z232 := Tryz.sizeOf217
  v232 := Tryz.zeroValue217
  t233 := Tryz.underlying218
  a233 := Tryz.isAgg218
  z233 := Tryz.sizeOf218
  v233 := Tryz.zeroValue218
  g17 := by kernel_rfl
  g18 := by kernel_rfl
  g19 := by kernel_rfl
  i0 := by kernel_rfl
  i2 := by kernel_rfl
  i3 := by kernel_rfl
  i4 := by kernel_rfl
  i5 := by kernel_rfl
  i9 := by kernel_rfl
  i20 := by kernel_rfl
  i37 := by kernel_rfl
  i46 := by kernel_rfl
  i51 := by kernel_rfl
  i53 := by kernel_rfl
  i171 := by kernel_rfl
  i173 := by kernel_rfl
  i212 := by kernel_rfl
  i232 := by kernel_rfl
  i233 := by kernel_rfl
  m17 := by kernel_rfl
  m18 := by kernel_rfl
  m19 := by kernel_rfl }
open Go.RowKit Go.Sort Go.Lib in
/-- strconv.Itoa: "Itoa is equivalent to FormatInt(int64(i), 10).": i's DECIMAL NUMERAL ('Lib.itoa': a '-' where i is negative, then the digits), FOR EVERY int. The world behind the call: the world before it, new blocks behind the heap (the library's 'var a [24]byte'), draws. (LAID: no walk: one application.) -/
theorem Tryz.strconv_Itoa (n : Int) (h0 : -9223372036854775808 ≤ n) (h1 : n ≤ 9223372036854775807) (w : World) (htab : Lib.TabIs Tryz.prog w "internal/strconv.uint64pow10" .u64 Lib.pow10Tab) :
    Calls Tryz.prog 44 #[.int .i64 n] w fun e w' => e = .returned (.string ⟨(Lib.itoa n).toArray⟩) ∧ ∃ k os, w' = grow (w.drewN k) os := Any.strconv_Itoa Tryz.laysM171 n h0 h1 w htab
def Tryz.laysM173_ren : Go.Shelf.Ren := ⟨fun | 173 => 57 | 246 => 90 | 283 => 118 | 284 => 119 | 285 => 120 | 286 => 121 | 129 => 133 | 317 => 132 | 318 => 134 | 319 => 135 | 320 => 136 | 337 => 149 | 338 => 150 | n => n, fun | 2 => 2 | 3 => 3 | 9 => 9 | 4 => 4 | 171 => 178 | 0 => 0 | 53 => 121 | 37 => 54 | 5 => 5 | 173 => 181 | 212 => 191 | 51 => 192 | 20 => 20 | 213 => 193 | 46 => 188 | 232 => 217 | 233 => 218 | n => n, fun | 17 => 0 | 18 => 6 | 19 => 7 | n => n⟩
theorem Tryz.laysM173 : Go.Proofs.LaysM.n173 Tryz.prog Tryz.laysM173_ren := {
  mixed := by kernel_rfl
  f129 := Tryz.func133.trans (congrArg some (by kernel_rfl))
  f173 := Tryz.func57.trans (congrArg some (by kernel_rfl))
  f246 := Tryz.func90.trans (congrArg some (by kernel_rfl))
  f283 := Tryz.func118.trans (congrArg some (by kernel_rfl))
  f284 := Tryz.func119.trans (congrArg some (by kernel_rfl))
  f285 := Tryz.func120.trans (congrArg some (by kernel_rfl))
  f286 := Tryz.func121.trans (congrArg some (by kernel_rfl))
  f317 := Tryz.func132.trans (congrArg some (by kernel_rfl))
  f318 := Tryz.func134.trans (congrArg some (by kernel_rfl))
  f319 := Tryz.func135.trans (congrArg some (by kernel_rfl))
  f320 := Tryz.func136.trans (congrArg some (by kernel_rfl))
  f337 := Tryz.func149.trans (congrArg some (by kernel_rfl))
  f338 := Tryz.func150.trans (congrArg some (by kernel_rfl))
  t0 := Tryz.underlying0
  a0 := Tryz.isAgg0
  z0 := Tryz.sizeOf0
  v0 := Tryz.zeroValue0
  t2 := Tryz.underlying2
  a2 := Tryz.isAgg2
  z2 := Tryz.sizeOf2
  v2 := Tryz.zeroValue2
  t3 := Tryz.underlying3
  a3 := Tryz.isAgg3
  z3 := Tryz.sizeOf3
  v3 := Tryz.zeroValue3
  t4 := Tryz.underlying4
  a4 := Tryz.isAgg4
  z4 := Tryz.sizeOf4
  v4 := Tryz.zeroValue4
  t5 := Tryz.underlying5
  a5 := Tryz.isAgg5
  z5 := Tryz.sizeOf5
  v5 := Tryz.zeroValue5
  t9 := Tryz.underlying9
  a9 := Tryz.isAgg9
  z9 := Tryz.sizeOf9
  v9 := Tryz.zeroValue9
  t20 := Tryz.underlying20
  a20 := Tryz.isAgg20
  z20 := Tryz.sizeOf20
  v20 := Tryz.zeroValue20
  t37 := Tryz.underlying54
  a37 := Tryz.isAgg54
  z37 := Tryz.sizeOf54
  v37 := Tryz.zeroValue54
  t46 := Tryz.underlying188
  a46 := Tryz.isAgg188
  z46 := Tryz.sizeOf188
  v46 := Tryz.zeroValue188
  t51 := Tryz.underlying192
  a51 := Tryz.isAgg192
  z51 := Tryz.sizeOf192
  v51 := Tryz.zeroValue192
  t53 := Tryz.underlying121
  a53 := Tryz.isAgg121
  z53 := Tryz.sizeOf121
  v53 := Tryz.zeroValue121
  t171 := Tryz.underlying178
  a171 := Tryz.isAgg178
  z171 := Tryz.sizeOf178
  v171 := Tryz.zeroValue178
  t173 := Tryz.underlying181
  a173 := Tryz.isAgg181
  z173 := Tryz.sizeOf181
  v173 := Tryz.zeroValue181
  t212 := Tryz.underlying191
  a212 := Tryz.isAgg191
  z212 := Tryz.sizeOf191
  v212 := Tryz.zeroValue191
  t213 := Tryz.underlying193
  a213 := Tryz.isAgg193
  z213 := Tryz.sizeOf193
  t232 := Tryz.underlying217
  a232 := Tryz.isAgg217
  z232 := Tryz.sizeOf217
  v232 := Tryz.zeroValue217
  t233 := Tryz.underlying218
  a233 := Tryz.isAgg218
  z233 := Tryz.sizeOf218
  v233 := Tryz.zeroValue218
  g17 := by kernel_rfl
  g18 := by kernel_rfl
  g19 := by kernel_rfl
  i0 := by kernel_rfl
  i2 := by kernel_rfl
  i3 := by kernel_rfl
  i4 := by kernel_rfl
  i5 := by kernel_rfl
  i9 := by kernel_rfl
  i20 := by kernel_rfl
  i37 := by kernel_rfl
  i46 := by kernel_rfl
  i51 := by kernel_rfl
  i53 := by kernel_rfl
  i171 := by kernel_rfl
  i173 := by kernel_rfl
  i212 := by kernel_rfl
  i232 := by kernel_rfl
  i233 := by kernel_rfl
  m17 := by kernel_rfl
  m18 := by kernel_rfl
  m19 := by kernel_rfl }
open Go.RowKit Go.Sort Go.Lib in
/-- strconv.FormatInt: "FormatInt returns the string representation of i in the given base": AT BASE 10: i's decimal numeral, for every int64. (LAID: no walk: one application.) -/
theorem Tryz.strconv_FormatInt_10 (n : Int) (h0 : -9223372036854775808 ≤ n) (h1 : n ≤ 9223372036854775807) (w : World) (htab : Lib.TabIs Tryz.prog w "internal/strconv.uint64pow10" .u64 Lib.pow10Tab) :
    Calls Tryz.prog 57 #[.int .i64 n, .int .i64 10] w fun e w' => e = .returned (.string ⟨(Lib.itoa n).toArray⟩) ∧ ∃ k os, w' = grow (w.drewN k) os := Any.strconv_FormatInt_10 Tryz.laysM173 n h0 h1 w htab
def Tryz.laysC174_ren : Go.Shelf.Ren := ⟨fun | 174 => 99 | 247 => 129 | 245 => 130 | 287 => 144 | 279 => 145 | 280 => 146 | 281 => 147 | 282 => 148 | 321 => 153 | 322 => 154 | 316 => 155 | 171 => 44 | 205 => 156 | 243 => 73 | 246 => 90 | 283 => 118 | 284 => 119 | 285 => 120 | 286 => 121 | 129 => 133 | 317 => 132 | 318 => 134 | 319 => 135 | 320 => 136 | 337 => 149 | 338 => 150 | n => n, fun | 9 => 9 | 3 => 3 | 2 => 2 | 75 => 150 | 85 => 158 | 4 => 4 | 167 => 199 | 5 => 5 | 53 => 121 | 175 => 200 | 46 => 188 | 168 => 202 | 37 => 54 | 0 => 0 | 210 => 215 | 21 => 21 | 127 => 183 | 145 => 221 | 143 => 219 | 171 => 178 | 173 => 181 | 212 => 191 | 51 => 192 | 20 => 20 | 213 => 193 | 232 => 217 | 233 => 218 | 80 => 74 | n => n, fun | 15 => 4 | 16 => 5 | 17 => 0 | 18 => 6 | 19 => 7 | n => n⟩
theorem Tryz.laysC174 : Go.Proofs.LaysC.n174 Tryz.prog Tryz.laysC174_ren := {
  mixed := by kernel_rfl
  f129 := Tryz.func133.trans (congrArg some (by kernel_rfl))
  f171 := Tryz.func44.trans (congrArg some (by kernel_rfl))
  f174 := Tryz.func99.trans (congrArg some (by kernel_rfl))
  f205 := Tryz.func156.trans (congrArg some (by kernel_rfl))
  f243 := Tryz.func73.trans (congrArg some (by kernel_rfl))
  f245 := Tryz.func130.trans (congrArg some (by kernel_rfl))
  f246 := Tryz.func90.trans (congrArg some (by kernel_rfl))
  f247 := Tryz.func129.trans (congrArg some (by kernel_rfl))
  f279 := Tryz.func145.trans (congrArg some (by kernel_rfl))
  f280 := Tryz.func146.trans (congrArg some (by kernel_rfl))
  f281 := Tryz.func147.trans (congrArg some (by kernel_rfl))
  f282 := Tryz.func148.trans (congrArg some (by kernel_rfl))
  f283 := Tryz.func118.trans (congrArg some (by kernel_rfl))
  f284 := Tryz.func119.trans (congrArg some (by kernel_rfl))
  f285 := Tryz.func120.trans (congrArg some (by kernel_rfl))
  f286 := Tryz.func121.trans (congrArg some (by kernel_rfl))
  f287 := Tryz.func144.trans (congrArg some (by kernel_rfl))
  f316 := Tryz.func155.trans (congrArg some (by kernel_rfl))
  f317 := Tryz.func132.trans (congrArg some (by kernel_rfl))
  f318 := Tryz.func134.trans (congrArg some (by kernel_rfl))
  f319 := Tryz.func135.trans (congrArg some (by kernel_rfl))
  f320 := Tryz.func136.trans (congrArg some (by kernel_rfl))
  f321 := Tryz.func153.trans (congrArg some (by kernel_rfl))
  f322 := Tryz.func154.trans (congrArg some (by kernel_rfl))
  f337 := Tryz.func149.trans (congrArg some (by kernel_rfl))
  f338 := Tryz.func150.trans (congrArg some (by kernel_rfl))
  t0 := Tryz.underlying0
  a0 := Tryz.isAgg0
  z0 := Tryz.sizeOf0
  v0 := Tryz.zeroValue0
  t2 := Tryz.underlying2
  a2 := Tryz.isAgg2
  z2 := Tryz.sizeOf2
  v2 := Tryz.zeroValue2
  t3 := Tryz.underlying3
  a3 := Tryz.isAgg3
  z3 := Tryz.sizeOf3
  v3 := Tryz.zeroValue3
  t4 := Tryz.underlying4
  a4 := Tryz.isAgg4
  z4 := Tryz.sizeOf4
  v4 := Tryz.zeroValue4
  t5 := Tryz.underlying5
  a5 := Tryz.isAgg5
  z5 := Tryz.sizeOf5
  v5 := Tryz.zeroValue5
  t9 := Tryz.underlying9
  a9 := Tryz.isAgg9
  z9 := Tryz.sizeOf9
  v9 := Tryz.zeroValue9
  t20 := Tryz.underlying20
  a20 := Tryz.isAgg20
  z20 := Tryz.sizeOf20
  v20 := Tryz.zeroValue20
  t21 := Tryz.underlying21
  a21 := Tryz.isAgg21
  z21 := Tryz.sizeOf21
  v21 := Tryz.zeroValue21
  t37 := Tryz.underlying54
  a37 := Tryz.isAgg54
  z37 := Tryz.sizeOf54
  v37 := Tryz.zeroValue54
  t46 := Tryz.underlying188
  a46 := Tryz.isAgg188
  z46 := Tryz.sizeOf188
  v46 := Tryz.zeroValue188
  t51 := Tryz.underlying192
  a51 := Tryz.isAgg192
  z51 := Tryz.sizeOf192
  v51 := Tryz.zeroValue192
  t53 := Tryz.underlying121
  a53 := Tryz.isAgg121
  z53 := Tryz.sizeOf121
  v53 := Tryz.zeroValue121
  t75 := Tryz.underlying150
  a75 := Tryz.isAgg150
  z75 := Tryz.sizeOf150
  v75 := Tryz.zeroValue150
  t85 := Tryz.underlying158
  a85 := Tryz.isAgg158
  z85 := Tryz.sizeOf158
  v85 := Tryz.zeroValue158
  t127 := Tryz.underlying183
  a127 := Tryz.isAgg183
  z127 := Tryz.sizeOf183
  v127 := Tryz.zeroValue183
  t143 := Tryz.underlying219
  a143 := Tryz.isAgg219
  z143 := Tryz.sizeOf219
  v143 := Tryz.zeroValue219
  t145 := Tryz.underlying221
  a145 := Tryz.isAgg221
  z145 := Tryz.sizeOf221
  v145 := Tryz.zeroValue221
  t167 := Tryz.underlying199
  a167 := Tryz.isAgg199
  z167 := Tryz.sizeOf199
  v167 := Tryz.zeroValue199
  t168 := Tryz.underlying202
  a168 := Tryz.isAgg202
  z168 := Tryz.sizeOf202
  v168 := Tryz.zeroValue202
  t171 := Tryz.underlying178
  a171 := Tryz.isAgg178
  z171 := Tryz.sizeOf178
  v171 := Tryz.zeroValue178
  t173 := Tryz.underlying181
  a173 := Tryz.isAgg181
  z173 := Tryz.sizeOf181
  v173 := Tryz.zeroValue181
  t175 := Tryz.underlying200
  a175 := Tryz.isAgg200
  z175 := Tryz.sizeOf200
  v175 := Tryz.zeroValue200
  t210 := Tryz.underlying215
  a210 := Tryz.isAgg215
  z210 := Tryz.sizeOf215
  v210 := Tryz.zeroValue215
  t212 := Tryz.underlying191
  a212 := Tryz.isAgg191
  z212 := Tryz.sizeOf191
  v212 := Tryz.zeroValue191
  t213 := Tryz.underlying193
  a213 := Tryz.isAgg193
  z213 := Tryz.sizeOf193
  t232 := Tryz.underlying217
  a232 := Tryz.isAgg217
  z232 := Tryz.sizeOf217
  v232 := Tryz.zeroValue217
  t233 := Tryz.underlying218
  a233 := Tryz.isAgg218
  z233 := Tryz.sizeOf218
  v233 := Tryz.zeroValue218
  g15 := by kernel_rfl
  g16 := by kernel_rfl
  g17 := by kernel_rfl
  g18 := by kernel_rfl
  g19 := by kernel_rfl
  t80 := Tryz.underlying74
  a80 := Tryz.isAgg74
  z80 := Tryz.sizeOf74
  v80 := Tryz.zeroValue74
  i0 := by kernel_rfl
  i2 := by kernel_rfl
  i3 := by kernel_rfl
  i4 := by kernel_rfl
  i5 := by kernel_rfl
  i9 := by kernel_rfl
  i20 := by kernel_rfl
  i21 := by kernel_rfl
  i37 := by kernel_rfl
  i46 := by kernel_rfl
  i51 := by kernel_rfl
  i53 := by kernel_rfl
  i75 := by kernel_rfl
  i80 := by kernel_rfl
  i85 := by kernel_rfl
  i127 := by kernel_rfl
  i143 := by kernel_rfl
  i145 := by kernel_rfl
  i167 := by kernel_rfl
  i168 := by kernel_rfl
  i171 := by kernel_rfl
  i173 := by kernel_rfl
  i175 := by kernel_rfl
  i210 := by kernel_rfl
  i212 := by kernel_rfl
  i232 := by kernel_rfl
  i233 := by kernel_rfl
  m15 := by kernel_rfl
  m16 := by kernel_rfl
  m17 := by kernel_rfl
  m18 := by kernel_rfl
  m19 := by kernel_rfl
  c0 := by kernel_rfl
  c2 := by kernel_rfl
  c3 := by kernel_rfl
  c4 := by kernel_rfl
  c5 := by kernel_rfl
  c9 := by kernel_rfl
  c20 := by kernel_rfl
  c21 := by kernel_rfl
  c37 := by kernel_rfl
  c46 := by kernel_rfl
  c51 := by kernel_rfl
  c53 := by kernel_rfl
  c75 := by kernel_rfl
  c80 := by kernel_rfl
  c85 := by kernel_rfl
  c127 := by kernel_rfl
  c143 := by kernel_rfl
  c145 := by kernel_rfl
  c167 := by kernel_rfl
  c168 := by kernel_rfl
  c171 := by kernel_rfl
  c173 := by kernel_rfl
  c175 := by kernel_rfl
  c210 := by kernel_rfl
  c212 := by kernel_rfl
  c213 := by kernel_rfl
  c232 := by kernel_rfl
  c233 := by kernel_rfl }
open Go.RowKit in
/-- strconv.ParseInt(s, 10, 64), AT EVERY STRING THAT SPELLS AN int64 ('Lib.parseIntB 64 s.data.toList = .ok v'): v, AND NO ERROR. (LAID: no walk: one application.) -/
theorem Tryz.strconv_ParseInt_10_at64_ok (s : ByteArray) (hmax : s.size ≤ 9223372036854775806) (v : Int) (h : Lib.parseIntB 64 s.data.toList = .ok v) (w : World) :
    Calls Tryz.prog 99 #[.string s, .int .i64 10, .int .i64 64] w fun e w' => e = .returned (.tuple #[.int .i64 v, .nilIface]) ∧ (w' = w ∨ ∃ t, w' = Lib.bytesWorld w 5 t) := Any.strconv_ParseInt_10_at64_ok Tryz.laysC174 s hmax v h w
open Go.RowKit in
theorem Tryz.strconv_ParseInt_10_at64_syntax_var (s : ByteArray) (hlim : s.size ≤ 281474976710656) (h : Lib.parseIntB 64 s.data.toList = Lib.parseIntB 64 []) (tp : TypeId) (p : Value) (w : World) (hvar : w.var? Tryz.prog "strconv.ErrSyntax" = some #[.iface tp p]) :
    Calls Tryz.prog 99 #[.string s, .int .i64 10, .int .i64 64] w fun e w' => ∃ N, e = .returned (.tuple #[.int .i64 (0), .iface 202 (.pointer (some ⟨N, 0, none⟩))]) ∧ w.heap.size ≤ N ∧ w'.heap[N]? = some (.cells #[.string ⟨#[80, 97, 114, 115, 101, 73, 110, 116]⟩, .string s, .iface tp p] 215 (0, 0)) ∧ Below w.heap.size w w' := Any.strconv_ParseInt_10_at64_syntax_var Tryz.laysC174 s hlim (h.trans rfl) tp p w hvar
open Go.RowKit in
theorem Tryz.strconv_ParseInt_10_at64_range_var (s : ByteArray) (hlim : s.size ≤ 281474976710656) (h : Lib.parseIntB 64 s.data.toList = .range) (tp : TypeId) (p : Value) (w : World) (hvar : w.var? Tryz.prog "strconv.ErrRange" = some #[.iface tp p]) :
    Calls Tryz.prog 99 #[.string s, .int .i64 10, .int .i64 64] w fun e w' => ∃ N, e = .returned (.tuple #[.int .i64 (Lib.intSat 64 s.data.toList), .iface 202 (.pointer (some ⟨N, 0, none⟩))]) ∧ w.heap.size ≤ N ∧ w'.heap[N]? = some (.cells #[.string ⟨#[80, 97, 114, 115, 101, 73, 110, 116]⟩, .string s, .iface tp p] 215 (0, 0)) ∧ Below w.heap.size w w' := Any.strconv_ParseInt_10_at64_range_var Tryz.laysC174 s hlim h tp p w hvar
def Tryz.lays145_ren : Go.Shelf.Ren := ⟨fun | 145 => 100 | 220 => 131 | 219 => 128 | 217 => 140 | 225 => 141 | 224 => 142 | 267 => 143 | 266 => 151 | 314 => 152 | n => n, fun | 9 => 9 | 4 => 4 | 59 => 160 | 3 => 3 | 5 => 5 | 46 => 188 | 146 => 210 | 51 => 192 | n => n, fun | 1 => 1 | n => n⟩
theorem Tryz.lays145 : Go.Proofs.Lays.n145 Tryz.prog Tryz.lays145_ren := {
  mixed := by kernel_rfl
  f145 := Tryz.func100.trans (congrArg some (by kernel_rfl))
  f217 := Tryz.func140.trans (congrArg some (by kernel_rfl))
  f219 := Tryz.func128.trans (congrArg some (by kernel_rfl))
  f220 := Tryz.func131.trans (congrArg some (by kernel_rfl))
  f224 := Tryz.func142.trans (congrArg some (by kernel_rfl))
  f225 := Tryz.func141.trans (congrArg some (by kernel_rfl))
  f266 := Tryz.func151.trans (congrArg some (by kernel_rfl))
  f267 := Tryz.func143.trans (congrArg some (by kernel_rfl))
  f314 := Tryz.func152.trans (congrArg some (by kernel_rfl))
  t3 := Tryz.underlying3
  a3 := Tryz.isAgg3
  z3 := Tryz.sizeOf3
  v3 := Tryz.zeroValue3
  t4 := Tryz.underlying4
  a4 := Tryz.isAgg4
  z4 := Tryz.sizeOf4
  v4 := Tryz.zeroValue4
  t5 := Tryz.underlying5
  a5 := Tryz.isAgg5
  z5 := Tryz.sizeOf5
  v5 := Tryz.zeroValue5
  t9 := Tryz.underlying9
  a9 := Tryz.isAgg9
  z9 := Tryz.sizeOf9
  v9 := Tryz.zeroValue9
  t46 := Tryz.underlying188
  a46 := Tryz.isAgg188
  z46 := Tryz.sizeOf188
  v46 := Tryz.zeroValue188
  t51 := Tryz.underlying192
  a51 := Tryz.isAgg192
  z51 := Tryz.sizeOf192
  v51 := Tryz.zeroValue192
  t59 := Tryz.underlying160
  a59 := Tryz.isAgg160
  z59 := Tryz.sizeOf160
  v59 := Tryz.zeroValue160
  t146 := Tryz.underlying210
  a146 := Tryz.isAgg210
  z146 := Tryz.sizeOf210
  v146 := Tryz.zeroValue210
  g1 := by kernel_rfl }
open Go.RowKit Go.Lib in
/-- strings.Cut: "Cut slices s around the first instance of sep, returning the text before and after sep. The found result reports whether sep appears in s. If sep does not appear in s, cut returns s, "", false.": IT RETURNS 'Lib.cut s sep'; the world is as it was but for the count of draws. (LAID: no walk: one application.) -/
theorem Tryz.strings_Cut (s sep : ByteArray) (m : Int) (w : World) (hs : s.size < 4294967281) (hm : w.cell? ⟨1, 0, none⟩ = some (.int .i64 m)) :
    Calls Tryz.prog 100 #[.string s, .string sep] w fun e w' => e = .returned (.tuple #[.string ⟨(Lib.cut s.data.toList sep.data.toList).1.toArray⟩, .string ⟨(Lib.cut s.data.toList sep.data.toList).2.1.toArray⟩, .bool (Lib.cut s.data.toList sep.data.toList).2.2]) ∧ ∃ n, w' = w.drewN n := Any.strings_Cut Tryz.lays145 s sep m w hs hm
def Tryz.lays146_ren : Go.Shelf.Ren := ⟨fun | 146 => 35 | 221 => 63 | 268 => 96 | 138 => 97 | 143 => 98 | 195 => 125 | 197 => 126 | 218 => 127 | 219 => 128 | 260 => 139 | 217 => 140 | 225 => 141 | 224 => 142 | 267 => 143 | 266 => 151 | 314 => 152 | n => n, fun | 9 => 9 | 31 => 39 | 3 => 3 | 4 => 4 | 0 => 0 | 105 => 184 | 21 => 21 | 5 => 5 | 46 => 188 | 119 => 206 | 139 => 209 | 138 => 208 | 146 => 210 | 51 => 192 | n => n, fun | 1 => 1 | 3 => 2 | 4 => 3 | n => n⟩
theorem Tryz.lays146 : Go.Proofs.Lays.n146 Tryz.prog Tryz.lays146_ren := {
  mixed := by kernel_rfl
  f138 := Tryz.func97.trans (congrArg some (by kernel_rfl))
  f143 := Tryz.func98.trans (congrArg some (by kernel_rfl))
  f146 := Tryz.func35.trans (congrArg some (by kernel_rfl))
  f195 := Tryz.func125.trans (congrArg some (by kernel_rfl))
  f197 := Tryz.func126.trans (congrArg some (by kernel_rfl))
  f217 := Tryz.func140.trans (congrArg some (by kernel_rfl))
  f218 := Tryz.func127.trans (congrArg some (by kernel_rfl))
  f219 := Tryz.func128.trans (congrArg some (by kernel_rfl))
  f221 := Tryz.func63.trans (congrArg some (by kernel_rfl))
  f224 := Tryz.func142.trans (congrArg some (by kernel_rfl))
  f225 := Tryz.func141.trans (congrArg some (by kernel_rfl))
  f260 := Tryz.func139.trans (congrArg some (by kernel_rfl))
  f266 := Tryz.func151.trans (congrArg some (by kernel_rfl))
  f267 := Tryz.func143.trans (congrArg some (by kernel_rfl))
  f268 := Tryz.func96.trans (congrArg some (by kernel_rfl))
  f314 := Tryz.func152.trans (congrArg some (by kernel_rfl))
  t0 := Tryz.underlying0
  a0 := Tryz.isAgg0
  z0 := Tryz.sizeOf0
  v0 := Tryz.zeroValue0
  t3 := Tryz.underlying3
  a3 := Tryz.isAgg3
  z3 := Tryz.sizeOf3
  v3 := Tryz.zeroValue3
  t4 := Tryz.underlying4
  a4 := Tryz.isAgg4
  z4 := Tryz.sizeOf4
  v4 := Tryz.zeroValue4
  t5 := Tryz.underlying5
  a5 := Tryz.isAgg5
  z5 := Tryz.sizeOf5
  v5 := Tryz.zeroValue5
  t9 := Tryz.underlying9
  a9 := Tryz.isAgg9
  z9 := Tryz.sizeOf9
  v9 := Tryz.zeroValue9
  t21 := Tryz.underlying21
  a21 := Tryz.isAgg21
  z21 := Tryz.sizeOf21
  v21 := Tryz.zeroValue21
  t31 := Tryz.underlying39
  a31 := Tryz.isAgg39
  z31 := Tryz.sizeOf39
  v31 := Tryz.zeroValue39
  t46 := Tryz.underlying188
  a46 := Tryz.isAgg188
  z46 := Tryz.sizeOf188
  v46 := Tryz.zeroValue188
  t51 := Tryz.underlying192
  a51 := Tryz.isAgg192
  z51 := Tryz.sizeOf192
  v51 := Tryz.zeroValue192
  t105 := Tryz.underlying184
  a105 := Tryz.isAgg184
  z105 := Tryz.sizeOf184
  v105 := Tryz.zeroValue184
  t119 := Tryz.underlying206
  a119 := Tryz.isAgg206
  z119 := Tryz.sizeOf206
  t138 := Tryz.underlying208
  a138 := Tryz.isAgg208
  z138 := Tryz.sizeOf208
  v138 := Tryz.zeroValue208
  t139 := Tryz.underlying209
  a139 := Tryz.isAgg209
  z139 := Tryz.sizeOf209
  v139 := Tryz.zeroValue209
  t146 := Tryz.underlying210
  a146 := Tryz.isAgg210
  z146 := Tryz.sizeOf210
  v146 := Tryz.zeroValue210
  g1 := by kernel_rfl
  g3 := by kernel_rfl
  g4 := by kernel_rfl }
open Go.RowKit Go.Lib in
/-- strings.Split. (LAID: no walk: one application.) -/
theorem Tryz.strings_Split (s sep : ByteArray) (m : Int) (w : World) (hs : s.size < 4294967281) (hm : w.cell? ⟨1, 0, none⟩ = some (.int .i64 m)) (h1 : 1 ≤ sep.size) :
    Calls Tryz.prog 35 #[.string s, .string sep] w fun e w' =>
      e = .returned (.slice (some ⟨w.heap.size, 0, none⟩) (Lib.countB s sep + 1) (Lib.countB s sep + 1)) ∧ w' = w.alloc (.cells ((Lib.splitB sep 0 (Lib.countB s sep) s).map Value.string).toArray 9) := Any.strings_Split Tryz.lays146 (by kernel_rfl) s sep m w hs hm h1
end Go.Proofs
namespace Go.Proofs.YtbfjeejgkceedaaGreatDoor
open Go.RX

/-! The library's functions, as data. -/
def decF : Nat → Nat → List UInt8
  | 0, _ => []
  | f + 1, u => if u < 10 then [UInt8.ofNat (48 + u)] else decF f (u / 10) ++ [UInt8.ofNat (48 + u % 10)]
theorem decF_eq : ∀ (f u : Nat), u < 10 ^ f → 0 < f → decF f u = Lib.decDigits u
  | 0, _, _, h => by omega
  | f + 1, u, h, _ => by
    rw [decF, Lib.decDigits]
    split
    · rename_i h1; rfl
    · rename_i h1
      have hf : 0 < f := by
        cases f with
        | zero => simp at h; omega
        | succ f => omega
      rw [decF_eq f (u / 10) (by rw [Nat.pow_succ] at h; omega) hf]
def itoaS (n : Int) : List UInt8 := if n < 0 then 45 :: decF 20 n.natAbs else decF 20 n.toNat
theorem itoaS_eq {n : Int} (h0 : -9223372036854775808 ≤ n) (h1 : n ≤ 9223372036854775807) : itoaS n = Lib.itoa n := by
  unfold itoaS Lib.itoa
  rw [decF_eq 20 n.natAbs (by omega) (by omega), decF_eq 20 n.toNat (by omega) (by omega)]

def F10035 : List D → Option (Nat × List D)
  | [.str s, .str sep] => if s.length < 4294967281 ∧ 1 ≤ sep.length then some (0, [D.strs (Lib.split s sep)]) else none
  | _ => none
def F10044 : List D → Option (Nat × List D)
  | [.int n] => some (0, [.str (itoaS n)])
  | _ => none
def F10057 : List D → Option (Nat × List D)
  | [.int n, .int b] => if b = 10 then some (0, [.str (itoaS n)]) else none
  | _ => none
def F10058 : List D → Option (Nat × List D)
  | [.sl es, .str sep] => if (Lib.join (D.ofStrs es) sep).length ≤ 140737488355328 then some (0, [.str (Lib.join (D.ofStrs es) sep)]) else none
  | _ => none
def F10099 : List D → Option (Nat × List D)
  | [.str s, .int b, .int z] => if b = 10 ∧ z = 64 ∧ s.length ≤ 281474976710656 then
      match Lib.parseIntB 64 s with
      | .ok v => if -9223372036854775808 ≤ v ∧ v ≤ 9223372036854775807 then some (0, [.int v]) else none
      | .range => some (1, [.int (Lib.intSat 64 s)])
      | _ => some (1, [.int 0])
    else none
  | _ => none
def F10100 : List D → Option (Nat × List D)
  | [.str s, .str sep] => if s.length < 4294967281 then some (0, [.str (Lib.cut s sep).1, .str (Lib.cut s sep).2.1, .bool (Lib.cut s sep).2.2]) else none
  | _ => none
def F10106 : List D → Option (Nat × List D) := cloneF

/-- what the first world holds -/
structure LibOk (W0 : World) : Prop where
  pow : Lib.TabIs Tryz.prog W0 "internal/strconv.uint64pow10" .u64 Lib.pow10Tab
  es : ∃ tp p, W0.var? Tryz.prog "strconv.ErrSyntax" = some #[.iface tp p]
  er : ∃ tp p, W0.var? Tryz.prog "strconv.ErrRange" = some #[.iface tp p]
  max : ∃ m, W0.cell? ⟨1, 0, none⟩ = some (.int .i64 m)

theorem u9 : Tryz.prog.underlying 9 = some .string := by kernel_rfl
theorem u3 : Tryz.prog.underlying 3 = some (.int .i64) := by kernel_rfl
theorem u2 : Tryz.prog.underlying 2 = some (.int .i64) := by kernel_rfl
theorem u4 : Tryz.prog.underlying 4 = some .bool := by kernel_rfl
theorem u39 : Tryz.prog.underlying 39 = some (.slice 9) := by kernel_rfl
theorem u54 : Tryz.prog.underlying 54 = some (.slice 5) := by kernel_rfl

section
variable {P : Program} {w : World} {av : Av}
theorem repL1 {t : TypeId} {vs : List Value} {ds : List D} (h : RepL P w av [t] vs ds) : ∃ v d, vs = [v] ∧ ds = [d] ∧ Rep P w av t v d := by
  cases h with
  | cons r l => cases l; exact ⟨_, _, rfl, rfl, r⟩
theorem repL2 {t u : TypeId} {vs : List Value} {ds : List D} (h : RepL P w av [t, u] vs ds) : ∃ v d v' d', vs = [v, v'] ∧ ds = [d, d'] ∧ Rep P w av t v d ∧ Rep P w av u v' d' := by
  cases h with
  | cons r l => obtain ⟨v, d, rfl, rfl, h⟩ := repL1 l; exact ⟨_, _, _, _, rfl, rfl, r, h⟩
theorem repL3 {t u x : TypeId} {vs : List Value} {ds : List D} (h : RepL P w av [t, u, x] vs ds) : ∃ v d v' d' v'' d'', vs = [v, v', v''] ∧ ds = [d, d', d''] ∧ Rep P w av t v d ∧ Rep P w av u v' d' ∧ Rep P w av x v'' d'' := by
  cases h with
  | cons r l => obtain ⟨v, d, v', d', rfl, rfl, h1, h2⟩ := repL2 l; exact ⟨_, _, _, _, _, _, rfl, rfl, r, h1, h2⟩
theorem bsize (l : List UInt8) : (⟨l.toArray⟩ : ByteArray).size = l.length := by simp [ByteArray.size]
theorem bdata (l : List UInt8) : (⟨l.toArray⟩ : ByteArray).data.toList = l := by simp
theorem str_len {t : TypeId} (ht : P.underlying t = some .string) {v : Value} {d : D} (h : Rep P w av t v d) : d.toStr.length ≤ 9223372036854775807 := by have := (h.ofStr ht).2.2; omega
end

theorem splitK_le {sep : List UInt8} : ∀ (k : Nat) (s : List UInt8) {x : List UInt8}, x ∈ Lib.splitK sep 0 k s → x.length ≤ s.length
  | 0, s, x, h => by simp [Lib.splitK] at h; subst h; exact Nat.le_refl _
  | k + 1, s, x, h => by
    unfold Lib.splitK at h
    split at h
    · simp at h; subst h; exact Nat.le_refl _
    · rcases List.mem_cons.1 h with rfl | h
      · rw [List.length_take]; omega
      · have := splitK_le k _ h
        rw [List.length_drop] at this; omega
section
variable {W0 : World}

theorem con10057 (L : LibOk W0) : Con Tryz.prog W0 c10057.f c10057.sg F10057 := by
  refine Con.flat (ts := [2, 3]) rfl rfl rfl (by kernel_rfl) (fun ρ j rs hF => ?_) (fun w av vs ds j rs out h1 h2 hl hF ho => ?_)
  · unfold F10057 at hF
    split at hF
    · split at hF
      · cases hF; exact ⟨_, rfl, rfl, rfl⟩
      · cases hF
    · cases hF
  · obtain ⟨v, d, v', d', rfl, rfl, r1, r2⟩ := repL2 hl
    obtain ⟨e1, e2, b1, b2⟩ := r1.ofInt u2
    obtain ⟨e3, e4, _⟩ := r2.ofInt u3
    rw [e2, e4] at hF
    simp only [F10057] at hF
    split at hF
    · rename_i hb
      cases hF
      cases ho
      rw [e1, e3, hb]
      have hi0 : -9223372036854775808 ≤ d.toInt := b1
      have hi1 : d.toInt ≤ 9223372036854775807 := b2
      refine (Tryz.strconv_FormatInt_10 d.toInt hi0 hi1 w (var?_keep h1 h2 L.pow)).mono ?_
      rintro e w' ⟨rfl, k, os, rfl⟩
      refine ⟨_, rfl, (Ext.drewN w k).then (Ext.grow _ os), fun av m => ?_⟩
      simp only [RepS]
      show Rep Tryz.prog _ av 9 _ (.str (itoaS d.toInt))
      rw [itoaS_eq hi0 hi1]
      exact .str u9 (by have := Lib.itoa_length_le d.toInt hi0 hi1; omega)
    · cases hF
theorem con10044 (L : LibOk W0) : Con Tryz.prog W0 c10044.f c10044.sg F10044 := by
  refine Con.flat (ts := [3]) rfl rfl rfl (by kernel_rfl) (fun ρ j rs hF => ?_) (fun w av vs ds j rs out h1 h2 hl hF ho => ?_)
  · unfold F10044 at hF
    split at hF
    · cases hF; exact ⟨_, rfl, rfl, rfl⟩
    · cases hF
  · obtain ⟨v, d, rfl, rfl, r1⟩ := repL1 hl
    obtain ⟨e1, e2, b1, b2⟩ := r1.ofInt u3
    rw [e2] at hF
    simp only [F10044] at hF
    cases hF
    cases ho
    rw [e1]
    have hi0 : -9223372036854775808 ≤ d.toInt := b1
    have hi1 : d.toInt ≤ 9223372036854775807 := b2
    refine (Tryz.strconv_Itoa d.toInt hi0 hi1 w (var?_keep h1 h2 L.pow)).mono ?_
    rintro e w' ⟨rfl, k, os, rfl⟩
    refine ⟨_, rfl, (Ext.drewN w k).then (Ext.grow _ os), fun av m => ?_⟩
    simp only [RepS]
    show Rep Tryz.prog _ av 9 _ (.str (itoaS d.toInt))
    rw [itoaS_eq hi0 hi1]
    exact .str u9 (by have := Lib.itoa_length_le d.toInt hi0 hi1; omega)
theorem con10100 (L : LibOk W0) : Con Tryz.prog W0 c10100.f c10100.sg F10100 := by
  refine Con.flat (ts := [9, 9]) rfl rfl rfl (by kernel_rfl) (fun ρ j rs hF => ?_) (fun w av vs ds j rs out h1 h2 hl hF ho => ?_)
  · unfold F10100 at hF
    split at hF
    · split at hF
      · cases hF; exact ⟨_, rfl, rfl, rfl⟩
      · cases hF
    · cases hF
  · obtain ⟨v, d, v', d', rfl, rfl, r1, r2⟩ := repL2 hl
    obtain ⟨e1, e2, b1⟩ := r1.ofStr u9
    obtain ⟨e3, e4, b2⟩ := r2.ofStr u9
    rw [e2, e4] at hF
    simp only [F10100] at hF
    split at hF
    · rename_i hb
      cases hF
      cases ho
      rw [e1, e3]
      obtain ⟨m, hm⟩ := L.max
      refine (Tryz.strings_Cut ⟨d.toStr.toArray⟩ ⟨d'.toStr.toArray⟩ m w (by rw [bsize]; exact hb) (cell?_keep h2 hm)).mono ?_
      rintro e w' ⟨rfl, k, rfl⟩
      have l1 : (Lib.cut d.toStr d'.toStr).1.length ≤ d.toStr.length ∧ (Lib.cut d.toStr d'.toStr).2.1.length ≤ d.toStr.length := by
        unfold Lib.cut; split <;> simp <;> omega
      refine ⟨_, rfl, Ext.drewN w k, fun av m => ?_⟩
      simp only [RepS]
      refine ⟨_, rfl, (repSL_ofL (ss := [_, _, _])).2 ⟨?_, ?_, ?_, trivial⟩⟩
      · exact .str u9 (by omega)
      · exact .str u9 (by omega)
      · exact .bool u4
    · cases hF
theorem con10099 (L : LibOk W0) : Con Tryz.prog W0 c10099.f c10099.sg F10099 := by
  refine Con.flat (ts := [9, 3, 3]) rfl rfl rfl (by kernel_rfl) (fun ρ j rs hF => ?_) (fun w av vs ds j rs out h1 h2 hl hF ho => ?_)
  · unfold F10099 at hF
    split at hF
    · split at hF
      · split at hF
        · split at hF
          · cases hF; exact ⟨_, rfl, rfl, rfl⟩
          · cases hF
        · cases hF; exact ⟨_, rfl, rfl, rfl⟩
        · cases hF; exact ⟨_, rfl, rfl, rfl⟩
      · cases hF
    · cases hF
  · obtain ⟨v, d, v', d', v'', d'', rfl, rfl, r1, r2, r3⟩ := repL3 hl
    obtain ⟨e1, e2, b1⟩ := r1.ofStr u9
    obtain ⟨e3, e4, _⟩ := r2.ofInt u3
    obtain ⟨e5, e6, _⟩ := r3.ofInt u3
    rw [e2, e4, e6] at hF
    simp only [F10099] at hF
    split at hF
    · rename_i hb
      obtain ⟨hb1, hb2, hb3⟩ := hb
      rw [e1, e3, e5, hb1, hb2]
      split at hF
      · rename_i n hn
        split at hF
        · rename_i hr
          cases hF
          cases ho
          refine (Tryz.strconv_ParseInt_10_at64_ok ⟨d.toStr.toArray⟩ (by rw [bsize]; omega) n (by rw [bdata]; exact hn) w).mono ?_
          rintro e w' ⟨rfl, hw⟩
          refine ⟨_, rfl, ?_, fun av m => ?_⟩
          · rcases hw with rfl | ⟨t, rfl⟩
            · exact Ext.refl _ _
            · exact Ext.below (Lib.bytesWorld_below w 5 t)
          · simp only [RepS]
            exact ⟨_, rfl, (repSL_ofL (ss := [_, _])).2 ⟨.int u2 hr.1 hr.2, rfl, trivial⟩⟩
        · cases hF
      · rename_i hn
        cases hF
        cases ho
        obtain ⟨tp, p, hv⟩ := L.er
        refine (Tryz.strconv_ParseInt_10_at64_range_var ⟨d.toStr.toArray⟩ (by rw [bsize]; omega) (by rw [bdata]; exact hn) tp p w (var?_keep h1 h2 hv)).mono ?_
        rintro e w' ⟨N, rfl, _, _, hb⟩
        refine ⟨_, rfl, Ext.below hb, fun av m => ?_⟩
        simp only [RepS]
        have hs : Lib.intSat 64 d.toStr = -9223372036854775808 ∨ Lib.intSat 64 d.toStr = 9223372036854775807 := by
          unfold Lib.intSat; split
          · left; rfl
          · right; rfl
        exact ⟨_, rfl, (repSL_ofL (ss := [_, _])).2 ⟨.int u2 (show (-9223372036854775808 : Int) ≤ Lib.intSat 64 d.toStr by omega) (show Lib.intSat 64 d.toStr ≤ (9223372036854775807 : Int) by omega), ⟨_, _, rfl⟩, trivial⟩⟩
      · rename_i hn1 hn2
        have hn : Lib.parseIntB 64 d.toStr = Lib.parseIntB 64 [] := by
          rcases h : Lib.parseIntB 64 d.toStr with n | _ | _
          · exact (hn1 n h).elim
          · first | rfl | exact (hn2 h).elim
          · first | rfl | exact (hn2 h).elim
        cases hF
        cases ho
        obtain ⟨tp, p, hv⟩ := L.es
        refine (Tryz.strconv_ParseInt_10_at64_syntax_var ⟨d.toStr.toArray⟩ (by rw [bsize]; omega) (by rw [bdata]; exact hn) tp p w (var?_keep h1 h2 hv)).mono ?_
        rintro e w' ⟨N, rfl, _, _, hb⟩
        refine ⟨_, rfl, Ext.below hb, fun av m => ?_⟩
        simp only [RepS]
        exact ⟨_, rfl, (repSL_ofL (ss := [_, _])).2 ⟨.int u2 (by decide) (by decide), ⟨_, _, rfl⟩, trivial⟩⟩
    · cases hF
theorem con10035 (L : LibOk W0) : Con Tryz.prog W0 c10035.f c10035.sg F10035 := by
  have hcell : cellTys Tryz.prog 9 = [9] := by kernel_rfl
  have hF : ∀ ρ j rs, F10035 ρ = some (j, rs) → ∃ s sep, ρ = [.str s, .str sep] ∧ (s.length < 4294967281 ∧ 1 ≤ sep.length) ∧ j = 0 ∧ rs = [D.strs (Lib.split s sep)] := by
    intro ρ j rs h
    unfold F10035 at h
    split at h
    · split at h
      · cases h; exact ⟨_, _, rfl, ‹_›, rfl, rfl⟩
      · cases h
    · cases h
  refine Con.oneRow (ts := [9, 9]) (e := 9) rfl rfl rfl (by kernel_rfl) rfl (fun ρ j rs h => ?_) (fun w av vs ds es h1 h2 hl h => ?_)
  · obtain ⟨s, sep, rfl, ⟨g1, g2⟩, rfl, rfl⟩ := hF ρ j rs h
    have hc := Lib.count_le s sep
    have hlen := Lib.splitB_all ⟨sep.toArray⟩ (by rw [bsize]; exact g2) 0 _ ⟨s.toArray⟩ rfl
    have hmap : (Lib.splitB ⟨sep.toArray⟩ 0 (Lib.countB ⟨s.toArray⟩ ⟨sep.toArray⟩) ⟨s.toArray⟩).map (·.data.toList) = Lib.split s sep := by
      rw [Lib.splitB_data]; rfl
    have hl : (Lib.split s sep).length = Lib.count s sep + 1 := by
      rw [← hmap, List.length_map, hlen]
    refine ⟨rfl, _, rfl, ⟨?_, fun b hb => ?_⟩, fun x hx => ?_⟩
    · rw [List.length_map, hl]; omega
    · have hb' : b = 16 := by
        have : bytesOf' Tryz.prog 9 = some 16 := by kernel_rfl
        rw [this] at hb; cases hb; rfl
      rw [List.length_map, hl, hb']; omega
    · obtain ⟨y, _, rfl⟩ := List.mem_map.1 hx
      rw [hcell]; rfl
  · obtain ⟨s, sep, hds, ⟨g1, g2⟩, _, hes⟩ := hF _ _ _ h
    obtain ⟨v, d, v', d', rfl, rfl, r1, r2⟩ := repL2 hl
    simp only [List.cons.injEq, and_true] at hds
    obtain ⟨rfl, rfl⟩ := hds
    obtain ⟨e1, _, b1⟩ := r1.ofStr u9
    obtain ⟨e3, _, b2⟩ := r2.ofStr u9
    simp only [D.toStr] at e1 e3
    subst e1; subst e3
    have hes' : es = (Lib.split s sep).map fun x => [D.str x] := by
      simpa [D.strs] using hes
    subst hes'
    obtain ⟨m, hm⟩ := L.max
    refine (Tryz.strings_Split ⟨s.toArray⟩ ⟨sep.toArray⟩ m w (by rw [bsize]; exact g1) (cell?_keep h2 hm) (by rw [bsize]; exact g2)).mono ?_
    rintro e' w' ⟨rfl, rfl⟩
    have hmap : (Lib.splitB ⟨sep.toArray⟩ 0 (Lib.countB ⟨s.toArray⟩ ⟨sep.toArray⟩) ⟨s.toArray⟩).map (·.data.toList) = Lib.split s sep := by
      rw [Lib.splitB_data]; simp [Lib.split, Lib.countB]
    have hlen := Lib.splitB_all ⟨sep.toArray⟩ (by rw [bsize]; exact g2) 0 _ ⟨s.toArray⟩ rfl
    generalize Lib.splitB ⟨sep.toArray⟩ 0 (Lib.countB ⟨s.toArray⟩ ⟨sep.toArray⟩) ⟨s.toArray⟩ = bs at hmap hlen ⊢
    rw [← hmap, ← hlen]
    have hsz : ∀ x ∈ bs, (x.data.toList.length : Int) ≤ 9223372036854775807 := by
      intro x hx
      have hm' : x.data.toList ∈ Lib.split s sep := by rw [← hmap]; exact List.mem_map.2 ⟨x, hx, rfl⟩
      have := splitK_le _ _ hm'
      omega
    refine ⟨_, bs.map Value.string, rfl, Ext.alloc w _, fun b hb => ?_, ?_, ?_, ⟨_, _, _, rfl⟩⟩
    · cases hb; exact Nat.le_refl _
    · rw [hcell, List.length_map, List.length_map]
      refine ⟨by simp, .inr ⟨_, _, _, rfl, Nat.zero_le _, heap_alloc_new w _, Nat.le_refl _, ?_, by simp, List.take_of_length_le (by simp)⟩⟩
      have hl : bs.length = Lib.count s sep + 1 := hlen
      have hc := Lib.count_le s sep
      show bs.length ≤ 9223372036854775807
      omega
    · unfold rowTys
      rw [hcell]
      have key : ∀ l : List ByteArray, (∀ x ∈ l, (x.data.toList.length : Int) ≤ 9223372036854775807) → RepL Tryz.prog w av (List.replicate ((l.map (·.data.toList)).map fun x => [D.str x]).length [9]).flatten (l.map Value.string) ((l.map (·.data.toList)).map fun x => [D.str x]).flatten := by
        intro l
        induction l with
        | nil => intro _; exact .nil
        | cons x l ih =>
          intro hx
          simp only [List.map_cons, List.length_cons, List.replicate_succ, List.flatten_cons, List.singleton_append]
          refine .cons ?_ (ih fun y hy => hx y (List.mem_cons_of_mem _ hy))
          have := Rep.str (P := Tryz.prog) (w := w) (av := av) (s := x.data.toList) u9 (hx x (List.mem_cons_self ..))
          simpa using this
      exact key bs hsz
theorem con10058 : Con Tryz.prog W0 c10058.f c10058.sg F10058 := by
  have hcell : cellTys Tryz.prog 9 = [9] := by kernel_rfl
  refine Con.flat (ts := [39, 9]) rfl rfl rfl (by kernel_rfl) (fun ρ j rs hF => ?_) (fun w av vs ds j rs out h1 h2 hl hF ho => ?_)
  · unfold F10058 at hF
    split at hF
    · split at hF
      · cases hF; exact ⟨_, rfl, rfl, rfl⟩
      · cases hF
    · cases hF
  · obtain ⟨v, d, v', d', rfl, rfl, r1, r2⟩ := repL2 hl
    obtain ⟨e1, hsl, a, cap, rfl, hcase⟩ := r1.ofSl u39
    obtain ⟨e3, e4, b2⟩ := r2.ofStr u9
    rw [e1, e4] at hF
    simp only [F10058] at hF
    split at hF
    · rename_i hb
      cases hF
      cases ho
      rw [e3]
      have fin : ∀ (w : World) (av : Av) (m : Pl), RepS Tryz.prog w av m [D.str (Lib.join (D.ofStrs d.toSl) d'.toStr)] (.x (.var 0) 9) (.string ⟨(Lib.join (D.ofStrs d.toSl) d'.toStr).toArray⟩) := by
        intro w av m
        simp only [RepS]
        exact .str u9 (by omega)
      rcases hcase with hn | ⟨b, off, rfl, hcap, hE⟩
      · rw [hn]
        refine (Tryz.strings_Join_none a cap ⟨d'.toStr.toArray⟩ w).mono ?_
        rintro e w' ⟨rfl, rfl⟩
        refine ⟨_, rfl, Ext.refl _ _, fun av m => ?_⟩
        simp only [RepS]
        have : Lib.join (D.ofStrs []) d'.toStr = [] := rfl
        show Rep Tryz.prog _ av 9 _ (.str _)
        rw [this]
        exact .str u9 (by simp)
      · have hstr : ∀ (l : List (List D)) (o : Nat), RepE Tryz.prog w av 9 b o l → ∀ (j : Nat) x, ((D.ofStrs l).map fun s => (⟨s.toArray⟩ : ByteArray))[j]? = some x → w.cell? ⟨b, o + j, none⟩ = some (.string x) := by
          intro l
          induction l with
          | nil => intro o _ j x hj; simp [D.ofStrs] at hj
          | cons c l ih =>
            intro o hE j x hj
            cases hE with
            | cons hm hr =>
              have hcl := hm.length_ds
              rw [hcell] at hcl hm
              cases j with
              | zero =>
                obtain ⟨v, y, c1, _, c2, c3⟩ := hm.get (j := 0) rfl
                obtain ⟨q1, q2, _⟩ := c3.ofStr u9
                simp [D.ofStrs] at hj
                cases c with
                | nil => simp at hcl
                | cons c0 c =>
                  simp at c2; subst c2
                  rw [c1, q1, ← hj]; rfl
              | succ j =>
                have := ih _ hr j x (by simpa [D.ofStrs] using hj)
                rw [hcl] at this
                simp only [List.length_cons, List.length_nil, Nat.zero_add] at this
                rw [show o + (j + 1) = o + 1 + j by omega]; exact this
        have hlt' : ∀ (l : List (List D)) (o : Nat), RepE Tryz.prog w av 9 b o l → b < w.heap.size ∨ l = [] := by
          intro l o hE
          cases hE with
          | nil => exact .inr rfl
          | cons hm hr =>
            left
            rw [hcell] at hm
            obtain ⟨v, y, c1, _⟩ := hm.get (j := 0) rfl
            exact World.block_lt_of_cell? w _ c1
        have hlt := hlt' _ _ hE
        rcases hlt with hlt | hn
        · have hjoin : ((D.ofStrs d.toSl).map fun s => (⟨s.toArray⟩ : ByteArray)).map (·.data.toList) = D.ofStrs d.toSl := by rw [List.map_map]; exact List.map_id' _
          have hle : d.toSl.length ≤ 140737488355328 := by
            have := hsl.2 16 (by kernel_rfl); omega
          have := Tryz.strings_Join b off cap ((D.ofStrs d.toSl).map fun s => (⟨s.toArray⟩ : ByteArray)) ⟨d'.toStr.toArray⟩ w (hstr _ _ hE) hlt (by simpa [D.ofStrs] using hle) (by simpa [D.ofStrs] using hcap) (by rw [hjoin, bdata]; exact hb)
          rw [hjoin, bdata, show ((D.ofStrs d.toSl).map fun s => (⟨s.toArray⟩ : ByteArray)).length = d.toSl.length by simp [D.ofStrs]] at this
          refine this.mono ?_
          rintro e w' ⟨rfl, hbw⟩
          exact ⟨_, rfl, Ext.below hbw, fin w'⟩
        · rw [hn]
          refine (Tryz.strings_Join_none _ cap ⟨d'.toStr.toArray⟩ w).mono ?_
          rintro e w' ⟨rfl, rfl⟩
          refine ⟨_, rfl, Ext.refl _ _, fun av m => ?_⟩
          simp only [RepS]
          have : Lib.join (D.ofStrs []) d'.toStr = [] := rfl
          show Rep Tryz.prog _ av 9 _ (.str _)
          rw [this]
          exact .str u9 (by simp)
    · cases hF
theorem con10106 : Con Tryz.prog W0 c10106.f c10106.sg F10106 :=
  Con.clone (t := 54) (e := 5) (tb := 4) (b := 1) (by kernel_rfl) Tryz.func106 (by kernel_rfl) (by kernel_rfl) (by kernel_rfl) (by kernel_rfl) u54 (by kernel_rfl) (by kernel_rfl)
end
end Go.Proofs.YtbfjeejgkceedaaGreatDoor
namespace Go.Proofs.YtbfjeejgkceedaaGreatDoor
open Go.RX
theorem mixed : Tryz.prog.follows .mixedOrders = true := by kernel_rfl
section
variable {W0 : World}
/- novation/pack.New -/
noncomputable def F7 : List D → Option (Nat × List D) := t7.den (pick []) 0
theorem con7 (_L : LibOk W0) : Con Tryz.prog W0 c7.f c7.sg F7 := compile_ok (cs := []) (Kp.nil) mixed Tryz.func85 (by kernel_rfl) t7_ok
/- (*novation/pack.Writer).ok -/
noncomputable def F8 : List D → Option (Nat × List D) := t8.den (pick []) 0
theorem con8 (_L : LibOk W0) : Con Tryz.prog W0 c8.f c8.sg F8 := compile_ok (cs := []) (Kp.nil) mixed Tryz.func114 (by kernel_rfl) t8_ok
/- novation/pack.folded -/
noncomputable def F9 : List D → Option (Nat × List D) := t9.den (pick []) 0
theorem con9 (_L : LibOk W0) : Con Tryz.prog W0 c9.f c9.sg F9 := compile_ok (cs := []) (Kp.nil) mixed Tryz.func116 (by kernel_rfl) t9_ok
/- (*novation/pack.Writer).one -/
noncomputable def F10 : List D → Option (Nat × List D) := t10.den (pick []) 0
theorem con10 (_L : LibOk W0) : Con Tryz.prog W0 c10.f c10.sg F10 := compile_ok (cs := []) (Kp.nil) mixed Tryz.func115 (by kernel_rfl) t10_ok
/- (*novation/pack.Writer).Int -/
noncomputable def F11 : List D → Option (Nat × List D) := t11.den (pick [(8, F8), (9, F9), (10, F10)]) 0
theorem con11 (L : LibOk W0) : Con Tryz.prog W0 c11.f c11.sg F11 := compile_ok (cs := [c8, c9, c10]) (Kp.cons (con8 L) (Kp.cons (con9 L) (Kp.cons (con10 L) (Kp.nil)))) mixed Tryz.func86 (by kernel_rfl) t11_ok
/- novation/cmd.Fields -/
noncomputable def F12 : List D → Option (Nat × List D) := t12.den (pick []) 0
theorem con12 (_L : LibOk W0) : Con Tryz.prog W0 c12.f c12.sg F12 := compile_ok (cs := []) (Kp.nil) mixed Tryz.func28 (by kernel_rfl) t12_ok
/- novation/cmd.unit -/
noncomputable def F13 : List D → Option (Nat × List D) := t13.den (pick [(11, F11)]) 0
theorem con13 (L : LibOk W0) : Con Tryz.prog W0 c13.f c13.sg F13 := compile_ok (cs := [c11]) (Kp.cons (con11 L) (Kp.nil)) mixed Tryz.func117 (by kernel_rfl) t13_ok
/- novation/cmd.field -/
noncomputable def F14 : List D → Option (Nat × List D) := t14.den (pick [(11, F11), (13, F13)]) 0
theorem con14 (L : LibOk W0) : Con Tryz.prog W0 c14.f c14.sg F14 := compile_ok (cs := [c11, c13]) (Kp.cons (con11 L) (Kp.cons (con13 L) (Kp.nil))) mixed Tryz.func87 (by kernel_rfl) t14_ok
/- (*novation/pack.Writer).Done -/
noncomputable def F15 : List D → Option (Nat × List D) := t15.den (pick [(10106, F10106), (8, F8)]) 0
theorem con15 (L : LibOk W0) : Con Tryz.prog W0 c15.f c15.sg F15 := compile_ok (cs := [c10106, c8]) (Kp.cons con10106 (Kp.cons (con8 L) (Kp.nil))) mixed Tryz.func88 (by kernel_rfl) t15_ok
/- novation/cmd.bytesOf -/
noncomputable def F16 : List D → Option (Nat × List D) := t16.den (pick [(7, F7), (11, F11), (12, F12), (14, F14), (15, F15)]) 0
theorem con16 (L : LibOk W0) : Con Tryz.prog W0 c16.f c16.sg F16 := compile_ok (cs := [c7, c11, c12, c14, c15]) (Kp.cons (con7 L) (Kp.cons (con11 L) (Kp.cons (con12 L) (Kp.cons (con14 L) (Kp.cons (con15 L) (Kp.nil)))))) mixed Tryz.func55 (by kernel_rfl) t16_ok
/- novation/pack.Open -/
noncomputable def F17 : List D → Option (Nat × List D) := t17.den (pick [(10106, F10106)]) 0
theorem con17 (_L : LibOk W0) : Con Tryz.prog W0 c17.f c17.sg F17 := compile_ok (cs := [c10106]) (Kp.cons con10106 (Kp.nil)) mixed Tryz.func80 (by kernel_rfl) t17_ok
/- (*novation/pack.Reader).good -/
noncomputable def F18 : List D → Option (Nat × List D) := t18.den (pick []) 0
theorem con18 (_L : LibOk W0) : Con Tryz.prog W0 c18.f c18.sg F18 := compile_ok (cs := []) (Kp.nil) mixed Tryz.func107 (by kernel_rfl) t18_ok
/- (*novation/pack.Reader).fail -/
noncomputable def F19 : List D → Option (Nat × List D) := t19.den (pick []) 0
theorem con19 (_L : LibOk W0) : Con Tryz.prog W0 c19.f c19.sg F19 := compile_ok (cs := []) (Kp.nil) mixed Tryz.func110 (by kernel_rfl) t19_ok
/- (*novation/pack.Reader).number -/
noncomputable def F20 : List D → Option (Nat × List D) := t20.den (pick [(19, F19)]) 0
theorem con20 (L : LibOk W0) : Con Tryz.prog W0 c20.f c20.sg F20 := compile_ok (cs := [c19]) (Kp.cons (con19 L) (Kp.nil)) mixed Tryz.func108 (by kernel_rfl) t20_ok
/- novation/pack.unfolded -/
noncomputable def F21 : List D → Option (Nat × List D) := t21.den (pick []) 0
theorem con21 (_L : LibOk W0) : Con Tryz.prog W0 c21.f c21.sg F21 := compile_ok (cs := []) (Kp.nil) mixed Tryz.func109 (by kernel_rfl) t21_ok
/- (*novation/pack.Reader).Int -/
noncomputable def F22 : List D → Option (Nat × List D) := t22.den (pick [(18, F18), (19, F19), (20, F20), (21, F21)]) 0
theorem con22 (L : LibOk W0) : Con Tryz.prog W0 c22.f c22.sg F22 := compile_ok (cs := [c18, c19, c20, c21]) (Kp.cons (con18 L) (Kp.cons (con19 L) (Kp.cons (con20 L) (Kp.cons (con21 L) (Kp.nil))))) mixed Tryz.func81 (by kernel_rfl) t22_ok
/- novation/cmd.small -/
noncomputable def F24 : List D → Option (Nat × List D) := t24.den (pick [(22, F22)]) 0
theorem con24 (L : LibOk W0) : Con Tryz.prog W0 c24.f c24.sg F24 := compile_ok (cs := [c22]) (Kp.cons (con22 L) (Kp.nil)) mixed Tryz.func82 (by kernel_rfl) t24_ok
/- novation/cmd.place -/
noncomputable def F25 : List D → Option (Nat × List D) := t25.den (pick [(24, F24)]) 0
theorem con25 (L : LibOk W0) : Con Tryz.prog W0 c25.f c25.sg F25 := compile_ok (cs := [c24]) (Kp.cons (con24 L) (Kp.nil)) mixed Tryz.func111 (by kernel_rfl) t25_ok
/- (*novation/pack.Reader).Err -/
noncomputable def F26 : List D → Option (Nat × List D) := t26.den (pick []) 0
theorem con26 (_L : LibOk W0) : Con Tryz.prog W0 c26.f c26.sg F26 := compile_ok (cs := []) (Kp.nil) mixed Tryz.func113 (by kernel_rfl) t26_ok
/- novation/cmd.numbers -/
noncomputable def F27 : List D → Option (Nat × List D) := t27.den (pick [(22, F22), (24, F24), (26, F26)]) 0
theorem con27 (L : LibOk W0) : Con Tryz.prog W0 c27.f c27.sg F27 := compile_ok (cs := [c22, c24, c26]) (Kp.cons (con22 L) (Kp.cons (con24 L) (Kp.cons (con26 L) (Kp.nil)))) mixed Tryz.func112 (by kernel_rfl) t27_ok
/- novation/cmd.take -/
noncomputable def F28 : List D → Option (Nat × List D) := t28.den (pick [(22, F22), (24, F24), (25, F25), (27, F27)]) 0
theorem con28 (L : LibOk W0) : Con Tryz.prog W0 c28.f c28.sg F28 := compile_ok (cs := [c22, c24, c25, c27]) (Kp.cons (con22 L) (Kp.cons (con24 L) (Kp.cons (con25 L) (Kp.cons (con27 L) (Kp.nil))))) mixed Tryz.func83 (by kernel_rfl) t28_ok
/- (*novation/pack.Reader).End -/
noncomputable def F29 : List D → Option (Nat × List D) := t29.den (pick [(26, F26)]) 0
theorem con29 (L : LibOk W0) : Con Tryz.prog W0 c29.f c29.sg F29 := compile_ok (cs := [c26]) (Kp.cons (con26 L) (Kp.nil)) mixed Tryz.func84 (by kernel_rfl) t29_ok
/- novation/cmd.read -/
noncomputable def F30 : List D → Option (Nat × List D) := t30.den (pick [(12, F12), (17, F17), (22, F22), (24, F24), (28, F28), (29, F29)]) 0
theorem con30 (L : LibOk W0) : Con Tryz.prog W0 c30.f c30.sg F30 := compile_ok (cs := [c12, c17, c22, c24, c28, c29]) (Kp.cons (con12 L) (Kp.cons (con17 L) (Kp.cons (con22 L) (Kp.cons (con24 L) (Kp.cons (con28 L) (Kp.cons (con29 L) (Kp.nil))))))) mixed Tryz.func54 (by kernel_rfl) t30_ok
/- slices.Equal[[]int64,int64] -/
noncomputable def F31 : List D → Option (Nat × List D) := t31.den (pick []) 0
theorem con31 (_L : LibOk W0) : Con Tryz.prog W0 c31.f c31.sg F31 := compile_ok (cs := []) (Kp.nil) mixed Tryz.func89 (by kernel_rfl) t31_ok
/- novation/cmd.same -/
noncomputable def F32 : List D → Option (Nat × List D) := t32.den (pick [(31, F31)]) 0
theorem con32 (L : LibOk W0) : Con Tryz.prog W0 c32.f c32.sg F32 := compile_ok (cs := [c31]) (Kp.cons (con31 L) (Kp.nil)) mixed Tryz.func56 (by kernel_rfl) t32_ok
/- novation/cmd.Check -/
noncomputable def F33 : List D → Option (Nat × List D) := t33.den (pick [(16, F16), (30, F30), (32, F32)]) 0
theorem con33 (L : LibOk W0) : Con Tryz.prog W0 c33.f c33.sg F33 := compile_ok (cs := [c16, c30, c32]) (Kp.cons (con16 L) (Kp.cons (con30 L) (Kp.cons (con32 L) (Kp.nil)))) mixed Tryz.func25 (by kernel_rfl) t33_ok
/- novation/words.names -/
noncomputable def F34 : List D → Option (Nat × List D) := t34.den (pick []) 0
theorem con34 (_L : LibOk W0) : Con Tryz.prog W0 c34.f c34.sg F34 := compile_ok (cs := []) (Kp.nil) mixed Tryz.func43 (by kernel_rfl) t34_ok
/- novation/words.Word -/
noncomputable def F35 : List D → Option (Nat × List D) := t35.den (pick [(34, F34)]) 0
theorem con35 (L : LibOk W0) : Con Tryz.prog W0 c35.f c35.sg F35 := compile_ok (cs := [c34]) (Kp.cons (con34 L) (Kp.nil)) mixed Tryz.func14 (by kernel_rfl) t35_ok
/- (*novation/words.line).say -/
noncomputable def F36 : List D → Option (Nat × List D) := t36.den (pick []) 0
theorem con36 (_L : LibOk W0) : Con Tryz.prog W0 c36.f c36.sg F36 := compile_ok (cs := []) (Kp.nil) mixed Tryz.func26 (by kernel_rfl) t36_ok
/- (*novation/words.line).nums -/
noncomputable def F37 : List D → Option (Nat × List D) := t37.den (pick [(10057, F10057), (36, F36)]) 0
theorem con37 (L : LibOk W0) : Con Tryz.prog W0 c37.f c37.sg F37 := compile_ok (cs := [c10057, c36]) (Kp.cons (con10057 L) (Kp.cons (con36 L) (Kp.nil))) mixed Tryz.func27 (by kernel_rfl) t37_ok
/- (*novation/words.line).units -/
noncomputable def F38 : List D → Option (Nat × List D) := t38.den (pick [(10044, F10044), (36, F36)]) 0
theorem con38 (L : LibOk W0) : Con Tryz.prog W0 c38.f c38.sg F38 := compile_ok (cs := [c10044, c36]) (Kp.cons (con10044 L) (Kp.cons (con36 L) (Kp.nil))) mixed Tryz.func45 (by kernel_rfl) t38_ok
/- (*novation/words.line).field -/
noncomputable def F39 : List D → Option (Nat × List D) := t39.den (pick [(37, F37), (38, F38)]) 0
theorem con39 (L : LibOk W0) : Con Tryz.prog W0 c39.f c39.sg F39 := compile_ok (cs := [c37, c38]) (Kp.cons (con37 L) (Kp.cons (con38 L) (Kp.nil))) mixed Tryz.func29 (by kernel_rfl) t39_ok
/- (*novation/words.line).done -/
noncomputable def F40 : List D → Option (Nat × List D) := t40.den (pick [(10058, F10058)]) 0
theorem con40 (_L : LibOk W0) : Con Tryz.prog W0 c40.f c40.sg F40 := compile_ok (cs := [c10058]) (Kp.cons con10058 (Kp.nil)) mixed Tryz.func30 (by kernel_rfl) t40_ok
/- novation/words.Line -/
noncomputable def F41 : List D → Option (Nat × List D) := t41.den (pick [(12, F12), (33, F33), (35, F35), (36, F36), (37, F37), (39, F39), (40, F40)]) 0
theorem con41 (L : LibOk W0) : Con Tryz.prog W0 c41.f c41.sg F41 := compile_ok (cs := [c12, c33, c35, c36, c37, c39, c40]) (Kp.cons (con12 L) (Kp.cons (con33 L) (Kp.cons (con35 L) (Kp.cons (con36 L) (Kp.cons (con37 L) (Kp.cons (con39 L) (Kp.cons (con40 L) (Kp.nil)))))))) mixed Tryz.func8 (by kernel_rfl) t41_ok
/- (*novation/words.words).next -/
noncomputable def F42 : List D → Option (Nat × List D) := t42.den (pick []) 0
theorem con42 (_L : LibOk W0) : Con Tryz.prog W0 c42.f c42.sg F42 := compile_ok (cs := []) (Kp.nil) mixed Tryz.func36 (by kernel_rfl) t42_ok
/- novation/words.Op -/
noncomputable def F43 : List D → Option (Nat × List D) := t43.den (pick [(34, F34)]) 0
theorem con43 (L : LibOk W0) : Con Tryz.prog W0 c43.f c43.sg F43 := compile_ok (cs := [c34]) (Kp.cons (con34 L) (Kp.nil)) mixed Tryz.func15 (by kernel_rfl) t43_ok
/- novation/words.number -/
noncomputable def F44 : List D → Option (Nat × List D) := t44.den (pick [(10057, F10057), (10099, F10099)]) 0
theorem con44 (L : LibOk W0) : Con Tryz.prog W0 c44.f c44.sg F44 := compile_ok (cs := [c10057, c10099]) (Kp.cons (con10057 L) (Kp.cons (con10099 L) (Kp.nil))) mixed Tryz.func64 (by kernel_rfl) t44_ok
/- (*novation/words.words).num -/
noncomputable def F45 : List D → Option (Nat × List D) := t45.den (pick [(42, F42), (44, F44)]) 0
theorem con45 (L : LibOk W0) : Con Tryz.prog W0 c45.f c45.sg F45 := compile_ok (cs := [c42, c44]) (Kp.cons (con42 L) (Kp.cons (con44 L) (Kp.nil))) mixed Tryz.func37 (by kernel_rfl) t45_ok
/- (*novation/words.words).unit -/
noncomputable def F46 : List D → Option (Nat × List D) := t46.den (pick [(10100, F10100), (42, F42), (44, F44)]) 0
theorem con46 (L : LibOk W0) : Con Tryz.prog W0 c46.f c46.sg F46 := compile_ok (cs := [c10100, c42, c44]) (Kp.cons (con10100 L) (Kp.cons (con42 L) (Kp.cons (con44 L) (Kp.nil)))) mixed Tryz.func65 (by kernel_rfl) t46_ok
/- (*novation/words.words).rest -/
noncomputable def F47 : List D → Option (Nat × List D) := t47.den (pick [(45, F45)]) 0
theorem con47 (L : LibOk W0) : Con Tryz.prog W0 c47.f c47.sg F47 := compile_ok (cs := [c45]) (Kp.cons (con45 L) (Kp.nil)) mixed Tryz.func66 (by kernel_rfl) t47_ok
/- (*novation/words.words).take -/
noncomputable def F48 : List D → Option (Nat × List D) := t48.den (pick [(45, F45), (46, F46), (47, F47)]) 0
theorem con48 (L : LibOk W0) : Con Tryz.prog W0 c48.f c48.sg F48 := compile_ok (cs := [c45, c46, c47]) (Kp.cons (con45 L) (Kp.cons (con46 L) (Kp.cons (con47 L) (Kp.nil)))) mixed Tryz.func38 (by kernel_rfl) t48_ok
/- novation/words.Parse -/
noncomputable def F49 : List D → Option (Nat × List D) := t49.den (pick [(10035, F10035), (12, F12), (41, F41), (42, F42), (43, F43), (45, F45), (48, F48)]) 0
theorem con49 (L : LibOk W0) : Con Tryz.prog W0 c49.f c49.sg F49 := compile_ok (cs := [c10035, c12, c41, c42, c43, c45, c48]) (Kp.cons (con10035 L) (Kp.cons (con12 L) (Kp.cons (con41 L) (Kp.cons (con42 L) (Kp.cons (con43 L) (Kp.cons (con45 L) (Kp.cons (con48 L) (Kp.nil)))))))) mixed Tryz.func10 (by kernel_rfl) t49_ok
/- novation/novationref01.SameNumbers -/
noncomputable def F50 : List D → Option (Nat × List D) := t50.den (pick []) 0
theorem con50 (_L : LibOk W0) : Con Tryz.prog W0 c50.f c50.sg F50 := compile_ok (cs := []) (Kp.nil) mixed Tryz.func42 (by kernel_rfl) t50_ok
/- novation/novationref34.Same -/
noncomputable def F51 : List D → Option (Nat × List D) := t51.den (pick [(50, F50)]) 0
theorem con51 (L : LibOk W0) : Con Tryz.prog W0 c51.f c51.sg F51 := compile_ok (cs := [c50]) (Kp.cons (con50 L) (Kp.nil)) mixed Tryz.func12 (by kernel_rfl) t51_ok
/- novation/novationlaw40.lives -/
noncomputable def F52 : List D → Option (Nat × List D) := t52.den (pick [(41, F41), (49, F49), (51, F51)]) 0
theorem con52 (L : LibOk W0) : Con Tryz.prog W0 c52.f c52.sg F52 := compile_ok (cs := [c41, c49, c51]) (Kp.cons (con41 L) (Kp.cons (con49 L) (Kp.cons (con51 L) (Kp.nil)))) mixed Tryz.func16 (by kernel_rfl) t52_ok
/- novation/words.Reply -/
noncomputable def F53 : List D → Option (Nat × List D) := t53.den (pick [(10044, F10044), (36, F36), (37, F37), (38, F38), (40, F40)]) 0
theorem con53 (L : LibOk W0) : Con Tryz.prog W0 c53.f c53.sg F53 := compile_ok (cs := [c10044, c36, c37, c38, c40]) (Kp.cons (con10044 L) (Kp.cons (con36 L) (Kp.cons (con37 L) (Kp.cons (con38 L) (Kp.cons (con40 L) (Kp.nil)))))) mixed Tryz.func17 (by kernel_rfl) t53_ok
/- novation/novationref01.Nat -/
noncomputable def F54 : List D → Option (Nat × List D) := t54.den (pick []) 0
theorem con54 (_L : LibOk W0) : Con Tryz.prog W0 c54.f c54.sg F54 := compile_ok (cs := []) (Kp.nil) mixed Tryz.func69 (by kernel_rfl) t54_ok
/- novation/novationref01.plus -/
noncomputable def F55 : List D → Option (Nat × List D) := t55.den (pick []) 0
theorem con55 (_L : LibOk W0) : Con Tryz.prog W0 c55.f c55.sg F55 := compile_ok (cs := []) (Kp.nil) mixed Tryz.func95 (by kernel_rfl) t55_ok
/- novation/novationref01.Of -/
noncomputable def F56 : List D → Option (Nat × List D) := t56.den (pick [(54, F54), (55, F55)]) 0
theorem con56 (L : LibOk W0) : Con Tryz.prog W0 c56.f c56.sg F56 := compile_ok (cs := [c54, c55]) (Kp.cons (con54 L) (Kp.cons (con55 L) (Kp.nil))) mixed Tryz.func62 (by kernel_rfl) t56_ok
/- novation/novationref01.trim -/
noncomputable def F57 : List D → Option (Nat × List D) := t57.den (pick []) 0
theorem con57 (_L : LibOk W0) : Con Tryz.prog W0 c57.f c57.sg F57 := compile_ok (cs := []) (Kp.nil) mixed Tryz.func101 (by kernel_rfl) t57_ok
/- novation/novationref01.Neg -/
noncomputable def F58 : List D → Option (Nat × List D) := t58.den (pick [(57, F57)]) 0
theorem con58 (L : LibOk W0) : Con Tryz.prog W0 c58.f c58.sg F58 := compile_ok (cs := [c57]) (Kp.cons (con57 L) (Kp.nil)) mixed Tryz.func70 (by kernel_rfl) t58_ok
/- novation/novationref01.less -/
noncomputable def F59 : List D → Option (Nat × List D) := t59.den (pick []) 0
theorem con59 (_L : LibOk W0) : Con Tryz.prog W0 c59.f c59.sg F59 := compile_ok (cs := []) (Kp.nil) mixed Tryz.func102 (by kernel_rfl) t59_ok
/- novation/novationref01.minus -/
noncomputable def F60 : List D → Option (Nat × List D) := t60.den (pick []) 0
theorem con60 (_L : LibOk W0) : Con Tryz.prog W0 c60.f c60.sg F60 := compile_ok (cs := []) (Kp.nil) mixed Tryz.func103 (by kernel_rfl) t60_ok
/- novation/novationref01.Add -/
noncomputable def F61 : List D → Option (Nat × List D) := t61.den (pick [(55, F55), (57, F57), (59, F59), (60, F60)]) 0
theorem con61 (L : LibOk W0) : Con Tryz.prog W0 c61.f c61.sg F61 := compile_ok (cs := [c55, c57, c59, c60]) (Kp.cons (con55 L) (Kp.cons (con57 L) (Kp.cons (con59 L) (Kp.cons (con60 L) (Kp.nil))))) mixed Tryz.func67 (by kernel_rfl) t61_ok
/- novation/novationref01.Sub -/
noncomputable def F62 : List D → Option (Nat × List D) := t62.den (pick [(58, F58), (61, F61)]) 0
theorem con62 (L : LibOk W0) : Con Tryz.prog W0 c62.f c62.sg F62 := compile_ok (cs := [c58, c61]) (Kp.cons (con58 L) (Kp.cons (con61 L) (Kp.nil))) mixed Tryz.func124 (by kernel_rfl) t62_ok
/- novation/novationref01.Div -/
noncomputable def F63 : List D → Option (Nat × List D) := t63.den (pick [(54, F54), (57, F57), (62, F62)]) 0
theorem con63 (L : LibOk W0) : Con Tryz.prog W0 c63.f c63.sg F63 := compile_ok (cs := [c54, c57, c62]) (Kp.cons (con54 L) (Kp.cons (con57 L) (Kp.cons (con62 L) (Kp.nil)))) mixed Tryz.func94 (by kernel_rfl) t63_ok
/- novation/novationref01.Digits -/
noncomputable def F64 : List D → Option (Nat × List D) := t64.den (pick [(63, F63)]) 0
theorem con64 (L : LibOk W0) : Con Tryz.prog W0 c64.f c64.sg F64 := compile_ok (cs := [c63]) (Kp.cons (con63 L) (Kp.nil)) mixed Tryz.func61 (by kernel_rfl) t64_ok
/- novation/novationref40.num -/
noncomputable def F65 : List D → Option (Nat × List D) := t65.den (pick [(56, F56), (64, F64)]) 0
theorem con65 (L : LibOk W0) : Con Tryz.prog W0 c65.f c65.sg F65 := compile_ok (cs := [c56, c64]) (Kp.cons (con56 L) (Kp.cons (con64 L) (Kp.nil))) mixed Tryz.func32 (by kernel_rfl) t65_ok
/- novation/novationref40.unit -/
noncomputable def F66 : List D → Option (Nat × List D) := t66.den (pick [(65, F65)]) 0
theorem con66 (L : LibOk W0) : Con Tryz.prog W0 c66.f c66.sg F66 := compile_ok (cs := [c65]) (Kp.cons (con65 L) (Kp.nil)) mixed Tryz.func34 (by kernel_rfl) t66_ok
/- novation/novationref40.Reply -/
noncomputable def F67 : List D → Option (Nat × List D) := t67.den (pick [(65, F65), (66, F66)]) 0
theorem con67 (L : LibOk W0) : Con Tryz.prog W0 c67.f c67.sg F67 := compile_ok (cs := [c65, c66]) (Kp.cons (con65 L) (Kp.cons (con66 L) (Kp.nil))) mixed Tryz.func18 (by kernel_rfl) t67_ok
/- novation/novationlaw40.WordsReplies -/
noncomputable def F68 : List D → Option (Nat × List D) := t68.den (pick [(52, F52), (53, F53), (67, F67)]) 0
theorem con68 (L : LibOk W0) : Con Tryz.prog W0 c68.f c68.sg F68 := compile_ok (cs := [c52, c53, c67]) (Kp.cons (con52 L) (Kp.cons (con53 L) (Kp.cons (con67 L) (Kp.nil)))) mixed Tryz.func4 (by kernel_rfl) t68_ok
end
end Go.Proofs.YtbfjeejgkceedaaGreatDoor
namespace Go.Proofs.YtbfjeejgkceedaaGreatDoor
open Go.RX
def E7 : List D → Option (Nat × List D) := evT 3000 (pick []) t7 0
theorem e7 : ∀ ρ r, E7 ρ = some r → F7 ρ = some r := fun ρ r h => evT_den (pick_nil_mono) t7 0 ρ r h
def E8 : List D → Option (Nat × List D) := evT 3000 (pick []) t8 0
theorem e8 : ∀ ρ r, E8 ρ = some r → F8 ρ = some r := fun ρ r h => evT_den (pick_nil_mono) t8 0 ρ r h
def E9 : List D → Option (Nat × List D) := evT 3000 (pick []) t9 0
theorem e9 : ∀ ρ r, E9 ρ = some r → F9 ρ = some r := fun ρ r h => evT_den (pick_nil_mono) t9 0 ρ r h
def E10 : List D → Option (Nat × List D) := evT 3000 (pick []) t10 0
theorem e10 : ∀ ρ r, E10 ρ = some r → F10 ρ = some r := fun ρ r h => evT_den (pick_nil_mono) t10 0 ρ r h
def E11 : List D → Option (Nat × List D) := evT 3000 (pick [(8, E8), (9, E9), (10, E10)]) t11 0
theorem e11 : ∀ ρ r, E11 ρ = some r → F11 ρ = some r := fun ρ r h => evT_den (pick_cons_mono e8 (pick_cons_mono e9 (pick_cons_mono e10 (pick_nil_mono)))) t11 0 ρ r h
def E12 : List D → Option (Nat × List D) := evT 3000 (pick []) t12 0
theorem e12 : ∀ ρ r, E12 ρ = some r → F12 ρ = some r := fun ρ r h => evT_den (pick_nil_mono) t12 0 ρ r h
def E13 : List D → Option (Nat × List D) := evT 3000 (pick [(11, E11)]) t13 0
theorem e13 : ∀ ρ r, E13 ρ = some r → F13 ρ = some r := fun ρ r h => evT_den (pick_cons_mono e11 (pick_nil_mono)) t13 0 ρ r h
def E14 : List D → Option (Nat × List D) := evT 3000 (pick [(11, E11), (13, E13)]) t14 0
theorem e14 : ∀ ρ r, E14 ρ = some r → F14 ρ = some r := fun ρ r h => evT_den (pick_cons_mono e11 (pick_cons_mono e13 (pick_nil_mono))) t14 0 ρ r h
def E15 : List D → Option (Nat × List D) := evT 3000 (pick [(10106, F10106), (8, E8)]) t15 0
theorem e15 : ∀ ρ r, E15 ρ = some r → F15 ρ = some r := fun ρ r h => evT_den (pick_cons_mono (fun _ _ h => h) (pick_cons_mono e8 (pick_nil_mono))) t15 0 ρ r h
def E16 : List D → Option (Nat × List D) := evT 3000 (pick [(7, E7), (11, E11), (12, E12), (14, E14), (15, E15)]) t16 0
theorem e16 : ∀ ρ r, E16 ρ = some r → F16 ρ = some r := fun ρ r h => evT_den (pick_cons_mono e7 (pick_cons_mono e11 (pick_cons_mono e12 (pick_cons_mono e14 (pick_cons_mono e15 (pick_nil_mono)))))) t16 0 ρ r h
def E17 : List D → Option (Nat × List D) := evT 3000 (pick [(10106, F10106)]) t17 0
theorem e17 : ∀ ρ r, E17 ρ = some r → F17 ρ = some r := fun ρ r h => evT_den (pick_cons_mono (fun _ _ h => h) (pick_nil_mono)) t17 0 ρ r h
def E18 : List D → Option (Nat × List D) := evT 3000 (pick []) t18 0
theorem e18 : ∀ ρ r, E18 ρ = some r → F18 ρ = some r := fun ρ r h => evT_den (pick_nil_mono) t18 0 ρ r h
def E19 : List D → Option (Nat × List D) := evT 3000 (pick []) t19 0
theorem e19 : ∀ ρ r, E19 ρ = some r → F19 ρ = some r := fun ρ r h => evT_den (pick_nil_mono) t19 0 ρ r h
def E20 : List D → Option (Nat × List D) := evT 3000 (pick [(19, E19)]) t20 0
theorem e20 : ∀ ρ r, E20 ρ = some r → F20 ρ = some r := fun ρ r h => evT_den (pick_cons_mono e19 (pick_nil_mono)) t20 0 ρ r h
def E21 : List D → Option (Nat × List D) := evT 3000 (pick []) t21 0
theorem e21 : ∀ ρ r, E21 ρ = some r → F21 ρ = some r := fun ρ r h => evT_den (pick_nil_mono) t21 0 ρ r h
def E22 : List D → Option (Nat × List D) := evT 3000 (pick [(18, E18), (19, E19), (20, E20), (21, E21)]) t22 0
theorem e22 : ∀ ρ r, E22 ρ = some r → F22 ρ = some r := fun ρ r h => evT_den (pick_cons_mono e18 (pick_cons_mono e19 (pick_cons_mono e20 (pick_cons_mono e21 (pick_nil_mono))))) t22 0 ρ r h
def E24 : List D → Option (Nat × List D) := evT 3000 (pick [(22, E22)]) t24 0
theorem e24 : ∀ ρ r, E24 ρ = some r → F24 ρ = some r := fun ρ r h => evT_den (pick_cons_mono e22 (pick_nil_mono)) t24 0 ρ r h
def E25 : List D → Option (Nat × List D) := evT 3000 (pick [(24, E24)]) t25 0
theorem e25 : ∀ ρ r, E25 ρ = some r → F25 ρ = some r := fun ρ r h => evT_den (pick_cons_mono e24 (pick_nil_mono)) t25 0 ρ r h
def E26 : List D → Option (Nat × List D) := evT 3000 (pick []) t26 0
theorem e26 : ∀ ρ r, E26 ρ = some r → F26 ρ = some r := fun ρ r h => evT_den (pick_nil_mono) t26 0 ρ r h
def E27 : List D → Option (Nat × List D) := evT 3000 (pick [(22, E22), (24, E24), (26, E26)]) t27 0
theorem e27 : ∀ ρ r, E27 ρ = some r → F27 ρ = some r := fun ρ r h => evT_den (pick_cons_mono e22 (pick_cons_mono e24 (pick_cons_mono e26 (pick_nil_mono)))) t27 0 ρ r h
def E28 : List D → Option (Nat × List D) := evT 3000 (pick [(22, E22), (24, E24), (25, E25), (27, E27)]) t28 0
theorem e28 : ∀ ρ r, E28 ρ = some r → F28 ρ = some r := fun ρ r h => evT_den (pick_cons_mono e22 (pick_cons_mono e24 (pick_cons_mono e25 (pick_cons_mono e27 (pick_nil_mono))))) t28 0 ρ r h
def E29 : List D → Option (Nat × List D) := evT 3000 (pick [(26, E26)]) t29 0
theorem e29 : ∀ ρ r, E29 ρ = some r → F29 ρ = some r := fun ρ r h => evT_den (pick_cons_mono e26 (pick_nil_mono)) t29 0 ρ r h
def E30 : List D → Option (Nat × List D) := evT 3000 (pick [(12, E12), (17, E17), (22, E22), (24, E24), (28, E28), (29, E29)]) t30 0
theorem e30 : ∀ ρ r, E30 ρ = some r → F30 ρ = some r := fun ρ r h => evT_den (pick_cons_mono e12 (pick_cons_mono e17 (pick_cons_mono e22 (pick_cons_mono e24 (pick_cons_mono e28 (pick_cons_mono e29 (pick_nil_mono))))))) t30 0 ρ r h
def E31 : List D → Option (Nat × List D) := evT 3000 (pick []) t31 0
theorem e31 : ∀ ρ r, E31 ρ = some r → F31 ρ = some r := fun ρ r h => evT_den (pick_nil_mono) t31 0 ρ r h
def E32 : List D → Option (Nat × List D) := evT 3000 (pick [(31, E31)]) t32 0
theorem e32 : ∀ ρ r, E32 ρ = some r → F32 ρ = some r := fun ρ r h => evT_den (pick_cons_mono e31 (pick_nil_mono)) t32 0 ρ r h
def E33 : List D → Option (Nat × List D) := evT 3000 (pick [(16, E16), (30, E30), (32, E32)]) t33 0
theorem e33 : ∀ ρ r, E33 ρ = some r → F33 ρ = some r := fun ρ r h => evT_den (pick_cons_mono e16 (pick_cons_mono e30 (pick_cons_mono e32 (pick_nil_mono)))) t33 0 ρ r h
def E34 : List D → Option (Nat × List D) := evT 3000 (pick []) t34 0
theorem e34 : ∀ ρ r, E34 ρ = some r → F34 ρ = some r := fun ρ r h => evT_den (pick_nil_mono) t34 0 ρ r h
def E35 : List D → Option (Nat × List D) := evT 3000 (pick [(34, E34)]) t35 0
theorem e35 : ∀ ρ r, E35 ρ = some r → F35 ρ = some r := fun ρ r h => evT_den (pick_cons_mono e34 (pick_nil_mono)) t35 0 ρ r h
def E36 : List D → Option (Nat × List D) := evT 3000 (pick []) t36 0
theorem e36 : ∀ ρ r, E36 ρ = some r → F36 ρ = some r := fun ρ r h => evT_den (pick_nil_mono) t36 0 ρ r h
def E37 : List D → Option (Nat × List D) := evT 3000 (pick [(10057, F10057), (36, E36)]) t37 0
theorem e37 : ∀ ρ r, E37 ρ = some r → F37 ρ = some r := fun ρ r h => evT_den (pick_cons_mono (fun _ _ h => h) (pick_cons_mono e36 (pick_nil_mono))) t37 0 ρ r h
def E38 : List D → Option (Nat × List D) := evT 3000 (pick [(10044, F10044), (36, E36)]) t38 0
theorem e38 : ∀ ρ r, E38 ρ = some r → F38 ρ = some r := fun ρ r h => evT_den (pick_cons_mono (fun _ _ h => h) (pick_cons_mono e36 (pick_nil_mono))) t38 0 ρ r h
def E39 : List D → Option (Nat × List D) := evT 3000 (pick [(37, E37), (38, E38)]) t39 0
theorem e39 : ∀ ρ r, E39 ρ = some r → F39 ρ = some r := fun ρ r h => evT_den (pick_cons_mono e37 (pick_cons_mono e38 (pick_nil_mono))) t39 0 ρ r h
def E40 : List D → Option (Nat × List D) := evT 3000 (pick [(10058, F10058)]) t40 0
theorem e40 : ∀ ρ r, E40 ρ = some r → F40 ρ = some r := fun ρ r h => evT_den (pick_cons_mono (fun _ _ h => h) (pick_nil_mono)) t40 0 ρ r h
def E41 : List D → Option (Nat × List D) := evT 3000 (pick [(12, E12), (33, E33), (35, E35), (36, E36), (37, E37), (39, E39), (40, E40)]) t41 0
theorem e41 : ∀ ρ r, E41 ρ = some r → F41 ρ = some r := fun ρ r h => evT_den (pick_cons_mono e12 (pick_cons_mono e33 (pick_cons_mono e35 (pick_cons_mono e36 (pick_cons_mono e37 (pick_cons_mono e39 (pick_cons_mono e40 (pick_nil_mono)))))))) t41 0 ρ r h
def E42 : List D → Option (Nat × List D) := evT 3000 (pick []) t42 0
theorem e42 : ∀ ρ r, E42 ρ = some r → F42 ρ = some r := fun ρ r h => evT_den (pick_nil_mono) t42 0 ρ r h
def E43 : List D → Option (Nat × List D) := evT 3000 (pick [(34, E34)]) t43 0
theorem e43 : ∀ ρ r, E43 ρ = some r → F43 ρ = some r := fun ρ r h => evT_den (pick_cons_mono e34 (pick_nil_mono)) t43 0 ρ r h
def E44 : List D → Option (Nat × List D) := evT 3000 (pick [(10057, F10057), (10099, F10099)]) t44 0
theorem e44 : ∀ ρ r, E44 ρ = some r → F44 ρ = some r := fun ρ r h => evT_den (pick_cons_mono (fun _ _ h => h) (pick_cons_mono (fun _ _ h => h) (pick_nil_mono))) t44 0 ρ r h
def E45 : List D → Option (Nat × List D) := evT 3000 (pick [(42, E42), (44, E44)]) t45 0
theorem e45 : ∀ ρ r, E45 ρ = some r → F45 ρ = some r := fun ρ r h => evT_den (pick_cons_mono e42 (pick_cons_mono e44 (pick_nil_mono))) t45 0 ρ r h
def E46 : List D → Option (Nat × List D) := evT 3000 (pick [(10100, F10100), (42, E42), (44, E44)]) t46 0
theorem e46 : ∀ ρ r, E46 ρ = some r → F46 ρ = some r := fun ρ r h => evT_den (pick_cons_mono (fun _ _ h => h) (pick_cons_mono e42 (pick_cons_mono e44 (pick_nil_mono)))) t46 0 ρ r h
def E47 : List D → Option (Nat × List D) := evT 3000 (pick [(45, E45)]) t47 0
theorem e47 : ∀ ρ r, E47 ρ = some r → F47 ρ = some r := fun ρ r h => evT_den (pick_cons_mono e45 (pick_nil_mono)) t47 0 ρ r h
def E48 : List D → Option (Nat × List D) := evT 3000 (pick [(45, E45), (46, E46), (47, E47)]) t48 0
theorem e48 : ∀ ρ r, E48 ρ = some r → F48 ρ = some r := fun ρ r h => evT_den (pick_cons_mono e45 (pick_cons_mono e46 (pick_cons_mono e47 (pick_nil_mono)))) t48 0 ρ r h
def E49 : List D → Option (Nat × List D) := evT 3000 (pick [(10035, F10035), (12, E12), (41, E41), (42, E42), (43, E43), (45, E45), (48, E48)]) t49 0
theorem e49 : ∀ ρ r, E49 ρ = some r → F49 ρ = some r := fun ρ r h => evT_den (pick_cons_mono (fun _ _ h => h) (pick_cons_mono e12 (pick_cons_mono e41 (pick_cons_mono e42 (pick_cons_mono e43 (pick_cons_mono e45 (pick_cons_mono e48 (pick_nil_mono)))))))) t49 0 ρ r h
def E50 : List D → Option (Nat × List D) := evT 3000 (pick []) t50 0
theorem e50 : ∀ ρ r, E50 ρ = some r → F50 ρ = some r := fun ρ r h => evT_den (pick_nil_mono) t50 0 ρ r h
def E51 : List D → Option (Nat × List D) := evT 3000 (pick [(50, E50)]) t51 0
theorem e51 : ∀ ρ r, E51 ρ = some r → F51 ρ = some r := fun ρ r h => evT_den (pick_cons_mono e50 (pick_nil_mono)) t51 0 ρ r h
def E52 : List D → Option (Nat × List D) := evT 3000 (pick [(41, E41), (49, E49), (51, E51)]) t52 0
theorem e52 : ∀ ρ r, E52 ρ = some r → F52 ρ = some r := fun ρ r h => evT_den (pick_cons_mono e41 (pick_cons_mono e49 (pick_cons_mono e51 (pick_nil_mono)))) t52 0 ρ r h
def E53 : List D → Option (Nat × List D) := evT 3000 (pick [(10044, F10044), (36, E36), (37, E37), (38, E38), (40, E40)]) t53 0
theorem e53 : ∀ ρ r, E53 ρ = some r → F53 ρ = some r := fun ρ r h => evT_den (pick_cons_mono (fun _ _ h => h) (pick_cons_mono e36 (pick_cons_mono e37 (pick_cons_mono e38 (pick_cons_mono e40 (pick_nil_mono)))))) t53 0 ρ r h
def E54 : List D → Option (Nat × List D) := evT 3000 (pick []) t54 0
theorem e54 : ∀ ρ r, E54 ρ = some r → F54 ρ = some r := fun ρ r h => evT_den (pick_nil_mono) t54 0 ρ r h
def E55 : List D → Option (Nat × List D) := evT 3000 (pick []) t55 0
theorem e55 : ∀ ρ r, E55 ρ = some r → F55 ρ = some r := fun ρ r h => evT_den (pick_nil_mono) t55 0 ρ r h
def E56 : List D → Option (Nat × List D) := evT 3000 (pick [(54, E54), (55, E55)]) t56 0
theorem e56 : ∀ ρ r, E56 ρ = some r → F56 ρ = some r := fun ρ r h => evT_den (pick_cons_mono e54 (pick_cons_mono e55 (pick_nil_mono))) t56 0 ρ r h
def E57 : List D → Option (Nat × List D) := evT 3000 (pick []) t57 0
theorem e57 : ∀ ρ r, E57 ρ = some r → F57 ρ = some r := fun ρ r h => evT_den (pick_nil_mono) t57 0 ρ r h
def E58 : List D → Option (Nat × List D) := evT 3000 (pick [(57, E57)]) t58 0
theorem e58 : ∀ ρ r, E58 ρ = some r → F58 ρ = some r := fun ρ r h => evT_den (pick_cons_mono e57 (pick_nil_mono)) t58 0 ρ r h
def E59 : List D → Option (Nat × List D) := evT 3000 (pick []) t59 0
theorem e59 : ∀ ρ r, E59 ρ = some r → F59 ρ = some r := fun ρ r h => evT_den (pick_nil_mono) t59 0 ρ r h
def E60 : List D → Option (Nat × List D) := evT 3000 (pick []) t60 0
theorem e60 : ∀ ρ r, E60 ρ = some r → F60 ρ = some r := fun ρ r h => evT_den (pick_nil_mono) t60 0 ρ r h
def E61 : List D → Option (Nat × List D) := evT 3000 (pick [(55, E55), (57, E57), (59, E59), (60, E60)]) t61 0
theorem e61 : ∀ ρ r, E61 ρ = some r → F61 ρ = some r := fun ρ r h => evT_den (pick_cons_mono e55 (pick_cons_mono e57 (pick_cons_mono e59 (pick_cons_mono e60 (pick_nil_mono))))) t61 0 ρ r h
def E62 : List D → Option (Nat × List D) := evT 3000 (pick [(58, E58), (61, E61)]) t62 0
theorem e62 : ∀ ρ r, E62 ρ = some r → F62 ρ = some r := fun ρ r h => evT_den (pick_cons_mono e58 (pick_cons_mono e61 (pick_nil_mono))) t62 0 ρ r h
def E63 : List D → Option (Nat × List D) := evT 3000 (pick [(54, E54), (57, E57), (62, E62)]) t63 0
theorem e63 : ∀ ρ r, E63 ρ = some r → F63 ρ = some r := fun ρ r h => evT_den (pick_cons_mono e54 (pick_cons_mono e57 (pick_cons_mono e62 (pick_nil_mono)))) t63 0 ρ r h
def E64 : List D → Option (Nat × List D) := evT 3000 (pick [(63, E63)]) t64 0
theorem e64 : ∀ ρ r, E64 ρ = some r → F64 ρ = some r := fun ρ r h => evT_den (pick_cons_mono e63 (pick_nil_mono)) t64 0 ρ r h
def E65 : List D → Option (Nat × List D) := evT 3000 (pick [(56, E56), (64, E64)]) t65 0
theorem e65 : ∀ ρ r, E65 ρ = some r → F65 ρ = some r := fun ρ r h => evT_den (pick_cons_mono e56 (pick_cons_mono e64 (pick_nil_mono))) t65 0 ρ r h
def E66 : List D → Option (Nat × List D) := evT 3000 (pick [(65, E65)]) t66 0
theorem e66 : ∀ ρ r, E66 ρ = some r → F66 ρ = some r := fun ρ r h => evT_den (pick_cons_mono e65 (pick_nil_mono)) t66 0 ρ r h
def E67 : List D → Option (Nat × List D) := evT 3000 (pick [(65, E65), (66, E66)]) t67 0
theorem e67 : ∀ ρ r, E67 ρ = some r → F67 ρ = some r := fun ρ r h => evT_den (pick_cons_mono e65 (pick_cons_mono e66 (pick_nil_mono))) t67 0 ρ r h
def E68 : List D → Option (Nat × List D) := evT 3000 (pick [(52, E52), (53, E53), (67, E67)]) t68 0
theorem e68 : ∀ ρ r, E68 ρ = some r → F68 ρ = some r := fun ρ r h => evT_den (pick_cons_mono e52 (pick_cons_mono e53 (pick_cons_mono e67 (pick_nil_mono)))) t68 0 ρ r h
theorem lives_ok : F52 [] = some (0, [.bool true]) := e52 _ _ (by kernel_rfl)
end Go.Proofs.YtbfjeejgkceedaaGreatDoor
namespace Go.Proofs.YtbfjeejgkceedaaGreatDoor
open Go.RX

/-! words.Reply. -/
theorem say_ok (A B : List (List D)) (h : A.length + B.length ≤ 1000000) : F36 [.sl A, .sl B] = some (0, [.sl (A ++ B)]) := by
  have : (A.length + B.length) * 16 ≤ 140737488355328 := by omega
  simp [F36, t36, T.den, X.den, D.toSl, D.toBool, D.aggL, this]
theorem fmt_ok (n : Int) : F10057 [.int n, .int 10] = some (0, [.str (itoaS n)]) := by simp [F10057]
theorem itoa_ok (n : Int) : F10044 [.int n] = some (0, [.str (itoaS n)]) := by simp [F10044]

theorem nums_ok (A : List (List D)) (N : List Int) (h : A.length + N.length ≤ 1000000) : F37 [.sl A, .sl (N.map fun n => [.int n])] = some (0, [.sl (A ++ N.map fun n => [.str (itoaS n)])]) := by
  unfold F37 t37 t37b0
  simp only [T.den, X.den, D.aggL, List.getD_cons_zero]
  let st : Nat → List D := fun i => [.int i, .sl (A ++ (N.take i).map fun n => [.str (itoaS n)])]
  have h0 : [D.int 0, D.sl A] = st 0 := by simp [st]
  rw [h0, loopD_seq (st := st) N.length (j := 0) (r := [.sl (A ++ N.map fun n => [.str (itoaS n)])]) (fun i hi => ?_) (by
    simp [st, D.toSl, D.toBool, D.toInt, cmpI, List.take_of_length_le])]
  · simp [T.den, X.den, D.aggL]
  · have e1 : (N.map fun n => [D.int n]).getD i [] = [.int N[i]] := by simp [hi]
    have e2 : (A ++ (N.take i).map fun n => [D.str (itoaS n)]) ++ [[.str (itoaS N[i])]] = A ++ (N.take (i + 1)).map fun n => [D.str (itoaS n)] := by
      rw [List.append_assoc, map_take_snoc (fun n => [D.str (itoaS n)]) hi]
    simp only [st, List.cons_append, List.nil_append, T.den, X.den, D.toSl, D.toBool, D.toInt, D.aggL, cmpI, List.getD_cons_zero, List.getD_cons_succ, List.length_map, Int.ofNat_lt, decide_eq_true hi, cond_true', Int.toNat_natCast, e1, pick_eq, fmt_ok,
      Option.bind_some, ge_iff_le, Int.natCast_nonneg, decide_true, List.map_cons, List.map_nil]
    rw [pick_ne _ (by decide), pick_eq, say_ok _ _ (by simp; omega), e2]
    simp only [Option.bind_some, T.den, X.den, D.toInt, D.aggL, List.getD_cons_zero, List.getD_cons_succ, binI]
    rw [IntWalk.i64_in _ (by omega)]
    rfl

theorem decF_len : ∀ (f u : Nat), (decF f u).length ≤ f
  | 0, _ => Nat.le_refl _
  | f + 1, u => by
    rw [decF]
    split
    · simp
    · have := decF_len f (u / 10)
      simp; exact this
theorem itoaS_len (n : Int) : (itoaS n).length ≤ 21 := by
  unfold itoaS
  split
  · have := decF_len 20 n.natAbs; simp only [List.length_cons]; omega
  · have := decF_len 20 n.toNat; omega
def unitS (u : Int × Int) : List UInt8 := itoaS u.1 ++ [46] ++ itoaS u.2
theorem unitS_len (u : Int × Int) : (unitS u).length ≤ 43 := by
  have := itoaS_len u.1; have := itoaS_len u.2
  simp only [unitS, List.length_append, List.length_cons, List.length_nil]; omega

theorem units_ok (A : List (List D)) (U : List (Int × Int)) (h : A.length + U.length ≤ 1000000) : F38 [.sl A, .sl (U.map fun u => [.int u.1, .int u.2])] = some (0, [.sl (A ++ U.map fun u => [.str (unitS u)])]) := by
  unfold F38 t38 t38b0
  simp only [T.den, X.den, D.aggL, List.getD_cons_zero]
  let st : Nat → List D := fun i => [.int i, .sl (A ++ (U.take i).map fun u => [.str (unitS u)])]
  have h0 : [D.int 0, D.sl A] = st 0 := by simp [st]
  rw [h0, loopD_seq (st := st) U.length (j := 0) (r := [.sl (A ++ U.map fun u => [.str (unitS u)])]) (fun i hi => ?_) (by
    simp [st, D.toSl, D.toBool, D.toInt, cmpI, List.take_of_length_le])]
  · simp [T.den, X.den, D.aggL]
  · have e1 : (U.map fun u => [D.int u.1, D.int u.2]).getD i [] = [.int U[i].1, .int U[i].2] := by simp [hi]
    have e2 : (A ++ (U.take i).map fun u => [D.str (unitS u)]) ++ [[.str (itoaS U[i].1 ++ [46] ++ itoaS U[i].2)]] = A ++ (U.take (i + 1)).map fun u => [D.str (unitS u)] := by
      rw [List.append_assoc, ← map_take_snoc (fun u => [D.str (unitS u)]) hi]; rfl
    have l1 := itoaS_len U[i].1
    have l2 := itoaS_len U[i].2
    simp only [st, List.cons_append, List.nil_append, T.den, X.den, D.toSl, D.toBool, D.toInt, D.toStr, D.aggL, cmpI, List.getD_cons_zero, List.getD_cons_succ, List.length_map, Int.ofNat_lt, decide_eq_true hi, cond_true', Int.toNat_natCast, e1, pick_eq, itoa_ok,
      Option.bind_some, ge_iff_le, Int.natCast_nonneg, decide_true, List.map_cons, List.map_nil, List.length_append, List.length_cons, List.length_nil]
    rw [decide_eq_true (by omega)]
    simp only [cond_true']
    rw [decide_eq_true (by omega)]
    simp only [cond_true']
    rw [pick_ne _ (by decide), pick_eq, say_ok _ _ (by simp; omega), e2]
    simp only [Option.bind_some, T.den, X.den, D.toInt, D.aggL, List.getD_cons_zero, List.getD_cons_succ, binI]
    rw [IntWalk.i64_in _ (by omega)]
    rfl
theorem done_ok (A : List (List UInt8)) (h : (Lib.join A [32]).length ≤ 140737488355328) : F40 [.sl (A.map fun s => [.str s])] = some (0, [.str (Lib.join A [32])]) := by
  simp [F40, t40, T.den, X.den, D.aggL, pick_eq, F10058, ofStrs_strs, h]
end Go.Proofs.YtbfjeejgkceedaaGreatDoor
namespace Go.Proofs.YtbfjeejgkceedaaGreatDoor
open Go.RX

/-! What a reply is, and its words. -/
structure Deb where
  a : Int
  b : Int
  c : Int
  d : Int
  n : Int
structure Lt where
  a : Int
  t : Int
  q : Int
structure Rtn where
  a : Int
  b : Int
  c : Int
  l : List Lt
def Deb.toD (x : Deb) : List D := [.int x.a, .int x.b, .int x.c, .int x.d, .int x.n]
def Lt.toD (x : Lt) : List D := [.int x.a, .int x.t, .int x.q]
def Rtn.toD (x : Rtn) : List D := [.int x.a, .int x.b, .int x.c, .sl (x.l.map Lt.toD)]
def Deb.words (x : Deb) : List (List UInt8) := [[100, 101, 98, 105, 116], unitS (x.a, x.b), unitS (x.c, x.d), itoaS x.n]
def Lt.words (x : Lt) : List (List UInt8) := [[108, 111, 116], itoaS x.a, itoaS x.t, itoaS x.q]
def Rtn.words (x : Rtn) : List (List UInt8) := [[114, 101, 116, 117, 114, 110], unitS (x.a, x.b), itoaS x.c] ++ x.l.flatMap Lt.words
abbrev rows (W : List (List UInt8)) : List (List D) := W.map fun s => [.str s]
theorem rows_app (A B : List (List UInt8)) : rows A ++ rows B = rows (A ++ B) := by simp [rows]

theorem flat_snoc {α : Type} (f : α → List (List UInt8)) {l : List α} {i : Nat} (hi : i < l.length) : (l.take i).flatMap f ++ f l[i] = (l.take (i + 1)).flatMap f := by
  rw [← take_snoc hi, List.flatMap_append]; simp

/-- one debit's words -/
theorem F37_one (A : List (List UInt8)) (n : Int) (h : A.length ≤ 900000) : F37 [.sl (rows A), .sl [[.int n]]] = some (0, [.sl (rows (A ++ [itoaS n]))]) := by
  have := nums_ok (rows A) [n] (by simp; omega)
  simpa [rows] using this
theorem F37_three (A : List (List UInt8)) (a b c : Int) (h : A.length ≤ 900000) : F37 [.sl (rows A), .sl [[.int a], [.int b], [.int c]]] = some (0, [.sl (rows (A ++ [itoaS a, itoaS b, itoaS c]))]) := by
  have := nums_ok (rows A) [a, b, c] (by simp; omega)
  simpa [rows] using this
theorem F37_all (A : List (List UInt8)) (N : List Int) (h : A.length + N.length ≤ 1000000) : F37 [.sl (rows A), .sl (N.map fun n => [.int n])] = some (0, [.sl (rows (A ++ N.map itoaS))]) := by
  have := nums_ok (rows A) N (by simpa using h)
  rw [show rows (A ++ N.map itoaS) = rows A ++ N.map fun n => [D.str (itoaS n)] by simp [rows]]
  exact this
theorem F36_one (A : List (List UInt8)) (s : List UInt8) (h : A.length ≤ 900000) : F36 [.sl (rows A), .sl [[.str s]]] = some (0, [.sl (rows (A ++ [s]))]) := by
  have := say_ok (rows A) [[.str s]] (by simp; omega)
  simpa [rows] using this
theorem F38_one (A : List (List UInt8)) (a b : Int) (h : A.length ≤ 900000) : F38 [.sl (rows A), .sl [[.int a, .int b]]] = some (0, [.sl (rows (A ++ [unitS (a, b)]))]) := by
  have := units_ok (rows A) [(a, b)] (by simp; omega)
  simpa [rows] using this
theorem F38_two (A : List (List UInt8)) (a b c d : Int) (h : A.length ≤ 900000) : F38 [.sl (rows A), .sl [[.int a, .int b], [.int c, .int d]]] = some (0, [.sl (rows (A ++ [unitS (a, b), unitS (c, d)]))]) := by
  have := units_ok (rows A) [(a, b), (c, d)] (by simp; omega)
  simpa [rows] using this

structure Rep0 where
  e : Int
  n : List Int
  d : List Deb
  r : List Rtn
def Rep0.toD (x : Rep0) : D := .agg [.int x.e, .sl (x.n.map fun n => [.int n]), .sl (x.d.map Deb.toD), .sl (x.r.map Rtn.toD)]
def Rep0.head (x : Rep0) : List (List UInt8) := if x.e = 0 then [[111, 107]] else [[101, 114, 114, 111, 114], itoaS x.e]
def Rep0.words (x : Rep0) : List (List UInt8) := x.head ++ x.n.map itoaS ++ x.d.flatMap Deb.words ++ x.r.flatMap Rtn.words
/-- none too many of anything -/
structure Rep0.Small (x : Rep0) : Prop where
  n : x.n.length ≤ 1000
  d : x.d.length ≤ 1000
  r : x.r.length ≤ 1000
  l : ∀ y ∈ x.r, y.l.length ≤ 100

theorem lots_len (l : List Lt) : (l.flatMap Lt.words).length = 4 * l.length := by
  induction l with
  | nil => rfl
  | cons x l ih => simp [List.flatMap_cons, ih, Lt.words]; omega
theorem debs_len (l : List Deb) : (l.flatMap Deb.words).length = 4 * l.length := by
  induction l with
  | nil => rfl
  | cons x l ih => simp [List.flatMap_cons, ih, Deb.words]; omega
theorem rtns_len : ∀ (l : List Rtn), (∀ y ∈ l, y.l.length ≤ 100) → (l.flatMap Rtn.words).length ≤ 403 * l.length
  | [], _ => Nat.le_refl _
  | x :: l, h => by
    have h1 := rtns_len l (fun y hy => h y (List.mem_cons_of_mem _ hy))
    have h2 := h x (List.mem_cons_self ..)
    have h3 := lots_len x.l
    simp only [List.flatMap_cons, List.length_append, Rtn.words, List.length_cons, List.length_nil, h3]
    omega

theorem reply_ok (x : Rep0) (h : x.Small) (hj : (Lib.join x.words [32]).length ≤ 140737488355328) : F53 [x.toD] = some (0, [.str (Lib.join x.words [32])]) := by
  have hb : (rows x.head).length ≤ 2 := by unfold Rep0.head; split <;> simp
  have hD := debs_len x.d
  have hR := rtns_len x.r h.l
  have h1 := h.n
  have h2 := h.d
  have h3 := h.r
  unfold F53 t53 t53b0 t53b2 t53b1
  simp only [T.den, X.den, D.aggL, List.getD_cons_zero, Rep0.toD, cmpI, D.toInt, D.toBool]
  refine bind_of (r := (0, [D.sl (rows x.head)])) ?_ ?_
  · unfold Rep0.head
    by_cases he : x.e = 0
    · rw [if_pos he, show (x.e == 0) = true by simpa using he, cond_true']
      refine bind_of (r := (0, [D.sl (rows [[111, 107]])])) (pick_at rfl <| F36_one [] [111, 107] (by simp)) ?_
      simp [T.den, X.den, D.aggL]
    · rw [if_neg he, show (x.e == 0) = false by simpa using he, cond_false']
      refine bind_of (r := (0, [D.str (itoaS x.e)])) (pick_at rfl <| itoa_ok x.e) ?_
      simp only [T.den, X.den, D.aggL, List.cons_append, List.nil_append, List.getD_cons_zero, List.getD_cons_succ, List.map_cons, List.map_nil]
      refine bind_of (r := (0, [D.sl (rows [[101, 114, 114, 111, 114], itoaS x.e])])) (pick_at rfl <| say_ok [] [[.str [101, 114, 114, 111, 114]], [.str (itoaS x.e)]] (by simp)) ?_
      simp [T.den, X.den, D.aggL]
  simp only [T.den, X.den, D.aggL, List.cons_append, List.nil_append, List.getD_cons_zero, List.getD_cons_succ]
  have hb' : x.head.length ≤ 2 := by simpa [rows] using hb
  refine bind_of (r := (0, [D.sl (rows (x.head ++ x.n.map itoaS))])) (pick_at rfl <| F37_all x.head x.n (by omega)) ?_
  simp only [T.den, X.den, D.aggL, List.cons_append, List.nil_append, List.getD_cons_zero, List.getD_cons_succ, List.map_cons, List.map_nil]
  generalize hA1 : x.head ++ x.n.map itoaS = A1
  have hA1l : A1.length ≤ 1002 := by rw [← hA1]; simp; omega
  let st : Nat → List D := fun i => [.int i, .sl (rows (A1 ++ (x.d.take i).flatMap Deb.words))]
  refine bind_of (r := (1, [D.sl (rows (A1 ++ x.d.flatMap Deb.words))])) ?_ ?_
  · rw [show [D.int 0, D.sl (rows A1)] = st 0 by simp [st]]
    refine loopD_seq (st := st) x.d.length (fun i hi => ?_) ?_
    · have e1 : (x.d.map Deb.toD).getD i [] = x.d[i].toD := by simp [hi]
      have hl1 := debs_len (x.d.take i)
      rw [List.length_take] at hl1
      simp only [st, List.cons_append, List.nil_append, D.toSl, D.toBool, D.toInt, cmpI, List.getD_cons_zero, List.getD_cons_succ, List.length_map, Int.ofNat_lt, decide_eq_true hi, cond_true', ge_iff_le, Int.natCast_nonneg, decide_true]
      refine bind_of (r := (0, _)) (pick_at rfl <| F36_one _ _ (by simp only [List.length_append]; omega)) ?_
      simp only [T.den, X.den, D.toSl, D.toInt, D.aggL, List.cons_append, List.nil_append, List.getD_cons_zero, List.getD_cons_succ, Int.toNat_natCast, e1, Deb.toD, List.map_cons, List.map_nil]
      refine bind_of (r := (0, _)) (pick_at rfl <| F38_two _ _ _ _ _ (by simp only [List.length_append, List.length_cons, List.length_nil]; omega)) ?_
      simp only [T.den, X.den, D.toSl, D.toInt, D.aggL, List.cons_append, List.nil_append, List.getD_cons_zero, List.getD_cons_succ, Int.toNat_natCast, e1, Deb.toD, List.map_cons, List.map_nil]
      refine bind_of (r := (0, _)) (pick_at rfl <| F37_one _ _ (by simp only [List.length_append, List.length_cons, List.length_nil]; omega)) ?_
      simp only [T.den, X.den, D.toInt, D.aggL, List.getD_cons_zero, List.getD_cons_succ, binI]
      rw [IntWalk.i64_in _ (by omega), ← flat_snoc Deb.words hi]
      simp [Deb.words]
    · simp [st, D.toSl, D.toBool, D.toInt, cmpI, List.take_of_length_le]
  simp only [T.den, X.den, D.aggL, List.cons_append, List.nil_append, List.getD_cons_zero, List.getD_cons_succ, List.map_cons, List.map_nil]
  clear st
  generalize hA2 : A1 ++ x.d.flatMap Deb.words = A2
  have hA2l : A2.length ≤ 6000 := by rw [← hA2]; simp only [List.length_append]; omega
  let st : Nat → List D := fun i => [.int i, .sl (rows (A2 ++ (x.r.take i).flatMap Rtn.words))]
  refine bind_of (r := (1, [D.sl (rows (A2 ++ x.r.flatMap Rtn.words))])) ?_ ?_
  · rw [show [D.int 0, D.sl (rows A2)] = st 0 by simp [st]]
    refine loopD_seq (st := st) x.r.length (fun i hi => ?_) ?_
    · have e1 : (x.r.map Rtn.toD).getD i [] = x.r[i].toD := by simp [hi]
      have hl1 := rtns_len (x.r.take i) (fun y hy => h.l y (List.mem_of_mem_take hy))
      rw [List.length_take] at hl1
      have hll := h.l x.r[i] (List.getElem_mem hi)
      simp only [st, List.cons_append, List.nil_append, D.toSl, D.toBool, D.toInt, cmpI, List.getD_cons_zero, List.getD_cons_succ, List.length_map, Int.ofNat_lt, decide_eq_true hi, cond_true', ge_iff_le, Int.natCast_nonneg, decide_true]
      refine bind_of (r := (0, _)) (pick_at rfl <| F36_one _ _ (by simp only [List.length_append]; omega)) ?_
      simp only [T.den, X.den, D.toSl, D.toInt, D.aggL, List.cons_append, List.nil_append, List.getD_cons_zero, List.getD_cons_succ, Int.toNat_natCast, e1, Rtn.toD, List.map_cons, List.map_nil]
      refine bind_of (r := (0, _)) (pick_at rfl <| F38_one _ _ _ (by simp only [List.length_append, List.length_cons, List.length_nil]; omega)) ?_
      simp only [T.den, X.den, D.toSl, D.toInt, D.aggL, List.cons_append, List.nil_append, List.getD_cons_zero, List.getD_cons_succ, Int.toNat_natCast, e1, Rtn.toD, List.map_cons, List.map_nil]
      refine bind_of (r := (0, _)) (pick_at rfl <| F37_one _ _ (by simp only [List.length_append, List.length_cons, List.length_nil]; omega)) ?_
      simp only [T.den, X.den, D.toSl, D.toBool, D.toInt, D.aggL, List.cons_append, List.nil_append, List.getD_cons_zero, List.getD_cons_succ, Int.toNat_natCast, e1, Rtn.toD, List.map_cons, List.map_nil]
      generalize hA3 : A2 ++ (x.r.take i).flatMap Rtn.words ++ [[114, 101, 116, 117, 114, 110]] ++ [unitS (x.r[i].a, x.r[i].b)] ++ [itoaS x.r[i].c] = A3
      have hA3l : A3.length ≤ 600000 := by rw [← hA3]; simp only [List.length_append, List.length_cons, List.length_nil]; omega
      let st2 : Nat → List D := fun k => [.int k, .sl (rows (A3 ++ (x.r[i].l.take k).flatMap Lt.words))]
      refine bind_of (r := (1, [D.sl (rows (A3 ++ x.r[i].l.flatMap Lt.words))])) ?_ ?_
      · rw [show [D.int 0, D.sl (rows A3)] = st2 0 by simp [st2]]
        refine loopD_seq (st := st2) x.r[i].l.length (fun k hk => ?_) ?_
        · have e2 : (x.r[i].l.map Lt.toD).getD k [] = x.r[i].l[k].toD := by simp [hk]
          have hl2 := lots_len (x.r[i].l.take k)
          rw [List.length_take] at hl2
          simp only [st2, List.cons_append, List.nil_append, cmpI, List.getD_cons_zero, List.getD_cons_succ, List.length_map, Int.ofNat_lt, decide_eq_true hk, cond_true', ge_iff_le, Int.natCast_nonneg, decide_true]
          refine bind_of (r := (0, _)) (pick_at rfl <| F36_one _ _ (by simp only [List.length_append]; omega)) ?_
          simp only [T.den, X.den, D.toSl, D.toInt, D.aggL, List.cons_append, List.nil_append, List.getD_cons_zero, List.getD_cons_succ, Int.toNat_natCast, e1, e2, Rtn.toD, Lt.toD, List.map_cons, List.map_nil]
          refine bind_of (r := (0, _)) (pick_at rfl <| F37_three _ _ _ _ (by simp only [List.length_append, List.length_cons, List.length_nil]; omega)) ?_
          simp only [T.den, X.den, D.toInt, D.aggL, List.getD_cons_zero, List.getD_cons_succ, binI]
          rw [IntWalk.i64_in _ (by omega), ← flat_snoc Lt.words hk]
          simp [Lt.words]
        · simp [st2, cmpI, List.take_of_length_le]
      simp only [T.den, X.den, D.toInt, D.aggL, List.getD_cons_zero, List.getD_cons_succ, binI]
      rw [IntWalk.i64_in _ (by omega), ← flat_snoc Rtn.words hi, ← hA3]
      simp [Rtn.words]
    · simp [st, D.toSl, D.toBool, D.toInt, cmpI, List.take_of_length_le]
  simp only [T.den, X.den, D.aggL, List.cons_append, List.nil_append, List.getD_cons_zero, List.getD_cons_succ]
  have hw : A2 ++ x.r.flatMap Rtn.words = x.words := by rw [← hA2, ← hA1]; rfl
  rw [hw]
  refine bind_of (r := (0, _)) (pick_at rfl <| done_ok _ hj) ?_
  simp [T.den, X.den, D.aggL]
end Go.Proofs.YtbfjeejgkceedaaGreatDoor
namespace Go.Proofs.YtbfjeejgkceedaaGreatDoor
open Go.RX

/-! The document's numbers. -/
def bitsV : List Nat → Nat
  | [] => 0
  | b :: l => b + 2 * bitsV l
def bD (l : List Nat) : List (List D) := l.map fun (b : Nat) => [D.int (b : Int)]
theorem bD_len (l : List Nat) : (bD l).length = l.length := by simp [bD]
theorem bD_get {l : List Nat} {i : Nat} (h : i < l.length) : (bD l).getD i [] = [D.int ((l.getD i 0 : Nat) : Int)] := by simp [bD, h]
theorem bD_app (a b : List Nat) : bD a ++ bD b = bD (a ++ b) := by simp [bD]
theorem bD_one (x : Nat) : [[D.int (x : Int)]] = bD [x] := rfl
def IsBits (l : List Nat) : Prop := ∀ b ∈ l, b ≤ 1
theorem IsBits.get {l : List Nat} (h : IsBits l) (i : Nat) : l.getD i 0 ≤ 1 := by
  rw [List.getD_eq_getElem?_getD]
  cases hx : l[i]? with
  | none => simp
  | some b => exact h b (List.mem_of_getElem? hx)

def nb : Nat → Nat → List Nat
  | 0, _ => []
  | f + 1, u => if u = 0 then [] else (u % 2) :: nb f (u / 2)
theorem nb_len : ∀ (f u : Nat), (nb f u).length ≤ f
  | 0, _ => Nat.le_refl _
  | f + 1, u => by
    rw [nb]; split
    · simp
    · have := nb_len f (u / 2); simp; omega
theorem nb_val : ∀ (f u : Nat), u < 2 ^ f → bitsV (nb f u) = u ∧ IsBits (nb f u)
  | 0, u, h => by simp at h; subst h; exact ⟨rfl, by simp [nb, IsBits]⟩
  | f + 1, u, h => by
    rw [nb]; split
    · rename_i e; subst e; exact ⟨rfl, by simp [IsBits]⟩
    · obtain ⟨h1, h2⟩ := nb_val f (u / 2) (by rw [Nat.pow_succ] at h; omega)
      refine ⟨by rw [bitsV, h1]; omega, ?_⟩
      intro b hb
      rcases List.mem_cons.1 hb with rfl | hb
      · omega
      · exact h2 b hb

theorem nat_loop (φ : Nat → List D → Option (Nat × List D)) (u0 : D) : ∀ (f u : Nat) (acc : List Nat), u < 2 ^ f → f ≤ 64 → acc.length ≤ 1000 - f → u < 18446744073709551616 →
      loopD (fun st => t54b0.den φ 0 ([u0] ++ st)) [.int u, .sl (bD acc)] = some (1, [.sl (bD (acc ++ nb f u))]) := by
  intro f
  induction f with
  | zero =>
    intro u acc h _ _ _
    simp at h; subst h
    refine loopD_done ?_
    simp [t54b0, T.den, X.den, D.toSl, D.toBool, D.toInt, D.aggL, cmpI, nb]
  | succ f ih =>
    intro u acc h hf ha hu
    by_cases hz : u = 0
    · subst hz
      refine loopD_done ?_
      simp [t54b0, T.den, X.den, D.toSl, D.toBool, D.toInt, D.aggL, cmpI, nb]
    · have hpos : (0 : Int) < u := by omega
      have hq := ih (u / 2) (acc ++ [u % 2]) (by rw [Nat.pow_succ] at h; omega) (by omega) (by simp; omega) (by omega)
      rw [loopD_step (st' := [.int ((u / 2 : Nat) : Int), .sl (bD (acc ++ [u % 2]))]) ?_, hq]
      · rw [nb, if_neg hz]; simp
      · simp only [t54b0, T.den, X.den, D.toSl, D.toBool, D.toInt, D.aggL, List.cons_append, List.nil_append, List.getD_cons_zero, List.getD_cons_succ, List.map_cons, List.map_nil, cmpI, binI, gt_iff_lt, decide_eq_true hpos, cond_true', bD_len, List.length_cons, List.length_nil]
        rw [decide_eq_true (by omega), cond_true']
        have e1 : ((u : Int).tmod 2) = ((u % 2 : Nat) : Int) := by rw [Int.tmod_eq_emod_of_nonneg (by omega)]; rfl
        have e2 : ((u : Int).tdiv 2) = ((u / 2 : Nat) : Int) := by rw [Int.tdiv_eq_ediv_of_nonneg (by omega)]; rfl
        rw [e1, e2, IntWalk.u8_in _ (by omega), IntWalk.u64_in _ (by omega), bD_one, bD_app]

theorem nat_ok (u : Nat) (h : u < 18446744073709551616) : F54 [.int u] = some (0, [.sl (bD (nb 64 u))]) := by
  unfold F54 t54
  simp only [T.den, X.den, D.aggL, List.cons_append, List.nil_append, List.getD_cons_zero, List.map_nil]
  refine bind_of (nat_loop _ _ 64 u [] (by simpa using h) (by omega) (by simp) h) ?_
  simp [T.den, X.den, D.aggL]

/-! plus -/
def cry (a b : List Nat) : Nat → Nat
  | 0 => 0
  | i + 1 => (cry a b i + a.getD i 0 + b.getD i 0) / 2
def out (a b : List Nat) (i : Nat) : Nat := (cry a b i + a.getD i 0 + b.getD i 0) % 2
def outs (a b : List Nat) (n : Nat) : List Nat := (List.range n).map (out a b)
theorem bitsV_app : ∀ (a b : List Nat), bitsV (a ++ b) = bitsV a + 2 ^ a.length * bitsV b
  | [], b => by simp [bitsV]
  | x :: a, b => by
    rw [List.cons_append, bitsV, bitsV, bitsV_app a b, List.length_cons, Nat.pow_succ, Nat.mul_add, ← Nat.mul_assoc, Nat.mul_comm 2 (2 ^ a.length)]
    omega
theorem bitsV_take (l : List Nat) (i : Nat) : bitsV (l.take (i + 1)) = bitsV (l.take i) + 2 ^ i * l.getD i 0 := by
  by_cases h : i < l.length
  · rw [← take_snoc h, bitsV_app, List.length_take, Nat.min_eq_left (by omega)]
    simp [bitsV, h]
  · rw [List.take_of_length_le (by omega), List.take_of_length_le (by omega)]
    simp [Nat.not_lt.1 h]
theorem outs_succ (a b : List Nat) (n : Nat) : outs a b (n + 1) = outs a b n ++ [out a b n] := by
  simp [outs, List.range_succ]
theorem outs_len (a b : List Nat) (n : Nat) : (outs a b n).length = n := by simp [outs]
theorem outs_val (a b : List Nat) : ∀ n, bitsV (outs a b n) + 2 ^ n * cry a b n = bitsV (a.take n) + bitsV (b.take n)
  | 0 => by simp [outs, cry, bitsV]
  | n + 1 => by
    have ih := outs_val a b n
    rw [outs_succ, bitsV_app, outs_len, bitsV_take, bitsV_take, cry, bitsV, bitsV, out]
    have e : 2 ^ n * (cry a b n + a.getD n 0 + b.getD n 0) = 2 ^ n * ((cry a b n + a.getD n 0 + b.getD n 0) % 2) + 2 ^ (n + 1) * ((cry a b n + a.getD n 0 + b.getD n 0) / 2) := by
      rw [Nat.pow_succ, Nat.mul_assoc, ← Nat.mul_add, Nat.mod_add_div]
    rw [Nat.mul_add, Nat.mul_add] at e
    simp only [Nat.mul_zero, Nat.add_zero]
    omega
theorem cry_le {a b : List Nat} (ha : IsBits a) (hb : IsBits b) : ∀ n, cry a b n ≤ 1
  | 0 => by simp [cry]
  | n + 1 => by
    have := cry_le ha hb n
    have := ha.get n
    have := hb.get n
    rw [cry]; omega
theorem outs_bits (a b : List Nat) (n : Nat) : IsBits (outs a b n) := by
  intro x hx
  obtain ⟨i, _, rfl⟩ := List.mem_map.1 hx
  unfold out; omega

theorem plus_ok {a b : List Nat} (ha : IsBits a) (hb : IsBits b) (hl : a.length ≤ 1000) (hm : b.length ≤ 1000) :
    ∃ c, F55 [.sl (bD a), .sl (bD b)] = some (0, [.sl (bD c)]) ∧ bitsV c = bitsV a + bitsV b ∧ IsBits c ∧ c.length ≤ max a.length b.length + 1 := by
  have hv := outs_val a b (max a.length b.length)
  rw [List.take_of_length_le (Nat.le_max_left ..), List.take_of_length_le (Nat.le_max_right ..)] at hv
  have hc := cry_le ha hb (max a.length b.length)
  let st : Nat → List D := fun i => [.int (cry a b i), .int i, .sl (bD (outs a b i))]
  have key : loopD (fun st => t55b0.den (pick []) 0 ([.sl (bD a), .sl (bD b)] ++ st)) [.int 0, .int 0, .sl []] = some (1, [.int (cry a b (max a.length b.length)), .sl (bD (outs a b (max a.length b.length)))]) := by
    refine loopD_seq (st := st) (max a.length b.length) (fun i hi => ?_) ?_
    · have h0 := cry_le ha hb i
      have h1 := ha.get i
      have h2 := hb.get i
      have e2 : ∀ n : Nat, ((n : Int).tdiv 2) = ((n / 2 : Nat) : Int) := fun n => by rw [Int.tdiv_eq_ediv_of_nonneg (by omega)]; rfl
      have e1 : ∀ n : Nat, ((n : Int).tmod 2) = ((n % 2 : Nat) : Int) := fun n => by rw [Int.tmod_eq_emod_of_nonneg (by omega)]; rfl
      by_cases hA : i < a.length <;> by_cases hB : i < b.length
      all_goals simp only [st, t55b0, T.den, X.den, D.toSl, D.toBool, D.toInt, D.aggL, List.cons_append, List.nil_append, List.getD_cons_zero, List.getD_cons_succ, List.map_cons, List.map_nil, cmpI, binI, bD_len, Int.ofNat_lt, hA, hB, decide_true, decide_false, cond_true', cond_false', Option.bind_some, ge_iff_le, Int.natCast_nonneg, Int.toNat_natCast, bD_get, List.length_cons, List.length_nil, outs_len]
      · rw [decide_eq_true (by omega), cond_true', IntWalk.i64_in _ (by omega), IntWalk.u8_in (((cry a b i : Nat) : Int) + ((a.getD i 0 : Nat) : Int)) (by omega), IntWalk.u8_in (_ + _) (by omega)]
        rw [← Int.natCast_add, ← Int.natCast_add, e1, e2, IntWalk.u8_in _ (by omega), bD_one, bD_app, outs_succ]
        rfl
      · have hz : b.getD i 0 = 0 := by simp [Nat.not_lt.1 hB]
        rw [decide_eq_true (by omega), cond_true', IntWalk.i64_in _ (by omega), IntWalk.u8_in (_ + _) (by omega)]
        rw [← Int.natCast_add, e1, e2, IntWalk.u8_in _ (by omega), bD_one, bD_app, outs_succ]
        simp only [out, cry, hz, Nat.add_zero]
        rfl
      · have hz : a.getD i 0 = 0 := by simp [Nat.not_lt.1 hA]
        rw [decide_eq_true (by omega), cond_true', IntWalk.i64_in _ (by omega), IntWalk.u8_in (_ + _) (by omega)]
        rw [← Int.natCast_add, e1, e2, IntWalk.u8_in _ (by omega), bD_one, bD_app, outs_succ]
        simp only [out, cry, hz, Nat.add_zero]
        rfl
      · omega
    · simp [st, t55b0, T.den, X.den, D.toSl, D.toBool, D.toInt, D.aggL, cmpI, bD_len, Nat.not_lt.2 (Nat.le_max_left a.length b.length), Nat.not_lt.2 (Nat.le_max_right a.length b.length)]
  unfold F55 t55
  simp only [T.den, X.den, D.aggL, List.cons_append, List.nil_append, List.map_nil]
  by_cases hz : 0 < cry a b (max a.length b.length)
  · have e1 : cry a b (max a.length b.length) = 1 := by omega
    rw [e1] at key hv
    refine ⟨outs a b (max a.length b.length) ++ [1], bind_of key ?_, ?_, ?_, ?_⟩
    · simp only [T.den, X.den, D.toSl, D.toBool, D.toInt, D.aggL, List.cons_append, List.nil_append, List.getD_cons_zero, List.getD_cons_succ, List.map_cons, List.map_nil, cmpI, bD_len, outs_len, List.length_cons, List.length_nil]
      rw [decide_eq_true (by omega), decide_eq_true (by omega), cond_true', cond_true', bD_one, bD_app]
      rfl
    · rw [bitsV_app, outs_len]; simpa [bitsV] using hv
    · intro x hx
      rcases List.mem_append.1 hx with hx | hx
      · exact outs_bits a b _ x hx
      · simp at hx; omega
    · simp [outs_len]
  · have e1 : cry a b (max a.length b.length) = 0 := by omega
    rw [e1] at key hv
    refine ⟨outs a b (max a.length b.length), bind_of key ?_, by simpa using hv, outs_bits _ _ _, by rw [outs_len]; omega⟩
    simp [T.den, X.den, D.toSl, D.toBool, D.toInt, D.aggL, cmpI]

/-! trim -/
theorem trim_loop (φ : Nat → List D → Option (Nat × List D)) (x : D) {l : List Nat} (hl : l.length ≤ 1000) : ∀ n, n ≤ l.length →
    ∃ m, m ≤ n ∧ loopD (fun st => t57b0.den φ 0 ([x, .sl (bD l)] ++ st)) [.int n] = some (1, [.int (m : Nat)]) ∧ bitsV (l.take m) = bitsV (l.take n) ∧ (0 < m → 0 < bitsV (l.take m)) := by
  intro n
  induction n with
  | zero =>
    intro _
    refine ⟨0, Nat.le_refl _, loopD_done ?_, rfl, by omega⟩
    simp [t57b0, T.den, X.den, D.toSl, D.toBool, D.toInt, D.aggL, cmpI]
  | succ n ih =>
    intro hn
    have hs : IntKind.i64.wrap (((n + 1 : Nat) : Int) - 1) = (n : Int) := by rw [IntWalk.i64_in _ (by omega)]; omega
    have hb : t57b0.den φ 0 ([x, .sl (bD l)] ++ [.int ((n + 1 : Nat) : Int)]) = bif decide (l.getD n 0 = 0) then some (0, [.int n]) else some (1, [.int ((n + 1 : Nat) : Int)]) := by
      simp only [t57b0, T.den, X.den, D.toSl, D.toBool, D.toInt, D.aggL, List.cons_append, List.nil_append, List.getD_cons_zero, List.getD_cons_succ, cmpI, binI, bD_len, hs, Int.toNat_natCast, bD_get (show n < l.length by omega)]
      rw [decide_eq_true (by omega), decide_eq_true (by omega), decide_eq_true (by omega)]
      simp only [cond_true', Option.bind_some, T.den, X.den, D.toBool, D.toInt, D.aggL, List.getD_cons_zero, List.getD_cons_succ, binI, hs]
      rw [show (((l.getD n 0 : Nat) : Int) == 0) = decide (l.getD n 0 = 0) by rw [Bool.eq_iff_iff]; simp]
    by_cases h0 : l.getD n 0 = 0
    · rw [decide_eq_true h0] at hb
      obtain ⟨m, hm, hlp, hv, hp⟩ := ih (by omega)
      exact ⟨m, by omega, (loopD_step (body := fun st => t57b0.den φ 0 ([x, .sl (bD l)] ++ st)) hb).trans hlp, by rw [hv, bitsV_take, h0]; simp, hp⟩
    · rw [decide_eq_false h0] at hb
      refine ⟨n + 1, Nat.le_refl _, loopD_done hb, rfl, fun _ => ?_⟩
      rw [bitsV_take]
      have := Nat.mul_pos (Nat.two_pow_pos n) (Nat.pos_of_ne_zero h0)
      omega
theorem trim_ok (neg : Bool) {l : List Nat} (hb : IsBits l) (hl : l.length ≤ 1000) :
    ∃ c, F57 [.bool neg, .sl (bD l)] = some (0, [.bool (neg && decide (0 < c.length)), .sl (bD c)]) ∧ bitsV c = bitsV l ∧ IsBits c ∧ c.length ≤ l.length ∧ (0 < c.length → 0 < bitsV c) := by
  obtain ⟨m, hm, hlp, hv, hp⟩ := trim_loop (pick []) (.bool neg) hl l.length (Nat.le_refl _)
  rw [List.take_of_length_le (Nat.le_refl _)] at hv
  have hc : (l.take m).length = m := by rw [List.length_take]; omega
  refine ⟨l.take m, ?_, hv, fun b h => hb b (List.mem_of_mem_take h), by omega, by rw [hc]; exact hp⟩
  unfold F57 t57
  simp only [T.den, X.den, D.toSl, D.aggL, List.cons_append, List.nil_append, List.getD_cons_zero, List.getD_cons_succ, bD_len]
  refine bind_of hlp ?_
  simp only [T.den, X.den, D.toSl, D.toBool, D.toInt, D.aggL, List.cons_append, List.nil_append, List.getD_cons_zero, List.getD_cons_succ, cmpI, bD_len, hc]
  rw [decide_eq_true (show (0 : Int) ≤ m by omega), decide_eq_true (show (m : Int) ≤ l.length by omega)]
  cases neg <;> simp [bD, T.den, X.den, D.toSl, D.toInt, D.aggL]

/-! Div by ten -/
theorem bitsV_drop {l : List Nat} {i : Nat} (h : i < l.length) : bitsV (l.drop i) = l.getD i 0 + 2 * bitsV (l.drop (i + 1)) := by
  rw [List.drop_eq_getElem_cons h, bitsV]; simp [h]
theorem div_step (φ : Nat → List D → Option (Nat × List D)) (x : D) {l : List Nat} (hb : IsBits l) (hl : l.length ≤ 1000) {n : Nat} (hn : n + 1 ≤ l.length) {r : Nat} (hr : r < 10) {q : List Nat} (hq : q.length ≤ 1000) :
    ∃ (R b : Nat), t63b0.den φ 0 ([D.agg [x, D.sl (bD l)], D.int 10] ++ [.int r, .int ((n + 1 : Nat) : Int), .sl (bD q)]) =
        some (0, [.int R, .int n, .sl (bD (b :: q))]) ∧ R < 10 ∧ b ≤ 1 ∧ 2 * r + l.getD n 0 = 10 * b + R := by
  have hs : IntKind.i64.wrap (((n + 1 : Nat) : Int) - 1) = (n : Int) := by rw [IntWalk.i64_in _ (by omega)]; omega
  have hg := hb.get n
  have h2 : IntKind.u64.wrap (2 * (r : Int)) = 2 * r := IntWalk.u64_in _ (by omega)
  have h3 : IntKind.u64.wrap ((l.getD n 0 : Nat) : Int) = (l.getD n 0 : Nat) := IntWalk.u64_in _ (by omega)
  have h4 : IntKind.u64.wrap (2 * (r : Int) + (l.getD n 0 : Nat)) = 2 * (r : Int) + (l.getD n 0 : Nat) := IntWalk.u64_in _ (by omega)
  simp only [t63b0, T.den, X.den, D.toSl, D.toBool, D.toInt, D.aggL, List.cons_append, List.nil_append, List.getD_cons_zero, List.getD_cons_succ, cmpI, binI, bD_len, hs, Int.toNat_natCast, bD_get (show n < l.length by omega), h2, h3, h4]
  rw [decide_eq_true (show ((n + 1 : Nat) : Int) > 0 by omega), decide_eq_true (show (n : Int) ≥ 0 by omega), decide_eq_true (show (n : Int) < l.length by omega)]
  by_cases h0 : 10 ≤ 2 * r + l.getD n 0
  · refine ⟨2 * r + l.getD n 0 - 10, 1, ?_, by omega, by omega, by omega⟩
    rw [decide_eq_true (show 2 * (r : Int) + (l.getD n 0 : Nat) ≥ 10 by omega)]
    simp only [cond_true', Option.bind_some, T.den, X.den, D.toSl, D.toBool, D.toInt, D.aggL, List.cons_append, List.nil_append, List.getD_cons_zero, List.getD_cons_succ, List.map_cons, List.map_nil, binI, hs, bD_len, List.length_cons, List.length_nil]
    rw [decide_eq_true (by omega), decide_eq_true (by omega), IntWalk.u64_in _ (by omega)]
    simp only [cond_true']
    rw [show 2 * (r : Int) + (l.getD n 0 : Nat) - 10 = ((2 * r + l.getD n 0 - 10 : Nat) : Int) by omega]
    rfl
  · refine ⟨2 * r + l.getD n 0, 0, ?_, by omega, by omega, by omega⟩
    rw [decide_eq_false (show ¬ (2 * (r : Int) + (l.getD n 0 : Nat) ≥ 10) by omega)]
    simp only [cond_true', cond_false', Option.bind_some, T.den, X.den, D.toSl, D.toBool, D.toInt, D.aggL, List.cons_append, List.nil_append, List.getD_cons_zero, List.getD_cons_succ, List.map_cons, List.map_nil, binI, hs, bD_len, List.length_cons, List.length_nil]
    rw [decide_eq_true (by omega), decide_eq_true (by omega)]
    simp only [cond_true']
    rw [show 2 * (r : Int) + (l.getD n 0 : Nat) = ((2 * r + l.getD n 0 : Nat) : Int) by omega]
    rfl
theorem div_loop (φ : Nat → List D → Option (Nat × List D)) (x : D) {l : List Nat} (hb : IsBits l) (hl : l.length ≤ 1000) : ∀ i, i ≤ l.length → ∀ (r : Nat) (q : List Nat),
    r < 10 → bitsV (l.drop i) = 10 * bitsV q + r → IsBits q → q.length + i = l.length →
    ∃ (r' : Nat) (q' : List Nat), loopD (fun st => t63b0.den φ 0 ([D.agg [x, D.sl (bD l)], D.int 10] ++ st)) [.int r, .int i, .sl (bD q)] = some (1, [.int r', .sl (bD q')]) ∧ r' < 10 ∧ bitsV l = 10 * bitsV q' + r' ∧ IsBits q' ∧ q'.length = l.length := by
  intro i
  induction i with
  | zero =>
    intro _ r q hr hv hq hlen
    refine ⟨r, q, loopD_done ?_, hr, by simpa using hv, hq, by omega⟩
    simp [t63b0, T.den, X.den, D.toSl, D.toBool, D.toInt, D.aggL, cmpI]
  | succ n ih =>
    intro hn r q hr hv hq hlen
    obtain ⟨R, b, hb', hR, hb1, he⟩ := div_step φ x hb hl hn hr (q := q) (by omega)
    obtain ⟨r', q', h1, h2⟩ := ih (by omega) R (b :: q) hR (by rw [bitsV_drop (by omega), hv, bitsV]; omega) (by
      intro y h
      rcases List.mem_cons.1 h with rfl | h
      · exact hb1
      · exact hq y h) (by simp only [List.length_cons]; omega)
    exact ⟨r', q', (loopD_step (body := fun st => t63b0.den φ 0 ([D.agg [x, D.sl (bD l)], D.int 10] ++ st)) hb').trans h1, h2⟩
theorem div_ok {l : List Nat} (hb : IsBits l) (hl : l.length ≤ 1000) :
    ∃ c, F63 [.agg [.bool false, .sl (bD l)], .int 10] = some (0, [.bool false, .sl (bD c), .int ((bitsV l % 10 : Nat) : Int)]) ∧ bitsV c = bitsV l / 10 ∧ IsBits c ∧ c.length ≤ l.length ∧ (0 < c.length → 0 < bitsV c) := by
  obtain ⟨r, q, hlp, hr, hv, hq, hlen⟩ := div_loop (pick [(54, F54), (57, F57), (62, F62)]) (.bool false) hb hl l.length (Nat.le_refl _) 0 [] (by omega) (by simp [bitsV]) (by simp [IsBits]) (by simp)
  obtain ⟨c, hc, hcv, hcb, hcl, hcp⟩ := trim_ok false hq (by omega)
  refine ⟨c, ?_, by omega, hcb, by omega, hcp⟩
  unfold F63 t63
  simp only [T.den, X.den, D.toSl, D.aggL, List.cons_append, List.nil_append, List.getD_cons_zero, List.getD_cons_succ, List.map_nil, bD_len]
  refine bind_of hlp ?_
  simp only [T.den, X.den, D.aggL, List.cons_append, List.nil_append, List.getD_cons_zero, List.getD_cons_succ]
  refine bind_of (pick_at rfl <| hc) ?_
  have : bitsV l % 10 = r := by omega
  simp [T.den, X.den, D.toBool, D.toInt, D.aggL, this]

/-! Digits -/
theorem digits_step {l : List Nat} (hb : IsBits l) (hl : l.length ≤ 1000) (y : D) (s : List UInt8) (hs : s.length ≤ 1000) (hne : s = [] ∨ 0 < l.length) :
    ∃ c, t64b0.den (pick [(63, F63)]) 0 ([y] ++ [.str s, .bool false, .sl (bD l)]) = some (0, [.str ([UInt8.ofNat (48 + bitsV l % 10)] ++ s), .bool false, .sl (bD c)]) ∧ bitsV c = bitsV l / 10 ∧ IsBits c ∧ c.length ≤ l.length ∧ (0 < c.length → 0 < bitsV c) := by
  obtain ⟨c, hc, hcv, hcb, hcl, hcp⟩ := div_ok hb hl
  refine ⟨c, ?_, hcv, hcb, hcl, hcp⟩
  simp only [t64b0, T.den, X.den, D.toSl, D.toBool, D.toInt, D.toStr, D.aggL, List.cons_append, List.nil_append, List.getD_cons_zero, List.getD_cons_succ, cmpI, bD_len]
  refine bind_of (r := (0, [.bool true])) ?_ ?_
  · rcases hne with rfl | h
    · rfl
    · by_cases h0 : s = []
      · subst h0; rfl
      · simp [h]
  · simp only [T.den, X.den, D.toBool, D.aggL, List.cons_append, List.nil_append, List.getD_cons_zero, List.getD_cons_succ, cond_true']
    refine bind_of (pick_at rfl <| hc) ?_
    have e3 : IntKind.u64.wrap (48 + ((bitsV l % 10 : Nat) : Int)) = ((48 + bitsV l % 10 : Nat) : Int) := by rw [IntWalk.u64_in _ (by omega)]; omega
    have e4 : IntKind.u8.wrap ((48 + bitsV l % 10 : Nat) : Int) = ((48 + bitsV l % 10 : Nat) : Int) := IntWalk.u8_in _ (by omega)
    simp only [T.den, X.den, D.toSl, D.toBool, D.toInt, D.toStr, D.aggL, List.cons_append, List.nil_append, List.getD_cons_zero, List.getD_cons_succ, List.map_cons, List.map_nil, binI, e3, e4, List.headD_cons, Int.toNat_natCast, List.length_cons, List.length_nil]
    rw [decide_eq_true (by omega), cond_true']
theorem digits_loop (y : D) : ∀ (f : Nat) (l : List Nat) (s : List UInt8), IsBits l → l.length ≤ 1000 → s ≠ [] → s.length + f ≤ 900 → (0 < l.length → 0 < bitsV l) → bitsV l < 10 ^ f →
    loopD (fun st => t64b0.den (pick [(63, F63)]) 0 ([y] ++ st)) [.str s, .bool false, .sl (bD l)] = some (1, [.str ((if bitsV l = 0 then [] else decF f (bitsV l)) ++ s)]) := by
  intro f
  induction f with
  | zero =>
    intro l s hb hl hs hf hn hv
    have h0 : bitsV l = 0 := by simpa using hv
    have hl0 : l = [] := by
      cases l with
      | nil => rfl
      | cons a b => have := hn (by simp); omega
    subst hl0
    refine loopD_done ?_
    have hse : s.isEmpty = false := by
      cases s with
      | nil => exact absurd rfl hs
      | cons a b => rfl
    simp [t64b0, T.den, X.den, D.toSl, D.toBool, D.toInt, D.toStr, D.aggL, cmpI, cmpS, bD, bitsV, hse]
  | succ f ih =>
    intro l s hb hl hs hf hn hv
    by_cases hz : l = []
    · subst hz
      refine loopD_done ?_
      have hse : s.isEmpty = false := by
        cases s with
        | nil => exact absurd rfl hs
        | cons a b => rfl
      simp [t64b0, T.den, X.den, D.toSl, D.toBool, D.toInt, D.toStr, D.aggL, cmpI, cmpS, bD, bitsV, hse]
    · have hlp : 0 < l.length := List.length_pos_iff.2 hz
      obtain ⟨c, hstep, hcv, hcb, hcl, hcp⟩ := digits_step hb hl y s (by omega) (.inr hlp)
      have hvp := hn hlp
      rw [Nat.pow_succ] at hv
      have hi := ih c ([UInt8.ofNat (48 + bitsV l % 10)] ++ s) hcb (by omega) (by simp) (by simp only [List.length_append, List.length_cons, List.length_nil]; omega) hcp (by omega)
      refine (loopD_step (body := fun st => t64b0.den (pick [(63, F63)]) 0 ([y] ++ st)) hstep).trans ?_
      rw [hi, if_neg (show ¬ bitsV l = 0 by omega), hcv, decF]
      by_cases h10 : bitsV l < 10
      · rw [if_pos h10, if_pos (show bitsV l / 10 = 0 by omega), Nat.mod_eq_of_lt h10]; rfl
      · rw [if_neg h10, if_neg (show ¬ bitsV l / 10 = 0 by omega), List.append_assoc]
theorem digits_ok (neg : Bool) {l : List Nat} (hb : IsBits l) (hl : l.length ≤ 1000) (hv : bitsV l < 10 ^ 20) :
    F64 [.agg [.bool neg, .sl (bD l)]] = some (0, [.str (if neg then 45 :: decF 20 (bitsV l) else decF 20 (bitsV l))]) := by
  obtain ⟨c, hstep, hcv, hcb, hcl, hcp⟩ := digits_step hb hl (.agg [.bool neg, .sl (bD l)]) [] (by simp) (.inl rfl)
  have hi := digits_loop (.agg [.bool neg, .sl (bD l)]) 19 c ([UInt8.ofNat (48 + bitsV l % 10)] ++ []) hcb (by omega) (by simp) (by simp) hcp (by omega)
  have hd := (loopD_step (body := fun st => t64b0.den (pick [(63, F63)]) 0 ([D.agg [.bool neg, .sl (bD l)]] ++ st)) hstep).trans hi
  rw [show (if bitsV c = 0 then [] else decF 19 (bitsV c)) ++ ([UInt8.ofNat (48 + bitsV l % 10)] ++ []) = decF 20 (bitsV l) by
    rw [hcv, show decF 20 (bitsV l) = if bitsV l < 10 then [UInt8.ofNat (48 + bitsV l)] else decF 19 (bitsV l / 10) ++ [UInt8.ofNat (48 + bitsV l % 10)] from rfl]
    by_cases h10 : bitsV l < 10
    · rw [if_pos h10, if_pos (show bitsV l / 10 = 0 by omega), Nat.mod_eq_of_lt h10]; rfl
    · rw [if_neg h10, if_neg (show ¬ bitsV l / 10 = 0 by omega)]; rfl] at hd
  unfold F64 t64
  simp only [T.den, X.den, D.aggL, List.cons_append, List.nil_append, List.getD_cons_zero, List.getD_cons_succ]
  refine bind_of hd ?_
  have hdl := decF_len 20 (bitsV l)
  cases neg
  · simp [T.den, X.den, D.toBool, D.toStr, D.aggL]
  · simp only [T.den, X.den, D.toBool, D.toStr, D.aggL, List.cons_append, List.nil_append, List.getD_cons_zero, List.getD_cons_succ, cond_true', List.length_cons, List.length_nil]
    rw [decide_eq_true (by omega)]
    rfl

/-! num -/
theorem of_ok (n : Int) (h0 : -9223372036854775808 ≤ n) (h1 : n ≤ 9223372036854775807) :
    ∃ l, F56 [.int n] = some (0, [.bool (decide (n < 0)), .sl (bD l)]) ∧ bitsV l = n.natAbs ∧ IsBits l ∧ l.length ≤ 100 := by
  by_cases hn : n < 0
  · have e1 : IntKind.i64.wrap (n + 1) = n + 1 := IntWalk.i64_in _ (by omega)
    have e2 : IntKind.i64.wrap (0 - (n + 1)) = ((n.natAbs - 1 : Nat) : Int) := by rw [IntWalk.i64_in _ (by omega)]; omega
    have e3 : IntKind.u64.wrap ((n.natAbs - 1 : Nat) : Int) = ((n.natAbs - 1 : Nat) : Int) := IntWalk.u64_in _ (by omega)
    have hk := nat_ok (n.natAbs - 1) (by omega)
    obtain ⟨hv, hb⟩ := nb_val 64 (n.natAbs - 1) (by omega)
    have hl := nb_len 64 (n.natAbs - 1)
    obtain ⟨c, hc, hcv, hcb, hcl⟩ := plus_ok (a := nb 64 (n.natAbs - 1)) (b := [1]) hb (by simp [IsBits]) (by omega) (by simp)
    refine ⟨c, ?_, by rw [hcv, hv]; simp [bitsV]; omega, hcb, by simp at hcl; omega⟩
    unfold F56 t56
    simp only [T.den, X.den, D.toBool, D.toInt, D.aggL, List.cons_append, List.nil_append, List.getD_cons_zero, cmpI, binI, e1, e2, e3]
    rw [decide_eq_false (show ¬ n ≥ 0 by omega), decide_eq_true hn]
    simp only [cond_false']
    refine bind_of (pick_at rfl <| hk) ?_
    simp only [T.den, X.den, D.aggL, List.cons_append, List.nil_append, List.getD_cons_zero, List.getD_cons_succ, List.map_cons, List.map_nil]
    refine bind_of (pick_at rfl <| hc) ?_
    rfl
  · have e3 : IntKind.u64.wrap n = ((n.natAbs : Nat) : Int) := by rw [IntWalk.u64_in _ (by omega)]; omega
    have hk := nat_ok n.natAbs (by omega)
    obtain ⟨hv, hb⟩ := nb_val 64 n.natAbs (by omega)
    have hl := nb_len 64 n.natAbs
    refine ⟨_, ?_, hv, hb, by omega⟩
    unfold F56 t56
    simp only [T.den, X.den, D.toBool, D.toInt, D.aggL, List.cons_append, List.nil_append, List.getD_cons_zero, cmpI, binI, e3]
    rw [decide_eq_true (show n ≥ 0 by omega), decide_eq_false hn]
    simp only [cond_true']
    refine bind_of (pick_at rfl <| hk) ?_
    rfl
theorem num_ok (n : Int) (h0 : -9223372036854775808 ≤ n) (h1 : n ≤ 9223372036854775807) : F65 [.int n] = some (0, [.str (itoaS n)]) := by
  obtain ⟨l, hl, hv, hb, hlen⟩ := of_ok n h0 h1
  have hd := digits_ok (decide (n < 0)) hb (by omega) (by omega)
  unfold F65 t65
  simp only [T.den, X.den, D.aggL, List.cons_append, List.nil_append, List.getD_cons_zero]
  refine bind_of (pick_at rfl <| hl) ?_
  simp only [T.den, X.den, D.aggL, List.cons_append, List.nil_append, List.getD_cons_zero, List.getD_cons_succ]
  refine bind_of (pick_at rfl <| hd) ?_
  simp only [T.den, X.den, D.aggL, List.getD_cons_zero, List.getD_cons_succ, itoaS, hv]
  by_cases hn : n < 0
  · simp [hn]
  · rw [show n.toNat = n.natAbs by omega]; simp [hn]
theorem runit_ok (u : Int × Int) (h0 : -9223372036854775808 ≤ u.1) (h1 : u.1 ≤ 9223372036854775807) (h2 : -9223372036854775808 ≤ u.2) (h3 : u.2 ≤ 9223372036854775807) :
    F66 [.agg [.int u.1, .int u.2]] = some (0, [.str (unitS u)]) := by
  have l1 := itoaS_len u.1
  have l2 := itoaS_len u.2
  unfold F66 t66
  simp only [T.den, X.den, D.aggL, List.cons_append, List.nil_append, List.getD_cons_zero]
  refine bind_of (pick_at rfl <| num_ok _ h0 h1) ?_
  simp only [T.den, X.den, D.toBool, D.toStr, D.aggL, List.cons_append, List.nil_append, List.getD_cons_zero, List.getD_cons_succ, List.length_cons, List.length_nil]
  rw [decide_eq_true (by omega), cond_true']
  refine bind_of (pick_at rfl <| num_ok _ h2 h3) ?_
  simp only [T.den, X.den, D.toBool, D.toStr, D.aggL, List.getD_cons_zero, List.getD_cons_succ, List.length_append, List.length_cons, List.length_nil]
  rw [decide_eq_true (by omega), cond_true']
  rfl
end Go.Proofs.YtbfjeejgkceedaaGreatDoor
namespace Go.Proofs.YtbfjeejgkceedaaGreatDoor
open Go.RX

/-! The document's reply. -/
abbrev J (A : List (List UInt8)) : List UInt8 := Lib.joinTail [32] A
theorem J_nil : J [] = [] := rfl
theorem J_cons (w : List UInt8) (A : List (List UInt8)) : J (w :: A) = [32] ++ w ++ J A := by simp [J, Lib.joinTail]
theorem J_app (A B : List (List UInt8)) : J (A ++ B) = J A ++ J B := by simp [J, Lib.joinTail]
theorem J_len : ∀ (A : List (List UInt8)), (∀ w ∈ A, w.length ≤ 43) → (J A).length ≤ 44 * A.length
  | [], _ => Nat.le_refl _
  | x :: A, h => by
    have h1 := J_len A (fun y hy => h y (List.mem_cons_of_mem _ hy))
    have h2 := h x (List.mem_cons_self ..)
    rw [J_cons]
    simp only [List.length_append, List.length_cons, List.length_nil]
    omega
def I64 (n : Int) : Prop := -9223372036854775808 ≤ n ∧ n ≤ 9223372036854775807
structure Deb.In (x : Deb) : Prop where
  a : I64 x.a
  b : I64 x.b
  c : I64 x.c
  d : I64 x.d
  n : I64 x.n
structure Lt.In (x : Lt) : Prop where
  a : I64 x.a
  t : I64 x.t
  q : I64 x.q
structure Rtn.In (x : Rtn) : Prop where
  a : I64 x.a
  b : I64 x.b
  c : I64 x.c
  l : ∀ y ∈ x.l, y.In
structure Rep0.In (x : Rep0) : Prop where
  e : I64 x.e
  n : ∀ y ∈ x.n, I64 y
  d : ∀ y ∈ x.d, y.In
  r : ∀ y ∈ x.r, y.In
theorem num_in {n : Int} (h : I64 n) : F65 [.int n] = some (0, [.str (itoaS n)]) := num_ok n h.1 h.2
theorem unit_in {a b : Int} (h : I64 a) (k : I64 b) : F66 [.agg [.int a, .int b]] = some (0, [.str (unitS (a, b))]) := runit_ok (a, b) h.1 h.2 k.1 k.2
theorem unitS_le (a b : Int) : (unitS (a, b)).length ≤ 43 := unitS_len (a, b)
theorem deb_words_le (x : Deb) : ∀ w ∈ x.words, w.length ≤ 43 := by
  have h1 := unitS_len (x.a, x.b); have h2 := unitS_len (x.c, x.d); have h3 := itoaS_len x.n
  intro w hw
  simp only [Deb.words, List.mem_cons, List.not_mem_nil, or_false] at hw
  rcases hw with rfl | rfl | rfl | rfl
  · simp
  · exact h1
  · exact h2
  · omega
theorem lt_words_le (x : Lt) : ∀ w ∈ x.words, w.length ≤ 43 := by
  have h1 := itoaS_len x.a; have h2 := itoaS_len x.t; have h3 := itoaS_len x.q
  intro w hw
  simp only [Lt.words, List.mem_cons, List.not_mem_nil, or_false] at hw
  rcases hw with rfl | rfl | rfl | rfl
  · simp
  · omega
  · omega
  · omega
theorem flat_le {α : Type} {f : α → List (List UInt8)} (h : ∀ x, ∀ w ∈ f x, w.length ≤ 43) (l : List α) : ∀ w ∈ l.flatMap f, w.length ≤ 43 := by
  intro w hw
  obtain ⟨x, _, hx⟩ := List.mem_flatMap.1 hw
  exact h x w hx
theorem rtn_words_le (x : Rtn) : ∀ w ∈ x.words, w.length ≤ 43 := by
  have h1 := unitS_len (x.a, x.b); have h3 := itoaS_len x.c
  intro w hw
  simp only [Rtn.words, List.mem_append, List.mem_cons, List.not_mem_nil, or_false] at hw
  rcases hw with (rfl | rfl | rfl) | hw
  · simp
  · exact h1
  · omega
  · exact flat_le lt_words_le _ w hw

theorem ref_nums {φ : Nat → List D → Option (Nat × List D)} (hφ : φ 65 = F65) {x : Rep0} (h : x.Small) (hi : x.In) (y : D) {s : List UInt8} (hs : s.length ≤ 100000000) :
    loopD (fun st => t67b0.den φ 0 ([x.toD, y] ++ st)) [.str s, .int 0] = some (1, [.str (s ++ J (x.n.map itoaS))]) := by
  have hn := h.n
  let st : Nat → List D := fun i => [.str (s ++ J ((x.n.take i).map itoaS)), .int i]
  rw [show [D.str s, D.int 0] = st 0 by simp [st, J_nil]]
  refine loopD_seq (st := st) x.n.length (fun i hi' => ?_) ?_
  · have e1 : (x.n.map fun n => [D.int n]).getD i [] = [.int x.n[i]] := by simp [hi']
    have hl := J_len ((x.n.take i).map itoaS) (by
      intro w hw; obtain ⟨n, _, rfl⟩ := List.mem_map.1 hw; have := itoaS_len n; omega)
    rw [List.length_map, List.length_take] at hl
    have hl1 := itoaS_len x.n[i]
    simp only [st, t67b0, T.den, X.den, D.toSl, D.toBool, D.toInt, D.toStr, D.aggL, List.cons_append, List.nil_append, List.getD_cons_zero, List.getD_cons_succ, cmpI, Rep0.toD, List.length_map, Int.ofNat_lt, decide_eq_true hi', cond_true', e1, Int.toNat_natCast, ge_iff_le, Int.natCast_nonneg, decide_true, List.length_append, List.length_cons, List.length_nil, hφ]
    rw [decide_eq_true (by omega), cond_true']
    refine bind_of (num_in (hi.n _ (List.getElem_mem hi'))) ?_
    simp only [T.den, X.den, D.toBool, D.toInt, D.toStr, D.aggL, List.getD_cons_zero, List.getD_cons_succ, List.length_append, List.length_cons, List.length_nil, binI]
    rw [decide_eq_true (by omega), cond_true', IntWalk.i64_in _ (by omega), ← map_take_snoc itoaS hi', J_app, J_cons, J_nil]
    simp
  · simp [st, t67b0, T.den, X.den, D.toSl, D.toBool, D.toInt, D.aggL, cmpI, Rep0.toD, List.take_of_length_le]
theorem ref_debs {φ : Nat → List D → Option (Nat × List D)} (hφ : φ 65 = F65) (hφ' : φ 66 = F66) {x : Rep0} (h : x.Small) (hi : x.In) (y z : D) {s : List UInt8} (hs : s.length ≤ 100000000) :
    loopD (fun st => t67b1.den φ 0 ([x.toD, y, z] ++ st)) [.str s, .int 0] = some (1, [.str (s ++ J (x.d.flatMap Deb.words))]) := by
  have hn := h.d
  let st : Nat → List D := fun i => [.str (s ++ J ((x.d.take i).flatMap Deb.words)), .int i]
  rw [show [D.str s, D.int 0] = st 0 by simp [st, J_nil]]
  refine loopD_seq (st := st) x.d.length (fun i hi' => ?_) ?_
  · have e1 : (x.d.map Deb.toD).getD i [] = x.d[i].toD := by simp [hi']
    have hl := J_len ((x.d.take i).flatMap Deb.words) (flat_le deb_words_le _)
    rw [debs_len, List.length_take] at hl
    have hd := hi.d _ (List.getElem_mem hi')
    have h1 := unitS_le x.d[i].a x.d[i].b; have h2 := unitS_le x.d[i].c x.d[i].d; have h3 := itoaS_len x.d[i].n
    simp only [st, t67b1, T.den, X.den, D.toSl, D.toBool, D.toInt, D.toStr, D.aggL, List.cons_append, List.nil_append, List.getD_cons_zero, List.getD_cons_succ, cmpI, Rep0.toD, Deb.toD, List.length_map, Int.ofNat_lt, decide_eq_true hi', cond_true', e1, Int.toNat_natCast, ge_iff_le, Int.natCast_nonneg, decide_true, List.length_append, List.length_cons, List.length_nil, hφ']
    rw [decide_eq_true (by omega), cond_true']
    refine bind_of (unit_in hd.a hd.b) ?_
    simp only [T.den, X.den, D.toSl, D.toBool, D.toInt, D.toStr, D.aggL, List.cons_append, List.nil_append, List.getD_cons_zero, List.getD_cons_succ, Deb.toD, e1, Int.toNat_natCast, List.length_append, List.length_cons, List.length_nil, hφ']
    rw [decide_eq_true (by omega), cond_true', decide_eq_true (by omega), cond_true']
    refine bind_of (unit_in hd.c hd.d) ?_
    simp only [T.den, X.den, D.toSl, D.toBool, D.toInt, D.toStr, D.aggL, List.cons_append, List.nil_append, List.getD_cons_zero, List.getD_cons_succ, Deb.toD, e1, Int.toNat_natCast, List.length_append, List.length_cons, List.length_nil, hφ]
    rw [decide_eq_true (by omega), cond_true', decide_eq_true (by omega), cond_true']
    refine bind_of (num_in hd.n) ?_
    simp only [T.den, X.den, D.toBool, D.toInt, D.toStr, D.aggL, List.getD_cons_zero, List.getD_cons_succ, List.length_append, List.length_cons, List.length_nil, binI]
    rw [decide_eq_true (by omega), cond_true', IntWalk.i64_in _ (by omega), ← flat_snoc Deb.words hi', J_app]
    simp [Deb.words, J_cons, J_nil]
  · simp [st, t67b1, T.den, X.den, D.toSl, D.toBool, D.toInt, D.aggL, cmpI, Rep0.toD, List.take_of_length_le]
theorem ref_lots {φ : Nat → List D → Option (Nat × List D)} (hφ : φ 65 = F65) {x : Rep0} (h : x.Small) (hi : x.In) (y1 y2 y3 y6 y7 : D) {k : Nat} (hk : k < x.r.length) {s s' : List UInt8} (hs : s.length ≤ 400000000) :
    loopD (fun st => t67b2.den φ 0 ([x.toD, y1, y2, y3, .str s', .int k, y6, y7] ++ st)) [.str s, .int 0] = some (1, [.str (s ++ J (x.r[k].l.flatMap Lt.words))]) := by
  have hll := h.l x.r[k] (List.getElem_mem hk)
  have e1 : (x.r.map Rtn.toD).getD k [] = x.r[k].toD := by simp [hk]
  let st : Nat → List D := fun i => [.str (s ++ J ((x.r[k].l.take i).flatMap Lt.words)), .int i]
  rw [show [D.str s, D.int 0] = st 0 by simp [st, J_nil]]
  refine loopD_seq (st := st) x.r[k].l.length (fun i hi' => ?_) ?_
  · have e2 : (x.r[k].l.map Lt.toD).getD i [] = x.r[k].l[i].toD := by simp [hi']
    have hl := J_len ((x.r[k].l.take i).flatMap Lt.words) (flat_le lt_words_le _)
    rw [lots_len, List.length_take] at hl
    have hd := (hi.r _ (List.getElem_mem hk)).l _ (List.getElem_mem hi')
    have h1 := itoaS_len x.r[k].l[i].a; have h2 := itoaS_len x.r[k].l[i].t; have h3 := itoaS_len x.r[k].l[i].q
    simp only [st, t67b2, T.den, X.den, D.toSl, D.toBool, D.toInt, D.toStr, D.aggL, List.cons_append, List.nil_append, List.getD_cons_zero, List.getD_cons_succ, cmpI, Rep0.toD, Rtn.toD, Lt.toD, List.length_map, Int.ofNat_lt, decide_eq_true hi', cond_true', e1, e2, Int.toNat_natCast, ge_iff_le, Int.natCast_nonneg, decide_true, List.length_append, List.length_cons, List.length_nil, hφ]
    rw [decide_eq_true (by omega), cond_true']
    refine bind_of (num_in hd.a) ?_
    simp only [T.den, X.den, D.toSl, D.toBool, D.toInt, D.toStr, D.aggL, List.cons_append, List.nil_append, List.getD_cons_zero, List.getD_cons_succ, Rtn.toD, Lt.toD, e1, e2, cmpI, List.length_map, Int.ofNat_lt, decide_eq_true hi', cond_true', ge_iff_le, Int.natCast_nonneg, decide_true, Int.toNat_natCast, List.length_append, List.length_cons, List.length_nil, hφ]
    rw [decide_eq_true (by omega), cond_true', decide_eq_true (by omega), cond_true']
    refine bind_of (num_in hd.t) ?_
    simp only [T.den, X.den, D.toSl, D.toBool, D.toInt, D.toStr, D.aggL, List.cons_append, List.nil_append, List.getD_cons_zero, List.getD_cons_succ, Rtn.toD, Lt.toD, e1, e2, cmpI, List.length_map, Int.ofNat_lt, decide_eq_true hi', cond_true', ge_iff_le, Int.natCast_nonneg, decide_true, Int.toNat_natCast, List.length_append, List.length_cons, List.length_nil, hφ]
    rw [decide_eq_true (by omega), cond_true', decide_eq_true (by omega), cond_true']
    refine bind_of (num_in hd.q) ?_
    simp only [T.den, X.den, D.toBool, D.toInt, D.toStr, D.aggL, List.getD_cons_zero, List.getD_cons_succ, List.length_append, List.length_cons, List.length_nil, binI]
    rw [decide_eq_true (by omega), cond_true', IntWalk.i64_in _ (by omega), ← flat_snoc Lt.words hi', J_app]
    simp [Lt.words, J_cons, J_nil]
  · simp only [st, t67b2, T.den, X.den, D.toSl, D.toBool, D.toInt, D.toStr, D.aggL, List.cons_append, List.nil_append, List.getD_cons_zero, List.getD_cons_succ, cmpI, Rep0.toD, e1, Rtn.toD, Int.toNat_natCast, List.length_map, Int.lt_irrefl, decide_false, cond_false', List.take_of_length_le (Nat.le_refl _)]
theorem ref_rtns {φ : Nat → List D → Option (Nat × List D)} (hφ : φ 65 = F65) (hφ' : φ 66 = F66) {x : Rep0} (h : x.Small) (hi : x.In) (y1 y2 y3 : D) {s : List UInt8} (hs : s.length ≤ 100000000) :
    loopD (fun st => t67b3.den φ 0 ([x.toD, y1, y2, y3] ++ st)) [.str s, .int 0] = some (1, [.str (s ++ J (x.r.flatMap Rtn.words))]) := by
  have hn := h.r
  let st : Nat → List D := fun i => [.str (s ++ J ((x.r.take i).flatMap Rtn.words)), .int i]
  rw [show [D.str s, D.int 0] = st 0 by simp [st, J_nil]]
  refine loopD_seq (st := st) x.r.length (fun i hi' => ?_) ?_
  · have e1 : (x.r.map Rtn.toD).getD i [] = x.r[i].toD := by simp [hi']
    have hl := J_len ((x.r.take i).flatMap Rtn.words) (flat_le rtn_words_le _)
    have hl' := rtns_len (x.r.take i) (fun y hy => h.l y (List.mem_of_mem_take hy))
    rw [List.length_take] at hl'
    have hd := hi.r _ (List.getElem_mem hi')
    have h1 := unitS_le x.r[i].a x.r[i].b; have h3 := itoaS_len x.r[i].c
    simp only [st, t67b3, T.den, X.den, D.toSl, D.toBool, D.toInt, D.toStr, D.aggL, List.cons_append, List.nil_append, List.getD_cons_zero, List.getD_cons_succ, cmpI, Rep0.toD, Rtn.toD, List.length_map, Int.ofNat_lt, decide_eq_true hi', cond_true', e1, Int.toNat_natCast, ge_iff_le, Int.natCast_nonneg, decide_true, List.length_append, List.length_cons, List.length_nil, hφ']
    rw [decide_eq_true (by omega), cond_true']
    refine bind_of (unit_in hd.a hd.b) ?_
    simp only [T.den, X.den, D.toSl, D.toBool, D.toInt, D.toStr, D.aggL, List.cons_append, List.nil_append, List.getD_cons_zero, List.getD_cons_succ, Rtn.toD, e1, Int.toNat_natCast, List.length_append, List.length_cons, List.length_nil, hφ]
    rw [decide_eq_true (by omega), cond_true', decide_eq_true (by omega), cond_true']
    refine bind_of (num_in hd.c) ?_
    simp only [T.den, X.den, D.toBool, D.toStr, D.aggL, List.cons_append, List.nil_append, List.getD_cons_zero, List.getD_cons_succ, List.length_append, List.length_cons, List.length_nil]
    rw [decide_eq_true (by omega), cond_true']
    have hlots := ref_lots (φ := φ) hφ h hi y1 y2 y3 (.str (unitS (x.r[i].a, x.r[i].b))) (.str (itoaS x.r[i].c)) hi' (s := s ++ J ((x.r.take i).flatMap Rtn.words) ++ [32, 114, 101, 116, 117, 114, 110, 32] ++ unitS (x.r[i].a, x.r[i].b) ++ [32] ++ itoaS x.r[i].c) (s' := s ++ J ((x.r.take i).flatMap Rtn.words)) (by
      simp only [List.length_append, List.length_cons, List.length_nil]; omega)
    refine bind_of hlots ?_
    simp only [T.den, X.den, D.toInt, D.aggL, List.getD_cons_zero, List.getD_cons_succ, binI]
    rw [IntWalk.i64_in _ (by omega), ← flat_snoc Rtn.words hi', J_app]
    simp [Rtn.words, J_cons]
  · simp [st, t67b3, T.den, X.den, D.toSl, D.toBool, D.toInt, D.aggL, cmpI, Rep0.toD, List.take_of_length_le]
theorem ref_ok (x : Rep0) (h : x.Small) (hi : x.In) : F67 [x.toD] = some (0, [.str (Lib.join x.words [32])]) := by
  have hn := h.n
  have hd := h.d
  have hr := h.r
  let hd0 : List UInt8 := if x.e = 0 then [111, 107] else [101, 114, 114, 111, 114, 32] ++ itoaS x.e
  have hj : Lib.join x.words [32] = hd0 ++ J (x.n.map itoaS) ++ J (x.d.flatMap Deb.words) ++ J (x.r.flatMap Rtn.words) := by
    simp only [hd0, Rep0.words, Rep0.head]
    split
    · simp [Lib.join_cons, J_app, J]
    · simp only [List.cons_append, List.nil_append, Lib.join_cons]
      simp [Lib.joinTail]
  have hl0 : hd0.length ≤ 27 := by
    have := itoaS_len x.e
    simp only [hd0]; split
    · simp
    · simp only [List.length_append, List.length_cons, List.length_nil]; omega
  have l1 := J_len (x.n.map itoaS) (by
      intro w hw; obtain ⟨n, _, rfl⟩ := List.mem_map.1 hw; have := itoaS_len n; omega)
  rw [List.length_map] at l1
  have l2 := J_len (x.d.flatMap Deb.words) (flat_le deb_words_le _)
  rw [debs_len] at l2
  rw [hj]
  unfold F67 t67
  rw [T.den]
  refine bind_of (r := (0, [.str hd0])) ?_ ?_
  · have h1 := itoaS_len x.e
    simp only [T.den, X.den, D.toBool, D.toInt, D.aggL, List.cons_append, List.nil_append, List.getD_cons_zero, Rep0.toD, cmpI]
    by_cases he : x.e = 0
    · simp [he, hd0]
    · rw [show (x.e != 0) = true by simp [he]]
      simp only [cond_true']
      refine bind_of (pick_at rfl <| num_in hi.e) ?_
      simp only [T.den, X.den, D.toBool, D.toStr, D.aggL, List.cons_append, List.nil_append, List.getD_cons_zero, List.getD_cons_succ, List.length_cons, List.length_nil]
      rw [decide_eq_true (by omega), cond_true']
      simp [hd0, he]
  · simp only [T.den, X.den, D.aggL, List.cons_append, List.nil_append, List.getD_cons_zero, List.getD_cons_succ]
    refine bind_of (ref_nums rfl h hi (.str hd0) (s := hd0) (by omega)) ?_
    simp only [T.den, X.den, D.aggL, List.cons_append, List.nil_append, List.getD_cons_zero, List.getD_cons_succ]
    refine bind_of (ref_debs rfl rfl h hi (.str hd0) (.str (hd0 ++ J (x.n.map itoaS))) (s := hd0 ++ J (x.n.map itoaS)) (by simp only [List.length_append]; omega)) ?_
    simp only [T.den, X.den, D.aggL, List.cons_append, List.nil_append, List.getD_cons_zero, List.getD_cons_succ]
    refine bind_of (ref_rtns rfl rfl h hi (.str hd0) (.str (hd0 ++ J (x.n.map itoaS))) (.str (hd0 ++ J (x.n.map itoaS) ++ J (x.d.flatMap Deb.words))) (s := hd0 ++ J (x.n.map itoaS) ++ J (x.d.flatMap Deb.words)) (by simp only [List.length_append]; omega)) ?_
    simp only [T.den, X.den, D.aggL, List.getD_cons_zero, List.getD_cons_succ]
end Go.Proofs.YtbfjeejgkceedaaGreatDoor
namespace Go.Proofs.YtbfjeejgkceedaaGreatDoor
open Go.RX

/-! The law about replies. -/
theorem join_len (x : Rep0) (h : x.Small) : (Lib.join x.words [32]).length ≤ 140737488355328 := by
  have hn := h.n
  have hd := h.d
  have hr := h.r
  have hh : ∀ w ∈ x.words, w.length ≤ 43 := by
    intro w hw
    simp only [Rep0.words, List.mem_append] at hw
    rcases hw with ((hw | hw) | hw) | hw
    · unfold Rep0.head at hw
      have := itoaS_len x.e
      split at hw
      · simp at hw; subst hw; simp
      · simp at hw
        rcases hw with rfl | rfl
        · simp
        · omega
    · obtain ⟨n, _, rfl⟩ := List.mem_map.1 hw; have := itoaS_len n; omega
    · exact flat_le deb_words_le _ w hw
    · exact flat_le rtn_words_le _ w hw
  have hl : x.words.length ≤ 1000000 := by
    have l2 := debs_len x.d
    have l3 := rtns_len x.r h.l
    simp only [Rep0.words, List.length_append, List.length_map]
    have : x.head.length ≤ 2 := by unfold Rep0.head; split <;> simp
    omega
  have hj := J_len x.words hh
  have : (Lib.join x.words [32]).length ≤ (J x.words).length := by
    cases hw : x.words with
    | nil => exact Nat.zero_le _
    | cons a b =>
      rw [Lib.join_cons, J_cons]
      simp only [J, List.length_append, List.length_cons, List.length_nil]
      omega
  omega

theorem lots_loop (φ : Nat → List D → Option (Nat × List D)) (hφ : φ 52 = F52) (y1 y2 y3 : D) (r : List Rtn) : ∀ (k i n : Nat), i + k = r.length → i ≤ 10 → r.length ≤ 10 → n ≤ 100 →
    loopD (fun st => t68b0.den φ 0 ([y1, y2, y3, .sl (r.map Rtn.toD)] ++ st)) [.int n, .int i] = some (1, [.bool true]) ∨
    (loopD (fun st => t68b0.den φ 0 ([y1, y2, y3, .sl (r.map Rtn.toD)] ++ st)) [.int n, .int i] = some (2, []) ∧ ∀ y ∈ r.drop i, y.l.length ≤ 100) := by
  intro k
  induction k with
  | zero =>
    intro i n hi h10 hr hn
    refine .inr ⟨loopD_done (j := 1) ?_, ?_⟩
    · have : ¬ i < r.length := by omega
      simp [t68b0, T.den, X.den, D.toSl, D.toBool, D.toInt, D.aggL, cmpI, this]
    · rw [List.drop_of_length_le (by omega)]
      intro y hy; cases hy
  | succ k ih =>
    intro i n hi h10 hr hn
    have hlt : i < r.length := by omega
    have e1 : (r.map Rtn.toD).getD i [] = r[i].toD := by simp [hlt]
    by_cases hL : r[i].l.length > 100
    · refine .inl (loopD_done (j := 0) ?_)
      simp only [t68b0, T.den, X.den, D.toSl, D.toBool, D.toInt, D.aggL, List.cons_append, List.nil_append, List.getD_cons_zero, List.getD_cons_succ, cmpI, binI, List.length_map, Int.ofNat_lt, hlt, decide_true, cond_true', e1, Rtn.toD, Int.toNat_natCast, ge_iff_le, Int.natCast_nonneg]
      refine bind_of (r := (0, [.bool true])) ?_ ?_
      · rw [decide_eq_true (show (r[i].l.length : Int) > 100 by omega)]
        cases decide (_ > (100 : Int)) <;> rfl
      · simp only [T.den, X.den, D.toSl, D.toBool, D.toInt, D.aggL, List.cons_append, List.nil_append, List.getD_cons_zero, List.getD_cons_succ, cond_true', hφ, lives_ok]
        rfl
    · have hw : IntKind.i64.wrap ((n : Int) + r[i].l.length) = ((n + r[i].l.length : Nat) : Int) := by rw [IntWalk.i64_in _ (by omega)]; omega
      by_cases hS : n + r[i].l.length > 100
      · refine .inl (loopD_done (j := 0) ?_)
        simp only [t68b0, T.den, X.den, D.toSl, D.toBool, D.toInt, D.aggL, List.cons_append, List.nil_append, List.getD_cons_zero, List.getD_cons_succ, cmpI, binI, List.length_map, Int.ofNat_lt, hlt, decide_true, cond_true', e1, Rtn.toD, Int.toNat_natCast, ge_iff_le, Int.natCast_nonneg, hw]
        rw [decide_eq_true (show ((n + r[i].l.length : Nat) : Int) > 100 by omega)]
        simp only [cond_true', Option.bind_some, T.den, X.den, D.toSl, D.toBool, D.toInt, D.aggL, List.cons_append, List.nil_append, List.getD_cons_zero, List.getD_cons_succ, hφ, lives_ok]
      · have hstep : t68b0.den φ 0 ([y1, y2, y3, .sl (r.map Rtn.toD)] ++ [.int n, .int i]) = some (0, [.int (n + r[i].l.length : Nat), .int (i + 1 : Nat)]) := by
          simp only [t68b0, T.den, X.den, D.toSl, D.toBool, D.toInt, D.aggL, List.cons_append, List.nil_append, List.getD_cons_zero, List.getD_cons_succ, cmpI, binI, List.length_map, Int.ofNat_lt, hlt, decide_true, cond_true', e1, Rtn.toD, Int.toNat_natCast, ge_iff_le, Int.natCast_nonneg, hw]
          rw [decide_eq_false (show ¬ ((n + r[i].l.length : Nat) : Int) > 100 by omega), decide_eq_false (show ¬ (r[i].l.length : Int) > 100 by omega)]
          simp only [cond_false', Option.bind_some, T.den, X.den, D.toSl, D.toBool, D.toInt, D.aggL, List.cons_append, List.nil_append, List.getD_cons_zero, List.getD_cons_succ, e1, Rtn.toD, Int.toNat_natCast, List.length_map, hw, binI]
          rw [IntWalk.i64_in _ (by omega)]
          rfl
        have hstep' := loopD_step (body := fun st => t68b0.den φ 0 ([y1, y2, y3, D.sl (r.map Rtn.toD)] ++ st)) hstep
        rw [hstep']
        rcases ih (i + 1) (n + r[i].l.length) (by omega) (by omega) hr (by omega) with h | ⟨h, hy⟩
        · exact .inl h
        · refine .inr ⟨h, ?_⟩
          rw [List.drop_eq_getElem_cons hlt]
          intro y hy'
          rcases List.mem_cons.1 hy' with rfl | hy'
          · omega
          · exact hy y hy'

def Rep0.cut (x : Rep0) : Rep0 := { e := x.e, n := x.n.take 30, d := x.d.take 10, r := x.r.take 10 }
theorem cut_in {x : Rep0} (h : x.In) : x.cut.In :=
  ⟨h.e, fun y hy => h.n y (List.mem_of_mem_take hy), fun y hy => h.d y (List.mem_of_mem_take hy), fun y hy => h.r y (List.mem_of_mem_take hy)⟩
theorem cut_ok (φ : Nat → List D → Option (Nat × List D)) (a : X) (ρ : List D) (l : List (List D)) (n : Nat) (ha : a.den ρ = .sl l) :
    (T.ite (.cmp .gtr (.len a) (.int n)) (.chk (.cmp .leq (.int n) (.len a)) (.y 0 (.cons (.tk a (.int 0) (.int n)) .nil))) (.y 0 (.cons a .nil))).den φ 0 ρ = some (0, [.sl (l.take n)]) := by
  simp only [T.den, X.den, D.toSl, D.toBool, D.toInt, D.aggL, cmpI, ha]
  by_cases h : l.length > n
  · rw [decide_eq_true (show (l.length : Int) > n by omega), decide_eq_true (show (n : Int) ≤ l.length by omega)]
    simp
  · rw [decide_eq_false (show ¬ (l.length : Int) > n by omega)]
    simp [List.take_of_length_le (Nat.not_lt.1 h)]
theorem law_ok (x : Rep0) (hi : x.In) : F68 [x.toD] = some (0, [.bool true]) := by
  unfold F68 t68
  rw [T.den]
  refine bind_of (r := (0, [.sl (x.cut.n.map fun n => [.int n])])) ?_ ?_
  · have := cut_ok (pick [(52, F52), (53, F53), (67, F67)]) (.fld (.var 0) 1) [x.toD] (x.n.map fun n => [.int n]) 30 rfl
    rw [← List.map_take] at this
    exact this
  simp only [T.den, List.cons_append, List.nil_append]
  refine bind_of (r := (0, [.sl (x.cut.d.map Deb.toD)])) ?_ ?_
  · have := cut_ok (pick [(52, F52), (53, F53), (67, F67)]) (.fld (.var 0) 2) [x.toD, .sl (x.cut.n.map fun n => [.int n])] (x.d.map Deb.toD) 10 rfl
    rw [← List.map_take] at this
    exact this
  simp only [T.den, List.cons_append, List.nil_append]
  refine bind_of (r := (0, [.sl (x.cut.r.map Rtn.toD)])) ?_ ?_
  · have := cut_ok (pick [(52, F52), (53, F53), (67, F67)]) (.fld (.var 0) 3) [x.toD, .sl (x.cut.n.map fun n => [.int n]), .sl (x.cut.d.map Deb.toD)] (x.r.map Rtn.toD) 10 rfl
    rw [← List.map_take] at this
    exact this
  have hrl : x.cut.r.length ≤ 10 := by simp only [Rep0.cut, List.length_take]; omega
  have hnl : x.cut.n.length ≤ 30 := by simp only [Rep0.cut, List.length_take]; omega
  have hdl : x.cut.d.length ≤ 10 := by simp only [Rep0.cut, List.length_take]; omega
  have hlp := lots_loop (pick [(52, F52), (53, F53), (67, F67)]) rfl x.toD (.sl (x.cut.n.map fun n => [.int n])) (.sl (x.cut.d.map Deb.toD)) x.cut.r x.cut.r.length 0 0 (by omega) (by omega) hrl (by omega)
  simp only [T.den, X.den, D.aggL, List.cons_append, List.nil_append]
  rcases hlp with h | ⟨h, hy⟩
  · refine bind_of h ?_
    simp only [T.den, X.den, D.aggL, List.getD_cons_zero, List.getD_cons_succ]
  · refine bind_of h ?_
    simp only [T.den, X.den, D.aggL, List.cons_append, List.nil_append, List.getD_cons_zero, List.getD_cons_succ]
    have hs : x.cut.Small := ⟨by omega, by omega, by omega, hy⟩
    have e1 := reply_ok x.cut hs (join_len _ hs)
    have e2 := ref_ok x.cut hs (cut_in hi)
    have hx : (D.agg [(match x.toD with | .agg fs => fs.getD 0 default | _ => default), .sl (x.cut.n.map fun n => [.int n]), .sl (x.cut.d.map Deb.toD), .sl (x.cut.r.map Rtn.toD)]) = x.cut.toD := rfl
    refine bind_of (r := (0, [.bool true])) ?_ ?_
    · refine bind_of (pick_at rfl <| e1) ?_
      simp only [T.den, X.den, D.aggL, List.cons_append, List.nil_append, List.getD_cons_zero, List.getD_cons_succ]
      refine bind_of (pick_at rfl <| e2) ?_
      simp only [T.den, X.den, D.toBool, D.toStr, D.aggL, List.cons_append, List.nil_append, List.getD_cons_zero, List.getD_cons_succ, cmpS, beq_self_eq_true, cond_true']
      refine bind_of (pick_at rfl <| lives_ok) ?_
      rfl
    · rfl
end Go.Proofs.YtbfjeejgkceedaaGreatDoor
namespace Go.RX

/-! Whatever is read as data has a reading here. -/
def offsOk (P : Program) : Nat → List Field → Bool
  | _, [] => true
  | o, f :: r => f.offset == o && P.cellsOf f.type == (cellTys P f.type).length && offsOk P (o + (cellTys P f.type).length) r
def dty (P : Program) : Nat → TypeId → Bool
  | 0, _ => false
  | n + 1, t => match P.underlying t with
    | some .bool => cellTys P t == [t]
    | some (.int _) => cellTys P t == [t]
    | some .string => cellTys P t == [t]
    | some (.slice e) => cellTys P t == [t] && P.cellsOf e == (cellTys P e).length && decide (0 < (cellTys P e).length) && (bytesOf' P e == some (P.bytesOf e)) && dty P n e
    | some (.struct fs) => P.cellsOf t == (cellTys P t).length && cellTys P t == fs.toList.flatMap (fun f => cellTys P f.type) && offsOk P 0 fs.toList && fs.toList.all (fun f => dty P n f.type)
    | _ => false

section
variable {H : Type} {enc : TypeId × Value → H} {P : Program} {w : World} {spare : Nat → Bool} {held : Bool}

theorem RepM.of {ts : List TypeId} {vs : List Value} {ds : List D} (b : Nat) : ∀ (off : Nat), RepL P w (fun _ _ => False) ts vs ds → (∀ j v, vs[j]? = some v → w.cell? ⟨b, off + j, none⟩ = some v) → RepM P w (fun _ _ => False) ts b off ds
  | off, .nil, _ => .nil
  | off, .cons (v := v) r l, h => .cons (h 0 v rfl) (fun x => x) r (RepM.of b (off + 1) l (fun j u hu => by
      have := h (j + 1) u (by simpa using hu)
      rwa [show off + (j + 1) = off + 1 + j by omega] at this))

theorem RepE.of {e : TypeId} (b : Nat) : ∀ (n off : Nat) (D' : Nat → List D), (∀ i, i < n → RepM P w (fun _ _ => False) (cellTys P e) b (off + i * (cellTys P e).length) (D' i)) →
    ∃ es : List (List D), es.length = n ∧ RepE P w (fun _ _ => False) e b off es
  | 0, off, _, _ => ⟨[], rfl, .nil⟩
  | n + 1, off, D', h => by
    have h0 := h 0 (by omega)
    have hl := h0.length_ds
    obtain ⟨es, h1, h2⟩ := RepE.of b n (off + (D' 0).length) (fun i => D' (i + 1)) (fun i hi => by
      have := h (i + 1) (by omega)
      rw [hl]
      rwa [show off + (cellTys P e).length + i * (cellTys P e).length = off + (i + 1) * (cellTys P e).length by rw [Nat.add_mul]; omega])
    exact ⟨D' 0 :: es, by simp [h1], .cons (by simpa using h0) h2⟩

theorem repL_one {t : TypeId} {v : Value} {d : D} (h : cellTys P t = [t]) (r : Rep P w (fun _ _ => False) t v d) : ∃ ds, RepL P w (fun _ _ => False) (cellTys P t) [v] ds := ⟨[d], by rw [h]; exact .cons r .nil⟩

theorem repL_flat {α : Type} (f : α → List TypeId) (vs : List Value) : ∀ (fs : List α) (o : Nat) (pos : α → Nat),
    (∀ (i : Nat) (x : α), fs[i]? = some x → ∃ ds, RepL P w (fun _ _ => False) (f x) ((vs.drop (pos x)).take (f x).length) ds) →
    (∀ (i : Nat) (x : α), fs[i]? = some x → pos x = o + ((fs.take i).flatMap f).length) → vs.length = o + (fs.flatMap f).length →
    ∃ ds, RepL P w (fun _ _ => False) (fs.flatMap f) (vs.drop o) ds
  | [], o, pos, h, hp, hl => ⟨[], by
      have : vs.drop o = [] := List.drop_of_length_le (by simp at hl; omega)
      rw [this]; exact .nil⟩
  | x :: fs, o, pos, h, hp, hl => by
    obtain ⟨d0, h0⟩ := h 0 x rfl
    have p0 := hp 0 x rfl
    simp at p0
    rw [p0] at h0
    simp only [List.flatMap_cons, List.length_append] at hl
    obtain ⟨d1, h1⟩ := repL_flat f vs fs (o + (f x).length) pos (fun i y hy => h (i + 1) y (by simpa using hy)) (fun i y hy => by
      have := hp (i + 1) y (by simpa using hy)
      simp only [List.take_succ_cons, List.flatMap_cons, List.length_append] at this
      omega) (by omega)
    refine ⟨d0 ++ d1, ?_⟩
    have := h0.append h1
    rw [List.flatMap_cons]
    rwa [show (vs.drop o).take (f x).length ++ vs.drop (o + (f x).length) = vs.drop o by
      rw [← List.drop_drop, List.take_append_drop]] at this

theorem offsOk_spec : ∀ (fs : List Field) (o : Nat), offsOk P o fs = true → ∀ (i : Nat) (f : Field), fs[i]? = some f → f.offset = o + ((fs.take i).flatMap fun f => cellTys P f.type).length ∧ P.cellsOf f.type = (cellTys P f.type).length
  | [], _, _, i, f, hf => by simp at hf
  | g :: fs, o, h, 0, f, hf => by
    simp only [offsOk, Bool.and_eq_true, beq_iff_eq] at h
    simp at hf; subst hf
    simp [h.1.1, h.1.2]
  | g :: fs, o, h, i + 1, f, hf => by
    simp only [offsOk, Bool.and_eq_true, beq_iff_eq] at h
    obtain ⟨h1, h2⟩ := offsOk_spec fs _ h.2 i f (by simpa using hf)
    refine ⟨?_, h2⟩
    rw [h1]
    simp only [List.take_succ_cons, List.flatMap_cons, List.length_append]
    omega

theorem weightsAll_mem {e : TypeId} : ∀ {ds : List (DataW H)} {d : DataW H} {k : Nat}, d ∈ ds → k ∈ d.weights P e → k ∈ DataW.weightsAll P e ds
  | x :: ds, d, k, hd, hk => by
    rw [DataW.weightsAll]
    rcases List.mem_cons.1 hd with rfl | hd
    · exact List.mem_append_left _ hk
    · exact List.mem_append_right _ (weightsAll_mem hd hk)
theorem weightsEach_mem : ∀ {ts : List TypeId} {ds : List (DataW H)} {i : Nat} {t : TypeId} {d : DataW H} {k : Nat}, ts[i]? = some t → ds[i]? = some d → k ∈ d.weights P t → k ∈ DataW.weightsEach P ts ds
  | t0 :: ts, d0 :: ds, 0, t, d, k, ht, hd, hk => by
    simp at ht hd; subst ht; subst hd
    rw [DataW.weightsEach]; exact List.mem_append_left _ hk
  | t0 :: ts, d0 :: ds, i + 1, t, d, k, ht, hd, hk => by
    rw [DataW.weightsEach]; exact List.mem_append_right _ (weightsEach_mem (i := i) (by simpa using ht) (by simpa using hd) hk)

theorem repL_of_trod : ∀ (n : Nat) (t : TypeId) (fuel : Nat) (cs : List Value) (x : DataW H × List MemPlace), dty P n t = true → DataW.trod enc P w 0 spare held fuel t cs = some x →
    (∀ k ∈ x.1.weights P t, k ≤ reachBytes) → ∃ ds, RepL P w (fun _ _ => False) (cellTys P t) cs ds
  | 0, _, _, _, _, h, _, _ => by cases h
  | n + 1, t, fuel, cs, x, h, hx, hw => by
    rw [dty] at h
    split at h
    · rename_i hu
      obtain ⟨b, rfl, rfl⟩ := DataW.trod_bool hu hx
      exact repL_one (by simpa using h) (.bool (b := b) hu)
    · rename_i k hu
      obtain ⟨v, rfl, rfl, hwf⟩ := DataW.trod_int hu hx
      simp only [Lit.wf, Bool.and_eq_true, decide_eq_true_eq] at hwf
      exact repL_one (by simpa using h) (.int hu hwf.1 hwf.2)
    · rename_i hu
      obtain ⟨s, rfl, rfl, hs⟩ := DataW.trod_string hu hx
      have : (Value.string s) = .string ⟨s.data.toList.toArray⟩ := rfl
      rw [this]
      refine repL_one (by simpa using h) (.str hu ?_)
      have : s.data.toList.length = s.size := rfl
      unfold maxLen at hs
      omega
    · rename_i e hu
      simp only [Bool.and_eq_true, beq_iff_eq, decide_eq_true_eq] at h
      obtain ⟨⟨⟨⟨h1, h2⟩, h3⟩, h4⟩, h5⟩ := h
      rcases DataW.trod_slice hu hx with ⟨rfl, rfl⟩ | ⟨a, len, cap, elems, rest, m, _, rfl, rfl, _, hlc, hcm, hlen, hel, _, _⟩
      · exact repL_one h1 (.nil hu)
      · have hel' : ∀ i, i < len → ∃ cs' ds, w.cells? 0 (a.add (i * (cellTys P e).length)) (cellTys P e).length = some cs' ∧ RepL P w (fun _ _ => False) (cellTys P e) cs' ds := by
          intro i hi
          have he := hel i hi
          rw [List.getElem?_eq_getElem (by omega)] at he
          obtain ⟨cs', hc, ht⟩ := Option.bind_eq_some_iff.1 he
          rw [h2] at hc
          obtain ⟨ds, hds⟩ := repL_of_trod n e m cs' _ h5 ht (fun k hk => hw k (by
            rw [DataW.weights, hu]
            refine List.mem_cons_of_mem _ (List.mem_append_left _ (weightsAll_mem (List.mem_map.2 ⟨elems[i], List.getElem_mem _, rfl⟩) hk))))
          exact ⟨cs', ds, hc, hds⟩
        cases hz : len with
        | zero => exact repL_one h1 (.nil hu)
        | succ l' =>
          rw [← hz]
          have hspot : a.spot = none := by
            obtain ⟨cs', ds, hc, hds⟩ := hel' 0 (by omega)
            obtain ⟨_, hlen', hcell⟩ := World.cells?_some hc
            have hc0 := hcell 0 h3
            rw [List.getElem?_eq_getElem (by omega)] at hc0
            unfold World.cell? at hc0
            split at hc0
            · split at hc0
              · cases hc0
              · rename_i hns
                have : a.spot.isSome = false := by simpa [Addr.add] using hns
                simpa using this
            · cases hc0
          obtain ⟨b, off, sp⟩ := a
          simp at hspot; subst hspot
          have hD : ∀ i, i < len → ∃ ds, RepM P w (fun _ _ => False) (cellTys P e) b (off + i * (cellTys P e).length) ds := by
            intro i hi
            obtain ⟨cs', ds, hc, hds⟩ := hel' i hi
            obtain ⟨_, hlen', hcell⟩ := World.cells?_some hc
            refine ⟨ds, RepM.of b _ hds (fun j v hj => ?_)⟩
            have hjl : j < cs'.length := by
              rcases Nat.lt_or_ge j cs'.length with h | h
              · exact h
              · rw [List.getElem?_eq_none h] at hj; cases hj
            have := hcell j (by omega)
            rw [hj] at this
            rwa [Addr.add_lit, Addr.add_lit] at this
          obtain ⟨Df, hDf⟩ := Deep.choose_lt hD
          obtain ⟨es, hes, hE⟩ := RepE.of b len off Df hDf
          rw [← hes]
          refine repL_one h1 (.sl hu ⟨?_, ?_⟩ (by omega) hE)
          · unfold maxLen at hcm; omega
          · intro by' hb
            rw [h4] at hb
            cases hb
            have := hw ((elems.length + rest.length) * P.bytesOf e) (by
              rw [DataW.weights, hu]
              simp)
            have h6 : es.length * P.bytesOf e ≤ (elems.length + rest.length) * P.bytesOf e := Nat.mul_le_mul_right _ (by omega)
            unfold reachBytes at this
            omega
    · rename_i fs hu
      simp only [Bool.and_eq_true, beq_iff_eq, List.all_eq_true] at h
      obtain ⟨⟨⟨h1, h2⟩, h3⟩, h4⟩ := h
      obtain ⟨xs, m, _, rfl, hl, hlen, hf⟩ := DataW.trod_struct hu hx
      obtain ⟨ds, hds⟩ := repL_flat (w := w) (P := P) (fun f : Field => cellTys P f.type) cs fs.toList 0 (fun f => f.offset) (fun i f hfi => by
        have hfa : fs[i]? = some f := by simpa using hfi
        have ho := offsOk_spec fs.toList 0 h3 i f hfi
        have ht := hf i f hfa
        have hix : i < xs.length := by
          rw [hlen]
          rcases Nat.lt_or_ge i fs.size with h | h
          · exact h
          · rw [Array.getElem?_eq_none h] at hfa; cases hfa
        rw [List.getElem?_eq_getElem hix, ho.2] at ht
        exact repL_of_trod n f.type m _ _ (h4 f (List.mem_of_getElem? hfi)) ht (fun k hk => hw k (by
          rw [DataW.weights, hu]
          exact weightsEach_mem (i := i) (t := f.type) (d := xs[i].1) (by simp [hfa]) (by simp [hix]) hk))) (fun i f hfi => (offsOk_spec fs.toList 0 h3 i f hfi).1) (by rw [hl, h1, h2]; simp)
      rw [h2]
      exact ⟨ds, by simpa using hds⟩
    · cases h
end
end Go.RX
