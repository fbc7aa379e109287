/- Contracts of the library, laid at this program by the kit's shelf, in plain words. -/
import Derived.Shelf.Strconv.Itoa1
import Derived.Shelf.LaysM
import Derived.Shelf.Strconv.Itoa2
import Derived.Shelf.Strconv.Itoa3
import Derived.Shelf.Strconv.Itoa4
import Derived.Shelf.Strconv.ParseIntEmpty
import Derived.Shelf.Strconv.Clone
import Derived.Shelf.Strconv.SyntaxError
import Derived.Shelf.LaysC
import Derived.Shelf.Strconv.ToError
import Derived.Shelf.Strconv.Lower
import Derived.Shelf.Strconv.ParseUint10
import Derived.Shelf.Strconv.ParseUint10Empty
import Derived.Shelf.Strconv.ParseUint10Any
import Derived.Shelf.Strconv.ParseInt10
import Derived.Shelf.Strconv.RangeError
import Derived.Shelf.Strconv.ToErrorRange
import Derived.Shelf.Strconv.ParseUintEmpty
import Derived.Shelf.Strconv.ParseUint10b64
import Derived.Shelf.Strconv.ParseUint10b32
import Derived.Shelf.Strconv.ParseUint10b16
import Derived.Shelf.Strconv.ParseUint10b8
import Derived.Shelf.Strconv.ParseUint10At
import Derived.Shelf.Strconv.ParseInt10At64
import Derived.Shelf.Strconv.ParseInt10At32
import Derived.Shelf.Strconv.ParseInt10At16
import Derived.Shelf.Strconv.ParseInt10At8
import Derived.Shelf.Strconv.ParseInt10All
import Derived.Shelf.Strconv.ParseIntPublic10
import Derived.Shelf.Strconv.ErrVarParseInt
import Derived.Shelf.Strings.Search1
import Derived.Shelf.Strings.Search2
import Derived.Shelf.Strings.Search3
import Derived.Shelf.Strings.Count
import Derived.Shelf.Strings.Shaped
import Derived.Shelf.Strings.Prefix
import Derived.Shelf.Strings.Split
import Derived.Shelf.Unicode.DecodeSlow
import Derived.Test.YtlomloepdnojoaaDoorProg
namespace Go.Proofs
open Go.Shelf
def Tryd.laysM246_ren : Go.Shelf.Ren := ⟨fun | 246 => 150 | 283 => 176 | 284 => 177 | 285 => 178 | 286 => 179 | 129 => 196 | 317 => 195 | 318 => 197 | 319 => 198 | 320 => 199 | 337 => 211 | 338 => 212 | n => n, fun | 2 => 2 | 3 => 3 | 9 => 9 | 4 => 4 | 171 => 188 | 0 => 0 | 53 => 151 | 37 => 55 | 5 => 5 | 173 => 191 | 212 => 208 | 51 => 209 | 20 => 20 | 213 => 210 | 46 => 202 | 232 => 229 | 233 => 230 | n => n, fun | 17 => 0 | 18 => 6 | 19 => 7 | n => n⟩
theorem Tryd.laysM246 : Go.Proofs.LaysM.n246 Tryd.prog Tryd.laysM246_ren := {
  mixed := by kernel_rfl
  f129 := Tryd.func196.trans (congrArg some (by kernel_rfl))
  f246 := Tryd.func150.trans (congrArg some (by kernel_rfl))
  f283 := Tryd.func176.trans (congrArg some (by kernel_rfl))
  f284 := Tryd.func177.trans (congrArg some (by kernel_rfl))
  f285 := Tryd.func178.trans (congrArg some (by kernel_rfl))
  f286 := Tryd.func179.trans (congrArg some (by kernel_rfl))
  f317 := Tryd.func195.trans (congrArg some (by kernel_rfl))
  f318 := Tryd.func197.trans (congrArg some (by kernel_rfl))
  f319 := Tryd.func198.trans (congrArg some (by kernel_rfl))
  f320 := Tryd.func199.trans (congrArg some (by kernel_rfl))
  f337 := Tryd.func211.trans (congrArg some (by kernel_rfl))
  f338 := Tryd.func212.trans (congrArg some (by kernel_rfl))
  t0 := Tryd.underlying0
  a0 := Tryd.isAgg0
  z0 := Tryd.sizeOf0
  v0 := Tryd.zeroValue0
  t2 := Tryd.underlying2
  a2 := Tryd.isAgg2
  z2 := Tryd.sizeOf2
  v2 := Tryd.zeroValue2
  t3 := Tryd.underlying3
  a3 := Tryd.isAgg3
  z3 := Tryd.sizeOf3
  v3 := Tryd.zeroValue3
  t4 := Tryd.underlying4
  a4 := Tryd.isAgg4
  z4 := Tryd.sizeOf4
  v4 := Tryd.zeroValue4
  t5 := Tryd.underlying5
  a5 := Tryd.isAgg5
  z5 := Tryd.sizeOf5
  v5 := Tryd.zeroValue5
  t9 := Tryd.underlying9
  a9 := Tryd.isAgg9
  z9 := Tryd.sizeOf9
  v9 := Tryd.zeroValue9
  t20 := Tryd.underlying20
  a20 := Tryd.isAgg20
  z20 := Tryd.sizeOf20
  v20 := Tryd.zeroValue20
  t37 := Tryd.underlying55
  a37 := Tryd.isAgg55
  z37 := Tryd.sizeOf55
  v37 := Tryd.zeroValue55
  t46 := Tryd.underlying202
  a46 := Tryd.isAgg202
  z46 := Tryd.sizeOf202
  v46 := Tryd.zeroValue202
  t51 := Tryd.underlying209
  a51 := Tryd.isAgg209
  z51 := Tryd.sizeOf209
  v51 := Tryd.zeroValue209
  t53 := Tryd.underlying151
  a53 := Tryd.isAgg151
  z53 := Tryd.sizeOf151
  v53 := Tryd.zeroValue151
  t171 := Tryd.underlying188
  a171 := Tryd.isAgg188
  z171 := Tryd.sizeOf188
  v171 := Tryd.zeroValue188
  t173 := Tryd.underlying191
  a173 := Tryd.isAgg191
  z173 := Tryd.sizeOf191
  v173 := Tryd.zeroValue191
  t212 := Tryd.underlying208
  a212 := Tryd.isAgg208
  z212 := Tryd.sizeOf208
  v212 := Tryd.zeroValue208
  t213 := Tryd.underlying210
  a213 := Tryd.isAgg210
  z213 := Tryd.sizeOf210
  t232 := Tryd.underlying229
  a232 := Tryd.isAgg229
  z232 := Tryd.sizeOf229
  v232 := Tryd.zeroValue229
  t233 := Tryd.underlying230
  a233 := Tryd.isAgg230
  z233 := Tryd.sizeOf230
  v233 := Tryd.zeroValue230
  g17 := by kernel_rfl
  g18 := by kernel_rfl
  g19 := by kernel_rfl
  i0 := by kernel_rfl
  i2 := by kernel_rfl
  i3 := by kernel_rfl
  i4 := by kernel_rfl
  i5 := by kernel_rfl
  i9 := by kernel_rfl
  i20 := by kernel_rfl
  i37 := by kernel_rfl
  i46 := by kernel_rfl
  i51 := by kernel_rfl
  i53 := by kernel_rfl
  i171 := by kernel_rfl
  i173 := by kernel_rfl
  i212 := by kernel_rfl
  i232 := by kernel_rfl
  i233 := by kernel_rfl
  m17 := by kernel_rfl
  m18 := by kernel_rfl
  m19 := by kernel_rfl }
open Go.RowKit Go.Sort Go.Lib in
/-- internal/strconv.FormatInt: "FormatInt returns the string representation of i in the given base": AT BASE 10: i's decimal numeral, for every int64. The world behind the call: the world before it, new blocks behind the heap, draws. (LAID: no walk: one application.) -/
theorem Tryd.internal_strconv_FormatInt_10 (n : Int) (h0 : -9223372036854775808 ≤ n) (h1 : n ≤ 9223372036854775807) (w : World) (htab : Lib.TabIs Tryd.prog w "internal/strconv.uint64pow10" .u64 Lib.pow10Tab) :
    Calls Tryd.prog 150 #[.int .i64 n, .int .i64 10] w fun e w' => e = .returned (.string ⟨(Lib.itoa n).toArray⟩) ∧ ∃ k os, w' = grow (w.drewN k) os := Any.internal_strconv_FormatInt_10 Tryd.laysM246 n h0 h1 w htab
def Tryd.lays246_ren : Go.Shelf.Ren := ⟨fun | 246 => 150 | 283 => 176 | 284 => 177 | 285 => 178 | 286 => 179 | 129 => 196 | 317 => 195 | 318 => 197 | 319 => 198 | 320 => 199 | 337 => 211 | 338 => 212 | n => n, fun | 2 => 2 | 3 => 3 | 9 => 9 | 4 => 4 | 171 => 188 | 0 => 0 | 53 => 151 | 37 => 55 | 5 => 5 | 173 => 191 | 212 => 208 | 51 => 209 | 20 => 20 | 213 => 210 | 46 => 202 | 232 => 229 | 233 => 230 | n => n, fun | 17 => 0 | 18 => 6 | 19 => 7 | n => n⟩
theorem Tryd.lays246 : Go.Proofs.Lays.n246 Tryd.prog Tryd.lays246_ren := {
  mixed := by kernel_rfl
  f129 := Tryd.func196.trans (congrArg some (by kernel_rfl))
  f246 := Tryd.func150.trans (congrArg some (by kernel_rfl))
  f283 := Tryd.func176.trans (congrArg some (by kernel_rfl))
  f284 := Tryd.func177.trans (congrArg some (by kernel_rfl))
  f285 := Tryd.func178.trans (congrArg some (by kernel_rfl))
  f286 := Tryd.func179.trans (congrArg some (by kernel_rfl))
  f317 := Tryd.func195.trans (congrArg some (by kernel_rfl))
  f318 := Tryd.func197.trans (congrArg some (by kernel_rfl))
  f319 := Tryd.func198.trans (congrArg some (by kernel_rfl))
  f320 := Tryd.func199.trans (congrArg some (by kernel_rfl))
  f337 := Tryd.func211.trans (congrArg some (by kernel_rfl))
  f338 := Tryd.func212.trans (congrArg some (by kernel_rfl))
  t0 := Tryd.underlying0
  a0 := Tryd.isAgg0
  z0 := Tryd.sizeOf0
  v0 := Tryd.zeroValue0
  t2 := Tryd.underlying2
  a2 := Tryd.isAgg2
  z2 := Tryd.sizeOf2
  v2 := Tryd.zeroValue2
  t3 := Tryd.underlying3
  a3 := Tryd.isAgg3
  z3 := Tryd.sizeOf3
  v3 := Tryd.zeroValue3
  t4 := Tryd.underlying4
  a4 := Tryd.isAgg4
  z4 := Tryd.sizeOf4
  v4 := Tryd.zeroValue4
  t5 := Tryd.underlying5
  a5 := Tryd.isAgg5
  z5 := Tryd.sizeOf5
  v5 := Tryd.zeroValue5
  t9 := Tryd.underlying9
  a9 := Tryd.isAgg9
  z9 := Tryd.sizeOf9
  v9 := Tryd.zeroValue9
  t20 := Tryd.underlying20
  a20 := Tryd.isAgg20
  z20 := Tryd.sizeOf20
  v20 := Tryd.zeroValue20
  t37 := Tryd.underlying55
  a37 := Tryd.isAgg55
  z37 := Tryd.sizeOf55
  v37 := Tryd.zeroValue55
  t46 := Tryd.underlying202
  a46 := Tryd.isAgg202
  z46 := Tryd.sizeOf202
  v46 := Tryd.zeroValue202
  t51 := Tryd.underlying209
  a51 := Tryd.isAgg209
  z51 := Tryd.sizeOf209
  v51 := Tryd.zeroValue209
  t53 := Tryd.underlying151
  a53 := Tryd.isAgg151
  z53 := Tryd.sizeOf151
  v53 := Tryd.zeroValue151
  t171 := Tryd.underlying188
  a171 := Tryd.isAgg188
  z171 := Tryd.sizeOf188
  v171 := Tryd.zeroValue188
  t173 := Tryd.underlying191
  a173 := Tryd.isAgg191
  z173 := Tryd.sizeOf191
  v173 := Tryd.zeroValue191
  t212 := Tryd.underlying208
  a212 := Tryd.isAgg208
  z212 := Tryd.sizeOf208
  v212 := Tryd.zeroValue208
  t213 := Tryd.underlying210
  a213 := Tryd.isAgg210
  z213 := Tryd.sizeOf210
  t232 := Tryd.underlying229
  a232 := Tryd.isAgg229
  z232 := Tryd.sizeOf229
  v232 := Tryd.zeroValue229
  t233 := Tryd.underlying230
  a233 := Tryd.isAgg230
  z233 := Tryd.sizeOf230
  v233 := Tryd.zeroValue230
  g17 := by kernel_rfl
  g18 := by kernel_rfl
  g19 := by kernel_rfl }
open Go.RowKit Go.Sort Go.Lib in
/-- THE ROAD WITHOUT THE TABLE: 0 <= i < 100: two constants are read, nothing is laid: no premise on the world, and the world is as it was. (LAID: no walk: one application.) -/
theorem Tryd.internal_strconv_FormatInt_10_small (i : Nat) (hi : i < 100) (w : World) :
    Calls Tryd.prog 150 #[.int .i64 i, .int .i64 10] w fun e w' => e = .returned (.string ⟨(Lib.decDigits i).toArray⟩) ∧ w' = w := Any.internal_strconv_FormatInt_10_small Tryd.lays246 i hi w
def Tryd.laysM173_ren : Go.Shelf.Ren := ⟨fun | 173 => 111 | 246 => 150 | 283 => 176 | 284 => 177 | 285 => 178 | 286 => 179 | 129 => 196 | 317 => 195 | 318 => 197 | 319 => 198 | 320 => 199 | 337 => 211 | 338 => 212 | n => n, fun | 2 => 2 | 3 => 3 | 9 => 9 | 4 => 4 | 171 => 188 | 0 => 0 | 53 => 151 | 37 => 55 | 5 => 5 | 173 => 191 | 212 => 208 | 51 => 209 | 20 => 20 | 213 => 210 | 46 => 202 | 232 => 229 | 233 => 230 | n => n, fun | 17 => 0 | 18 => 6 | 19 => 7 | n => n⟩
theorem Tryd.laysM173 : Go.Proofs.LaysM.n173 Tryd.prog Tryd.laysM173_ren := {
  mixed := by kernel_rfl
  f129 := Tryd.func196.trans (congrArg some (by kernel_rfl))
  f173 := Tryd.func111.trans (congrArg some (by kernel_rfl))
  f246 := Tryd.func150.trans (congrArg some (by kernel_rfl))
  f283 := Tryd.func176.trans (congrArg some (by kernel_rfl))
  f284 := Tryd.func177.trans (congrArg some (by kernel_rfl))
  f285 := Tryd.func178.trans (congrArg some (by kernel_rfl))
  f286 := Tryd.func179.trans (congrArg some (by kernel_rfl))
  f317 := Tryd.func195.trans (congrArg some (by kernel_rfl))
  f318 := Tryd.func197.trans (congrArg some (by kernel_rfl))
  f319 := Tryd.func198.trans (congrArg some (by kernel_rfl))
  f320 := Tryd.func199.trans (congrArg some (by kernel_rfl))
  f337 := Tryd.func211.trans (congrArg some (by kernel_rfl))
  f338 := Tryd.func212.trans (congrArg some (by kernel_rfl))
  t0 := Tryd.underlying0
  a0 := Tryd.isAgg0
  z0 := Tryd.sizeOf0
  v0 := Tryd.zeroValue0
  t2 := Tryd.underlying2
  a2 := Tryd.isAgg2
  z2 := Tryd.sizeOf2
  v2 := Tryd.zeroValue2
  t3 := Tryd.underlying3
  a3 := Tryd.isAgg3
  z3 := Tryd.sizeOf3
  v3 := Tryd.zeroValue3
  t4 := Tryd.underlying4
  a4 := Tryd.isAgg4
  z4 := Tryd.sizeOf4
  v4 := Tryd.zeroValue4
  t5 := Tryd.underlying5
  a5 := Tryd.isAgg5
  z5 := Tryd.sizeOf5
  v5 := Tryd.zeroValue5
  t9 := Tryd.underlying9
  a9 := Tryd.isAgg9
  z9 := Tryd.sizeOf9
  v9 := Tryd.zeroValue9
  t20 := Tryd.underlying20
  a20 := Tryd.isAgg20
  z20 := Tryd.sizeOf20
  v20 := Tryd.zeroValue20
  t37 := Tryd.underlying55
  a37 := Tryd.isAgg55
  z37 := Tryd.sizeOf55
  v37 := Tryd.zeroValue55
  t46 := Tryd.underlying202
  a46 := Tryd.isAgg202
  z46 := Tryd.sizeOf202
  v46 := Tryd.zeroValue202
  t51 := Tryd.underlying209
  a51 := Tryd.isAgg209
  z51 := Tryd.sizeOf209
  v51 := Tryd.zeroValue209
  t53 := Tryd.underlying151
  a53 := Tryd.isAgg151
  z53 := Tryd.sizeOf151
  v53 := Tryd.zeroValue151
  t171 := Tryd.underlying188
  a171 := Tryd.isAgg188
  z171 := Tryd.sizeOf188
  v171 := Tryd.zeroValue188
  t173 := Tryd.underlying191
  a173 := Tryd.isAgg191
  z173 := Tryd.sizeOf191
  v173 := Tryd.zeroValue191
  t212 := Tryd.underlying208
  a212 := Tryd.isAgg208
  z212 := Tryd.sizeOf208
  v212 := Tryd.zeroValue208
  t213 := Tryd.underlying210
  a213 := Tryd.isAgg210
  z213 := Tryd.sizeOf210
  t232 := Tryd.underlying229
  a232 := Tryd.isAgg229
  z232 := Tryd.sizeOf229
  v232 := Tryd.zeroValue229
  t233 := Tryd.underlying230
  a233 := Tryd.isAgg230
  z233 := Tryd.sizeOf230
  v233 := Tryd.zeroValue230
  g17 := by kernel_rfl
  g18 := by kernel_rfl
  g19 := by kernel_rfl
  i0 := by kernel_rfl
  i2 := by kernel_rfl
  i3 := by kernel_rfl
  i4 := by kernel_rfl
  i5 := by kernel_rfl
  i9 := by kernel_rfl
  i20 := by kernel_rfl
  i37 := by kernel_rfl
  i46 := by kernel_rfl
  i51 := by kernel_rfl
  i53 := by kernel_rfl
  i171 := by kernel_rfl
  i173 := by kernel_rfl
  i212 := by kernel_rfl
  i232 := by kernel_rfl
  i233 := by kernel_rfl
  m17 := by kernel_rfl
  m18 := by kernel_rfl
  m19 := by kernel_rfl }
open Go.RowKit Go.Sort Go.Lib in
/-- strconv.FormatInt: "FormatInt returns the string representation of i in the given base": AT BASE 10: i's decimal numeral, for every int64. (LAID: no walk: one application.) -/
theorem Tryd.strconv_FormatInt_10 (n : Int) (h0 : -9223372036854775808 ≤ n) (h1 : n ≤ 9223372036854775807) (w : World) (htab : Lib.TabIs Tryd.prog w "internal/strconv.uint64pow10" .u64 Lib.pow10Tab) :
    Calls Tryd.prog 111 #[.int .i64 n, .int .i64 10] w fun e w' => e = .returned (.string ⟨(Lib.itoa n).toArray⟩) ∧ ∃ k os, w' = grow (w.drewN k) os := Any.strconv_FormatInt_10 Tryd.laysM173 n h0 h1 w htab
def Tryd.lays173_ren : Go.Shelf.Ren := ⟨fun | 173 => 111 | 246 => 150 | 283 => 176 | 284 => 177 | 285 => 178 | 286 => 179 | 129 => 196 | 317 => 195 | 318 => 197 | 319 => 198 | 320 => 199 | 337 => 211 | 338 => 212 | n => n, fun | 2 => 2 | 3 => 3 | 9 => 9 | 4 => 4 | 171 => 188 | 0 => 0 | 53 => 151 | 37 => 55 | 5 => 5 | 173 => 191 | 212 => 208 | 51 => 209 | 20 => 20 | 213 => 210 | 46 => 202 | 232 => 229 | 233 => 230 | n => n, fun | 17 => 0 | 18 => 6 | 19 => 7 | n => n⟩
theorem Tryd.lays173 : Go.Proofs.Lays.n173 Tryd.prog Tryd.lays173_ren := {
  mixed := by kernel_rfl
  f129 := Tryd.func196.trans (congrArg some (by kernel_rfl))
  f173 := Tryd.func111.trans (congrArg some (by kernel_rfl))
  f246 := Tryd.func150.trans (congrArg some (by kernel_rfl))
  f283 := Tryd.func176.trans (congrArg some (by kernel_rfl))
  f284 := Tryd.func177.trans (congrArg some (by kernel_rfl))
  f285 := Tryd.func178.trans (congrArg some (by kernel_rfl))
  f286 := Tryd.func179.trans (congrArg some (by kernel_rfl))
  f317 := Tryd.func195.trans (congrArg some (by kernel_rfl))
  f318 := Tryd.func197.trans (congrArg some (by kernel_rfl))
  f319 := Tryd.func198.trans (congrArg some (by kernel_rfl))
  f320 := Tryd.func199.trans (congrArg some (by kernel_rfl))
  f337 := Tryd.func211.trans (congrArg some (by kernel_rfl))
  f338 := Tryd.func212.trans (congrArg some (by kernel_rfl))
  t0 := Tryd.underlying0
  a0 := Tryd.isAgg0
  z0 := Tryd.sizeOf0
  v0 := Tryd.zeroValue0
  t2 := Tryd.underlying2
  a2 := Tryd.isAgg2
  z2 := Tryd.sizeOf2
  v2 := Tryd.zeroValue2
  t3 := Tryd.underlying3
  a3 := Tryd.isAgg3
  z3 := Tryd.sizeOf3
  v3 := Tryd.zeroValue3
  t4 := Tryd.underlying4
  a4 := Tryd.isAgg4
  z4 := Tryd.sizeOf4
  v4 := Tryd.zeroValue4
  t5 := Tryd.underlying5
  a5 := Tryd.isAgg5
  z5 := Tryd.sizeOf5
  v5 := Tryd.zeroValue5
  t9 := Tryd.underlying9
  a9 := Tryd.isAgg9
  z9 := Tryd.sizeOf9
  v9 := Tryd.zeroValue9
  t20 := Tryd.underlying20
  a20 := Tryd.isAgg20
  z20 := Tryd.sizeOf20
  v20 := Tryd.zeroValue20
  t37 := Tryd.underlying55
  a37 := Tryd.isAgg55
  z37 := Tryd.sizeOf55
  v37 := Tryd.zeroValue55
  t46 := Tryd.underlying202
  a46 := Tryd.isAgg202
  z46 := Tryd.sizeOf202
  v46 := Tryd.zeroValue202
  t51 := Tryd.underlying209
  a51 := Tryd.isAgg209
  z51 := Tryd.sizeOf209
  v51 := Tryd.zeroValue209
  t53 := Tryd.underlying151
  a53 := Tryd.isAgg151
  z53 := Tryd.sizeOf151
  v53 := Tryd.zeroValue151
  t171 := Tryd.underlying188
  a171 := Tryd.isAgg188
  z171 := Tryd.sizeOf188
  v171 := Tryd.zeroValue188
  t173 := Tryd.underlying191
  a173 := Tryd.isAgg191
  z173 := Tryd.sizeOf191
  v173 := Tryd.zeroValue191
  t212 := Tryd.underlying208
  a212 := Tryd.isAgg208
  z212 := Tryd.sizeOf208
  v212 := Tryd.zeroValue208
  t213 := Tryd.underlying210
  a213 := Tryd.isAgg210
  z213 := Tryd.sizeOf210
  t232 := Tryd.underlying229
  a232 := Tryd.isAgg229
  z232 := Tryd.sizeOf229
  v232 := Tryd.zeroValue229
  t233 := Tryd.underlying230
  a233 := Tryd.isAgg230
  z233 := Tryd.sizeOf230
  v233 := Tryd.zeroValue230
  g17 := by kernel_rfl
  g18 := by kernel_rfl
  g19 := by kernel_rfl }
open Go.RowKit Go.Sort Go.Lib in
/-- THE ROAD WITHOUT THE TABLE: 0 <= i < 100. (LAID: no walk: one application.) -/
theorem Tryd.strconv_FormatInt_10_small (i : Nat) (hi : i < 100) (w : World) :
    Calls Tryd.prog 111 #[.int .i64 i, .int .i64 10] w fun e w' => e = .returned (.string ⟨(Lib.decDigits i).toArray⟩) ∧ w' = w := Any.strconv_FormatInt_10_small Tryd.lays173 i hi w
def Tryd.lays146_ren : Go.Shelf.Ren := ⟨fun | 146 => 74 | 221 => 124 | 268 => 159 | 138 => 160 | 143 => 161 | 195 => 183 | 197 => 184 | 218 => 185 | 219 => 186 | 260 => 200 | 217 => 201 | 225 => 202 | 224 => 203 | 267 => 204 | 266 => 213 | 314 => 214 | n => n, fun | 9 => 9 | 31 => 95 | 3 => 3 | 4 => 4 | 0 => 0 | 105 => 195 | 21 => 21 | 5 => 5 | 46 => 202 | 119 => 220 | 139 => 223 | 138 => 222 | 146 => 224 | 51 => 209 | n => n, fun | 1 => 1 | 3 => 4 | 4 => 5 | n => n⟩
theorem Tryd.lays146 : Go.Proofs.Lays.n146 Tryd.prog Tryd.lays146_ren := {
  mixed := by kernel_rfl
  f138 := Tryd.func160.trans (congrArg some (by kernel_rfl))
  f143 := Tryd.func161.trans (congrArg some (by kernel_rfl))
  f146 := Tryd.func74.trans (congrArg some (by kernel_rfl))
  f195 := Tryd.func183.trans (congrArg some (by kernel_rfl))
  f197 := Tryd.func184.trans (congrArg some (by kernel_rfl))
  f217 := Tryd.func201.trans (congrArg some (by kernel_rfl))
  f218 := Tryd.func185.trans (congrArg some (by kernel_rfl))
  f219 := Tryd.func186.trans (congrArg some (by kernel_rfl))
  f221 := Tryd.func124.trans (congrArg some (by kernel_rfl))
  f224 := Tryd.func203.trans (congrArg some (by kernel_rfl))
  f225 := Tryd.func202.trans (congrArg some (by kernel_rfl))
  f260 := Tryd.func200.trans (congrArg some (by kernel_rfl))
  f266 := Tryd.func213.trans (congrArg some (by kernel_rfl))
  f267 := Tryd.func204.trans (congrArg some (by kernel_rfl))
  f268 := Tryd.func159.trans (congrArg some (by kernel_rfl))
  f314 := Tryd.func214.trans (congrArg some (by kernel_rfl))
  t0 := Tryd.underlying0
  a0 := Tryd.isAgg0
  z0 := Tryd.sizeOf0
  v0 := Tryd.zeroValue0
  t3 := Tryd.underlying3
  a3 := Tryd.isAgg3
  z3 := Tryd.sizeOf3
  v3 := Tryd.zeroValue3
  t4 := Tryd.underlying4
  a4 := Tryd.isAgg4
  z4 := Tryd.sizeOf4
  v4 := Tryd.zeroValue4
  t5 := Tryd.underlying5
  a5 := Tryd.isAgg5
  z5 := Tryd.sizeOf5
  v5 := Tryd.zeroValue5
  t9 := Tryd.underlying9
  a9 := Tryd.isAgg9
  z9 := Tryd.sizeOf9
  v9 := Tryd.zeroValue9
  t21 := Tryd.underlying21
  a21 := Tryd.isAgg21
  z21 := Tryd.sizeOf21
  v21 := Tryd.zeroValue21
  t31 := Tryd.underlying95
  a31 := Tryd.isAgg95
  z31 := Tryd.sizeOf95
  v31 := Tryd.zeroValue95
  t46 := Tryd.underlying202
  a46 := Tryd.isAgg202
  z46 := Tryd.sizeOf202
  v46 := Tryd.zeroValue202
  t51 := Tryd.underlying209
  a51 := Tryd.isAgg209
  z51 := Tryd.sizeOf209
  v51 := Tryd.zeroValue209
  t105 := Tryd.underlying195
  a105 := Tryd.isAgg195
  z105 := Tryd.sizeOf195
  v105 := Tryd.zeroValue195
  t119 := Tryd.underlying220
  a119 := Tryd.isAgg220
  z119 := Tryd.sizeOf220
  t138 := Tryd.underlying222
  a138 := Tryd.isAgg222
  z138 := Tryd.sizeOf222
  v138 := Tryd.zeroValue222
  t139 := Tryd.underlying223
  a139 := Tryd.isAgg223
  z139 := Tryd.sizeOf223
  v139 := Tryd.zeroValue223
  t146 := Tryd.underlying224
  a146 := Tryd.isAgg224
  z146 := Tryd.sizeOf224
  v146 := Tryd.zeroValue224
  g1 := by kernel_rfl
  g3 := by kernel_rfl
  g4 := by kernel_rfl }
open Go.RowKit Go.Lib in
/-- strings.Split. (LAID: no walk: one application.) -/
theorem Tryd.strings_Split (s sep : ByteArray) (m : Int) (w : World) (hs : s.size < 4294967281) (hm : w.cell? ⟨1, 0, none⟩ = some (.int .i64 m)) (h1 : 1 ≤ sep.size) :
    Calls Tryd.prog 74 #[.string s, .string sep] w fun e w' =>
      e = .returned (.slice (some ⟨w.heap.size, 0, none⟩) (Lib.countB s sep + 1) (Lib.countB s sep + 1)) ∧ w' = w.alloc (.cells ((Lib.splitB sep 0 (Lib.countB s sep) s).map Value.string).toArray 9) := Any.strings_Split Tryd.lays146 (by kernel_rfl) s sep m w hs hm h1
end Go.Proofs
