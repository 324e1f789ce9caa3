/- The texts X3Shelf XBld K3. -/
import Derived.Test.YtccffeofkhkbcaaGreatDoorPiTold
import Derived.Shelf.SlLaysF0
import Derived.Shelf.LaysM
import Derived.Shelf.LaysC
import Derived.Shelf.Strings.OnBuilder
import Derived.Shelf.Strings.SlTrimAscii
import Derived.Shelf.Small.Wraps
import Derived.Shelf.Strconv.AtoiAll
import Derived.Shelf.Strconv.Itoa3
import Derived.Shelf.Strings.Cut
import Derived.Shelf.Strings.Split
import Derived.Shelf.Strings.LastIndexAll
import Derived.Shelf.Unicode.ValidAny
import Derived.Shelf.Utf8.RuneCount
import Derived.Test.YtccffeofkhkbcaaGreatDoorProg
import Derived.Ground.Names2Prog
import Derived.Ground.SlsfProg
import Derived.KernelRfl
/- The library's contracts that are used: the print of the kit's lay-shelf and lay-plain, cut down. -/
namespace Go.Proofs
open Go.Shelf
def Tryz.lays169_ren : Go.Shelf.Ren := ⟨fun | 169 => 98 | n => n, fun | 70 => 134 | 9 => 9 | 0 => 0 | 72 => 136 | 37 => 33 | 127 => 162 | 3 => 3 | 5 => 5 | n => n, fun | n => n⟩
theorem Tryz.lays169 : Go.Proofs.Lays.n169 Tryz.prog Tryz.lays169_ren := {
  mixed := by kernel_rfl
  f169 := Tryz.func98.trans (congrArg some (by kernel_rfl))
  t0 := Tryz.underlying0
  a0 := Tryz.isAgg0
  z0 := Tryz.sizeOf0
  v0 := Tryz.zeroValue0
  t3 := Tryz.underlying3
  a3 := Tryz.isAgg3
  z3 := Tryz.sizeOf3
  v3 := Tryz.zeroValue3
  t9 := Tryz.underlying9
  a9 := Tryz.isAgg9
  z9 := Tryz.sizeOf9
  v9 := Tryz.zeroValue9
  t37 := Tryz.underlying33
  a37 := Tryz.isAgg33
  z37 := Tryz.sizeOf33
  v37 := Tryz.zeroValue33
  t70 := Tryz.underlying134
  a70 := Tryz.isAgg134
  z70 := Tryz.sizeOf134
  v70 := Tryz.zeroValue134
  t72 := Tryz.underlying136
  a72 := Tryz.isAgg136
  z72 := Tryz.sizeOf136
  v72 := Tryz.zeroValue136
  t127 := Tryz.underlying162
  a127 := Tryz.isAgg162
  z127 := Tryz.sizeOf162
  v127 := Tryz.zeroValue162 }
theorem Tryz.Builder_Extra_169 : Builder.Extra Tryz.prog Tryz.lays169_ren := {
  sizeBuilder := by kernel_rfl
  liesBuilder := by kernel_rfl
  t5 := Tryz.underlying5
  a5 := Tryz.isAgg5
  z5 := Tryz.sizeOf5
  v5 := Tryz.zeroValue5
  infoByte := by kernel_rfl
  cellsByte := by kernel_rfl
  sizeByte := by kernel_rfl
  neB5 := by decide }
open Go.RowKit in
/-- (*strings.Builder).String: "String returns the accumulated string.": OF A BUILDER THAT HOLDS AT LEAST ONE BYTE. ✋ THE MODEL FREEZES THOSE BYTES IN THE BUFFER (unsafe.String): a later write INTO them ends the model's run without an answer; a later append BEHIND them goes on. The statement's order of evaluation is drawn: one draw. (LAID: no walk: one application.) -/
theorem Tryz.Builder_String (B b : Nat) (l : List UInt8) (w : World) (h : Lib.IsBuilder 136 5 B b (Lib.byteCells l) w) (h0 : l ≠ []) :
    Calls Tryz.prog 98 #[.pointer (some ⟨b, 0, none⟩)] w fun e w' => e = .returned (.string ⟨l.toArray⟩) ∧ Below B w w' := Any.Builder_String Tryz.lays169 Tryz.Builder_Extra_169 B b l w h h0
def Tryz.lays156_ren : Go.Shelf.Ren := ⟨fun | 156 => 70 | 165 => 96 | 166 => 97 | 169 => 98 | 240 => 123 | 241 => 124 | 276 => 135 | 277 => 136 | n => n, fun | 31 => 87 | 9 => 9 | 3 => 3 | 4 => 4 | 0 => 0 | 20 => 20 | 72 => 136 | 76 => 140 | 70 => 134 | 37 => 33 | 75 => 139 | 127 => 162 | 164 => 172 | 5 => 5 | 80 => 142 | n => n, fun | n => n⟩
theorem Tryz.lays156 : Go.Proofs.Lays.n156 Tryz.prog Tryz.lays156_ren := {
  mixed := by kernel_rfl
  f156 := Tryz.func70.trans (congrArg some (by kernel_rfl))
  f165 := Tryz.func96.trans (congrArg some (by kernel_rfl))
  f166 := Tryz.func97.trans (congrArg some (by kernel_rfl))
  f169 := Tryz.func98.trans (congrArg some (by kernel_rfl))
  f240 := Tryz.func123.trans (congrArg some (by kernel_rfl))
  f241 := Tryz.func124.trans (congrArg some (by kernel_rfl))
  f276 := Tryz.func135.trans (congrArg some (by kernel_rfl))
  f277 := Tryz.func136.trans (congrArg some (by kernel_rfl))
  t0 := Tryz.underlying0
  a0 := Tryz.isAgg0
  z0 := Tryz.sizeOf0
  v0 := Tryz.zeroValue0
  t3 := Tryz.underlying3
  a3 := Tryz.isAgg3
  z3 := Tryz.sizeOf3
  v3 := Tryz.zeroValue3
  t4 := Tryz.underlying4
  a4 := Tryz.isAgg4
  z4 := Tryz.sizeOf4
  v4 := Tryz.zeroValue4
  t9 := Tryz.underlying9
  a9 := Tryz.isAgg9
  z9 := Tryz.sizeOf9
  v9 := Tryz.zeroValue9
  t20 := Tryz.underlying20
  a20 := Tryz.isAgg20
  z20 := Tryz.sizeOf20
  v20 := Tryz.zeroValue20
  t31 := Tryz.underlying87
  a31 := Tryz.isAgg87
  z31 := Tryz.sizeOf87
  v31 := Tryz.zeroValue87
  t37 := Tryz.underlying33
  a37 := Tryz.isAgg33
  z37 := Tryz.sizeOf33
  v37 := Tryz.zeroValue33
  t70 := Tryz.underlying134
  a70 := Tryz.isAgg134
  z70 := Tryz.sizeOf134
  v70 := Tryz.zeroValue134
  t72 := Tryz.underlying136
  a72 := Tryz.isAgg136
  z72 := Tryz.sizeOf136
  v72 := Tryz.zeroValue136
  t75 := Tryz.underlying139
  a75 := Tryz.isAgg139
  z75 := Tryz.sizeOf139
  v75 := Tryz.zeroValue139
  t76 := Tryz.underlying140
  a76 := Tryz.isAgg140
  z76 := Tryz.sizeOf140
  v76 := Tryz.zeroValue140
  t127 := Tryz.underlying162
  a127 := Tryz.isAgg162
  z127 := Tryz.sizeOf162
  v127 := Tryz.zeroValue162
  t164 := Tryz.underlying172
  a164 := Tryz.isAgg172
  z164 := Tryz.sizeOf172
  v164 := Tryz.zeroValue172 }
theorem Tryz.Builder_Extra_156 : Builder.Extra Tryz.prog Tryz.lays156_ren := {
  sizeBuilder := by kernel_rfl
  liesBuilder := by kernel_rfl
  t5 := Tryz.underlying5
  a5 := Tryz.isAgg5
  z5 := Tryz.sizeOf5
  v5 := Tryz.zeroValue5
  infoByte := by kernel_rfl
  cellsByte := by kernel_rfl
  sizeByte := by kernel_rfl
  neB5 := by decide }
open Go.RowKit in
/-- No element: the empty string; the world is as it was. (Whatever the slice's address and capacity: a nil slice too.) (LAID: no walk: one application.) -/
theorem Tryz.strings_Join_none (a : Option Addr) (c : Nat) (sep : ByteArray) (w : World) :
    Calls Tryz.prog 70 #[.slice a 0 c, .string sep] w fun e w' => e = .returned (.string ⟨#[]⟩) ∧ w' = w := Any.strings_Join_none Tryz.lays156 Tryz.Builder_Extra_156 a c sep w
open Go.RowKit in
/-- strings.Join: "Join concatenates the elements of its first argument to create a single string. The separator string sep is placed between elements in the resulting string.": HOWEVER MANY ELEMENTS. Below the heap's end the world is as it was. (LAID: no walk: one application.) -/
theorem Tryz.strings_Join (bk o c : Nat) (xs : List ByteArray) (sep : ByteArray) (w : World) (hcells : ∀ (j : Nat) x, xs[j]? = some x → w.cell? ⟨bk, o + j, none⟩ = some (.string x)) (hbk : bk < w.heap.size) (hN : xs.length ≤ 140737488355328) (hcap : xs.length ≤ c) (hlen : (Lib.join (xs.map (·.data.toList)) sep.data.toList).length ≤ 140737488355328) :
    Calls Tryz.prog 70 #[.slice (some ⟨bk, o, none⟩) xs.length c, .string sep] w fun e w' => e = .returned (.string ⟨(Lib.join (xs.map (·.data.toList)) sep.data.toList).toArray⟩) ∧ Below w.heap.size w w' := Any.strings_Join Tryz.lays156 Tryz.Builder_Extra_156 bk o c xs sep w hcells hbk hN hcap hlen
def Tryz.lays160_ren : Go.Shelf.Ren := ⟨fun | 160 => 66 | 232 => 85 | 231 => 84 | 227 => 86 | 234 => 88 | 233 => 87 | 236 => 90 | 235 => 89 | 228 => 109 | 271 => 112 | 151 => 111 | 197 => 110 | 120 => 130 | 152 => 129 | 260 => 128 | 137 => 137 | 119 => 138 | 224 => 106 | 225 => 105 | 217 => 104 | 266 => 126 | n => n, fun | 9 => 9 | 4 => 4 | 3 => 3 | 5 => 5 | 117 => 127 | 116 => 126 | 0 => 0 | 124 => 130 | 21 => 21 | 105 => 153 | 46 => 91 | 119 => 175 | 139 => 178 | 138 => 177 | n => n, fun | 3 => 1 | 4 => 2 | n => n⟩
theorem Tryz.lays160 : Go.Proofs.Lays.n160 Tryz.prog Tryz.lays160_ren := {
  mixed := by kernel_rfl
  f119 := Tryz.func138.trans (congrArg some (by kernel_rfl))
  f120 := Tryz.func130.trans (congrArg some (by kernel_rfl))
  f137 := Tryz.func137.trans (congrArg some (by kernel_rfl))
  f151 := Tryz.func111.trans (congrArg some (by kernel_rfl))
  f152 := Tryz.func129.trans (congrArg some (by kernel_rfl))
  f160 := Tryz.func66.trans (congrArg some (by kernel_rfl))
  f197 := Tryz.func110.trans (congrArg some (by kernel_rfl))
  f217 := Tryz.func104.trans (congrArg some (by kernel_rfl))
  f224 := Tryz.func106.trans (congrArg some (by kernel_rfl))
  f225 := Tryz.func105.trans (congrArg some (by kernel_rfl))
  f227 := Tryz.func86.trans (congrArg some (by kernel_rfl))
  f228 := Tryz.func109.trans (congrArg some (by kernel_rfl))
  f231 := Tryz.func84.trans (congrArg some (by kernel_rfl))
  f232 := Tryz.func85.trans (congrArg some (by kernel_rfl))
  f233 := Tryz.func87.trans (congrArg some (by kernel_rfl))
  f234 := Tryz.func88.trans (congrArg some (by kernel_rfl))
  f235 := Tryz.func89.trans (congrArg some (by kernel_rfl))
  f236 := Tryz.func90.trans (congrArg some (by kernel_rfl))
  f260 := Tryz.func128.trans (congrArg some (by kernel_rfl))
  f266 := Tryz.func126.trans (congrArg some (by kernel_rfl))
  f271 := Tryz.func112.trans (congrArg some (by kernel_rfl))
  t0 := Tryz.underlying0
  a0 := Tryz.isAgg0
  z0 := Tryz.sizeOf0
  v0 := Tryz.zeroValue0
  t3 := Tryz.underlying3
  a3 := Tryz.isAgg3
  z3 := Tryz.sizeOf3
  v3 := Tryz.zeroValue3
  t4 := Tryz.underlying4
  a4 := Tryz.isAgg4
  z4 := Tryz.sizeOf4
  v4 := Tryz.zeroValue4
  t5 := Tryz.underlying5
  a5 := Tryz.isAgg5
  z5 := Tryz.sizeOf5
  v5 := Tryz.zeroValue5
  t9 := Tryz.underlying9
  a9 := Tryz.isAgg9
  z9 := Tryz.sizeOf9
  v9 := Tryz.zeroValue9
  t21 := Tryz.underlying21
  a21 := Tryz.isAgg21
  z21 := Tryz.sizeOf21
  v21 := Tryz.zeroValue21
  t46 := Tryz.underlying91
  a46 := Tryz.isAgg91
  z46 := Tryz.sizeOf91
  v46 := Tryz.zeroValue91
  t105 := Tryz.underlying153
  a105 := Tryz.isAgg153
  z105 := Tryz.sizeOf153
  v105 := Tryz.zeroValue153
  t116 := Tryz.underlying126
  a116 := Tryz.isAgg126
  z116 := Tryz.sizeOf126
  t117 := Tryz.underlying127
  a117 := Tryz.isAgg127
  z117 := Tryz.sizeOf127
  v117 := Tryz.zeroValue127
  t119 := Tryz.underlying175
  a119 := Tryz.isAgg175
  z119 := Tryz.sizeOf175
  t124 := Tryz.underlying130
  a124 := Tryz.isAgg130
  z124 := Tryz.sizeOf130
  v124 := Tryz.zeroValue130
  t138 := Tryz.underlying177
  a138 := Tryz.isAgg177
  z138 := Tryz.sizeOf177
  v138 := Tryz.zeroValue177
  t139 := Tryz.underlying178
  a139 := Tryz.isAgg178
  z139 := Tryz.sizeOf178
  v139 := Tryz.zeroValue178
  g3 := by kernel_rfl
  g4 := by kernel_rfl }
open Go.RowKit in
/-- strings.Trim: "Trim returns a slice of the string s with all leading and trailing Unicode code points contained in cutset removed.": AT A cutset OF ONE ASCII BYTE. THE WORLD BEHIND IT: as it was, or (where s is not empty) with ONE DRAW MORE off the tape: the statement 'return trimLeftByte(trimRightByte(s, c), c)' draws its order of evaluation. (LAID: no walk: one application.) -/
theorem Tryz.strings_Trim_one (s : ByteArray) (c : UInt8) (hc : c.toNat < 128) (w : World) (hs : s.size ≤ 9223372036854775807) :
    Calls Tryz.prog 66 #[.string s, .string ⟨#[c]⟩] w fun e w' => e = .returned (.string ⟨(Lib.trimB s.data.toList c).toArray⟩) ∧ (w' = w ∨ w' = w.drew) := Any.strings_Trim_one Tryz.lays160 s c hc w hs
def Tryz.laysM171_ren : Go.Shelf.Ren := ⟨fun | 171 => 95 | 243 => 122 | 246 => 134 | 283 => 140 | 284 => 141 | 285 => 142 | 286 => 143 | 129 => 80 | 317 => 144 | 318 => 145 | 319 => 146 | 320 => 147 | 337 => 148 | 338 => 149 | n => n, fun | 3 => 3 | 9 => 9 | 2 => 2 | 4 => 4 | 171 => 181 | 0 => 0 | 53 => 119 | 37 => 33 | 5 => 5 | 173 => 183 | 212 => 186 | 51 => 117 | 20 => 20 | 213 => 187 | 46 => 91 | 232 => 188 | 233 => 189 | n => n, fun | 17 => 3 | 18 => 4 | 19 => 5 | n => n⟩
theorem Tryz.laysM171 : Go.Proofs.LaysM.n171 Tryz.prog Tryz.laysM171_ren := {
  mixed := by kernel_rfl
  f129 := Tryz.func80.trans (congrArg some (by kernel_rfl))
  f171 := Tryz.func95.trans (congrArg some (by kernel_rfl))
  f243 := Tryz.func122.trans (congrArg some (by kernel_rfl))
  f246 := Tryz.func134.trans (congrArg some (by kernel_rfl))
  f283 := Tryz.func140.trans (congrArg some (by kernel_rfl))
  f284 := Tryz.func141.trans (congrArg some (by kernel_rfl))
  f285 := Tryz.func142.trans (congrArg some (by kernel_rfl))
  f286 := Tryz.func143.trans (congrArg some (by kernel_rfl))
  f317 := Tryz.func144.trans (congrArg some (by kernel_rfl))
  f318 := Tryz.func145.trans (congrArg some (by kernel_rfl))
  f319 := Tryz.func146.trans (congrArg some (by kernel_rfl))
  f320 := Tryz.func147.trans (congrArg some (by kernel_rfl))
  f337 := Tryz.func148.trans (congrArg some (by kernel_rfl))
  f338 := Tryz.func149.trans (congrArg some (by kernel_rfl))
  t0 := Tryz.underlying0
  a0 := Tryz.isAgg0
  z0 := Tryz.sizeOf0
  v0 := Tryz.zeroValue0
  t2 := Tryz.underlying2
  a2 := Tryz.isAgg2
  z2 := Tryz.sizeOf2
  v2 := Tryz.zeroValue2
  t3 := Tryz.underlying3
  a3 := Tryz.isAgg3
  z3 := Tryz.sizeOf3
  v3 := Tryz.zeroValue3
  t4 := Tryz.underlying4
  a4 := Tryz.isAgg4
  z4 := Tryz.sizeOf4
  v4 := Tryz.zeroValue4
  t5 := Tryz.underlying5
  a5 := Tryz.isAgg5
  z5 := Tryz.sizeOf5
  v5 := Tryz.zeroValue5
  t9 := Tryz.underlying9
  a9 := Tryz.isAgg9
  z9 := Tryz.sizeOf9
  v9 := Tryz.zeroValue9
  t20 := Tryz.underlying20
  a20 := Tryz.isAgg20
  z20 := Tryz.sizeOf20
  v20 := Tryz.zeroValue20
  t37 := Tryz.underlying33
  a37 := Tryz.isAgg33
  z37 := Tryz.sizeOf33
  v37 := Tryz.zeroValue33
  t46 := Tryz.underlying91
  a46 := Tryz.isAgg91
  z46 := Tryz.sizeOf91
  v46 := Tryz.zeroValue91
  t51 := Tryz.underlying117
  a51 := Tryz.isAgg117
  z51 := Tryz.sizeOf117
  v51 := Tryz.zeroValue117
  t53 := Tryz.underlying119
  a53 := Tryz.isAgg119
  z53 := Tryz.sizeOf119
  v53 := Tryz.zeroValue119
  t171 := Tryz.underlying181
  a171 := Tryz.isAgg181
  z171 := Tryz.sizeOf181
  v171 := Tryz.zeroValue181
  t173 := Tryz.underlying183
  a173 := Tryz.isAgg183
  z173 := Tryz.sizeOf183
  v173 := Tryz.zeroValue183
  t212 := Tryz.underlying186
  a212 := Tryz.isAgg186
  z212 := Tryz.sizeOf186
  v212 := Tryz.zeroValue186
  t213 := Tryz.underlying187
  a213 := Tryz.isAgg187
  z213 := Tryz.sizeOf187
  t232 := Tryz.underlying188
  a232 := Tryz.isAgg188
  z232 := Tryz.sizeOf188
  v232 := Tryz.zeroValue188
  t233 := Tryz.underlying189
  a233 := Tryz.isAgg189
  z233 := Tryz.sizeOf189
  v233 := Tryz.zeroValue189
  g17 := by kernel_rfl
  g18 := by kernel_rfl
  g19 := by kernel_rfl
  i0 := by kernel_rfl
  i2 := by kernel_rfl
  i3 := by kernel_rfl
  i4 := by kernel_rfl
  i5 := by kernel_rfl
  i9 := by kernel_rfl
  i20 := by kernel_rfl
  i37 := by kernel_rfl
  i46 := by kernel_rfl
  i51 := by kernel_rfl
  i53 := by kernel_rfl
  i171 := by kernel_rfl
  i173 := by kernel_rfl
  i212 := by kernel_rfl
  i232 := by kernel_rfl
  i233 := by kernel_rfl
  m17 := by kernel_rfl
  m18 := by kernel_rfl
  m19 := by kernel_rfl }
open Go.RowKit Go.Sort Go.Lib in
/-- strconv.Itoa: "Itoa is equivalent to FormatInt(int64(i), 10).": i's DECIMAL NUMERAL ('Lib.itoa': a '-' where i is negative, then the digits), FOR EVERY int. The world behind the call: the world before it, new blocks behind the heap (the library's 'var a [24]byte'), draws. (LAID: no walk: one application.) -/
theorem Tryz.strconv_Itoa (n : Int) (h0 : -9223372036854775808 ≤ n) (h1 : n ≤ 9223372036854775807) (w : World) (htab : Lib.TabIs Tryz.prog w "internal/strconv.uint64pow10" .u64 Lib.pow10Tab) :
    Calls Tryz.prog 95 #[.int .i64 n] w fun e w' => e = .returned (.string ⟨(Lib.itoa n).toArray⟩) ∧ ∃ k os, w' = grow (w.drewN k) os := Any.strconv_Itoa Tryz.laysM171 n h0 h1 w htab
def Tryz.lays144_ren : Go.Shelf.Ren := ⟨fun | 144 => 39 | 143 => 59 | 219 => 81 | 217 => 104 | 225 => 105 | 224 => 106 | 267 => 107 | 266 => 126 | 314 => 127 | n => n, fun | 9 => 9 | 4 => 4 | 3 => 3 | 5 => 5 | 46 => 91 | 146 => 166 | 51 => 117 | n => n, fun | 1 => 0 | n => n⟩
theorem Tryz.lays144 : Go.Proofs.Lays.n144 Tryz.prog Tryz.lays144_ren := {
  mixed := by kernel_rfl
  f143 := Tryz.func59.trans (congrArg some (by kernel_rfl))
  f144 := Tryz.func39.trans (congrArg some (by kernel_rfl))
  f217 := Tryz.func104.trans (congrArg some (by kernel_rfl))
  f219 := Tryz.func81.trans (congrArg some (by kernel_rfl))
  f224 := Tryz.func106.trans (congrArg some (by kernel_rfl))
  f225 := Tryz.func105.trans (congrArg some (by kernel_rfl))
  f266 := Tryz.func126.trans (congrArg some (by kernel_rfl))
  f267 := Tryz.func107.trans (congrArg some (by kernel_rfl))
  f314 := Tryz.func127.trans (congrArg some (by kernel_rfl))
  t3 := Tryz.underlying3
  a3 := Tryz.isAgg3
  z3 := Tryz.sizeOf3
  v3 := Tryz.zeroValue3
  t4 := Tryz.underlying4
  a4 := Tryz.isAgg4
  z4 := Tryz.sizeOf4
  v4 := Tryz.zeroValue4
  t5 := Tryz.underlying5
  a5 := Tryz.isAgg5
  z5 := Tryz.sizeOf5
  v5 := Tryz.zeroValue5
  t9 := Tryz.underlying9
  a9 := Tryz.isAgg9
  z9 := Tryz.sizeOf9
  v9 := Tryz.zeroValue9
  t46 := Tryz.underlying91
  a46 := Tryz.isAgg91
  z46 := Tryz.sizeOf91
  v46 := Tryz.zeroValue91
  t51 := Tryz.underlying117
  a51 := Tryz.isAgg117
  z51 := Tryz.sizeOf117
  v51 := Tryz.zeroValue117
  t146 := Tryz.underlying166
  a146 := Tryz.isAgg166
  z146 := Tryz.sizeOf166
  v146 := Tryz.zeroValue166
  g1 := by kernel_rfl }
open Go.RowKit Go.Lib in
/-- strings.Contains: "Contains reports whether substr is within s.": AT A substr OF ONE BYTE c: IT RETURNS 'decide (0 ≤ Lib.indexByte s c)'; the world is as it was. (LAID: no walk: one application.) -/
theorem Tryz.strings_Contains_one (s : ByteArray) (c : UInt8) (w : World) :
    Calls Tryz.prog 39 #[.string s, .string ⟨#[c]⟩] w fun e w' => e = .returned (.bool (decide (0 ≤ Lib.indexByte s.data.toList c))) ∧ w' = w := Any.strings_Contains_one Tryz.lays144 s c w
def Tryz.sort30_ren : Go.Shelf.Ren := ⟨fun | 6 => 30 | 15 => 54 | 14 => 53 | 28 => 79 | 29 => 80 | 20 => 71 | 21 => 72 | 22 => 73 | 23 => 74 | 24 => 75 | 25 => 76 | 26 => 77 | 27 => 78 | 46 => 99 | 47 => 100 | 48 => 101 | 49 => 102 | 50 => 103 | 57 => 125 | n => n, fun | 22 => 26 | 24 => 43 | 25 => 67 | 3 => 3 | 39 => 91 | 0 => 0 | 53 => 117 | 55 => 119 | 4 => 4 | 46 => 110 | 45 => 109 | 50 => 114 | 5 => 5 | 9 => 9 | 66 => 143 | 70 => 147 | 76 => 163 | 77 => 164 | n => n, fun | n => n⟩
theorem Tryz.sort30 : Go.Proofs.SlLaysF0.n6 Tryz.prog Tryz.sort30_ren := {
  mixed := by kernel_rfl
  f6 := ⟨Tryz.f30.name, by decide, Tryz.func30.trans (congrArg some (by kernel_rfl))⟩
  f14 := ⟨Tryz.f53.name, by decide, Tryz.func53.trans (congrArg some (by kernel_rfl))⟩
  f15 := Tryz.func54.trans (congrArg some (by kernel_rfl))
  f20 := ⟨Tryz.f71.name, by decide, Tryz.func71.trans (congrArg some (by kernel_rfl))⟩
  f21 := ⟨Tryz.f72.name, by decide, Tryz.func72.trans (congrArg some (by kernel_rfl))⟩
  f22 := ⟨Tryz.f73.name, by decide, Tryz.func73.trans (congrArg some (by kernel_rfl))⟩
  f23 := ⟨Tryz.f74.name, by decide, Tryz.func74.trans (congrArg some (by kernel_rfl))⟩
  f24 := ⟨Tryz.f75.name, by decide, Tryz.func75.trans (congrArg some (by kernel_rfl))⟩
  f25 := ⟨Tryz.f76.name, by decide, Tryz.func76.trans (congrArg some (by kernel_rfl))⟩
  f26 := ⟨Tryz.f77.name, by decide, Tryz.func77.trans (congrArg some (by kernel_rfl))⟩
  f27 := ⟨Tryz.f78.name, by decide, Tryz.func78.trans (congrArg some (by kernel_rfl))⟩
  f28 := Tryz.func79.trans (congrArg some (by kernel_rfl))
  f29 := Tryz.func80.trans (congrArg some (by kernel_rfl))
  f46 := ⟨Tryz.f99.name, by decide, Tryz.func99.trans (congrArg some (by kernel_rfl))⟩
  f47 := Tryz.func100.trans (congrArg some (by kernel_rfl))
  f48 := Tryz.func101.trans (congrArg some (by kernel_rfl))
  f49 := ⟨Tryz.f102.name, by decide, Tryz.func102.trans (congrArg some (by kernel_rfl))⟩
  f50 := ⟨Tryz.f103.name, by decide, Tryz.func103.trans (congrArg some (by kernel_rfl))⟩
  f57 := ⟨Tryz.f125.name, by decide, Tryz.func125.trans (congrArg some (by kernel_rfl))⟩
  t0 := Tryz.underlying0
  a0 := Tryz.isAgg0
  z0 := Tryz.sizeOf0
  v0 := Tryz.zeroValue0
  t3 := Tryz.underlying3
  a3 := Tryz.isAgg3
  z3 := Tryz.sizeOf3
  v3 := Tryz.zeroValue3
  t4 := Tryz.underlying4
  a4 := Tryz.isAgg4
  z4 := Tryz.sizeOf4
  v4 := Tryz.zeroValue4
  t5 := Tryz.underlying5
  a5 := Tryz.isAgg5
  z5 := Tryz.sizeOf5
  v5 := Tryz.zeroValue5
  t9 := Tryz.underlying9
  a9 := Tryz.isAgg9
  z9 := Tryz.sizeOf9
  v9 := Tryz.zeroValue9
  t22 := Tryz.underlying26
  a22 := Tryz.isAgg26
  z22 := Tryz.sizeOf26
  v22 := Tryz.zeroValue26
  t25 := Tryz.underlying67
  a25 := Tryz.isAgg67
  z25 := Tryz.sizeOf67
  v25 := Tryz.zeroValue67
  t39 := Tryz.underlying91
  a39 := Tryz.isAgg91
  z39 := Tryz.sizeOf91
  v39 := Tryz.zeroValue91
  t45 := Tryz.underlying109
  a45 := Tryz.isAgg109
  z45 := Tryz.sizeOf109
  v45 := Tryz.zeroValue109
  t46 := Tryz.underlying110
  a46 := Tryz.isAgg110
  z46 := Tryz.sizeOf110
  v46 := Tryz.zeroValue110
  t50 := Tryz.underlying114
  a50 := Tryz.isAgg114
  z50 := Tryz.sizeOf114
  v50 := Tryz.zeroValue114
  t53 := Tryz.underlying117
  a53 := Tryz.isAgg117
  z53 := Tryz.sizeOf117
  v53 := Tryz.zeroValue117
  t55 := Tryz.underlying119
  a55 := Tryz.isAgg119
  z55 := Tryz.sizeOf119
  v55 := Tryz.zeroValue119
  t66 := Tryz.underlying143
  a66 := Tryz.isAgg143
  z66 := Tryz.sizeOf143
  v66 := Tryz.zeroValue143
  t70 := Tryz.underlying147
  a70 := Tryz.isAgg147
  z70 := Tryz.sizeOf147
  v70 := Tryz.zeroValue147
  t76 := Tryz.underlying163
  a76 := Tryz.isAgg163
  z76 := Tryz.sizeOf163
  v76 := Tryz.zeroValue163
  t77 := Tryz.underlying164
  a77 := Tryz.isAgg164
  z77 := Tryz.sizeOf164
  v77 := Tryz.zeroValue164 }
def Tryz.sort67_ren : Go.Shelf.Ren := ⟨fun | 6 => 67 | 15 => 54 | 14 => 91 | 28 => 79 | 29 => 80 | 20 => 113 | 21 => 114 | 22 => 115 | 23 => 116 | 24 => 117 | 25 => 118 | 26 => 119 | 27 => 120 | 46 => 131 | 47 => 100 | 48 => 101 | 49 => 132 | 50 => 133 | 57 => 139 | n => n, fun | 22 => 23 | 24 => 41 | 25 => 101 | 3 => 3 | 39 => 91 | 0 => 0 | 53 => 117 | 55 => 119 | 4 => 4 | 46 => 110 | 45 => 109 | 50 => 114 | 5 => 5 | 9 => 9 | 66 => 143 | 70 => 147 | 76 => 163 | 77 => 164 | n => n, fun | n => n⟩
theorem Tryz.sort67 : Go.Proofs.SlLaysF0.n6 Tryz.prog Tryz.sort67_ren := {
  mixed := by kernel_rfl
  f6 := ⟨Tryz.f67.name, by decide, Tryz.func67.trans (congrArg some (by kernel_rfl))⟩
  f14 := ⟨Tryz.f91.name, by decide, Tryz.func91.trans (congrArg some (by kernel_rfl))⟩
  f15 := Tryz.func54.trans (congrArg some (by kernel_rfl))
  f20 := ⟨Tryz.f113.name, by decide, Tryz.func113.trans (congrArg some (by kernel_rfl))⟩
  f21 := ⟨Tryz.f114.name, by decide, Tryz.func114.trans (congrArg some (by kernel_rfl))⟩
  f22 := ⟨Tryz.f115.name, by decide, Tryz.func115.trans (congrArg some (by kernel_rfl))⟩
  f23 := ⟨Tryz.f116.name, by decide, Tryz.func116.trans (congrArg some (by kernel_rfl))⟩
  f24 := ⟨Tryz.f117.name, by decide, Tryz.func117.trans (congrArg some (by kernel_rfl))⟩
  f25 := ⟨Tryz.f118.name, by decide, Tryz.func118.trans (congrArg some (by kernel_rfl))⟩
  f26 := ⟨Tryz.f119.name, by decide, Tryz.func119.trans (congrArg some (by kernel_rfl))⟩
  f27 := ⟨Tryz.f120.name, by decide, Tryz.func120.trans (congrArg some (by kernel_rfl))⟩
  f28 := Tryz.func79.trans (congrArg some (by kernel_rfl))
  f29 := Tryz.func80.trans (congrArg some (by kernel_rfl))
  f46 := ⟨Tryz.f131.name, by decide, Tryz.func131.trans (congrArg some (by kernel_rfl))⟩
  f47 := Tryz.func100.trans (congrArg some (by kernel_rfl))
  f48 := Tryz.func101.trans (congrArg some (by kernel_rfl))
  f49 := ⟨Tryz.f132.name, by decide, Tryz.func132.trans (congrArg some (by kernel_rfl))⟩
  f50 := ⟨Tryz.f133.name, by decide, Tryz.func133.trans (congrArg some (by kernel_rfl))⟩
  f57 := ⟨Tryz.f139.name, by decide, Tryz.func139.trans (congrArg some (by kernel_rfl))⟩
  t0 := Tryz.underlying0
  a0 := Tryz.isAgg0
  z0 := Tryz.sizeOf0
  v0 := Tryz.zeroValue0
  t3 := Tryz.underlying3
  a3 := Tryz.isAgg3
  z3 := Tryz.sizeOf3
  v3 := Tryz.zeroValue3
  t4 := Tryz.underlying4
  a4 := Tryz.isAgg4
  z4 := Tryz.sizeOf4
  v4 := Tryz.zeroValue4
  t5 := Tryz.underlying5
  a5 := Tryz.isAgg5
  z5 := Tryz.sizeOf5
  v5 := Tryz.zeroValue5
  t9 := Tryz.underlying9
  a9 := Tryz.isAgg9
  z9 := Tryz.sizeOf9
  v9 := Tryz.zeroValue9
  t22 := Tryz.underlying23
  a22 := Tryz.isAgg23
  z22 := Tryz.sizeOf23
  v22 := Tryz.zeroValue23
  t25 := Tryz.underlying101
  a25 := Tryz.isAgg101
  z25 := Tryz.sizeOf101
  v25 := Tryz.zeroValue101
  t39 := Tryz.underlying91
  a39 := Tryz.isAgg91
  z39 := Tryz.sizeOf91
  v39 := Tryz.zeroValue91
  t45 := Tryz.underlying109
  a45 := Tryz.isAgg109
  z45 := Tryz.sizeOf109
  v45 := Tryz.zeroValue109
  t46 := Tryz.underlying110
  a46 := Tryz.isAgg110
  z46 := Tryz.sizeOf110
  v46 := Tryz.zeroValue110
  t50 := Tryz.underlying114
  a50 := Tryz.isAgg114
  z50 := Tryz.sizeOf114
  v50 := Tryz.zeroValue114
  t53 := Tryz.underlying117
  a53 := Tryz.isAgg117
  z53 := Tryz.sizeOf117
  v53 := Tryz.zeroValue117
  t55 := Tryz.underlying119
  a55 := Tryz.isAgg119
  z55 := Tryz.sizeOf119
  v55 := Tryz.zeroValue119
  t66 := Tryz.underlying143
  a66 := Tryz.isAgg143
  z66 := Tryz.sizeOf143
  v66 := Tryz.zeroValue143
  t70 := Tryz.underlying147
  a70 := Tryz.isAgg147
  z70 := Tryz.sizeOf147
  v70 := Tryz.zeroValue147
  t76 := Tryz.underlying163
  a76 := Tryz.isAgg163
  z76 := Tryz.sizeOf163
  v76 := Tryz.zeroValue163
  t77 := Tryz.underlying164
  a77 := Tryz.isAgg164
  z77 := Tryz.sizeOf164
  v77 := Tryz.zeroValue164 }
end Go.Proofs

/- Told: the functions of strings.Builder that the interpreter cannot run. -/
namespace Pi
open Go Go.Proofs Go.RowKit Go.Shelf

def u8s : List D → Option (List UInt8)
  | [] => some []
  | .int .u8 n :: r => if 0 ≤ n ∧ n < 256 then (match u8s r with | some l => some (UInt8.ofNat n.toNat :: l) | none => none) else none
  | _ => none
theorem u8s_map : ∀ l : List UInt8, u8s (l.map fun b => D.int .u8 (b.toNat : Int)) = some l
  | [] => rfl
  | b :: l => by
    have hb := b.toNat_lt
    simp only [List.map_cons, u8s, u8s_map l]
    rw [if_pos ⟨by omega, by omega⟩]
    simp
theorem u8s_spec : ∀ (es : List D) (l : List UInt8), u8s es = some l → es = l.map fun b => D.int .u8 (b.toNat : Int)
  | [], l, h => by simp [u8s] at h; subst h; rfl
  | x :: r, l, h => by
    unfold u8s at h
    split at h
    · rename_i heq; cases heq
    · rename_i n r' heq
      simp only [List.cons.injEq] at heq
      obtain ⟨rfl, rfl⟩ := heq
      split at h
      · rename_i hn
        split at h
        · rename_i l' hl
          simp at h
          subst h
          rw [u8s_spec r l' hl]
          simp only [List.map_cons, List.cons.injEq, and_true]
          congr 1
          simp only [UInt8.toNat_ofNat']
          omega
        · cases h
      · cases h
    · cases h

def xCheck : TF
  | [.ref 0 v 0], R => match lk R 0 with
    | some e => if Nat.beq e.ver v then (match e.obj with
      | .box 136 [.d .nilp, x] => some (.tup [], ins 0 ⟨e.ver, e.tag, .box 136 [.ref 0 v 0, x]⟩ R)
      | .box 136 [.ref 0 v' 0, _] => if Nat.beq v' v then some (.tup [], R) else none
      | _ => none) else none
    | none => none
  | _, _ => none
def xStr : TF
  | [.ref 0 v 0], R => match lk R 0 with
    | some e => if Nat.beq e.ver v then (match e.obj with
      | .box 136 [_, .d .nils] => some (.d (.str []), R)
      | .box 136 [_, .sl m vm len] => (match lk R m with
        | some em => if Nat.beq em.ver vm then (match em.obj with
          | .arr 5 false es => (match u8s (es.take len) with
            | some l => if Nat.beq l.length len && Nat.blt 0 len then some (.d (.str l), ins m ⟨em.ver, em.tag, .gone⟩ R) else none
            | none => none)
          | _ => none) else none
        | none => none)
      | _ => none) else none
    | none => none
  | _, _ => none
section
variable {w0 : World}
theorem tup_nil {F : Nat → Prop} {w : World} {G : Nat → Value} {R : List (Nat × En)} : PRep F w G R (.tuple #[]) (.tup []) := .tup [] [] rfl (fun i v c hv => by simp at hv)

theorem setCell_heap {w : World} {b : Nat} {cs : Array Value} {T : TypeId} {fr : Nat × Nat} (h : w.heap[b]? = some (.cells cs T fr)) (i : Nat) (v : Value) : (w.setCell ⟨b, i, none⟩ v).heap[b]? = some (.cells (cs.setIfInBounds i v) T fr) := by
  simp [World.setCell, Array.getElem?_modify, h]
theorem setCell_other {w : World} {b c i : Nat} (h : c ≠ b) (v : Value) : (w.setCell ⟨b, i, none⟩ v).heap[c]? = w.heap[c]? := by
  simp [World.setCell, Array.getElem?_modify, Ne.symm h]

set_option maxHeartbeats 1000000 in
set_option maxRecDepth 100000 in
/-- copyCheck of a builder that was used. -/
theorem ccUsed (b : Nat) (w : World) (h0 : w.cell? ⟨b, 0, none⟩ = some (.pointer (some ⟨b, 0, none⟩))) :
    Calls Tryz.prog 123 #[.pointer (some ⟨b, 0, none⟩)] w fun e w' => e = .returned (.tuple #[]) ∧ w' = w := by
  obtain ⟨j, hj, _⟩ := Option.map_eq_some_iff.1 (show (Tryz.prog.info? 136).map (·.size) = some 2 by kernel_rfl)
  have a72 := Tryz.isAgg136; have z72 := Tryz.sizeOf136; have v72 := Tryz.zeroValue136; have u72 := run_underlying Tryz.underlying136
  have a70 := Tryz.isAgg134; have z70 := Tryz.sizeOf134; have v70 := Tryz.zeroValue134; have u70 := run_underlying Tryz.underlying134
  have a4 := Tryz.isAgg4; have z4 := Tryz.sizeOf4; have v4 := Tryz.zeroValue4; have u4 := run_underlying Tryz.underlying4
  have u164 := run_underlying Tryz.underlying172
  have mixed : Tryz.prog.follows .mixedOrders = true := by kernel_rfl
  go_enter Tryz.func123, Tryz.ntmps123
  go_wp2
  rw [Lib.run_neq_ptr_same w _ Tryz.underlying134 hj]
  go_wp2
  go_end0
  exact ⟨rfl, rfl⟩
set_option maxHeartbeats 1000000 in
set_option maxRecDepth 100000 in
/-- copyCheck of a new builder. -/
theorem ccFresh (b : Nat) (w : World) (h0 : w.cell? ⟨b, 0, none⟩ = some (.pointer none)) (hsh : w.shape? b = some (136, 2)) (hfz : w.frozen? ⟨b, 0, none⟩ = false) :
    Calls Tryz.prog 123 #[.pointer (some ⟨b, 0, none⟩)] w fun e w' => e = .returned (.tuple #[]) ∧ w' = w.setCell ⟨b, 0, none⟩ (.pointer (some ⟨b, 0, none⟩)) := by
  obtain ⟨j, hj, hjs⟩ := Option.map_eq_some_iff.1 (show (Tryz.prog.info? 136).map (·.size) = some 2 by kernel_rfl)
  have hlb : liesAt Tryz.prog Tryz.prog.depth 136 (2 / Tryz.prog.cellsOf 136) 0 136 1 = true := by kernel_rfl
  have a72 := Tryz.isAgg136; have z72 := Tryz.sizeOf136; have v72 := Tryz.zeroValue136; have u72 := run_underlying Tryz.underlying136
  have a70 := Tryz.isAgg134; have z70 := Tryz.sizeOf134; have v70 := Tryz.zeroValue134; have u70 := run_underlying Tryz.underlying134
  have a4 := Tryz.isAgg4; have z4 := Tryz.sizeOf4; have v4 := Tryz.zeroValue4; have u4 := run_underlying Tryz.underlying4
  have u164 := run_underlying Tryz.underlying172
  have mixed : Tryz.prog.follows .mixedOrders = true := by kernel_rfl
  go_enter Tryz.func123, Tryz.ntmps123
  go_wp2
  rw [Lib.run_to_unsafe w ⟨b, 0, none⟩ Tryz.underlying134 Tryz.underlying172 hj (by rw [hjs]; decide) hsh (Nat.zero_lt_succ 1)]
  simp only [Result.andThen]
  rw [Oper.upon_value]
  go_wp2
  rw [run_callFunc_extern Tryz.func135 (by kernel_rfl) (by kernel_rfl) (by kernel_rfl) (e := Extern.AbiNoEscape.same) (by kernel_rfl)]
  rw [Lib.run_noEscape]
  simp only [Result.andThen]
  rw [Oper.upon_value]
  go_wp2
  rw [Lib.run_from_unsafe w ⟨b, 0, none⟩ Tryz.underlying172 Tryz.underlying134 hj hsh hlb]
  simp only [Result.andThen]
  rw [Oper.upon_value]
  go_wp2
  go_end0
  exact ⟨rfl, rfl⟩
theorem xCheck_ok : XOK Tryz.prog w0 123 xCheck := by
  intro h0 ps R p R1 h F G w vs hH hl hv
  unfold xCheck at h
  split at h
  · rename_i v
    match vs, hl, hv with
    | [u], _, hv =>
      have hp := hv 0 u _ rfl rfl
      split at h
      · rename_i e he
        split at h
        · rename_i hver
          have hver := Nat.eq_of_beq_eq_true hver
          have hO := hH.rg 0 e he
          cases hp with
          | ref _ _ _ _ hr h1 =>
            split at h
            · rename_i x heo
              rw [heo] at hO
              obtain ⟨b, hG, rfl⟩ := hr.at he hver (by rw [heo]; rfl)
              obtain ⟨b', cs, hG', hh, hsz, hone, hps⟩ := hO
              rw [hG] at hG'
              simp at hG'
              subst hG'
              simp only [Option.some.injEq, Prod.mk.injEq] at h
              obtain ⟨rfl, rfl⟩ := h
              have c0 : cs[0]? = some (.pointer none) := by
                have hs0 : 0 < cs.size := by rw [hsz]; simp
                have := hps 0 _ rfl
                rw [get_getD hs0]
                generalize cs.getD 0 undef = c at this
                cases this with
                | d hd => exact congrArg some (hd.toVc rfl)
              have hblt : b < w.heap.size := (Array.getElem?_eq_some_iff.1 hh).1
              have hcall := ccFresh b w (by rw [cell_of_cells hh]; exact c0) (by simp [World.shape?, hh, hsz]) (by simp [World.frozen?, hh])
              refine .inl ⟨enters Tryz.func123 (by kernel_rfl) (by kernel_rfl) _ w, hcall.mono fun e' w' ⟨he', hw'⟩ => ⟨_, he', F, G, ?_⟩⟩
              subst hw'
              have hnew : NewAt G R 0 ⟨e.ver, e.tag, .box 136 [.ref 0 v 0, x]⟩ (G 0) := fun e1 he1 => by rw [he] at he1; cases he1; exact .inr ⟨rfl, fun _ => ⟨by rw [heo]; rfl, rfl⟩⟩
              have hnames := names_upd hnew
              rw [upd_self] at hnames
              have hnF : ¬ F b := hH.fre 0 e b he (by rw [heo]; simp [ownB, hG, blockOf])
              have hF : ∀ c, F c → (w.setCell ⟨b, 0, none⟩ (.pointer (some ⟨b, 0, none⟩))).heap[c]? = w.heap[c]? := fun c hc => setCell_other (fun e => hnF (by rw [← e]; exact hc)) _
              obtain ⟨d1, d2⟩ := SRel.upd hH (e1 := ⟨e.ver, e.tag, .box 136 [.ref 0 v 0, x]⟩) (g1 := G 0) (w' := w.setCell ⟨b, 0, none⟩ (.pointer (some ⟨b, 0, none⟩))) hnew
                (fun c hc hno => setCell_other (fun e' => hno ⟨e, he, by rw [e', heo]; simp [ownB, hG, blockOf]⟩) _) (by simp [World.setCell]) rfl rfl rfl
                (fun c hc => .inr ⟨e, he, by rw [heo]; exact hc⟩)
                (by
                  rw [upd_self]
                  refine ⟨b, _, hG, setCell_heap hh 0 _, by simpa using hsz, ?_, ?_⟩
                  · intro c hc
                    obtain ⟨i, hi⟩ := List.mem_iff_getElem?.1 hc
                    rw [Array.getElem?_toList, Array.getElem?_setIfInBounds] at hi
                    split at hi
                    · simp at hi; obtain ⟨_, rfl⟩ := hi; rfl
                    · exact hone c (List.mem_iff_getElem?.2 ⟨i, by rw [Array.getElem?_toList]; exact hi⟩)
                  · intro i p hp
                    match i with
                    | 0 =>
                      simp at hp
                      subst hp
                      have e0 : (cs.setIfInBounds 0 (.pointer (some ⟨b, 0, none⟩))).getD 0 undef = .pointer (some ⟨b, 0, none⟩) := by
                        have hs0 : 0 < cs.size := by rw [hsz]; simp
                        simp [Array.getD_eq_getD_getElem?, hs0]
                      rw [e0]
                      exact .ref 0 v 0 _ ⟨_, lk_ins_same _ _ _, by rw [hver]; exact Nat.le_refl _, fun _ _ => ⟨b, hG, rfl⟩⟩ rfl
                    | 1 =>
                      simp at hp
                      subst hp
                      have e1 : (cs.setIfInBounds 0 (.pointer (some ⟨b, 0, none⟩))).getD 1 undef = cs.getD 1 undef := by
                        simp [Array.getD_eq_getD_getElem?]
                      rw [e1]
                      exact (hps 1 x rfl).mono (fun _ h => h) hF hnames
                    | i + 2 => simp at hp)
                (fun i hi hl => hH.tag 0 e i he hi (by rw [heo]; rfl))
              rw [upd_self] at d1 d2
              exact ⟨d1, tup_nil, d2⟩
            · rename_i v' x heo
              split at h
              · rename_i hv'
                have hv' := Nat.eq_of_beq_eq_true hv'
                subst hv'
                rw [heo] at hO
                obtain ⟨b, hG, rfl⟩ := hr.at he hver (by rw [heo]; rfl)
                obtain ⟨b', cs, hG', hh, hsz, hone, hps⟩ := hO
                rw [hG] at hG'
                simp at hG'
                subst hG'
                simp only [Option.some.injEq, Prod.mk.injEq] at h
                obtain ⟨rfl, rfl⟩ := h
                have c0 : cs[0]? = some (.pointer (some ⟨b, 0, none⟩)) := by
                  have hs0 : 0 < cs.size := by rw [hsz]; simp
                  have := hps 0 _ rfl
                  rw [get_getD hs0]
                  generalize cs.getD 0 undef = c at this
                  cases this with
                  | ref _ _ _ _ hr2 _ =>
                    obtain ⟨b2, hG2, rfl⟩ := hr2.at he hver (by rw [heo]; rfl)
                    rw [hG] at hG2
                    simp at hG2
                    subst hG2
                    rfl
                have hcall := ccUsed b w (by rw [cell_of_cells hh]; exact c0)
                refine .inl ⟨enters Tryz.func123 (by kernel_rfl) (by kernel_rfl) _ w, hcall.mono fun e' w' ⟨he', hw'⟩ => ⟨_, he', F, G, ?_⟩⟩
                subst hw'
                exact ⟨hH, tup_nil, Ext.refl _ _ _⟩
              · cases h
            · cases h
        · cases h
      · cases h
  · cases h

theorem freeze_heap {w : World} {g c n : Nat} (h : c ≠ g) : (w.freeze ⟨g, 0, none⟩ n).heap[c]? = w.heap[c]? := by
  unfold World.freeze
  split
  · rfl
  · simp [Array.getElem?_modify, Ne.symm h]
theorem freeze_size {w : World} {g n : Nat} : (w.freeze ⟨g, 0, none⟩ n).heap.size = w.heap.size := by
  unfold World.freeze
  split
  · rfl
  · simp

set_option maxHeartbeats 2000000 in
set_option maxRecDepth 100000 in
/-- String of a builder that holds a byte at least; the world behind it. -/
theorem str_row (b g cap len : Nat) (p : Value) (cur : Array Value) (l : List UInt8) (w : World) (hbk : w.heap[b]? = some (.cells #[p, .slice (some ⟨g, 0, none⟩) len cap] 136 (0, 0))) (hg : w.heap[g]? = some (.cells cur 5 (0, 0)))
    (h0 : l ≠ []) (hlen : l.length = len) (hcap : len ≤ cap) (hcm : cap ≤ maxLen) (hcs : cap ≤ cur.size) (hb : ∀ (j : Nat) (x : UInt8), l[j]? = some x → cur[j]? = some (Value.int IntKind.u8 (x.toNat : Int))) :
    Calls Tryz.prog 98 #[.pointer (some ⟨b, 0, none⟩)] w fun e w' => e = .returned (.string ⟨l.toArray⟩) ∧ w' = w.drew.freeze ⟨g, 0, none⟩ l.length := by
  subst hlen
  have L := Tryz.lays169
  have X := Tryz.Builder_Extra_169
  have hl0 : l.length ≠ 0 := by simpa using h0
  have c1 : w.drew.cell? ⟨b, 1, none⟩ = some (.slice (some ⟨g, 0, none⟩) l.length cap) := by
    have : w.drew.heap[b]? = some (.cells #[p, .slice (some ⟨g, 0, none⟩) l.length cap] 136 (0, 0)) := hbk
    rw [Lib.cell_of_heap this]; rfl
  have hSD : (Builtin.unsafeSliceData_ #[(Tryz.lays169_ren.t 37)] (Tryz.lays169_ren.t 127) #[.slice (some ⟨g, 0, none⟩) l.length cap]).run Tryz.prog w.drew = .ok (.pointer (some ⟨g, 0, none⟩)) w.drew :=
    Lib.run_unsafeSliceData_row _ _ _ _ _ _ (by omega)
  have hUS : (Builtin.unsafeString_ #[(Tryz.lays169_ren.t 127), (Tryz.lays169_ren.t 3)] (Tryz.lays169_ren.t 9) #[.pointer (some ⟨g, 0, none⟩), .int .i64 l.length]).run Tryz.prog w.drew = .ok (.string ⟨l.toArray⟩) (w.drew.freeze ⟨g, 0, none⟩ l.length) := by
    refine Lib.run_unsafeString_row w.drew (Tryz.lays169_ren.t 127) (Tryz.lays169_ren.t 3) (Tryz.lays169_ren.t 9) (Tryz.lays169_ren.t 5) L.t127 X.cellsByte g cur.size (by have hg' : w.drew.heap[g]? = some (.cells cur (Tryz.lays169_ren.t 5) (0, 0)) := hg; simp [World.shape?, hg']) l h0 (by omega) (by unfold maxLen at hcm; omega) ?_
    intro j x hx
    have hg' : w.drew.heap[g]? = some (.cells cur 5 (0, 0)) := hg
    rw [show (⟨g, 0, none⟩ : Addr).add j = ⟨g, j, none⟩ by cases j <;> simp [Addr.add], cell_of_cells hg']
    exact hb j x hx
  have mixed := L.mixed
  have t72 := L.t72; have a72 := L.a72; have z72 := L.z72; have v72 := L.v72; have u72 := run_underlying L.t72
  have t70 := L.t70; have a70 := L.a70; have z70 := L.z70; have v70 := L.v70; have u70 := run_underlying L.t70
  have t37 := L.t37; have a37 := L.a37; have z37 := L.z37; have v37 := L.v37; have u37 := run_underlying L.t37
  have t127 := L.t127; have a127 := L.a127; have z127 := L.z127; have v127 := L.v127; have u127 := run_underlying L.t127
  have t3 := L.t3; have a3 := L.a3; have z3 := L.z3; have v3 := L.v3; have u3 := run_underlying L.t3
  have t9 := L.t9; have a9 := L.a9; have z9 := L.z9; have v9 := L.v9; have u9 := run_underlying L.t9
  have t5 := X.t5; have a5 := X.a5; have z5 := X.z5; have v5 := X.v5; have u5 := run_underlying X.t5
  go_enter L.f169, Body.n169_ntmps Tryz.lays169_ren
  go_wp2
  go_region_o
  all_goals (go_wp2; go_ret; exact ⟨rfl, rfl⟩)

set_option maxHeartbeats 2000000 in
set_option maxRecDepth 100000 in
theorem str_nil (b : Nat) (p : Value) (w : World) (hbk : w.heap[b]? = some (.cells #[p, .slice none 0 0] 136 (0, 0))) :
    Calls Tryz.prog 98 #[.pointer (some ⟨b, 0, none⟩)] w fun e w' => e = .returned (.string ⟨#[]⟩) ∧ w' = w.drew := by
  have L := Tryz.lays169
  have X := Tryz.Builder_Extra_169
  have hUS := fun W q => Lib.run_unsafeString_none (P := Tryz.prog) W (Tryz.lays169_ren.t 127) (Tryz.lays169_ren.t 3) (Tryz.lays169_ren.t 9) q
  have c1 : w.drew.cell? ⟨b, 1, none⟩ = some (.slice none 0 0) := by
    have : w.drew.heap[b]? = some (.cells #[p, .slice none 0 0] 136 (0, 0)) := hbk
    rw [Lib.cell_of_heap this]; rfl
  have hSD : (Builtin.unsafeSliceData_ #[(Tryz.lays169_ren.t 37)] (Tryz.lays169_ren.t 127) #[.slice none 0 0]).run Tryz.prog w.drew = .ok (.pointer none) w.drew := rfl
  have mixed := L.mixed
  have t72 := L.t72; have a72 := L.a72; have z72 := L.z72; have v72 := L.v72; have u72 := run_underlying L.t72
  have t70 := L.t70; have a70 := L.a70; have z70 := L.z70; have v70 := L.v70; have u70 := run_underlying L.t70
  have t37 := L.t37; have a37 := L.a37; have z37 := L.z37; have v37 := L.v37; have u37 := run_underlying L.t37
  have t127 := L.t127; have a127 := L.a127; have z127 := L.z127; have v127 := L.v127; have u127 := run_underlying L.t127
  have t3 := L.t3; have a3 := L.a3; have z3 := L.z3; have v3 := L.v3; have u3 := run_underlying L.t3
  have t9 := L.t9; have a9 := L.a9; have z9 := L.z9; have v9 := L.v9; have u9 := run_underlying L.t9
  have t5 := X.t5; have a5 := X.a5; have z5 := X.z5; have v5 := X.v5; have u5 := run_underlying X.t5
  go_enter L.f169, Body.n169_ntmps Tryz.lays169_ren
  go_wp2
  go_region_o
  all_goals (go_wp2; go_ret; exact ⟨rfl, rfl⟩)

theorem HRel.drew {T : Tg} {F : Nat → Prop} {G : Nat → Value} {w : World} {R : List (Nat × En)} (h : HRel Tryz.prog T F G w R) : HRel Tryz.prog T F G w.drew R := by
  have hn : Names G G R R := Names.refl G R
  exact ⟨h.nod, h.size, fun t p hp => by simp [lk] at hp, fun n e he => (h.rg n e he).mono (fun _ h => h) (fun _ _ => rfl) hn rfl (fun _ _ => rfl), h.own, h.fre, h.bnd, h.tag, h.z, Nat.le_succ_of_le h.dr⟩

theorem two_cells {cs : Array Value} (h : cs.size = 2) : cs = #[cs.getD 0 undef, cs.getD 1 undef] := by
  apply Array.ext
  · simp [h]
  · intro i h1 h2
    have : i = 0 ∨ i = 1 := by simp at h2; omega
    rcases this with rfl | rfl <;> simp [Array.getD, h]

theorem xStr_ok : XOK Tryz.prog w0 98 xStr := by
  intro h0 ps R p R1 h F G w vs hH hl hv
  unfold xStr at h
  split at h
  · rename_i v
    match vs, hl, hv with
    | [u], _, hv =>
      have hp := hv 0 u _ rfl rfl
      split at h
      · rename_i e he
        split at h
        · rename_i hver
          have hver := Nat.eq_of_beq_eq_true hver
          have hO := hH.rg 0 e he
          cases hp with
          | ref _ _ _ _ hr h1 =>
            have hce := enters Tryz.func98 (by kernel_rfl) (by kernel_rfl)
            split at h
            · rename_i x heo
              rw [heo] at hO
              obtain ⟨b, hG, rfl⟩ := hr.at he hver (by rw [heo]; rfl)
              obtain ⟨b', cs, hG', hh, hsz, hone, hps⟩ := hO
              rw [hG] at hG'
              simp at hG'
              subst hG'
              simp only [Option.some.injEq, Prod.mk.injEq] at h
              obtain ⟨rfl, rfl⟩ := h
              have e1 : cs.getD 1 undef = .slice none 0 0 := by
                have := hps 1 _ rfl
                generalize cs.getD 1 undef = c at this
                cases this with
                | d hd => exact hd.toVc rfl
              have h2 := two_cells (by simpa using hsz)
              rw [e1] at h2
              rw [h2] at hh
              refine .inl ⟨hce _ w, (str_nil b _ w hh).mono fun e' w' ⟨he', hw'⟩ => ⟨_, he', F, G, ?_, .d (.str []), ?_⟩⟩
              · subst hw'
                exact hH.drew
              · subst hw'
                exact ⟨fun _ h => h, fun _ h => .inl h, fun _ h => .inl h, fun _ _ _ => rfl, Nat.le_refl _, rfl, rfl, rfl⟩
            · rename_i x m vm len heo
              rw [heo] at hO
              obtain ⟨b, hG, rfl⟩ := hr.at he hver (by rw [heo]; rfl)
              obtain ⟨b', cs, hG', hh, hsz, hone, hps⟩ := hO
              rw [hG] at hG'
              simp at hG'
              subst hG'
              split at h
              · rename_i em hem
                split at h
                · rename_i hvm
                  have hvm := Nat.eq_of_beq_eq_true hvm
                  split at h
                  · rename_i es hoe
                    split at h
                    · rename_i l hl8
                      split at h
                      · rename_i hcond
                        simp only [Bool.and_eq_true, Nat.blt_eq] at hcond
                        have hll := Nat.eq_of_beq_eq_true hcond.1
                        simp only [Option.some.injEq, Prod.mk.injEq] at h
                        obtain ⟨rfl, rfl⟩ := h
                        have hp1 := hps 1 _ rfl
                        have hOm := hH.rg m em hem
                        rw [hoe] at hOm
                        have h2 := two_cells (by simpa using hsz)
                        generalize cs.getD 1 undef = c1 at hp1 h2
                        cases hp1 with
                        | sl _ _ _ _ _ hrm =>
                          obtain ⟨a, N, cap, hGm, rfl, hlN⟩ := hrm.at hem hvm (by rw [hoe]; rfl)
                          have hes := u8s_spec _ _ hl8
                          have hel : len ≤ es.length := by
                            have := congrArg List.length hes
                            simp at this
                            omega
                          rcases hOm with ⟨_, rfl⟩ | ⟨g, cap', cur, k, hGm', hg, hk, hk0, hle, hcm, hcs, _, hE⟩
                          · simp at hel; omega
                          · rw [hGm] at hGm'
                            simp only [Value.slice.injEq] at hGm'
                            obtain ⟨rfl, rfl, rfl⟩ := hGm'
                            have hk1 : k = 1 := by
                              have : sz Tryz.prog 5 = some 1 := by kernel_rfl
                              rw [this] at hk
                              exact (Option.some.inj hk).symm
                            subst hk1
                            rw [h2] at hh
                            have hne : l ≠ [] := fun e0 => by subst e0; simp at hll; omega
                            have hcell : ∀ (j : Nat) (x : UInt8), l[j]? = some x → cur[j]? = some (.int .u8 x.toNat) := fun j x hx => by
                              have hj : j < l.length := (List.getElem?_eq_some_iff.1 hx).1
                              have hej : es[j]? = some (.int .u8 x.toNat) := by
                                have : (es.take len)[j]? = some (D.int .u8 (x.toNat : Int)) := by rw [hes, List.getElem?_map, hx]; rfl
                                rw [List.getElem?_take] at this
                                split at this
                                · exact this
                                · cases this
                              obtain ⟨q1, q2, q3⟩ := hE j _ hej
                              have := q3 0 _ rfl
                              rw [get_getD (by omega)]
                              simp only [Nat.mul_one, Nat.add_zero] at this
                              rw [this.toVc rfl]
                            refine .inl ⟨hce _ w, (str_row b g cap len _ cur l w hh hg hne hll (by omega) hcm (by omega) hcell).mono fun e' w' ⟨he', hw'⟩ => ⟨_, he', F, G, ?_⟩⟩
                            subst hw'
                            have hnew : NewAt G R m ⟨em.ver, em.tag, .gone⟩ (G m) := fun e1 he1 => by rw [hem] at he1; cases he1; exact .inr ⟨rfl, fun hlv => by cases hlv⟩
                            obtain ⟨d1, d2⟩ := SRel.upd hH (e1 := ⟨em.ver, em.tag, .gone⟩) (g1 := G m) (w' := w.drew.freeze ⟨g, 0, none⟩ l.length) (hdr := by unfold World.freeze; split <;> exact Nat.le_succ _) hnew
                              (fun c hc hno => freeze_heap (fun e' => hno ⟨em, hem, by rw [e', hoe]; simp [ownB, hGm, blockOf]⟩)) (by rw [freeze_size]; exact Nat.le_refl _) (by unfold World.freeze; split <;> rfl) (by unfold World.freeze; split <;> rfl) (by unfold World.freeze; split <;> rfl)
                              (fun c hc => by simp [ownB] at hc) trivial (fun i _ hlv => by cases hlv)
                            rw [upd_self] at d1 d2
                            exact ⟨d1, .d (.str l), d2⟩
                      · cases h
                    · cases h
                  · cases h
                · cases h
              · cases h
            · cases h
        · cases h
      · cases h
  · cases h
end
end Pi

/- The seat's tables. -/
namespace Pi
open Go
set_option maxRecDepth 100000
def kpTab : List (Nat × List (Nat × List Nat × List Nat)) := [(7, [(9, [7, 8, 9, 10, 11], [6, 7, 9, 10]), (13, [7, 8, 9, 10, 11, 12, 13], [6, 7, 8, 9, 10, 11, 12]), (22, [7, 9, 10, 14], [6, 7])]),
  (8, [(8, [7, 8, 9, 10, 11, 12], [7, 8, 9, 10, 11]), (12, [7, 8, 9, 10, 11, 13], [7, 8, 9, 10, 11])]),
  (9, [(8, [0, 3, 4, 5, 6, 7], [3, 4, 5, 6]), (19, [3, 6, 9, 10], [2, 3, 9])]),
  (11, [(4, [0, 1, 5], [4])]),
  (12, [(6, [5, 6, 27], [6])]),
  (13, [(4, [1, 5, 6, 7], [6]), (9, [1, 5, 6, 7, 9], [1, 5, 6, 7])]),
  (15, [(2, [0, 1, 5], [4])]),
  (17, [(2, [0, 3], [2]), (7, [0, 3, 4], [0, 2, 3])]),
  (18, [(5, [1, 2, 10, 11, 12], [10, 11])]),
  (19, [(2, [0, 3], [2])]),
  (20, [(2, [0, 3, 5], [4])]),
  (21, [(2, [0, 3, 5], [4])]),
  (22, [(2, [0, 3, 5], [0, 4])]),
  (26, [(3, [1, 5, 18, 19, 20], [1, 5]), (10, [5, 54, 55, 56], [5])]),
  (27, [(1, [0, 13], [0]), (6, [0, 13, 26, 27, 28], [0, 13])]),
  (28, [(2, [0, 2, 9, 10, 11], [0])]),
  (29, [(4, [0, 5, 7, 19, 20, 21], [0, 7])]),
  (33, [(4, [0, 1, 5, 6], [5]), (8, [0, 1, 5, 6, 7, 8], [0, 1, 5, 6, 7])]),
  (34, [(2, [0, 3, 5], [5])]),
  (35, [(2, [0, 1, 7, 8], [1, 4])]),
  (40, [(4, [0, 4, 5, 6], [4, 5])]),
  (41, [(4, [5, 6, 7], [6]), (14, [5, 6, 7, 10], [5, 6, 7])]),
  (42, [(2, [0, 3], [2])]),
  (43, [(2, [0, 3], [0, 2])]),
  (44, [(4, [0, 3], [2])]),
  (49, [(3, [0, 3, 6, 15, 16], [0, 4, 5])]),
  (50, [(3, [0, 3, 15], [0, 3])]),
  (53, [(2, [0, 1, 2, 3, 4, 10, 11], [4])]),
  (56, [(3, [0, 3, 4], [3])]),
  (57, [(2, [0, 4, 5, 7], [0, 6])]),
  (58, [(2, [0, 3, 5], [3, 4])]),
  (61, [(3, [0, 1, 5, 6], [5]), (7, [0, 1, 5, 6, 7, 8], [0, 1, 5, 6, 7]), (13, [0, 1, 5, 6, 9], [0, 1, 5, 6])]),
  (63, [(3, [0, 2, 4, 5], [0, 2, 3, 4])]),
  (64, [(4, [0, 3], [0, 3])]),
  (70, [(12, [0, 1, 5, 39, 40, 41], [0, 1, 5]), (22, [1, 8, 63, 64, 65], [8])]),
  (71, [(1, [0, 1, 2, 3, 8], [3]), (4, [0, 1, 2, 3, 8, 9], [0, 1, 2, 3, 8])]),
  (72, [(4, [0, 3, 8, 9, 10, 11], [0, 3, 8, 9, 10]), (8, [0, 3, 8, 9, 12], [3])]),
  (73, [(5, [0, 1, 3, 8, 9, 10, 11], [3])]),
  (75, [(2, [0, 3, 8, 9], [3])]),
  (76, [(3, [0, 1, 2, 3, 9, 10], [3, 8]), (5, [0, 1, 2, 3, 9, 10], [0, 1, 2, 3, 9, 10]), (14, [0, 1, 2, 3, 9, 10, 11], [0, 1, 2, 3, 9, 10]), (20, [0, 1, 2, 3, 9, 10, 12], [0, 1, 2, 3, 9, 10])]),
  (77, [(3, [0, 1, 4, 11, 12], [4, 11]), (3, [0, 1, 4, 11, 12], [0, 1, 4, 11, 12]), (5, [0, 1, 4, 11, 12], [0, 1, 4, 11, 12])]),
  (78, [(3, [0, 1, 4, 12, 13], [0, 1, 4, 12, 13]), (5, [0, 1, 4, 12, 13], [0, 1, 4, 12, 13]), (13, [0, 1, 4, 12, 13], [0, 1, 4, 13]), (13, [0, 1, 4, 12, 13], [0, 1, 4, 12, 13]), (15, [0, 1, 4, 12, 13], [0, 1, 4, 12, 13])]),
  (81, [(15, [0, 1, 5, 6, 7, 8, 9, 10], [4])]),
  (83, [(3, [0, 4, 5], [0, 4, 5])]),
  (84, [(1, [0, 1], [0])]),
  (85, [(1, [0, 1], [0])]),
  (86, [(2, [0, 2, 4], [2, 3])]),
  (87, [(1, [0, 1], [0, 1])]),
  (88, [(1, [0, 1], [0, 1])]),
  (89, [(1, [0, 1], [0])]),
  (90, [(1, [0, 1], [0])]),
  (91, [(2, [0, 1, 2, 3, 4, 10, 11], [4])]),
  (92, [(3, [3, 6, 7, 8], [2, 3])]),
  (99, [(1, [0, 2, 3, 4, 10], [4])]),
  (107, [(5, [0, 1, 5, 6, 7, 8, 9], [0, 1, 5, 6, 7, 8]), (11, [0, 1, 5, 6, 7, 8, 10], [4])]),
  (112, [(10, [0, 4, 5, 6], [0, 4, 5])]),
  (113, [(1, [0, 1, 2, 3, 8], [3]), (4, [0, 1, 2, 3, 8, 9], [0, 1, 2, 3, 8])]),
  (114, [(4, [0, 3, 8, 9, 10, 11], [0, 3, 8, 9, 10]), (8, [0, 3, 8, 9, 12], [3])]),
  (115, [(5, [0, 1, 3, 8, 9, 10, 11], [3])]),
  (117, [(2, [0, 3, 8, 9], [3])]),
  (118, [(3, [0, 1, 2, 3, 9, 10], [3, 8]), (5, [0, 1, 2, 3, 9, 10], [0, 1, 2, 3, 9, 10]), (14, [0, 1, 2, 3, 9, 10, 11], [0, 1, 2, 3, 9, 10]), (20, [0, 1, 2, 3, 9, 10, 12], [0, 1, 2, 3, 9, 10])]),
  (119, [(3, [0, 1, 4, 11, 12], [4, 11]), (3, [0, 1, 4, 11, 12], [0, 1, 4, 11, 12]), (5, [0, 1, 4, 11, 12], [0, 1, 4, 11, 12])]),
  (120, [(3, [0, 1, 4, 12, 13], [0, 1, 4, 12, 13]), (5, [0, 1, 4, 12, 13], [0, 1, 4, 12, 13]), (13, [0, 1, 4, 12, 13], [0, 1, 4, 13]), (13, [0, 1, 4, 12, 13], [0, 1, 4, 12, 13]), (15, [0, 1, 4, 12, 13], [0, 1, 4, 12, 13])]),
  (127, [(3, [0, 4, 5], [0, 4]), (8, [4, 6, 7, 8], [4, 6])]),
  (129, [(38, [175], [4]), (5, [0, 7, 8, 9], [4]), (12, [0, 7, 8, 9, 12], [8, 9]), (25, [0, 7, 8, 9, 14, 15], [4]), (29, [0, 7, 8, 9, 14, 15, 16], [0, 7, 8, 9, 14, 15])]),
  (131, [(1, [0, 2, 3, 4, 10], [4])]),
  (142, [(1, [0, 1, 4], [0, 1, 4])]),
  (143, [(11, [0, 1, 3, 4, 10, 11, 12, 13, 14, 15, 16], [0, 1, 3, 4, 10, 11, 12, 13]), (18, [0, 1, 3, 4, 10, 11, 12, 13, 17], [0, 1, 3, 4, 10, 11, 12, 13])])]
def clsTab : List (Nat × List (Nat × Nat)) := [(7, [(24, 1)]),
  (12, [(8, 1), (9, 1)]),
  (13, [(7, 1), (11, 1)]),
  (26, [(5, 1)]),
  (27, [(8, 1)]),
  (28, [(4, 1), (7, 1), (9, 1)]),
  (40, [(11, 1)]),
  (41, [(16, 1)]),
  (45, [(3, 1)]),
  (49, [(4, 1)]),
  (61, [(15, 1)]),
  (63, [(14, 1)]),
  (68, [(1, 1)]),
  (69, [(3, 1)]),
  (71, [(6, 1)]),
  (72, [(10, 1)]),
  (73, [(10, 1)]),
  (76, [(11, 1), (17, 1), (23, 1)]),
  (93, [(1, 1)]),
  (96, [(3, 1)]),
  (98, [(1, 1)]),
  (99, [(6, 1)]),
  (113, [(6, 1)]),
  (114, [(10, 1)]),
  (115, [(10, 1)]),
  (118, [(11, 1), (17, 1), (23, 1)]),
  (124, [(0, 1)]),
  (131, [(6, 1)]),
  (142, [(7, 1), (8, 1), (9, 1), (10, 1), (17, 1), (18, 1), (23, 1)])]

def xsB : List Nat := [95, 66, 70, 123, 98, 30, 67, 39]
def xsT : List Nat := xsB ++ [12]
/-- Functions whose nil slices stay nil. -/
def nilK : List Nat := []
def kpF (f id : Nat) : Option (List Nat × List Nat) := if Nat.beq id 999999 then (if memN f nilK then some ([], []) else none) else match lk kpTab f with | some l => lk l id | none => none
abbrev kp0 : Cfg := ⟨kpF, xsT, fun _ _ _ => none⟩
end Pi

