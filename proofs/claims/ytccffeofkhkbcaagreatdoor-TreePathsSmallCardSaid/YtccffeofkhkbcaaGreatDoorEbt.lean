/- The texts X3Shelf XBld K3 X3 S3 StPure St1 St1H T1 T1H StV2 StV2H StV3H St5 St5H StTextP St7 St7H PathP StL2H P1 P1H P2H P3 P3H T2 T2H T3 T3H TrA TrB TrC SN T4. -/
import Derived.Test.YtccffeofkhkbcaaGreatDoorPiT
import Derived.Shelf.SlLaysF0
import Derived.Shelf.LaysM
import Derived.Shelf.LaysC
import Derived.Shelf.Strings.OnBuilder
import Derived.Shelf.Strings.SlTrimAscii
import Derived.Shelf.Small.Wraps
import Derived.Shelf.Strconv.AtoiAll
import Derived.Shelf.Strconv.Itoa3
import Derived.Shelf.Strings.Cut
import Derived.Shelf.Strings.Split
import Derived.Shelf.Strings.LastIndexAll
import Derived.Shelf.Unicode.ValidAny
import Derived.Shelf.Utf8.RuneCount
import Derived.Test.YtccffeofkhkbcaaGreatDoorProg
import Derived.Ground.SlsfProg
import Derived.KernelRfl
import Derived.Lib.SplitLaws
import Derived.Lib.SlTrimSet
/- The library's contracts that are used: the print of the kit's lay-shelf and lay-plain, cut down. -/
namespace Go.Proofs
open Go.Shelf
def Tryz.lays169_ren : Go.Shelf.Ren := ⟨fun | 169 => 98 | n => n, fun | 70 => 134 | 9 => 9 | 0 => 0 | 72 => 136 | 37 => 33 | 127 => 162 | 3 => 3 | 5 => 5 | n => n, fun | n => n⟩
theorem Tryz.lays169 : Go.Proofs.Lays.n169 Tryz.prog Tryz.lays169_ren := {
  mixed := by kernel_rfl
  f169 := Tryz.func98.trans (congrArg some (by kernel_rfl))
  t0 := Tryz.underlying0
  a0 := Tryz.isAgg0
  z0 := Tryz.sizeOf0
  v0 := Tryz.zeroValue0
  t3 := Tryz.underlying3
  a3 := Tryz.isAgg3
  z3 := Tryz.sizeOf3
  v3 := Tryz.zeroValue3
  t9 := Tryz.underlying9
  a9 := Tryz.isAgg9
  z9 := Tryz.sizeOf9
  v9 := Tryz.zeroValue9
  t37 := Tryz.underlying33
  a37 := Tryz.isAgg33
  z37 := Tryz.sizeOf33
  v37 := Tryz.zeroValue33
  t70 := Tryz.underlying134
  a70 := Tryz.isAgg134
  z70 := Tryz.sizeOf134
  v70 := Tryz.zeroValue134
  t72 := Tryz.underlying136
  a72 := Tryz.isAgg136
  z72 := Tryz.sizeOf136
  v72 := Tryz.zeroValue136
  t127 := Tryz.underlying162
  a127 := Tryz.isAgg162
  z127 := Tryz.sizeOf162
  v127 := Tryz.zeroValue162 }
theorem Tryz.Builder_Extra_169 : Builder.Extra Tryz.prog Tryz.lays169_ren := {
  sizeBuilder := by kernel_rfl
  liesBuilder := by kernel_rfl
  t5 := Tryz.underlying5
  a5 := Tryz.isAgg5
  z5 := Tryz.sizeOf5
  v5 := Tryz.zeroValue5
  infoByte := by kernel_rfl
  cellsByte := by kernel_rfl
  sizeByte := by kernel_rfl
  neB5 := by decide }
open Go.RowKit in
/-- (*strings.Builder).String: "String returns the accumulated string.": OF A BUILDER THAT HOLDS AT LEAST ONE BYTE. ✋ THE MODEL FREEZES THOSE BYTES IN THE BUFFER (unsafe.String): a later write INTO them ends the model's run without an answer; a later append BEHIND them goes on. The statement's order of evaluation is drawn: one draw. (LAID: no walk: one application.) -/
theorem Tryz.Builder_String (B b : Nat) (l : List UInt8) (w : World) (h : Lib.IsBuilder 136 5 B b (Lib.byteCells l) w) (h0 : l ≠ []) :
    Calls Tryz.prog 98 #[.pointer (some ⟨b, 0, none⟩)] w fun e w' => e = .returned (.string ⟨l.toArray⟩) ∧ Below B w w' := Any.Builder_String Tryz.lays169 Tryz.Builder_Extra_169 B b l w h h0
def Tryz.lays156_ren : Go.Shelf.Ren := ⟨fun | 156 => 70 | 165 => 96 | 166 => 97 | 169 => 98 | 240 => 123 | 241 => 124 | 276 => 135 | 277 => 136 | n => n, fun | 31 => 87 | 9 => 9 | 3 => 3 | 4 => 4 | 0 => 0 | 20 => 20 | 72 => 136 | 76 => 140 | 70 => 134 | 37 => 33 | 75 => 139 | 127 => 162 | 164 => 172 | 5 => 5 | 80 => 142 | n => n, fun | n => n⟩
theorem Tryz.lays156 : Go.Proofs.Lays.n156 Tryz.prog Tryz.lays156_ren := {
  mixed := by kernel_rfl
  f156 := Tryz.func70.trans (congrArg some (by kernel_rfl))
  f165 := Tryz.func96.trans (congrArg some (by kernel_rfl))
  f166 := Tryz.func97.trans (congrArg some (by kernel_rfl))
  f169 := Tryz.func98.trans (congrArg some (by kernel_rfl))
  f240 := Tryz.func123.trans (congrArg some (by kernel_rfl))
  f241 := Tryz.func124.trans (congrArg some (by kernel_rfl))
  f276 := Tryz.func135.trans (congrArg some (by kernel_rfl))
  f277 := Tryz.func136.trans (congrArg some (by kernel_rfl))
  t0 := Tryz.underlying0
  a0 := Tryz.isAgg0
  z0 := Tryz.sizeOf0
  v0 := Tryz.zeroValue0
  t3 := Tryz.underlying3
  a3 := Tryz.isAgg3
  z3 := Tryz.sizeOf3
  v3 := Tryz.zeroValue3
  t4 := Tryz.underlying4
  a4 := Tryz.isAgg4
  z4 := Tryz.sizeOf4
  v4 := Tryz.zeroValue4
  t9 := Tryz.underlying9
  a9 := Tryz.isAgg9
  z9 := Tryz.sizeOf9
  v9 := Tryz.zeroValue9
  t20 := Tryz.underlying20
  a20 := Tryz.isAgg20
  z20 := Tryz.sizeOf20
  v20 := Tryz.zeroValue20
  t31 := Tryz.underlying87
  a31 := Tryz.isAgg87
  z31 := Tryz.sizeOf87
  v31 := Tryz.zeroValue87
  t37 := Tryz.underlying33
  a37 := Tryz.isAgg33
  z37 := Tryz.sizeOf33
  v37 := Tryz.zeroValue33
  t70 := Tryz.underlying134
  a70 := Tryz.isAgg134
  z70 := Tryz.sizeOf134
  v70 := Tryz.zeroValue134
  t72 := Tryz.underlying136
  a72 := Tryz.isAgg136
  z72 := Tryz.sizeOf136
  v72 := Tryz.zeroValue136
  t75 := Tryz.underlying139
  a75 := Tryz.isAgg139
  z75 := Tryz.sizeOf139
  v75 := Tryz.zeroValue139
  t76 := Tryz.underlying140
  a76 := Tryz.isAgg140
  z76 := Tryz.sizeOf140
  v76 := Tryz.zeroValue140
  t127 := Tryz.underlying162
  a127 := Tryz.isAgg162
  z127 := Tryz.sizeOf162
  v127 := Tryz.zeroValue162
  t164 := Tryz.underlying172
  a164 := Tryz.isAgg172
  z164 := Tryz.sizeOf172
  v164 := Tryz.zeroValue172 }
theorem Tryz.Builder_Extra_156 : Builder.Extra Tryz.prog Tryz.lays156_ren := {
  sizeBuilder := by kernel_rfl
  liesBuilder := by kernel_rfl
  t5 := Tryz.underlying5
  a5 := Tryz.isAgg5
  z5 := Tryz.sizeOf5
  v5 := Tryz.zeroValue5
  infoByte := by kernel_rfl
  cellsByte := by kernel_rfl
  sizeByte := by kernel_rfl
  neB5 := by decide }
open Go.RowKit in
/-- No element: the empty string; the world is as it was. (Whatever the slice's address and capacity: a nil slice too.) (LAID: no walk: one application.) -/
theorem Tryz.strings_Join_none (a : Option Addr) (c : Nat) (sep : ByteArray) (w : World) :
    Calls Tryz.prog 70 #[.slice a 0 c, .string sep] w fun e w' => e = .returned (.string ⟨#[]⟩) ∧ w' = w := Any.strings_Join_none Tryz.lays156 Tryz.Builder_Extra_156 a c sep w
open Go.RowKit in
/-- strings.Join: "Join concatenates the elements of its first argument to create a single string. The separator string sep is placed between elements in the resulting string.": HOWEVER MANY ELEMENTS. Below the heap's end the world is as it was. (LAID: no walk: one application.) -/
theorem Tryz.strings_Join (bk o c : Nat) (xs : List ByteArray) (sep : ByteArray) (w : World) (hcells : ∀ (j : Nat) x, xs[j]? = some x → w.cell? ⟨bk, o + j, none⟩ = some (.string x)) (hbk : bk < w.heap.size) (hN : xs.length ≤ 140737488355328) (hcap : xs.length ≤ c) (hlen : (Lib.join (xs.map (·.data.toList)) sep.data.toList).length ≤ 140737488355328) :
    Calls Tryz.prog 70 #[.slice (some ⟨bk, o, none⟩) xs.length c, .string sep] w fun e w' => e = .returned (.string ⟨(Lib.join (xs.map (·.data.toList)) sep.data.toList).toArray⟩) ∧ Below w.heap.size w w' := Any.strings_Join Tryz.lays156 Tryz.Builder_Extra_156 bk o c xs sep w hcells hbk hN hcap hlen
def Tryz.lays160_ren : Go.Shelf.Ren := ⟨fun | 160 => 66 | 232 => 85 | 231 => 84 | 227 => 86 | 234 => 88 | 233 => 87 | 236 => 90 | 235 => 89 | 228 => 109 | 271 => 112 | 151 => 111 | 197 => 110 | 120 => 130 | 152 => 129 | 260 => 128 | 137 => 137 | 119 => 138 | 224 => 106 | 225 => 105 | 217 => 104 | 266 => 126 | n => n, fun | 9 => 9 | 4 => 4 | 3 => 3 | 5 => 5 | 117 => 127 | 116 => 126 | 0 => 0 | 124 => 130 | 21 => 21 | 105 => 153 | 46 => 91 | 119 => 175 | 139 => 178 | 138 => 177 | n => n, fun | 3 => 1 | 4 => 2 | n => n⟩
theorem Tryz.lays160 : Go.Proofs.Lays.n160 Tryz.prog Tryz.lays160_ren := {
  mixed := by kernel_rfl
  f119 := Tryz.func138.trans (congrArg some (by kernel_rfl))
  f120 := Tryz.func130.trans (congrArg some (by kernel_rfl))
  f137 := Tryz.func137.trans (congrArg some (by kernel_rfl))
  f151 := Tryz.func111.trans (congrArg some (by kernel_rfl))
  f152 := Tryz.func129.trans (congrArg some (by kernel_rfl))
  f160 := Tryz.func66.trans (congrArg some (by kernel_rfl))
  f197 := Tryz.func110.trans (congrArg some (by kernel_rfl))
  f217 := Tryz.func104.trans (congrArg some (by kernel_rfl))
  f224 := Tryz.func106.trans (congrArg some (by kernel_rfl))
  f225 := Tryz.func105.trans (congrArg some (by kernel_rfl))
  f227 := Tryz.func86.trans (congrArg some (by kernel_rfl))
  f228 := Tryz.func109.trans (congrArg some (by kernel_rfl))
  f231 := Tryz.func84.trans (congrArg some (by kernel_rfl))
  f232 := Tryz.func85.trans (congrArg some (by kernel_rfl))
  f233 := Tryz.func87.trans (congrArg some (by kernel_rfl))
  f234 := Tryz.func88.trans (congrArg some (by kernel_rfl))
  f235 := Tryz.func89.trans (congrArg some (by kernel_rfl))
  f236 := Tryz.func90.trans (congrArg some (by kernel_rfl))
  f260 := Tryz.func128.trans (congrArg some (by kernel_rfl))
  f266 := Tryz.func126.trans (congrArg some (by kernel_rfl))
  f271 := Tryz.func112.trans (congrArg some (by kernel_rfl))
  t0 := Tryz.underlying0
  a0 := Tryz.isAgg0
  z0 := Tryz.sizeOf0
  v0 := Tryz.zeroValue0
  t3 := Tryz.underlying3
  a3 := Tryz.isAgg3
  z3 := Tryz.sizeOf3
  v3 := Tryz.zeroValue3
  t4 := Tryz.underlying4
  a4 := Tryz.isAgg4
  z4 := Tryz.sizeOf4
  v4 := Tryz.zeroValue4
  t5 := Tryz.underlying5
  a5 := Tryz.isAgg5
  z5 := Tryz.sizeOf5
  v5 := Tryz.zeroValue5
  t9 := Tryz.underlying9
  a9 := Tryz.isAgg9
  z9 := Tryz.sizeOf9
  v9 := Tryz.zeroValue9
  t21 := Tryz.underlying21
  a21 := Tryz.isAgg21
  z21 := Tryz.sizeOf21
  v21 := Tryz.zeroValue21
  t46 := Tryz.underlying91
  a46 := Tryz.isAgg91
  z46 := Tryz.sizeOf91
  v46 := Tryz.zeroValue91
  t105 := Tryz.underlying153
  a105 := Tryz.isAgg153
  z105 := Tryz.sizeOf153
  v105 := Tryz.zeroValue153
  t116 := Tryz.underlying126
  a116 := Tryz.isAgg126
  z116 := Tryz.sizeOf126
  t117 := Tryz.underlying127
  a117 := Tryz.isAgg127
  z117 := Tryz.sizeOf127
  v117 := Tryz.zeroValue127
  t119 := Tryz.underlying175
  a119 := Tryz.isAgg175
  z119 := Tryz.sizeOf175
  t124 := Tryz.underlying130
  a124 := Tryz.isAgg130
  z124 := Tryz.sizeOf130
  v124 := Tryz.zeroValue130
  t138 := Tryz.underlying177
  a138 := Tryz.isAgg177
  z138 := Tryz.sizeOf177
  v138 := Tryz.zeroValue177
  t139 := Tryz.underlying178
  a139 := Tryz.isAgg178
  z139 := Tryz.sizeOf178
  v139 := Tryz.zeroValue178
  g3 := by kernel_rfl
  g4 := by kernel_rfl }
open Go.RowKit in
/-- strings.Trim: "Trim returns a slice of the string s with all leading and trailing Unicode code points contained in cutset removed.": AT A cutset OF ONE ASCII BYTE. THE WORLD BEHIND IT: as it was, or (where s is not empty) with ONE DRAW MORE off the tape: the statement 'return trimLeftByte(trimRightByte(s, c), c)' draws its order of evaluation. (LAID: no walk: one application.) -/
theorem Tryz.strings_Trim_one (s : ByteArray) (c : UInt8) (hc : c.toNat < 128) (w : World) (hs : s.size ≤ 9223372036854775807) :
    Calls Tryz.prog 66 #[.string s, .string ⟨#[c]⟩] w fun e w' => e = .returned (.string ⟨(Lib.trimB s.data.toList c).toArray⟩) ∧ (w' = w ∨ w' = w.drew) := Any.strings_Trim_one Tryz.lays160 s c hc w hs
def Tryz.laysM171_ren : Go.Shelf.Ren := ⟨fun | 171 => 95 | 243 => 122 | 246 => 134 | 283 => 140 | 284 => 141 | 285 => 142 | 286 => 143 | 129 => 80 | 317 => 144 | 318 => 145 | 319 => 146 | 320 => 147 | 337 => 148 | 338 => 149 | n => n, fun | 3 => 3 | 9 => 9 | 2 => 2 | 4 => 4 | 171 => 181 | 0 => 0 | 53 => 119 | 37 => 33 | 5 => 5 | 173 => 183 | 212 => 186 | 51 => 117 | 20 => 20 | 213 => 187 | 46 => 91 | 232 => 188 | 233 => 189 | n => n, fun | 17 => 3 | 18 => 4 | 19 => 5 | n => n⟩
theorem Tryz.laysM171 : Go.Proofs.LaysM.n171 Tryz.prog Tryz.laysM171_ren := {
  mixed := by kernel_rfl
  f129 := Tryz.func80.trans (congrArg some (by kernel_rfl))
  f171 := Tryz.func95.trans (congrArg some (by kernel_rfl))
  f243 := Tryz.func122.trans (congrArg some (by kernel_rfl))
  f246 := Tryz.func134.trans (congrArg some (by kernel_rfl))
  f283 := Tryz.func140.trans (congrArg some (by kernel_rfl))
  f284 := Tryz.func141.trans (congrArg some (by kernel_rfl))
  f285 := Tryz.func142.trans (congrArg some (by kernel_rfl))
  f286 := Tryz.func143.trans (congrArg some (by kernel_rfl))
  f317 := Tryz.func144.trans (congrArg some (by kernel_rfl))
  f318 := Tryz.func145.trans (congrArg some (by kernel_rfl))
  f319 := Tryz.func146.trans (congrArg some (by kernel_rfl))
  f320 := Tryz.func147.trans (congrArg some (by kernel_rfl))
  f337 := Tryz.func148.trans (congrArg some (by kernel_rfl))
  f338 := Tryz.func149.trans (congrArg some (by kernel_rfl))
  t0 := Tryz.underlying0
  a0 := Tryz.isAgg0
  z0 := Tryz.sizeOf0
  v0 := Tryz.zeroValue0
  t2 := Tryz.underlying2
  a2 := Tryz.isAgg2
  z2 := Tryz.sizeOf2
  v2 := Tryz.zeroValue2
  t3 := Tryz.underlying3
  a3 := Tryz.isAgg3
  z3 := Tryz.sizeOf3
  v3 := Tryz.zeroValue3
  t4 := Tryz.underlying4
  a4 := Tryz.isAgg4
  z4 := Tryz.sizeOf4
  v4 := Tryz.zeroValue4
  t5 := Tryz.underlying5
  a5 := Tryz.isAgg5
  z5 := Tryz.sizeOf5
  v5 := Tryz.zeroValue5
  t9 := Tryz.underlying9
  a9 := Tryz.isAgg9
  z9 := Tryz.sizeOf9
  v9 := Tryz.zeroValue9
  t20 := Tryz.underlying20
  a20 := Tryz.isAgg20
  z20 := Tryz.sizeOf20
  v20 := Tryz.zeroValue20
  t37 := Tryz.underlying33
  a37 := Tryz.isAgg33
  z37 := Tryz.sizeOf33
  v37 := Tryz.zeroValue33
  t46 := Tryz.underlying91
  a46 := Tryz.isAgg91
  z46 := Tryz.sizeOf91
  v46 := Tryz.zeroValue91
  t51 := Tryz.underlying117
  a51 := Tryz.isAgg117
  z51 := Tryz.sizeOf117
  v51 := Tryz.zeroValue117
  t53 := Tryz.underlying119
  a53 := Tryz.isAgg119
  z53 := Tryz.sizeOf119
  v53 := Tryz.zeroValue119
  t171 := Tryz.underlying181
  a171 := Tryz.isAgg181
  z171 := Tryz.sizeOf181
  v171 := Tryz.zeroValue181
  t173 := Tryz.underlying183
  a173 := Tryz.isAgg183
  z173 := Tryz.sizeOf183
  v173 := Tryz.zeroValue183
  t212 := Tryz.underlying186
  a212 := Tryz.isAgg186
  z212 := Tryz.sizeOf186
  v212 := Tryz.zeroValue186
  t213 := Tryz.underlying187
  a213 := Tryz.isAgg187
  z213 := Tryz.sizeOf187
  t232 := Tryz.underlying188
  a232 := Tryz.isAgg188
  z232 := Tryz.sizeOf188
  v232 := Tryz.zeroValue188
  t233 := Tryz.underlying189
  a233 := Tryz.isAgg189
  z233 := Tryz.sizeOf189
  v233 := Tryz.zeroValue189
  g17 := by kernel_rfl
  g18 := by kernel_rfl
  g19 := by kernel_rfl
  i0 := by kernel_rfl
  i2 := by kernel_rfl
  i3 := by kernel_rfl
  i4 := by kernel_rfl
  i5 := by kernel_rfl
  i9 := by kernel_rfl
  i20 := by kernel_rfl
  i37 := by kernel_rfl
  i46 := by kernel_rfl
  i51 := by kernel_rfl
  i53 := by kernel_rfl
  i171 := by kernel_rfl
  i173 := by kernel_rfl
  i212 := by kernel_rfl
  i232 := by kernel_rfl
  i233 := by kernel_rfl
  m17 := by kernel_rfl
  m18 := by kernel_rfl
  m19 := by kernel_rfl }
open Go.RowKit Go.Sort Go.Lib in
/-- strconv.Itoa: "Itoa is equivalent to FormatInt(int64(i), 10).": i's DECIMAL NUMERAL ('Lib.itoa': a '-' where i is negative, then the digits), FOR EVERY int. The world behind the call: the world before it, new blocks behind the heap (the library's 'var a [24]byte'), draws. (LAID: no walk: one application.) -/
theorem Tryz.strconv_Itoa (n : Int) (h0 : -9223372036854775808 ≤ n) (h1 : n ≤ 9223372036854775807) (w : World) (htab : Lib.TabIs Tryz.prog w "internal/strconv.uint64pow10" .u64 Lib.pow10Tab) :
    Calls Tryz.prog 95 #[.int .i64 n] w fun e w' => e = .returned (.string ⟨(Lib.itoa n).toArray⟩) ∧ ∃ k os, w' = grow (w.drewN k) os := Any.strconv_Itoa Tryz.laysM171 n h0 h1 w htab
def Tryz.lays144_ren : Go.Shelf.Ren := ⟨fun | 144 => 39 | 143 => 59 | 219 => 81 | 217 => 104 | 225 => 105 | 224 => 106 | 267 => 107 | 266 => 126 | 314 => 127 | n => n, fun | 9 => 9 | 4 => 4 | 3 => 3 | 5 => 5 | 46 => 91 | 146 => 166 | 51 => 117 | n => n, fun | 1 => 0 | n => n⟩
theorem Tryz.lays144 : Go.Proofs.Lays.n144 Tryz.prog Tryz.lays144_ren := {
  mixed := by kernel_rfl
  f143 := Tryz.func59.trans (congrArg some (by kernel_rfl))
  f144 := Tryz.func39.trans (congrArg some (by kernel_rfl))
  f217 := Tryz.func104.trans (congrArg some (by kernel_rfl))
  f219 := Tryz.func81.trans (congrArg some (by kernel_rfl))
  f224 := Tryz.func106.trans (congrArg some (by kernel_rfl))
  f225 := Tryz.func105.trans (congrArg some (by kernel_rfl))
  f266 := Tryz.func126.trans (congrArg some (by kernel_rfl))
  f267 := Tryz.func107.trans (congrArg some (by kernel_rfl))
  f314 := Tryz.func127.trans (congrArg some (by kernel_rfl))
  t3 := Tryz.underlying3
  a3 := Tryz.isAgg3
  z3 := Tryz.sizeOf3
  v3 := Tryz.zeroValue3
  t4 := Tryz.underlying4
  a4 := Tryz.isAgg4
  z4 := Tryz.sizeOf4
  v4 := Tryz.zeroValue4
  t5 := Tryz.underlying5
  a5 := Tryz.isAgg5
  z5 := Tryz.sizeOf5
  v5 := Tryz.zeroValue5
  t9 := Tryz.underlying9
  a9 := Tryz.isAgg9
  z9 := Tryz.sizeOf9
  v9 := Tryz.zeroValue9
  t46 := Tryz.underlying91
  a46 := Tryz.isAgg91
  z46 := Tryz.sizeOf91
  v46 := Tryz.zeroValue91
  t51 := Tryz.underlying117
  a51 := Tryz.isAgg117
  z51 := Tryz.sizeOf117
  v51 := Tryz.zeroValue117
  t146 := Tryz.underlying166
  a146 := Tryz.isAgg166
  z146 := Tryz.sizeOf166
  v146 := Tryz.zeroValue166
  g1 := by kernel_rfl }
open Go.RowKit Go.Lib in
/-- strings.Contains: "Contains reports whether substr is within s.": AT A substr OF ONE BYTE c: IT RETURNS 'decide (0 ≤ Lib.indexByte s c)'; the world is as it was. (LAID: no walk: one application.) -/
theorem Tryz.strings_Contains_one (s : ByteArray) (c : UInt8) (w : World) :
    Calls Tryz.prog 39 #[.string s, .string ⟨#[c]⟩] w fun e w' => e = .returned (.bool (decide (0 ≤ Lib.indexByte s.data.toList c))) ∧ w' = w := Any.strings_Contains_one Tryz.lays144 s c w
def Tryz.sort30_ren : Go.Shelf.Ren := ⟨fun | 6 => 30 | 15 => 54 | 14 => 53 | 28 => 79 | 29 => 80 | 20 => 71 | 21 => 72 | 22 => 73 | 23 => 74 | 24 => 75 | 25 => 76 | 26 => 77 | 27 => 78 | 46 => 99 | 47 => 100 | 48 => 101 | 49 => 102 | 50 => 103 | 57 => 125 | n => n, fun | 22 => 26 | 24 => 43 | 25 => 67 | 3 => 3 | 39 => 91 | 0 => 0 | 53 => 117 | 55 => 119 | 4 => 4 | 46 => 110 | 45 => 109 | 50 => 114 | 5 => 5 | 9 => 9 | 66 => 143 | 70 => 147 | 76 => 163 | 77 => 164 | n => n, fun | n => n⟩
theorem Tryz.sort30 : Go.Proofs.SlLaysF0.n6 Tryz.prog Tryz.sort30_ren := {
  mixed := by kernel_rfl
  f6 := ⟨Tryz.f30.name, by decide, Tryz.func30.trans (congrArg some (by kernel_rfl))⟩
  f14 := ⟨Tryz.f53.name, by decide, Tryz.func53.trans (congrArg some (by kernel_rfl))⟩
  f15 := Tryz.func54.trans (congrArg some (by kernel_rfl))
  f20 := ⟨Tryz.f71.name, by decide, Tryz.func71.trans (congrArg some (by kernel_rfl))⟩
  f21 := ⟨Tryz.f72.name, by decide, Tryz.func72.trans (congrArg some (by kernel_rfl))⟩
  f22 := ⟨Tryz.f73.name, by decide, Tryz.func73.trans (congrArg some (by kernel_rfl))⟩
  f23 := ⟨Tryz.f74.name, by decide, Tryz.func74.trans (congrArg some (by kernel_rfl))⟩
  f24 := ⟨Tryz.f75.name, by decide, Tryz.func75.trans (congrArg some (by kernel_rfl))⟩
  f25 := ⟨Tryz.f76.name, by decide, Tryz.func76.trans (congrArg some (by kernel_rfl))⟩
  f26 := ⟨Tryz.f77.name, by decide, Tryz.func77.trans (congrArg some (by kernel_rfl))⟩
  f27 := ⟨Tryz.f78.name, by decide, Tryz.func78.trans (congrArg some (by kernel_rfl))⟩
  f28 := Tryz.func79.trans (congrArg some (by kernel_rfl))
  f29 := Tryz.func80.trans (congrArg some (by kernel_rfl))
  f46 := ⟨Tryz.f99.name, by decide, Tryz.func99.trans (congrArg some (by kernel_rfl))⟩
  f47 := Tryz.func100.trans (congrArg some (by kernel_rfl))
  f48 := Tryz.func101.trans (congrArg some (by kernel_rfl))
  f49 := ⟨Tryz.f102.name, by decide, Tryz.func102.trans (congrArg some (by kernel_rfl))⟩
  f50 := ⟨Tryz.f103.name, by decide, Tryz.func103.trans (congrArg some (by kernel_rfl))⟩
  f57 := ⟨Tryz.f125.name, by decide, Tryz.func125.trans (congrArg some (by kernel_rfl))⟩
  t0 := Tryz.underlying0
  a0 := Tryz.isAgg0
  z0 := Tryz.sizeOf0
  v0 := Tryz.zeroValue0
  t3 := Tryz.underlying3
  a3 := Tryz.isAgg3
  z3 := Tryz.sizeOf3
  v3 := Tryz.zeroValue3
  t4 := Tryz.underlying4
  a4 := Tryz.isAgg4
  z4 := Tryz.sizeOf4
  v4 := Tryz.zeroValue4
  t5 := Tryz.underlying5
  a5 := Tryz.isAgg5
  z5 := Tryz.sizeOf5
  v5 := Tryz.zeroValue5
  t9 := Tryz.underlying9
  a9 := Tryz.isAgg9
  z9 := Tryz.sizeOf9
  v9 := Tryz.zeroValue9
  t22 := Tryz.underlying26
  a22 := Tryz.isAgg26
  z22 := Tryz.sizeOf26
  v22 := Tryz.zeroValue26
  t25 := Tryz.underlying67
  a25 := Tryz.isAgg67
  z25 := Tryz.sizeOf67
  v25 := Tryz.zeroValue67
  t39 := Tryz.underlying91
  a39 := Tryz.isAgg91
  z39 := Tryz.sizeOf91
  v39 := Tryz.zeroValue91
  t45 := Tryz.underlying109
  a45 := Tryz.isAgg109
  z45 := Tryz.sizeOf109
  v45 := Tryz.zeroValue109
  t46 := Tryz.underlying110
  a46 := Tryz.isAgg110
  z46 := Tryz.sizeOf110
  v46 := Tryz.zeroValue110
  t50 := Tryz.underlying114
  a50 := Tryz.isAgg114
  z50 := Tryz.sizeOf114
  v50 := Tryz.zeroValue114
  t53 := Tryz.underlying117
  a53 := Tryz.isAgg117
  z53 := Tryz.sizeOf117
  v53 := Tryz.zeroValue117
  t55 := Tryz.underlying119
  a55 := Tryz.isAgg119
  z55 := Tryz.sizeOf119
  v55 := Tryz.zeroValue119
  t66 := Tryz.underlying143
  a66 := Tryz.isAgg143
  z66 := Tryz.sizeOf143
  v66 := Tryz.zeroValue143
  t70 := Tryz.underlying147
  a70 := Tryz.isAgg147
  z70 := Tryz.sizeOf147
  v70 := Tryz.zeroValue147
  t76 := Tryz.underlying163
  a76 := Tryz.isAgg163
  z76 := Tryz.sizeOf163
  v76 := Tryz.zeroValue163
  t77 := Tryz.underlying164
  a77 := Tryz.isAgg164
  z77 := Tryz.sizeOf164
  v77 := Tryz.zeroValue164 }
def Tryz.sort67_ren : Go.Shelf.Ren := ⟨fun | 6 => 67 | 15 => 54 | 14 => 91 | 28 => 79 | 29 => 80 | 20 => 113 | 21 => 114 | 22 => 115 | 23 => 116 | 24 => 117 | 25 => 118 | 26 => 119 | 27 => 120 | 46 => 131 | 47 => 100 | 48 => 101 | 49 => 132 | 50 => 133 | 57 => 139 | n => n, fun | 22 => 23 | 24 => 41 | 25 => 101 | 3 => 3 | 39 => 91 | 0 => 0 | 53 => 117 | 55 => 119 | 4 => 4 | 46 => 110 | 45 => 109 | 50 => 114 | 5 => 5 | 9 => 9 | 66 => 143 | 70 => 147 | 76 => 163 | 77 => 164 | n => n, fun | n => n⟩
theorem Tryz.sort67 : Go.Proofs.SlLaysF0.n6 Tryz.prog Tryz.sort67_ren := {
  mixed := by kernel_rfl
  f6 := ⟨Tryz.f67.name, by decide, Tryz.func67.trans (congrArg some (by kernel_rfl))⟩
  f14 := ⟨Tryz.f91.name, by decide, Tryz.func91.trans (congrArg some (by kernel_rfl))⟩
  f15 := Tryz.func54.trans (congrArg some (by kernel_rfl))
  f20 := ⟨Tryz.f113.name, by decide, Tryz.func113.trans (congrArg some (by kernel_rfl))⟩
  f21 := ⟨Tryz.f114.name, by decide, Tryz.func114.trans (congrArg some (by kernel_rfl))⟩
  f22 := ⟨Tryz.f115.name, by decide, Tryz.func115.trans (congrArg some (by kernel_rfl))⟩
  f23 := ⟨Tryz.f116.name, by decide, Tryz.func116.trans (congrArg some (by kernel_rfl))⟩
  f24 := ⟨Tryz.f117.name, by decide, Tryz.func117.trans (congrArg some (by kernel_rfl))⟩
  f25 := ⟨Tryz.f118.name, by decide, Tryz.func118.trans (congrArg some (by kernel_rfl))⟩
  f26 := ⟨Tryz.f119.name, by decide, Tryz.func119.trans (congrArg some (by kernel_rfl))⟩
  f27 := ⟨Tryz.f120.name, by decide, Tryz.func120.trans (congrArg some (by kernel_rfl))⟩
  f28 := Tryz.func79.trans (congrArg some (by kernel_rfl))
  f29 := Tryz.func80.trans (congrArg some (by kernel_rfl))
  f46 := ⟨Tryz.f131.name, by decide, Tryz.func131.trans (congrArg some (by kernel_rfl))⟩
  f47 := Tryz.func100.trans (congrArg some (by kernel_rfl))
  f48 := Tryz.func101.trans (congrArg some (by kernel_rfl))
  f49 := ⟨Tryz.f132.name, by decide, Tryz.func132.trans (congrArg some (by kernel_rfl))⟩
  f50 := ⟨Tryz.f133.name, by decide, Tryz.func133.trans (congrArg some (by kernel_rfl))⟩
  f57 := ⟨Tryz.f139.name, by decide, Tryz.func139.trans (congrArg some (by kernel_rfl))⟩
  t0 := Tryz.underlying0
  a0 := Tryz.isAgg0
  z0 := Tryz.sizeOf0
  v0 := Tryz.zeroValue0
  t3 := Tryz.underlying3
  a3 := Tryz.isAgg3
  z3 := Tryz.sizeOf3
  v3 := Tryz.zeroValue3
  t4 := Tryz.underlying4
  a4 := Tryz.isAgg4
  z4 := Tryz.sizeOf4
  v4 := Tryz.zeroValue4
  t5 := Tryz.underlying5
  a5 := Tryz.isAgg5
  z5 := Tryz.sizeOf5
  v5 := Tryz.zeroValue5
  t9 := Tryz.underlying9
  a9 := Tryz.isAgg9
  z9 := Tryz.sizeOf9
  v9 := Tryz.zeroValue9
  t22 := Tryz.underlying23
  a22 := Tryz.isAgg23
  z22 := Tryz.sizeOf23
  v22 := Tryz.zeroValue23
  t25 := Tryz.underlying101
  a25 := Tryz.isAgg101
  z25 := Tryz.sizeOf101
  v25 := Tryz.zeroValue101
  t39 := Tryz.underlying91
  a39 := Tryz.isAgg91
  z39 := Tryz.sizeOf91
  v39 := Tryz.zeroValue91
  t45 := Tryz.underlying109
  a45 := Tryz.isAgg109
  z45 := Tryz.sizeOf109
  v45 := Tryz.zeroValue109
  t46 := Tryz.underlying110
  a46 := Tryz.isAgg110
  z46 := Tryz.sizeOf110
  v46 := Tryz.zeroValue110
  t50 := Tryz.underlying114
  a50 := Tryz.isAgg114
  z50 := Tryz.sizeOf114
  v50 := Tryz.zeroValue114
  t53 := Tryz.underlying117
  a53 := Tryz.isAgg117
  z53 := Tryz.sizeOf117
  v53 := Tryz.zeroValue117
  t55 := Tryz.underlying119
  a55 := Tryz.isAgg119
  z55 := Tryz.sizeOf119
  v55 := Tryz.zeroValue119
  t66 := Tryz.underlying143
  a66 := Tryz.isAgg143
  z66 := Tryz.sizeOf143
  v66 := Tryz.zeroValue143
  t70 := Tryz.underlying147
  a70 := Tryz.isAgg147
  z70 := Tryz.sizeOf147
  v70 := Tryz.zeroValue147
  t76 := Tryz.underlying163
  a76 := Tryz.isAgg163
  z76 := Tryz.sizeOf163
  v76 := Tryz.zeroValue163
  t77 := Tryz.underlying164
  a77 := Tryz.isAgg164
  z77 := Tryz.sizeOf164
  v77 := Tryz.zeroValue164 }
end Go.Proofs

/- Told: the functions of strings.Builder that the interpreter cannot run. -/
namespace Pi
open Go Go.Proofs Go.RowKit Go.Shelf

def u8s : List D → Option (List UInt8)
  | [] => some []
  | .int .u8 n :: r => if 0 ≤ n ∧ n < 256 then (match u8s r with | some l => some (UInt8.ofNat n.toNat :: l) | none => none) else none
  | _ => none
theorem u8s_spec : ∀ (es : List D) (l : List UInt8), u8s es = some l → es = l.map fun b => D.int .u8 (b.toNat : Int)
  | [], l, h => by simp [u8s] at h; subst h; rfl
  | x :: r, l, h => by
    unfold u8s at h
    split at h
    · rename_i heq; cases heq
    · rename_i n r' heq
      simp only [List.cons.injEq] at heq
      obtain ⟨rfl, rfl⟩ := heq
      split at h
      · rename_i hn
        split at h
        · rename_i l' hl
          simp at h
          subst h
          rw [u8s_spec r l' hl]
          simp only [List.map_cons, List.cons.injEq, and_true]
          congr 1
          simp only [UInt8.toNat_ofNat']
          omega
        · cases h
      · cases h
    · cases h

def xCheck : TF
  | [.ref 0 v 0], R => match lk R 0 with
    | some e => if Nat.beq e.ver v then (match e.obj with
      | .box 136 [.d .nilp, x] => some (.tup [], ins 0 ⟨e.ver, e.tag, .box 136 [.ref 0 v 0, x]⟩ R)
      | .box 136 [.ref 0 v' 0, _] => if Nat.beq v' v then some (.tup [], R) else none
      | _ => none) else none
    | none => none
  | _, _ => none
def xStr : TF
  | [.ref 0 v 0], R => match lk R 0 with
    | some e => if Nat.beq e.ver v then (match e.obj with
      | .box 136 [_, .d .nils] => some (.d (.str []), R)
      | .box 136 [_, .sl m vm len] => (match lk R m with
        | some em => if Nat.beq em.ver vm then (match em.obj with
          | .arr 5 false es => (match u8s (es.take len) with
            | some l => if Nat.beq l.length len && Nat.blt 0 len then some (.d (.str l), ins m ⟨em.ver, em.tag, .gone⟩ R) else none
            | none => none)
          | _ => none) else none
        | none => none)
      | _ => none) else none
    | none => none
  | _, _ => none
section
variable {w0 : World}
theorem tup_nil {F : Nat → Prop} {w : World} {G : Nat → Value} {R : List (Nat × En)} : PRep F w G R (.tuple #[]) (.tup []) := .tup [] [] rfl (fun i v c hv => by simp at hv)

theorem setCell_heap {w : World} {b : Nat} {cs : Array Value} {T : TypeId} {fr : Nat × Nat} (h : w.heap[b]? = some (.cells cs T fr)) (i : Nat) (v : Value) : (w.setCell ⟨b, i, none⟩ v).heap[b]? = some (.cells (cs.setIfInBounds i v) T fr) := by
  simp [World.setCell, Array.getElem?_modify, h]
theorem setCell_other {w : World} {b c i : Nat} (h : c ≠ b) (v : Value) : (w.setCell ⟨b, i, none⟩ v).heap[c]? = w.heap[c]? := by
  simp [World.setCell, Array.getElem?_modify, Ne.symm h]

set_option maxHeartbeats 1000000 in
set_option maxRecDepth 100000 in
/-- copyCheck of a builder that was used. -/
theorem ccUsed (b : Nat) (w : World) (h0 : w.cell? ⟨b, 0, none⟩ = some (.pointer (some ⟨b, 0, none⟩))) :
    Calls Tryz.prog 123 #[.pointer (some ⟨b, 0, none⟩)] w fun e w' => e = .returned (.tuple #[]) ∧ w' = w := by
  obtain ⟨j, hj, _⟩ := Option.map_eq_some_iff.1 (show (Tryz.prog.info? 136).map (·.size) = some 2 by kernel_rfl)
  have a72 := Tryz.isAgg136; have z72 := Tryz.sizeOf136; have v72 := Tryz.zeroValue136; have u72 := run_underlying Tryz.underlying136
  have a70 := Tryz.isAgg134; have z70 := Tryz.sizeOf134; have v70 := Tryz.zeroValue134; have u70 := run_underlying Tryz.underlying134
  have a4 := Tryz.isAgg4; have z4 := Tryz.sizeOf4; have v4 := Tryz.zeroValue4; have u4 := run_underlying Tryz.underlying4
  have u164 := run_underlying Tryz.underlying172
  have mixed : Tryz.prog.follows .mixedOrders = true := by kernel_rfl
  go_enter Tryz.func123, Tryz.ntmps123
  go_wp2
  rw [Lib.run_neq_ptr_same w _ Tryz.underlying134 hj]
  go_wp2
  go_end0
  exact ⟨rfl, rfl⟩
set_option maxHeartbeats 1000000 in
set_option maxRecDepth 100000 in
/-- copyCheck of a new builder. -/
theorem ccFresh (b : Nat) (w : World) (h0 : w.cell? ⟨b, 0, none⟩ = some (.pointer none)) (hsh : w.shape? b = some (136, 2)) (hfz : w.frozen? ⟨b, 0, none⟩ = false) :
    Calls Tryz.prog 123 #[.pointer (some ⟨b, 0, none⟩)] w fun e w' => e = .returned (.tuple #[]) ∧ w' = w.setCell ⟨b, 0, none⟩ (.pointer (some ⟨b, 0, none⟩)) := by
  obtain ⟨j, hj, hjs⟩ := Option.map_eq_some_iff.1 (show (Tryz.prog.info? 136).map (·.size) = some 2 by kernel_rfl)
  have hlb : liesAt Tryz.prog Tryz.prog.depth 136 (2 / Tryz.prog.cellsOf 136) 0 136 1 = true := by kernel_rfl
  have a72 := Tryz.isAgg136; have z72 := Tryz.sizeOf136; have v72 := Tryz.zeroValue136; have u72 := run_underlying Tryz.underlying136
  have a70 := Tryz.isAgg134; have z70 := Tryz.sizeOf134; have v70 := Tryz.zeroValue134; have u70 := run_underlying Tryz.underlying134
  have a4 := Tryz.isAgg4; have z4 := Tryz.sizeOf4; have v4 := Tryz.zeroValue4; have u4 := run_underlying Tryz.underlying4
  have u164 := run_underlying Tryz.underlying172
  have mixed : Tryz.prog.follows .mixedOrders = true := by kernel_rfl
  go_enter Tryz.func123, Tryz.ntmps123
  go_wp2
  rw [Lib.run_to_unsafe w ⟨b, 0, none⟩ Tryz.underlying134 Tryz.underlying172 hj (by rw [hjs]; decide) hsh (Nat.zero_lt_succ 1)]
  simp only [Result.andThen]
  rw [Oper.upon_value]
  go_wp2
  rw [run_callFunc_extern Tryz.func135 (by kernel_rfl) (by kernel_rfl) (by kernel_rfl) (e := Extern.AbiNoEscape.same) (by kernel_rfl)]
  rw [Lib.run_noEscape]
  simp only [Result.andThen]
  rw [Oper.upon_value]
  go_wp2
  rw [Lib.run_from_unsafe w ⟨b, 0, none⟩ Tryz.underlying172 Tryz.underlying134 hj hsh hlb]
  simp only [Result.andThen]
  rw [Oper.upon_value]
  go_wp2
  go_end0
  exact ⟨rfl, rfl⟩
theorem xCheck_ok : XOK Tryz.prog w0 123 xCheck := by
  intro h0 ps R p R1 h F G w vs hH hl hv
  unfold xCheck at h
  split at h
  · rename_i v
    match vs, hl, hv with
    | [u], _, hv =>
      have hp := hv 0 u _ rfl rfl
      split at h
      · rename_i e he
        split at h
        · rename_i hver
          have hver := Nat.eq_of_beq_eq_true hver
          have hO := hH.rg 0 e he
          cases hp with
          | ref _ _ _ _ hr h1 =>
            split at h
            · rename_i x heo
              rw [heo] at hO
              obtain ⟨b, hG, rfl⟩ := hr.at he hver (by rw [heo]; rfl)
              obtain ⟨b', cs, hG', hh, hsz, hone, hps⟩ := hO
              rw [hG] at hG'
              simp at hG'
              subst hG'
              simp only [Option.some.injEq, Prod.mk.injEq] at h
              obtain ⟨rfl, rfl⟩ := h
              have c0 : cs[0]? = some (.pointer none) := by
                have hs0 : 0 < cs.size := by rw [hsz]; simp
                have := hps 0 _ rfl
                rw [get_getD hs0]
                generalize cs.getD 0 undef = c at this
                cases this with
                | d hd => exact congrArg some (hd.toVc rfl)
              have hblt : b < w.heap.size := (Array.getElem?_eq_some_iff.1 hh).1
              have hcall := ccFresh b w (by rw [cell_of_cells hh]; exact c0) (by simp [World.shape?, hh, hsz]) (by simp [World.frozen?, hh])
              refine .inl ⟨enters Tryz.func123 (by kernel_rfl) (by kernel_rfl) _ w, hcall.mono fun e' w' ⟨he', hw'⟩ => ⟨_, he', F, G, ?_⟩⟩
              subst hw'
              have hnew : NewAt G R 0 ⟨e.ver, e.tag, .box 136 [.ref 0 v 0, x]⟩ (G 0) := fun e1 he1 => by rw [he] at he1; cases he1; exact .inr ⟨rfl, fun _ => ⟨by rw [heo]; rfl, rfl⟩⟩
              have hnames := names_upd hnew
              rw [upd_self] at hnames
              have hnF : ¬ F b := hH.fre 0 e b he (by rw [heo]; simp [ownB, hG, blockOf])
              have hF : ∀ c, F c → (w.setCell ⟨b, 0, none⟩ (.pointer (some ⟨b, 0, none⟩))).heap[c]? = w.heap[c]? := fun c hc => setCell_other (fun e => hnF (by rw [← e]; exact hc)) _
              obtain ⟨d1, d2⟩ := SRel.upd hH (e1 := ⟨e.ver, e.tag, .box 136 [.ref 0 v 0, x]⟩) (g1 := G 0) (w' := w.setCell ⟨b, 0, none⟩ (.pointer (some ⟨b, 0, none⟩))) hnew
                (fun c hc hno => setCell_other (fun e' => hno ⟨e, he, by rw [e', heo]; simp [ownB, hG, blockOf]⟩) _) (by simp [World.setCell]) rfl rfl rfl
                (fun c hc => .inr ⟨e, he, by rw [heo]; exact hc⟩)
                (by
                  rw [upd_self]
                  refine ⟨b, _, hG, setCell_heap hh 0 _, by simpa using hsz, ?_, ?_⟩
                  · intro c hc
                    obtain ⟨i, hi⟩ := List.mem_iff_getElem?.1 hc
                    rw [Array.getElem?_toList, Array.getElem?_setIfInBounds] at hi
                    split at hi
                    · simp at hi; obtain ⟨_, rfl⟩ := hi; rfl
                    · exact hone c (List.mem_iff_getElem?.2 ⟨i, by rw [Array.getElem?_toList]; exact hi⟩)
                  · intro i p hp
                    match i with
                    | 0 =>
                      simp at hp
                      subst hp
                      have e0 : (cs.setIfInBounds 0 (.pointer (some ⟨b, 0, none⟩))).getD 0 undef = .pointer (some ⟨b, 0, none⟩) := by
                        have hs0 : 0 < cs.size := by rw [hsz]; simp
                        simp [Array.getD_eq_getD_getElem?, hs0]
                      rw [e0]
                      exact .ref 0 v 0 _ ⟨_, lk_ins_same _ _ _, by rw [hver]; exact Nat.le_refl _, fun _ _ => ⟨b, hG, rfl⟩⟩ rfl
                    | 1 =>
                      simp at hp
                      subst hp
                      have e1 : (cs.setIfInBounds 0 (.pointer (some ⟨b, 0, none⟩))).getD 1 undef = cs.getD 1 undef := by
                        simp [Array.getD_eq_getD_getElem?]
                      rw [e1]
                      exact (hps 1 x rfl).mono (fun _ h => h) hF hnames
                    | i + 2 => simp at hp)
                (fun i hi hl => hH.tag 0 e i he hi (by rw [heo]; rfl))
              rw [upd_self] at d1 d2
              exact ⟨d1, tup_nil, d2⟩
            · rename_i v' x heo
              split at h
              · rename_i hv'
                have hv' := Nat.eq_of_beq_eq_true hv'
                subst hv'
                rw [heo] at hO
                obtain ⟨b, hG, rfl⟩ := hr.at he hver (by rw [heo]; rfl)
                obtain ⟨b', cs, hG', hh, hsz, hone, hps⟩ := hO
                rw [hG] at hG'
                simp at hG'
                subst hG'
                simp only [Option.some.injEq, Prod.mk.injEq] at h
                obtain ⟨rfl, rfl⟩ := h
                have c0 : cs[0]? = some (.pointer (some ⟨b, 0, none⟩)) := by
                  have hs0 : 0 < cs.size := by rw [hsz]; simp
                  have := hps 0 _ rfl
                  rw [get_getD hs0]
                  generalize cs.getD 0 undef = c at this
                  cases this with
                  | ref _ _ _ _ hr2 _ =>
                    obtain ⟨b2, hG2, rfl⟩ := hr2.at he hver (by rw [heo]; rfl)
                    rw [hG] at hG2
                    simp at hG2
                    subst hG2
                    rfl
                have hcall := ccUsed b w (by rw [cell_of_cells hh]; exact c0)
                refine .inl ⟨enters Tryz.func123 (by kernel_rfl) (by kernel_rfl) _ w, hcall.mono fun e' w' ⟨he', hw'⟩ => ⟨_, he', F, G, ?_⟩⟩
                subst hw'
                exact ⟨hH, tup_nil, Ext.refl _ _ _⟩
              · cases h
            · cases h
        · cases h
      · cases h
  · cases h

theorem freeze_heap {w : World} {g c n : Nat} (h : c ≠ g) : (w.freeze ⟨g, 0, none⟩ n).heap[c]? = w.heap[c]? := by
  unfold World.freeze
  split
  · rfl
  · simp [Array.getElem?_modify, Ne.symm h]
theorem freeze_size {w : World} {g n : Nat} : (w.freeze ⟨g, 0, none⟩ n).heap.size = w.heap.size := by
  unfold World.freeze
  split
  · rfl
  · simp

set_option maxHeartbeats 2000000 in
set_option maxRecDepth 100000 in
/-- String of a builder that holds a byte at least; the world behind it. -/
theorem str_row (b g cap len : Nat) (p : Value) (cur : Array Value) (l : List UInt8) (w : World) (hbk : w.heap[b]? = some (.cells #[p, .slice (some ⟨g, 0, none⟩) len cap] 136 (0, 0))) (hg : w.heap[g]? = some (.cells cur 5 (0, 0)))
    (h0 : l ≠ []) (hlen : l.length = len) (hcap : len ≤ cap) (hcm : cap ≤ maxLen) (hcs : cap ≤ cur.size) (hb : ∀ (j : Nat) (x : UInt8), l[j]? = some x → cur[j]? = some (Value.int IntKind.u8 (x.toNat : Int))) :
    Calls Tryz.prog 98 #[.pointer (some ⟨b, 0, none⟩)] w fun e w' => e = .returned (.string ⟨l.toArray⟩) ∧ w' = w.drew.freeze ⟨g, 0, none⟩ l.length := by
  subst hlen
  have L := Tryz.lays169
  have X := Tryz.Builder_Extra_169
  have hl0 : l.length ≠ 0 := by simpa using h0
  have c1 : w.drew.cell? ⟨b, 1, none⟩ = some (.slice (some ⟨g, 0, none⟩) l.length cap) := by
    have : w.drew.heap[b]? = some (.cells #[p, .slice (some ⟨g, 0, none⟩) l.length cap] 136 (0, 0)) := hbk
    rw [Lib.cell_of_heap this]; rfl
  have hSD : (Builtin.unsafeSliceData_ #[(Tryz.lays169_ren.t 37)] (Tryz.lays169_ren.t 127) #[.slice (some ⟨g, 0, none⟩) l.length cap]).run Tryz.prog w.drew = .ok (.pointer (some ⟨g, 0, none⟩)) w.drew :=
    Lib.run_unsafeSliceData_row _ _ _ _ _ _ (by omega)
  have hUS : (Builtin.unsafeString_ #[(Tryz.lays169_ren.t 127), (Tryz.lays169_ren.t 3)] (Tryz.lays169_ren.t 9) #[.pointer (some ⟨g, 0, none⟩), .int .i64 l.length]).run Tryz.prog w.drew = .ok (.string ⟨l.toArray⟩) (w.drew.freeze ⟨g, 0, none⟩ l.length) := by
    refine Lib.run_unsafeString_row w.drew (Tryz.lays169_ren.t 127) (Tryz.lays169_ren.t 3) (Tryz.lays169_ren.t 9) (Tryz.lays169_ren.t 5) L.t127 X.cellsByte g cur.size (by have hg' : w.drew.heap[g]? = some (.cells cur (Tryz.lays169_ren.t 5) (0, 0)) := hg; simp [World.shape?, hg']) l h0 (by omega) (by unfold maxLen at hcm; omega) ?_
    intro j x hx
    have hg' : w.drew.heap[g]? = some (.cells cur 5 (0, 0)) := hg
    rw [show (⟨g, 0, none⟩ : Addr).add j = ⟨g, j, none⟩ by cases j <;> simp [Addr.add], cell_of_cells hg']
    exact hb j x hx
  have mixed := L.mixed
  have t72 := L.t72; have a72 := L.a72; have z72 := L.z72; have v72 := L.v72; have u72 := run_underlying L.t72
  have t70 := L.t70; have a70 := L.a70; have z70 := L.z70; have v70 := L.v70; have u70 := run_underlying L.t70
  have t37 := L.t37; have a37 := L.a37; have z37 := L.z37; have v37 := L.v37; have u37 := run_underlying L.t37
  have t127 := L.t127; have a127 := L.a127; have z127 := L.z127; have v127 := L.v127; have u127 := run_underlying L.t127
  have t3 := L.t3; have a3 := L.a3; have z3 := L.z3; have v3 := L.v3; have u3 := run_underlying L.t3
  have t9 := L.t9; have a9 := L.a9; have z9 := L.z9; have v9 := L.v9; have u9 := run_underlying L.t9
  have t5 := X.t5; have a5 := X.a5; have z5 := X.z5; have v5 := X.v5; have u5 := run_underlying X.t5
  go_enter L.f169, Body.n169_ntmps Tryz.lays169_ren
  go_wp2
  go_region_o
  all_goals (go_wp2; go_ret; exact ⟨rfl, rfl⟩)

set_option maxHeartbeats 2000000 in
set_option maxRecDepth 100000 in
theorem str_nil (b : Nat) (p : Value) (w : World) (hbk : w.heap[b]? = some (.cells #[p, .slice none 0 0] 136 (0, 0))) :
    Calls Tryz.prog 98 #[.pointer (some ⟨b, 0, none⟩)] w fun e w' => e = .returned (.string ⟨#[]⟩) ∧ w' = w.drew := by
  have L := Tryz.lays169
  have X := Tryz.Builder_Extra_169
  have hUS := fun W q => Lib.run_unsafeString_none (P := Tryz.prog) W (Tryz.lays169_ren.t 127) (Tryz.lays169_ren.t 3) (Tryz.lays169_ren.t 9) q
  have c1 : w.drew.cell? ⟨b, 1, none⟩ = some (.slice none 0 0) := by
    have : w.drew.heap[b]? = some (.cells #[p, .slice none 0 0] 136 (0, 0)) := hbk
    rw [Lib.cell_of_heap this]; rfl
  have hSD : (Builtin.unsafeSliceData_ #[(Tryz.lays169_ren.t 37)] (Tryz.lays169_ren.t 127) #[.slice none 0 0]).run Tryz.prog w.drew = .ok (.pointer none) w.drew := rfl
  have mixed := L.mixed
  have t72 := L.t72; have a72 := L.a72; have z72 := L.z72; have v72 := L.v72; have u72 := run_underlying L.t72
  have t70 := L.t70; have a70 := L.a70; have z70 := L.z70; have v70 := L.v70; have u70 := run_underlying L.t70
  have t37 := L.t37; have a37 := L.a37; have z37 := L.z37; have v37 := L.v37; have u37 := run_underlying L.t37
  have t127 := L.t127; have a127 := L.a127; have z127 := L.z127; have v127 := L.v127; have u127 := run_underlying L.t127
  have t3 := L.t3; have a3 := L.a3; have z3 := L.z3; have v3 := L.v3; have u3 := run_underlying L.t3
  have t9 := L.t9; have a9 := L.a9; have z9 := L.z9; have v9 := L.v9; have u9 := run_underlying L.t9
  have t5 := X.t5; have a5 := X.a5; have z5 := X.z5; have v5 := X.v5; have u5 := run_underlying X.t5
  go_enter L.f169, Body.n169_ntmps Tryz.lays169_ren
  go_wp2
  go_region_o
  all_goals (go_wp2; go_ret; exact ⟨rfl, rfl⟩)

theorem HRel.drew {T : Tg} {F : Nat → Prop} {G : Nat → Value} {w : World} {R : List (Nat × En)} (h : HRel Tryz.prog T F G w R) : HRel Tryz.prog T F G w.drew R := by
  have hn : Names G G R R := Names.refl G R
  exact ⟨h.nod, h.size, fun t p hp => by simp [lk] at hp, fun n e he => (h.rg n e he).mono (fun _ h => h) (fun _ _ => rfl) hn rfl (fun _ _ => rfl), h.own, h.fre, h.bnd, h.tag, h.z, Nat.le_succ_of_le h.dr⟩

theorem two_cells {cs : Array Value} (h : cs.size = 2) : cs = #[cs.getD 0 undef, cs.getD 1 undef] := by
  apply Array.ext
  · simp [h]
  · intro i h1 h2
    have : i = 0 ∨ i = 1 := by simp at h2; omega
    rcases this with rfl | rfl <;> simp [Array.getD, h]

theorem xStr_ok : XOK Tryz.prog w0 98 xStr := by
  intro h0 ps R p R1 h F G w vs hH hl hv
  unfold xStr at h
  split at h
  · rename_i v
    match vs, hl, hv with
    | [u], _, hv =>
      have hp := hv 0 u _ rfl rfl
      split at h
      · rename_i e he
        split at h
        · rename_i hver
          have hver := Nat.eq_of_beq_eq_true hver
          have hO := hH.rg 0 e he
          cases hp with
          | ref _ _ _ _ hr h1 =>
            have hce := enters Tryz.func98 (by kernel_rfl) (by kernel_rfl)
            split at h
            · rename_i x heo
              rw [heo] at hO
              obtain ⟨b, hG, rfl⟩ := hr.at he hver (by rw [heo]; rfl)
              obtain ⟨b', cs, hG', hh, hsz, hone, hps⟩ := hO
              rw [hG] at hG'
              simp at hG'
              subst hG'
              simp only [Option.some.injEq, Prod.mk.injEq] at h
              obtain ⟨rfl, rfl⟩ := h
              have e1 : cs.getD 1 undef = .slice none 0 0 := by
                have := hps 1 _ rfl
                generalize cs.getD 1 undef = c at this
                cases this with
                | d hd => exact hd.toVc rfl
              have h2 := two_cells (by simpa using hsz)
              rw [e1] at h2
              rw [h2] at hh
              refine .inl ⟨hce _ w, (str_nil b _ w hh).mono fun e' w' ⟨he', hw'⟩ => ⟨_, he', F, G, ?_, .d (.str []), ?_⟩⟩
              · subst hw'
                exact hH.drew
              · subst hw'
                exact ⟨fun _ h => h, fun _ h => .inl h, fun _ h => .inl h, fun _ _ _ => rfl, Nat.le_refl _, rfl, rfl, rfl⟩
            · rename_i x m vm len heo
              rw [heo] at hO
              obtain ⟨b, hG, rfl⟩ := hr.at he hver (by rw [heo]; rfl)
              obtain ⟨b', cs, hG', hh, hsz, hone, hps⟩ := hO
              rw [hG] at hG'
              simp at hG'
              subst hG'
              split at h
              · rename_i em hem
                split at h
                · rename_i hvm
                  have hvm := Nat.eq_of_beq_eq_true hvm
                  split at h
                  · rename_i es hoe
                    split at h
                    · rename_i l hl8
                      split at h
                      · rename_i hcond
                        simp only [Bool.and_eq_true, Nat.blt_eq] at hcond
                        have hll := Nat.eq_of_beq_eq_true hcond.1
                        simp only [Option.some.injEq, Prod.mk.injEq] at h
                        obtain ⟨rfl, rfl⟩ := h
                        have hp1 := hps 1 _ rfl
                        have hOm := hH.rg m em hem
                        rw [hoe] at hOm
                        have h2 := two_cells (by simpa using hsz)
                        generalize cs.getD 1 undef = c1 at hp1 h2
                        cases hp1 with
                        | sl _ _ _ _ _ hrm =>
                          obtain ⟨a, N, cap, hGm, rfl, hlN⟩ := hrm.at hem hvm (by rw [hoe]; rfl)
                          have hes := u8s_spec _ _ hl8
                          have hel : len ≤ es.length := by
                            have := congrArg List.length hes
                            simp at this
                            omega
                          rcases hOm with ⟨_, rfl⟩ | ⟨g, cap', cur, k, hGm', hg, hk, hk0, hle, hcm, hcs, _, hE⟩
                          · simp at hel; omega
                          · rw [hGm] at hGm'
                            simp only [Value.slice.injEq] at hGm'
                            obtain ⟨rfl, rfl, rfl⟩ := hGm'
                            have hk1 : k = 1 := by
                              have : sz Tryz.prog 5 = some 1 := by kernel_rfl
                              rw [this] at hk
                              exact (Option.some.inj hk).symm
                            subst hk1
                            rw [h2] at hh
                            have hne : l ≠ [] := fun e0 => by subst e0; simp at hll; omega
                            have hcell : ∀ (j : Nat) (x : UInt8), l[j]? = some x → cur[j]? = some (.int .u8 x.toNat) := fun j x hx => by
                              have hj : j < l.length := (List.getElem?_eq_some_iff.1 hx).1
                              have hej : es[j]? = some (.int .u8 x.toNat) := by
                                have : (es.take len)[j]? = some (D.int .u8 (x.toNat : Int)) := by rw [hes, List.getElem?_map, hx]; rfl
                                rw [List.getElem?_take] at this
                                split at this
                                · exact this
                                · cases this
                              obtain ⟨q1, q2, q3⟩ := hE j _ hej
                              have := q3 0 _ rfl
                              rw [get_getD (by omega)]
                              simp only [Nat.mul_one, Nat.add_zero] at this
                              rw [this.toVc rfl]
                            refine .inl ⟨hce _ w, (str_row b g cap len _ cur l w hh hg hne hll (by omega) hcm (by omega) hcell).mono fun e' w' ⟨he', hw'⟩ => ⟨_, he', F, G, ?_⟩⟩
                            subst hw'
                            have hnew : NewAt G R m ⟨em.ver, em.tag, .gone⟩ (G m) := fun e1 he1 => by rw [hem] at he1; cases he1; exact .inr ⟨rfl, fun hlv => by cases hlv⟩
                            obtain ⟨d1, d2⟩ := SRel.upd hH (e1 := ⟨em.ver, em.tag, .gone⟩) (g1 := G m) (w' := w.drew.freeze ⟨g, 0, none⟩ l.length) (hdr := by unfold World.freeze; split <;> exact Nat.le_succ _) hnew
                              (fun c hc hno => freeze_heap (fun e' => hno ⟨em, hem, by rw [e', hoe]; simp [ownB, hGm, blockOf]⟩)) (by rw [freeze_size]; exact Nat.le_refl _) (by unfold World.freeze; split <;> rfl) (by unfold World.freeze; split <;> rfl) (by unfold World.freeze; split <;> rfl)
                              (fun c hc => by simp [ownB] at hc) trivial (fun i _ hlv => by cases hlv)
                            rw [upd_self] at d1 d2
                            exact ⟨d1, .d (.str l), d2⟩
                      · cases h
                    · cases h
                  · cases h
                · cases h
              · cases h
            · cases h
        · cases h
      · cases h
  · cases h
end
end Pi

/- The seat's tables. -/
namespace Pi
open Go
set_option maxRecDepth 100000
def kpTab : List (Nat × List (Nat × List Nat × List Nat)) := [(7, [(9, [7, 8, 9, 10, 11], [6, 7, 9, 10]), (13, [7, 8, 9, 10, 11, 12, 13], [6, 7, 8, 9, 10, 11, 12]), (22, [7, 9, 10, 14], [6, 7])]),
  (8, [(8, [7, 8, 9, 10, 11, 12], [7, 8, 9, 10, 11]), (12, [7, 8, 9, 10, 11, 13], [7, 8, 9, 10, 11])]),
  (9, [(8, [0, 3, 4, 5, 6, 7], [3, 4, 5, 6]), (19, [3, 6, 9, 10], [2, 3, 9])]),
  (11, [(4, [0, 1, 5], [4])]),
  (12, [(6, [5, 6, 27], [6])]),
  (13, [(4, [1, 5, 6, 7], [6]), (9, [1, 5, 6, 7, 9], [1, 5, 6, 7])]),
  (15, [(2, [0, 1, 5], [4])]),
  (17, [(2, [0, 3], [2]), (7, [0, 3, 4], [0, 2, 3])]),
  (18, [(5, [1, 2, 10, 11, 12], [10, 11])]),
  (19, [(2, [0, 3], [2])]),
  (20, [(2, [0, 3, 5], [4])]),
  (21, [(2, [0, 3, 5], [4])]),
  (22, [(2, [0, 3, 5], [0, 4])]),
  (26, [(3, [1, 5, 18, 19, 20], [1, 5]), (10, [5, 54, 55, 56], [5])]),
  (27, [(1, [0, 13], [0]), (6, [0, 13, 26, 27, 28], [0, 13])]),
  (28, [(2, [0, 2, 9, 10, 11], [0])]),
  (29, [(4, [0, 5, 7, 19, 20, 21], [0, 7])]),
  (33, [(4, [0, 1, 5, 6], [5]), (8, [0, 1, 5, 6, 7, 8], [0, 1, 5, 6, 7])]),
  (34, [(2, [0, 3, 5], [5])]),
  (35, [(2, [0, 1, 7, 8], [1, 4])]),
  (40, [(4, [0, 4, 5, 6], [4, 5])]),
  (41, [(4, [5, 6, 7], [6]), (14, [5, 6, 7, 10], [5, 6, 7])]),
  (42, [(2, [0, 3], [2])]),
  (43, [(2, [0, 3], [0, 2])]),
  (44, [(4, [0, 3], [2])]),
  (49, [(3, [0, 3, 6, 15, 16], [0, 4, 5])]),
  (50, [(3, [0, 3, 15], [0, 3])]),
  (53, [(2, [0, 1, 2, 3, 4, 10, 11], [4])]),
  (56, [(3, [0, 3, 4], [3])]),
  (57, [(2, [0, 4, 5, 7], [0, 6])]),
  (58, [(2, [0, 3, 5], [3, 4])]),
  (61, [(3, [0, 1, 5, 6], [5]), (7, [0, 1, 5, 6, 7, 8], [0, 1, 5, 6, 7]), (13, [0, 1, 5, 6, 9], [0, 1, 5, 6])]),
  (63, [(3, [0, 2, 4, 5], [0, 2, 3, 4])]),
  (64, [(4, [0, 3], [0, 3])]),
  (70, [(12, [0, 1, 5, 39, 40, 41], [0, 1, 5]), (22, [1, 8, 63, 64, 65], [8])]),
  (71, [(1, [0, 1, 2, 3, 8], [3]), (4, [0, 1, 2, 3, 8, 9], [0, 1, 2, 3, 8])]),
  (72, [(4, [0, 3, 8, 9, 10, 11], [0, 3, 8, 9, 10]), (8, [0, 3, 8, 9, 12], [3])]),
  (73, [(5, [0, 1, 3, 8, 9, 10, 11], [3])]),
  (75, [(2, [0, 3, 8, 9], [3])]),
  (76, [(3, [0, 1, 2, 3, 9, 10], [3, 8]), (5, [0, 1, 2, 3, 9, 10], [0, 1, 2, 3, 9, 10]), (14, [0, 1, 2, 3, 9, 10, 11], [0, 1, 2, 3, 9, 10]), (20, [0, 1, 2, 3, 9, 10, 12], [0, 1, 2, 3, 9, 10])]),
  (77, [(3, [0, 1, 4, 11, 12], [4, 11]), (3, [0, 1, 4, 11, 12], [0, 1, 4, 11, 12]), (5, [0, 1, 4, 11, 12], [0, 1, 4, 11, 12])]),
  (78, [(3, [0, 1, 4, 12, 13], [0, 1, 4, 12, 13]), (5, [0, 1, 4, 12, 13], [0, 1, 4, 12, 13]), (13, [0, 1, 4, 12, 13], [0, 1, 4, 13]), (13, [0, 1, 4, 12, 13], [0, 1, 4, 12, 13]), (15, [0, 1, 4, 12, 13], [0, 1, 4, 12, 13])]),
  (81, [(15, [0, 1, 5, 6, 7, 8, 9, 10], [4])]),
  (83, [(3, [0, 4, 5], [0, 4, 5])]),
  (84, [(1, [0, 1], [0])]),
  (85, [(1, [0, 1], [0])]),
  (86, [(2, [0, 2, 4], [2, 3])]),
  (87, [(1, [0, 1], [0, 1])]),
  (88, [(1, [0, 1], [0, 1])]),
  (89, [(1, [0, 1], [0])]),
  (90, [(1, [0, 1], [0])]),
  (91, [(2, [0, 1, 2, 3, 4, 10, 11], [4])]),
  (92, [(3, [3, 6, 7, 8], [2, 3])]),
  (99, [(1, [0, 2, 3, 4, 10], [4])]),
  (107, [(5, [0, 1, 5, 6, 7, 8, 9], [0, 1, 5, 6, 7, 8]), (11, [0, 1, 5, 6, 7, 8, 10], [4])]),
  (112, [(10, [0, 4, 5, 6], [0, 4, 5])]),
  (113, [(1, [0, 1, 2, 3, 8], [3]), (4, [0, 1, 2, 3, 8, 9], [0, 1, 2, 3, 8])]),
  (114, [(4, [0, 3, 8, 9, 10, 11], [0, 3, 8, 9, 10]), (8, [0, 3, 8, 9, 12], [3])]),
  (115, [(5, [0, 1, 3, 8, 9, 10, 11], [3])]),
  (117, [(2, [0, 3, 8, 9], [3])]),
  (118, [(3, [0, 1, 2, 3, 9, 10], [3, 8]), (5, [0, 1, 2, 3, 9, 10], [0, 1, 2, 3, 9, 10]), (14, [0, 1, 2, 3, 9, 10, 11], [0, 1, 2, 3, 9, 10]), (20, [0, 1, 2, 3, 9, 10, 12], [0, 1, 2, 3, 9, 10])]),
  (119, [(3, [0, 1, 4, 11, 12], [4, 11]), (3, [0, 1, 4, 11, 12], [0, 1, 4, 11, 12]), (5, [0, 1, 4, 11, 12], [0, 1, 4, 11, 12])]),
  (120, [(3, [0, 1, 4, 12, 13], [0, 1, 4, 12, 13]), (5, [0, 1, 4, 12, 13], [0, 1, 4, 12, 13]), (13, [0, 1, 4, 12, 13], [0, 1, 4, 13]), (13, [0, 1, 4, 12, 13], [0, 1, 4, 12, 13]), (15, [0, 1, 4, 12, 13], [0, 1, 4, 12, 13])]),
  (127, [(3, [0, 4, 5], [0, 4]), (8, [4, 6, 7, 8], [4, 6])]),
  (129, [(38, [175], [4]), (5, [0, 7, 8, 9], [4]), (12, [0, 7, 8, 9, 12], [8, 9]), (25, [0, 7, 8, 9, 14, 15], [4]), (29, [0, 7, 8, 9, 14, 15, 16], [0, 7, 8, 9, 14, 15])]),
  (131, [(1, [0, 2, 3, 4, 10], [4])]),
  (142, [(1, [0, 1, 4], [0, 1, 4])]),
  (143, [(11, [0, 1, 3, 4, 10, 11, 12, 13, 14, 15, 16], [0, 1, 3, 4, 10, 11, 12, 13]), (18, [0, 1, 3, 4, 10, 11, 12, 13, 17], [0, 1, 3, 4, 10, 11, 12, 13])])]
def clsTab : List (Nat × List (Nat × Nat)) := [(7, [(24, 1)]),
  (12, [(8, 1), (9, 1)]),
  (13, [(7, 1), (11, 1)]),
  (26, [(5, 1)]),
  (27, [(8, 1)]),
  (28, [(4, 1), (7, 1), (9, 1)]),
  (40, [(11, 1)]),
  (41, [(16, 1)]),
  (45, [(3, 1)]),
  (49, [(4, 1)]),
  (61, [(15, 1)]),
  (63, [(14, 1)]),
  (68, [(1, 1)]),
  (69, [(3, 1)]),
  (71, [(6, 1)]),
  (72, [(10, 1)]),
  (73, [(10, 1)]),
  (76, [(11, 1), (17, 1), (23, 1)]),
  (93, [(1, 1)]),
  (96, [(3, 1)]),
  (98, [(1, 1)]),
  (99, [(6, 1)]),
  (113, [(6, 1)]),
  (114, [(10, 1)]),
  (115, [(10, 1)]),
  (118, [(11, 1), (17, 1), (23, 1)]),
  (124, [(0, 1)]),
  (131, [(6, 1)]),
  (142, [(7, 1), (8, 1), (9, 1), (10, 1), (17, 1), (18, 1), (23, 1)])]

def xsB : List Nat := [95, 66, 70, 123, 98, 30, 67, 39]
def xsT : List Nat := xsB ++ [12]
/-- Functions whose nil slices stay nil. -/
def nilK : List Nat := []
def kpF (f id : Nat) : Option (List Nat × List Nat) := if Nat.beq id 999999 then (if memN f nilK then some ([], []) else none) else match lk kpTab f with | some l => lk l id | none => none
abbrev kp0 : Cfg := ⟨kpF, xsT, fun _ _ _ => none⟩
end Pi

/- The seat's told functions of the library. -/
namespace Pi
open Go Go.Proofs Go.RowKit

/-- What strconv.Atoi's number is. -/
def atoiV (l : List UInt8) : Int := match Lib.atoiAll l with | .ok v => v | .range => Lib.atoiSat l | _ => 0

def xItoa : TF
  | [.d (.int .i64 n)], [] => if -9223372036854775808 ≤ n ∧ n ≤ 9223372036854775807 then some (.d (.str (Lib.itoa n)), []) else none
  | _, _ => none
def xTrim : TF
  | [.d (.str s), .d (.str c)], [] => if s.length ≤ 9223372036854775807 ∧ c.length < 4294967281 ∧ c.all (fun b => decide (b.toNat < 128)) = true then some (.d (.str (Lib.trimS s c)), []) else none
  | _, _ => none
def xContains : TF
  | [.d (.str s), .d (.str [c])], [] => some (.d (.bool (decide (0 ≤ Lib.indexByte s c))), [])
  | _, _ => none
def strsOf : List D → Option (List (List UInt8))
  | [] => some []
  | .str s :: r => match strsOf r with | some l => some (s :: l) | none => none
  | _ => none
def xJoin : TF
  | [.d (.sl 1 es), .d (.str c)], [] => match strsOf es with
    | some l => if l.length ≤ 140737488355328 ∧ (Lib.join l c).length ≤ 140737488355328 then some (.d (.str (Lib.join l c)), []) else none
    | none => none
  | _, _ => none
noncomputable def xSortItem : TF := xSort Tryz.prog kp0 43
noncomputable def xSortId : TF := xSort Tryz.prog kp0 41
noncomputable def xL : List (Nat × TF) := [(95, xItoa), (66, xTrim), (70, xJoin), (123, xCheck), (98, xStr), (30, xSortItem), (67, xSortId), (39, xContains)]
noncomputable def xB : CF := xOf xL

/-- What is asked of the world in which all begins. -/
structure StW (w0 : World) : Prop where
  m : ∃ m, w0.cell? ⟨0, 0, none⟩ = some (.int .i64 m)
  tab : ∀ w : World, (∀ b, b < w0.heap.size → w.heap[b]? = w0.heap[b]?) → Lib.TabIs Tryz.prog w "internal/strconv.uint64pow10" .u64 Lib.pow10Tab
  u8 : Lib.Utf8Tabs 1 2 w0

theorem StW.zero {w0 : World} (h : StW w0) : StW { w0 with drawn := 0 } where
  m := h.m -- 0
  tab := h.tab -- 
  u8 := h.u8 -- 1 2

theorem below_grow (w : World) (k : Nat) (os : Array Go.Obj) : Below w.heap.size w (Go.Sort.grow (w.drewN k) os) :=
  ⟨rfl, rfl, rfl, by simp [Go.Sort.grow, World.drewN], fun b hb => by
    have hb' : b < (w.drewN k).heap.size := hb
    simp only [Go.Sort.grow]
    rw [Array.getElem?_append_left hb']
    rfl⟩
section
variable {w0 : World}
theorem strArg {F : Nat → Prop} {w : World} {G : Nat → Value} {R : List (Nat × En)} {v : Value} {s : List UInt8} (h : PRep F w G R v (.d (.str s))) : v = .string ⟨⟨s⟩⟩ := PRep.toV (p := .d (.str s)) h rfl

theorem xItoa_ok (hw : StW w0) : XOK Tryz.prog w0 95 xItoa := by
  intro h0 ps R p R1 h F G w vs hH hl hv
  have hz : ∀ b, b < w0.heap.size → w.heap[b]? = w0.heap[b]? := fun b hb => (hH.z b hb).2
  unfold xItoa at h
  split at h
  · rename_i n
    split at h
    · rename_i hn
      simp only [Option.some.injEq, Prod.mk.injEq] at h
      obtain ⟨rfl, rfl⟩ := h
      match vs, hl, hv with
      | [v], _, hv =>
        have hp := hv 0 v _ rfl rfl
        have e : v = .int .i64 n := PRep.toV (p := .d (.int .i64 n)) hp rfl
        subst e
        refine out_plain h0 hH (enters Tryz.func95 (by kernel_rfl) (by kernel_rfl) _ w) ?_
        exact (Tryz.strconv_Itoa n hn.1 hn.2 w (hw.tab w hz)).mono fun e w' ⟨he, k, os, hw'⟩ => ⟨_, he, by rw [hw']; exact below_grow _ _ _, fun F G => .d (.str _)⟩
    · cases h
  · cases h
theorem xTrim_ok : XOK Tryz.prog w0 66 xTrim := by
  intro h0 ps R p R1 h F G w vs hH hl hv
  unfold xTrim at h
  split at h
  · rename_i s c
    split at h
    · rename_i hc
      simp only [Option.some.injEq, Prod.mk.injEq] at h
      obtain ⟨rfl, rfl⟩ := h
      match vs, hl, hv with
      | [v, u], _, hv =>
        have e1 : v = .string ⟨⟨s⟩⟩ := strArg (hv 0 v _ rfl rfl)
        have e2 : u = .string ⟨⟨c⟩⟩ := strArg (hv 1 u _ rfl rfl)
        subst e1
        subst e2
        refine out_plain h0 hH (enters Tryz.func66 (by kernel_rfl) (by kernel_rfl) _ w) ?_
        exact (Go.Proofs.Any.strings_Trim_laid Tryz.lays160 (by kernel_rfl) ⟨⟨s⟩⟩ ⟨⟨c⟩⟩ w (by simpa [ByteArray.size] using hc.1) (by simpa [ByteArray.size] using hc.2.1) (Go.Proofs.ascii_of_all hc.2.2)).mono fun e w' ⟨he, hb⟩ => ⟨_, he, hb, fun F G => .d (.str _)⟩
    · cases h
  · cases h
theorem xContains_ok : XOK Tryz.prog w0 39 xContains := by
  intro h0 ps R p R1 h F G w vs hH hl hv
  unfold xContains at h
  split at h
  · rename_i s c
    simp only [Option.some.injEq, Prod.mk.injEq] at h
    obtain ⟨rfl, rfl⟩ := h
    match vs, hl, hv with
    | [v, u], _, hv =>
      have e1 : v = .string ⟨⟨s⟩⟩ := strArg (hv 0 v _ rfl rfl)
      have e2 : u = .string ⟨⟨[c]⟩⟩ := strArg (hv 1 u _ rfl rfl)
      subst e1
      subst e2
      refine out_plain h0 hH (enters Tryz.func39 (by kernel_rfl) (by kernel_rfl) _ w) ?_
      exact (Tryz.strings_Contains_one ⟨⟨s⟩⟩ c w).mono fun e w' ⟨he, hb⟩ => ⟨_, he, by rw [hb]; exact Below.refl _ _, fun F G => .d (.bool _)⟩
  · cases h
theorem strsOf_spec : ∀ (es : List D) (l : List (List UInt8)), strsOf es = some l → es = l.map D.str
  | [], l, h => by simp [strsOf] at h; subst h; rfl
  | x :: es, l, h => by
    cases x <;> try (simp [strsOf] at h; done)
    rename_i s
    simp only [strsOf] at h
    split at h
    · rename_i l' hl
      simp at h
      subst h
      rw [strsOf_spec es l' hl]
      rfl
    · cases h
theorem xJoin_ok : XOK Tryz.prog w0 70 xJoin := by
  intro h0 ps R p R1 h F G w vs hH hl hv
  unfold xJoin at h
  split at h
  · rename_i es c
    split at h
    · rename_i l hes
      have hes := strsOf_spec es l hes
      subst hes
      split at h
      · rename_i hc
        simp only [Option.some.injEq, Prod.mk.injEq] at h
        obtain ⟨rfl, rfl⟩ := h
        match vs, hl, hv with
        | [v, u], _, hv =>
          have h1 := hv 0 v _ rfl rfl
          have e2 : u = .string ⟨⟨c⟩⟩ := strArg (hv 1 u _ rfl rfl)
          subst e2
          refine out_plain h0 hH (enters Tryz.func70 (by kernel_rfl) (by kernel_rfl) _ w) ?_
          cases h1 with
          | d h1 =>
            generalize hes : l.map D.str = es at h1
            cases h1 with
            | slE a k cap =>
              have : l = [] := by simpa using hes
              subst this
              exact (Tryz.strings_Join_none a cap ⟨⟨c⟩⟩ w).mono fun e w' ⟨he, hb⟩ => ⟨_, he, hb ▸ Below.refl _ _, fun F G => .d (.str _)⟩
            | slN b off k cap es f hcap hb hk hcell hw hr =>
              subst hes
              have hj := Tryz.strings_Join b off cap (l.map fun x => ⟨⟨x⟩⟩) ⟨⟨c⟩⟩ w (fun j x hx => by
                rw [List.getElem?_map] at hx
                cases hi : l[j]? with
                | none => rw [hi] at hx; cases hx
                | some s =>
                  rw [hi] at hx
                  cases hx
                  have hjl : j < l.length := (List.getElem?_eq_some_iff.1 hi).1
                  rw [hw j (by simpa using hjl)]
                  have := hr j 0 (.str s) (.str s) (by rw [List.getElem?_map, hi]; rfl) rfl
                  simp only [Nat.mul_one, Nat.add_zero] at this
                  rw [this.toVc rfl]) (hH.bnd b hb) (by simpa using hc.1) (by simpa using hcap) (by simpa [Function.comp_def] using hc.2)
              simp only [List.length_map] at hj ⊢
              have e : (List.map (fun x => x.data.toList) (List.map (fun x => (⟨⟨x⟩⟩ : ByteArray)) l)) = l := by simp [Function.comp_def]
              rw [e] at hj
              exact hj.mono fun e w' ⟨he, hb⟩ => ⟨_, he, hb, fun F G => .d (.str _)⟩
      · cases h
    · cases h
  · cases h
set_option maxRecDepth 100000 in
theorem xSortItem_ok (w0 : World) : XOK Tryz.prog w0 30 xSortItem :=
  xSort_ok (kp := kp0) (fun w => noX_ok _ w) Tryz.sort30 (by kernel_rfl) (fun vs w => enters Tryz.func30 (by kernel_rfl) (by kernel_rfl) vs w) (ty := 43) (k := 6) (by kernel_rfl) (fun w => run_isAgg (d := _) (show Tryz.prog.underlying (Tryz.sort30_ren.t 24) = some _ from Tryz.underlying43) w) (run_sizeOf (by kernel_rfl)) w0
set_option maxRecDepth 100000 in
theorem xSortId_ok (w0 : World) : XOK Tryz.prog w0 67 xSortId :=
  xSort_ok (kp := kp0) (fun w => noX_ok _ w) Tryz.sort67 (by kernel_rfl) (fun vs w => enters Tryz.func67 (by kernel_rfl) (by kernel_rfl) vs w) (ty := 41) (k := 3) (by kernel_rfl) (fun w => run_isAgg (d := _) (show Tryz.prog.underlying (Tryz.sort67_ren.t 24) = some _ from Tryz.underlying41) w) (run_sizeOf (by kernel_rfl)) w0
theorem xB_ok {w1 : World} (hw1 : StW w1) : CFOK Tryz.prog { w1 with drawn := 0 } xB := by
  have hw := hw1.zero
  exact XAll.ok rfl (.cons (xItoa_ok hw) (.cons xTrim_ok (.cons xJoin_ok (.cons xCheck_ok (.cons xStr_ok (.cons (xSortItem_ok _) (.cons (xSortId_ok _) (.cons xContains_ok .nil))))))))
end
end Pi

/- The seat's runs. -/
namespace Pi
open Go Go.Proofs
set_option maxRecDepth 100000
/-- Told functions; those of the library are told as they are. -/
structure XF where
  cf : CF
  eq : ∀ f, memN f xsB = true → ∀ ps R, cf f ps R = xB f ps R
abbrev kpT (X : XF) : Cfg := ⟨kpF, xsT, X.cf⟩
def dcT (f id : Nat) : Nat := match lk clsTab f with | some l => (lk l id).getD 2 | none => 2
theorem dcOK : clsAll dcT 0 Tryz.prog.funcs.toList = true := by kernel_rfl
noncomputable abbrev PR := Tryz.prog
/-- A round of a loop. -/
noncomputable def roundL (H : List (FuncId × KF1)) (hk : List (Nat × (S → K (PX × S)))) (f id : Nat) (s : S) : K (PX × S) :=
  roundK (pexecK PR (runK PR kp0 dcT H 60 60) (kpF f) hk (dcT f) 60 (loopOf PR f id)) (kpF f id) s
/-- A function's body. -/
noncomputable def bodyF (H : List (FuncId × KF1)) (hk : List (Nat × (S → K (PX × S)))) (f : Nat) (ps : List P) (R : List (Nat × En)) : K (P × List (Nat × En)) :=
  bodyK PR (runK PR kp0 dcT H 60 60) kp0 hk dcT 60 f ps R
/-- What a function does. -/
def FD (X : XF) (f : Nat) (h : KF1) : Prop := FOK PR (kpT X) f h
def HD (X : XF) (H : List (FuncId × KF1)) : Prop := HOK PR (kpT X) H
/-- What a function's loop does. -/
def LD (X : XF) (f id : Nat) (g : S → K (PX × S)) : Prop := ∀ s, KW (g s) (fun x => Ev fun a b => ploop (pexec PR (runF PR (kpT X) a b) (kpF f) a (loopOf PR f id)) (kpF f id) a s = some x)
theorem HD.nil {X : XF} : HD X [] := HOK.nil
theorem HD.cons {X : XF} {f : Nat} {h : KF1} {H : List (FuncId × KF1)} (hf : FD X f h) (hH : HD X H) : HD X ((f, h) :: H) := HOK.cons hf hH
inductive LDs (X : XF) (f : Nat) : List (Nat × (S → K (PX × S))) → Prop
  | nil : LDs X f []
  | cons {id : Nat} {g : S → K (PX × S)} {r : List (Nat × (S → K (PX × S)))} (h : LD X f id g) (hr : LDs X f r) : LDs X f ((id, g) :: r)
theorem LDs.get {X : XF} {f : Nat} {hk : List (Nat × (S → K (PX × S)))} (h : LDs X f hk) : ∀ id g, lk hk id = some g → LD X f id g := by
  induction h with
  | nil => exact noLoops
  | cons h hr ih => exact oneLoop h ih
theorem FD.mk {X : XF} {H : List (FuncId × KF1)} {hk : List (Nat × (S → K (PX × S)))} {f : Nat} {h : KF1} (hu : uniq PR f = true) (hH : HD X H) (hl : LDs X f hk) (hb : ∀ ps R post, h ps R post → bodyF H hk f ps R post) : FD X f h :=
  FOK.mk dcOK hH hu hl.get (fun ps R post hp => by
    have := hb ps R post hp
    unfold bodyF at this
    rw [runK_X PR kpF xsT _ X.cf dcT H 60 60] at this
    exact this)
/-- By parameters: a head, what is asked, what comes out. -/
theorem LD.par {X : XF} {H : List (FuncId × KF1)} {hk : List (Nat × (S → K (PX × S)))} {f id : Nat} {g : S → K (PX × S)} (hu : uniq PR f = true) (hc : clsOK (dcT f) (loopOf PR f id) = true) (hH : HD X H) (hl : LDs X f hk)
    {A B : Type} (hd : A → B → S) (Inv : A → B → Prop) (mu : A → B → Nat) (Out : A → PX × S → Prop)
    (hr : ∀ a b, Inv a b → roundL H hk f id (hd a b) (roundPost (mu a b) (fun m s => ∃ b', s = hd a b' ∧ Inv a b' ∧ m = mu a b') (Out a)))
    (hg : ∀ s post, g s post → ∃ a b, s = hd a b ∧ Inv a b ∧ ∀ x, Out a x → post x) : LD X f id (loopHook (kpF f id) g) := by
  refine loopHook_ok fun s0 post hp => ?_
  obtain ⟨a, b, rfl, h1, h2⟩ := hg s0 post hp
  obtain ⟨x, g1, g2⟩ := loop_ok (keep := kpF f id) (kp1 := kpF f) (O := Out a) dcOK hH hc (fun d hd h hh => by
    have := hl.get _ _ hh
    unfold LD at this
    rwa [loopOf_in hu hd] at this) (I := fun m s => ∃ b', s = hd a b' ∧ Inv a b' ∧ m = mu a b') (fun n s hs => by
      obtain ⟨b', rfl, h3, rfl⟩ := hs
      have := hr a b' h3
      unfold roundL at this
      rw [runK_X PR kpF xsT _ X.cf dcT H 60 60] at this
      exact this) (mu a b) (hd a b) ⟨b, rfl, h1, rfl⟩
  exact ⟨x, g2, h2 x g1⟩
theorem FD.weaken {X : XF} {f : Nat} {h1 h2 : KF1} (h : FD X f h1) (hw : ∀ ps R post, h2 ps R post → h1 ps R post) : FD X f h2 := fun ps R post hp => h ps R post (hw ps R post hp)
/-- A told function of the library. -/
theorem FD.ofX {X : XF} {f : Nat} {fn : Func} {h : KF1} (hfn : PR.funcs[f]? = some fn) (hx : memN f xsT = true) (hx2 : memN f xsB = true) (hb : ∀ ps R post, h ps R post → ∃ x, xB f ps R = some x ∧ post x) : FD X f h :=
  FOK.ofX hfn hx fun ps R post hp => by
    obtain ⟨x, h1, h2⟩ := hb ps R post hp
    exact ⟨x, by rw [← h1]; exact X.eq f hx2 ps R, h2⟩
/-- A run, of what a function does. -/
theorem FD.run {X : XF} {f : Nat} {h : KF1} (hf : FD X f h) {ps : List P} {R : List (Nat × En)} {y : P × List (Nat × En)} (hp : h ps R (fun x => x = y)) : ∃ lf k, runF PR (kpT X) lf k f ps R = some y := by
  obtain ⟨x, h1, h2⟩ := hf ps R _ hp
  subst h2
  exact h1.some
/-- Functions that rest on no told ones. -/
def FC (f : Nat) (h : KF1) : Prop := FOK PR kp0 f h
def HC (H : List (FuncId × KF1)) : Prop := HOK PR kp0 H
theorem HC.nil : HC [] := HOK.nil
theorem HC.cons {f : Nat} {h : KF1} {H : List (FuncId × KF1)} (hf : FC f h) (hH : HC H) : HC ((f, h) :: H) := HOK.cons hf hH
theorem FC.mk {H : List (FuncId × KF1)} {f : Nat} {h : KF1} (hu : uniq PR f = true) (hH : HC H) (hb : ∀ ps R post, h ps R post → bodyF H [] f ps R post) : FC f h :=
  FOK.mk dcOK hH hu noLoops hb
noncomputable def xBase : XF := ⟨xB, fun _ _ _ _ => rfl⟩
end Pi

/- Stamp: vectors, plain laws. -/
namespace Pi

/-- How many numbers are left when the noughts at the end go: of the first k. -/
def pln (l : List Int) : Nat → Nat
  | 0 => 0
  | k + 1 => if l.getD k 0 = 0 then pln l k else k + 1
def plainV (l : List Int) : List Int := l.take (pln l l.length)
def rowV (n : Nat) (f : Nat → Int) : List Int := (List.range n).map f
@[simp] theorem rowV_len (n : Nat) (f : Nat → Int) : (rowV n f).length = n := by simp [rowV]
theorem pln_le (l : List Int) : ∀ k, pln l k ≤ k
  | 0 => Nat.le_refl 0
  | k + 1 => by
    have := pln_le l k
    unfold pln
    split <;> omega
@[simp] theorem plainV_len (l : List Int) : (plainV l).length = pln l l.length := by
  have := pln_le l l.length
  simp [plainV]; omega
theorem rowV_get (n : Nat) (f : Nat → Int) (i : Nat) : (rowV n f).getD i 0 = if i < n then f i else 0 := by
  simp only [rowV, List.getD_eq_getElem?_getD, List.getElem?_map]
  split
  · rename_i h; simp [h]
  · rename_i h; simp [h]
theorem ext_get {a b : List Int} (hl : a.length = b.length) (h : ∀ i, a.getD i 0 = b.getD i 0) : a = b := by
  apply List.ext_getElem hl
  intro i h1 h2
  have := h i
  simpa [List.getD_eq_getElem?_getD, h1, h2] using this
theorem getD_ge {v : List Int} {i : Nat} (h : v.length ≤ i) : v.getD i 0 = 0 := by
  simp [List.getD_eq_getElem?_getD, List.getElem?_eq_none h]
end Pi

/- Stamp: what the runs of its small functions ask. -/
namespace Pi
open Go Go.Proofs
set_option maxRecDepth 100000
set_option maxHeartbeats 0
abbrev idD (t r i : Int) : D := .agg [.int .i64 t, .int .i64 r, .int .i64 i]
abbrev stD (t r : Int) : D := .agg [.int .i64 t, .int .i64 r]
def rightId (t r i : Int) : Bool := decide (1 ≤ t ∧ t ≤ 1099511627776 ∧ 1 ≤ r ∧ r ≤ 16 ∧ 0 ≤ i ∧ i ≤ 400000)
theorem vcRightId (t r i : Int) (post : P × List (Nat × En) → Prop) : (bif decide (t ≥ (1 : Int)) then bif decide (t ≤ (1099511627776 : Int)) then bif decide (r ≥ (1 : Int)) then bif decide (r ≤ (16 : Int)) then bif decide (i ≥ (0 : Int)) then post (P.d (D.bool (decide (i ≤ (400000 : Int)))), []) else post (P.d (D.bool false), []) else post (P.d (D.bool false), []) else post (P.d (D.bool false), []) else post (P.d (D.bool false), []) else post (P.d (D.bool false), [])) = (bodyF [] [] 47 [.d (idD t r i)] []) post := by kernel_rfl
theorem vcRightIdR (t r i : Int) (post : P × List (Nat × En) → Prop) : (bif decide (t ≥ (1 : Int)) then bif decide (t ≤ (1099511627776 : Int)) then bif decide (r ≥ (1 : Int)) then bif decide (r ≤ (16 : Int)) then bif decide (i ≥ (0 : Int)) then post (P.d (D.bool (decide (i ≤ (400000 : Int)))), []) else post (P.d (D.bool false), []) else post (P.d (D.bool false), []) else post (P.d (D.bool false), []) else post (P.d (D.bool false), []) else post (P.d (D.bool false), [])) = (bodyF [] [] 25 [.d (idD t r i)] []) post := by kernel_rfl
def hRightId : KF1 := fun ps R post => ∃ t r i, ps = [.d (idD t r i)] ∧ R = [] ∧ post (.d (.bool (rightId t r i)), [])
def numD (l : List Int) : List D := l.map (D.int .i64)
end Pi

/- Stamp: the small functions. -/
namespace Pi
open Go Go.Proofs
set_option maxRecDepth 100000
variable {X : XF}
theorem leafB {post : P × List (Nat × En) → Prop} {a b : Bool} {R : List (Nat × En)} (hp : post (P.d (D.bool a), R)) (h : a = b) : post (P.d (D.bool b), R) := h ▸ hp
theorem okRightId : FD X 47 hRightId := FD.mk (H := []) (by kernel_rfl) .nil .nil (by
  intro ps R post hh
  obtain ⟨t, r, i, rfl, rfl, hp⟩ := hh
  rw [← vcRightId]
  repeat' (first | refine condI (fun _ => ?_) (fun _ => ?_))
  all_goals exact leafB hp (by simp only [decide_eq_true_eq, decide_eq_false_iff_not, decide_eq_decide, rightId] at *; omega))
theorem okRightIdR : FD X 25 hRightId := FD.mk (H := []) (by kernel_rfl) .nil .nil (by
  intro ps R post hh
  obtain ⟨t, r, i, rfl, rfl, hp⟩ := hh
  rw [← vcRightIdR]
  repeat' (first | refine condI (fun _ => ?_) (fun _ => ?_))
  all_goals exact leafB hp (by simp only [decide_eq_true_eq, decide_eq_false_iff_not, decide_eq_decide, rightId] at *; omega))
@[simp] theorem numD_len (l : List Int) : (numD l).length = l.length := by simp [numD]
theorem numD_nth {l : List Int} {i : Nat} (h : i < l.length) : D.nth (numD l) i = .int .i64 (l.getD i 0) := by
  simp [D.nth, numD, h]
end Pi

/- Tree: comparing: what the runs ask. -/
namespace Pi
open Go Go.Proofs
set_option maxRecDepth 100000
set_option maxHeartbeats 0
def cmpI (x y : Int) : Int := if x < y then -1 else if x > y then 1 else 0
def orI (x y : Int) : Int := if x ≠ 0 then x else y
def cmpS (t r t' r' : Int) : Int := orI (cmpI t t') (cmpI r r')
def cmpId (t r i t' r' i' : Int) : Int := orI (cmpS t r t' r') (cmpI i i')
def befS (t r t' r' : Int) : Bool := decide (t < t' ∨ t = t' ∧ r < r')
abbrev itD (t r i : Int) (p : List UInt8) (d b : Bool) : D := .agg [.int .i64 t, .int .i64 r, .int .i64 i, .str p, .bool d, .bool b]
theorem vcCompare (x y : Int) (post : P × List (Nat × En) → Prop) : (bif x != x then bif y != y then post (P.d (D.int IntKind.i64 (0 : Int)), []) else post (P.d (D.int IntKind.i64 (-1 : Int)), []) else bif y != y then post (P.d (D.int IntKind.i64 (1 : Int)), []) else bif decide (x < y) then post (P.d (D.int IntKind.i64 (-1 : Int)), []) else bif decide (x > y) then post (P.d (D.int IntKind.i64 (1 : Int)), []) else post (P.d (D.int IntKind.i64 (0 : Int)), [])) = (bodyF [] [] 94 [.d (.int .i64 x), .d (.int .i64 y)] []) post := by kernel_rfl
theorem vcCompareS (x y : List UInt8) (post : P × List (Nat × En) → Prop) : (bif !x == x then bif !y == y then post (P.d (D.int IntKind.i64 (0 : Int)), []) else post (P.d (D.int IntKind.i64 (-1 : Int)), []) else bif !y == y then post (P.d (D.int IntKind.i64 (1 : Int)), []) else bif Op.bytesLess x y then post (P.d (D.int IntKind.i64 (-1 : Int)), []) else bif !(Op.bytesLess x y || x == y) then post (P.d (D.int IntKind.i64 (1 : Int)), []) else post (P.d (D.int IntKind.i64 (0 : Int)), [])) = (bodyF [] [] 32 [.d (.str x), .d (.str y)] []) post := by kernel_rfl
theorem vcOr (x y : Int) (post : P × List (Nat × En) → Prop) : (bif D.iVal (D.nth [D.int IntKind.i64 x, D.int IntKind.i64 y] 0) != (0 : Int) then post (P.d (D.int IntKind.i64 (D.iVal (D.nth [D.int IntKind.i64 x, D.int IntKind.i64 y] 0))), []) else bif D.iVal (D.nth [D.int IntKind.i64 x, D.int IntKind.i64 y] 1) != (0 : Int) then post (P.d (D.int IntKind.i64 (D.iVal (D.nth [D.int IntKind.i64 x, D.int IntKind.i64 y] 1))), []) else post (P.d (D.int IntKind.i64 (0 : Int)), [])) = (bodyF [] [] 92 [.d (.sl 1 [.int .i64 x, .int .i64 y])] []) post := by kernel_rfl
theorem vcBefore (t r t' r' : Int) (post : P × List (Nat × En) → Prop) : (bif decide (t < t') then post (P.d (D.bool true), []) else bif t == t' then post (P.d (D.bool (decide (r < r'))), []) else post (P.d (D.bool false), [])) = (bodyF [] [] 108 [.d (stD t r), .d (stD t' r')] []) post := by kernel_rfl
def hCompare : KF1 := fun ps R post => ∃ x y, ps = [.d (.int .i64 x), .d (.int .i64 y)] ∧ R = [] ∧ post (.d (.int .i64 (cmpI x y)), [])
def hOr : KF1 := fun ps R post => ∃ x y, ps = [.d (.sl 1 [.int .i64 x, .int .i64 y])] ∧ R = [] ∧ post (.d (.int .i64 (orI x y)), [])
def hBefore : KF1 := fun ps R post => ∃ t r t' r', ps = [.d (stD t r), .d (stD t' r')] ∧ R = [] ∧ post (.d (.bool (befS t r t' r')), [])
def hCmp : KF1 := fun ps R post => ∃ t r t' r', ps = [.d (stD t r), .d (stD t' r')] ∧ R = [] ∧ post (.d (.int .i64 (cmpS t r t' r')), [])
def hCmpId : KF1 := fun ps R post => ∃ t r i t' r' i', ps = [.d (idD t r i), .d (idD t' r' i')] ∧ R = [] ∧ post (.d (.int .i64 (cmpId t r i t' r' i')), [])
theorem vcCmp (t r t' r' : Int) (post : P × List (Nat × En) → Prop) : (∃ (x : Int), ∃ (y : Int), [P.d (D.int IntKind.i64 t), P.d (D.int IntKind.i64 t')] = [P.d (D.int IntKind.i64 x), P.d (D.int IntKind.i64 y)] ∧ EqR [] [] ∧ ∃ (x_1 : Int), ∃ (y_1 : Int), [P.d (D.int IntKind.i64 r), P.d (D.int IntKind.i64 r')] = [P.d (D.int IntKind.i64 x_1), P.d (D.int IntKind.i64 y_1)] ∧ EqR [] [] ∧ ∃ (x_2 : Int), ∃ (y_2 : Int), [P.d (D.sl 1 [D.int IntKind.i64 (cmpI x y), D.int IntKind.i64 (cmpI x_1 y_1)])] = [P.d (D.sl 1 [D.int IntKind.i64 x_2, D.int IntKind.i64 y_2])] ∧ EqR [] [] ∧ post (P.d (D.int IntKind.i64 (orI x_2 y_2)), [])) = (bodyF [(94, hCompare), (92, hOr)] [] 93 [.d (stD t r), .d (stD t' r')] []) post := by kernel_rfl
theorem vcCmpR (t r t' r' : Int) (post : P × List (Nat × En) → Prop) : (∃ (t_1 : Int), ∃ (r_1 : Int), ∃ (t'_1 : Int), ∃ (r'_1 : Int), [P.d (D.agg [D.int IntKind.i64 t, D.int IntKind.i64 r]), P.d (D.agg [D.int IntKind.i64 t', D.int IntKind.i64 r'])] = [P.d (D.agg [D.int IntKind.i64 t_1, D.int IntKind.i64 r_1]), P.d (D.agg [D.int IntKind.i64 t'_1, D.int IntKind.i64 r'_1])] ∧ EqR [] [] ∧ bif befS t_1 r_1 t'_1 r'_1 then post (P.d (D.int IntKind.i64 (-1 : Int)), []) else ∃ (t_2 : Int), ∃ (r_2 : Int), ∃ (t'_2 : Int), ∃ (r'_2 : Int), [P.d (D.agg [D.int IntKind.i64 t', D.int IntKind.i64 r']), P.d (D.agg [D.int IntKind.i64 t, D.int IntKind.i64 r])] = [P.d (D.agg [D.int IntKind.i64 t_2, D.int IntKind.i64 r_2]), P.d (D.agg [D.int IntKind.i64 t'_2, D.int IntKind.i64 r'_2])] ∧ EqR [] [] ∧ bif befS t_2 r_2 t'_2 r'_2 then post (P.d (D.int IntKind.i64 (1 : Int)), []) else post (P.d (D.int IntKind.i64 (0 : Int)), [])) = (bodyF [(108, hBefore)] [] 82 [.d (stD t r), .d (stD t' r')] []) post := by kernel_rfl
theorem vcCmpId (t r i t' r' i' : Int) (post : P × List (Nat × En) → Prop) : (∃ (t_1 : Int), ∃ (r_1 : Int), ∃ (t'_1 : Int), ∃ (r'_1 : Int), [P.d (D.agg [D.int IntKind.i64 t, D.int IntKind.i64 r]), P.d (D.agg [D.int IntKind.i64 t', D.int IntKind.i64 r'])] = [P.d (D.agg [D.int IntKind.i64 t_1, D.int IntKind.i64 r_1]), P.d (D.agg [D.int IntKind.i64 t'_1, D.int IntKind.i64 r'_1])] ∧ EqR [] [] ∧ ∃ (x : Int), ∃ (y : Int), [P.d (D.int IntKind.i64 i), P.d (D.int IntKind.i64 i')] = [P.d (D.int IntKind.i64 x), P.d (D.int IntKind.i64 y)] ∧ EqR [] [] ∧ ∃ (x_1 : Int), ∃ (y_1 : Int), [P.d (D.sl 1 [D.int IntKind.i64 (cmpS t_1 r_1 t'_1 r'_1), D.int IntKind.i64 (cmpI x y)])] = [P.d (D.sl 1 [D.int IntKind.i64 x_1, D.int IntKind.i64 y_1])] ∧ EqR [] [] ∧ post (P.d (D.int IntKind.i64 (orI x_1 y_1)), [])) = (bodyF [(94, hCompare), (92, hOr), (93, hCmp)] [] 68 [.d (idD t r i), .d (idD t' r' i')] []) post := by kernel_rfl
theorem vcCmpIdR (t r i t' r' i' : Int) (post : P × List (Nat × En) → Prop) : (∃ (t_1 : Int), ∃ (r_1 : Int), ∃ (t'_1 : Int), ∃ (r'_1 : Int), [P.d (D.agg [D.int IntKind.i64 t, D.int IntKind.i64 r]), P.d (D.agg [D.int IntKind.i64 t', D.int IntKind.i64 r'])] = [P.d (D.agg [D.int IntKind.i64 t_1, D.int IntKind.i64 r_1]), P.d (D.agg [D.int IntKind.i64 t'_1, D.int IntKind.i64 r'_1])] ∧ EqR [] [] ∧ bif cmpS t_1 r_1 t'_1 r'_1 != (0 : Int) then post (P.d (D.int IntKind.i64 (cmpS t_1 r_1 t'_1 r'_1)), []) else bif decide (i < i') then post (P.d (D.int IntKind.i64 (-1 : Int)), []) else bif decide (i > i') then post (P.d (D.int IntKind.i64 (1 : Int)), []) else post (P.d (D.int IntKind.i64 (0 : Int)), [])) = (bodyF [(82, hCmp)] [] 62 [.d (idD t r i), .d (idD t' r' i')] []) post := by kernel_rfl
end Pi

/- Tree: comparing. -/
namespace Pi
open Go Go.Proofs
set_option maxRecDepth 100000
theorem leafIc {post : P × List (Nat × En) → Prop} {k : IntKind} {a b : Int} {R : List (Nat × En)} (hp : post (P.d (D.int k a), R)) (h : a = b) : post (P.d (D.int k b), R) := h ▸ hp
theorem leafBc {post : P × List (Nat × En) → Prop} {a b : Bool} {R : List (Nat × En)} (hp : post (P.d (D.bool a), R)) (h : a = b) : post (P.d (D.bool b), R) := h ▸ hp
theorem bne_self_i (x : Int) : (x != x) = false := by simp
theorem bCompare : ∀ ps R post, hCompare ps R post → bodyF [] [] 94 ps R post := by
  intro ps R post hh
  obtain ⟨x, y, rfl, rfl, hp⟩ := hh
  rw [← vcCompare]
  refine condF (bne_self_i x) (condF (bne_self_i y) ?_)
  refine condI (fun h => ?_) fun h => condI (fun h' => ?_) fun h' => ?_
  · exact leafIc hp (by have h : x < y := by simpa using h
                        simp [cmpI, h])
  · exact leafIc hp (by have h : ¬ x < y := by simpa using h
                        have h' : x > y := by simpa using h'
                        simp [cmpI, h, h'])
  · exact leafIc hp (by have h : ¬ x < y := by simpa using h
                        have h' : ¬ x > y := by simpa using h'
                        simp [cmpI, h, h'])
def cmpB (x y : List UInt8) : Int := if Op.bytesLess x y = true then -1 else if x = y then 0 else 1
def hCompareS : KF1 := fun ps R post => ∃ x y, ps = [.d (.str x), .d (.str y)] ∧ R = [] ∧ post (.d (.int .i64 (cmpB x y)), [])
theorem bCompareS : ∀ ps R post, hCompareS ps R post → bodyF [] [] 32 ps R post := by
  intro ps R post hh
  obtain ⟨x, y, rfl, rfl, hp⟩ := hh
  rw [← vcCompareS]
  refine condF (by simp) (condF (by simp) ?_)
  refine condI (fun h => ?_) fun h => condI (fun h' => ?_) fun h' => ?_
  · exact leafIc hp (by simp [cmpB, h])
  · exact leafIc hp (by
      have h' : ¬ x = y := by simp [h] at h'; simpa using h'
      simp [cmpB, h, h'])
  · exact leafIc hp (by
      have h' : x = y := by simp [h] at h'; simpa using h'
      subst h'
      simp [cmpB, h])
theorem bOr : ∀ ps R post, hOr ps R post → bodyF [] [] 92 ps R post := by
  intro ps R post hh
  obtain ⟨x, y, rfl, rfl, hp⟩ := hh
  rw [← vcOr]
  refine condI (fun h => ?_) fun h => condI (fun h' => ?_) fun h' => ?_
  · exact leafIc hp (by have h : x ≠ 0 := by simpa [D.nth, D.iVal] using h
                        simp [orI, h, D.nth, D.iVal])
  · exact leafIc hp (by have h : x = 0 := by simpa [D.nth, D.iVal] using h
                        simp [orI, h, D.nth, D.iVal])
  · exact leafIc hp (by have h : x = 0 := by simpa [D.nth, D.iVal] using h
                        have h' : y = 0 := by simpa [D.nth, D.iVal] using h'
                        simp [orI, h, h'])
theorem bBefore : ∀ ps R post, hBefore ps R post → bodyF [] [] 108 ps R post := by
  intro ps R post hh
  obtain ⟨t, r, t', r', rfl, rfl, hp⟩ := hh
  rw [← vcBefore]
  refine condI (fun h => ?_) fun h => condI (fun h' => ?_) fun h' => ?_
  · exact leafBc hp (by have h : t < t' := by simpa using h
                        simp [befS, h])
  · exact leafBc hp (by have h' : t = t' := by simpa using h'
                        simp [befS, h'])
  · exact leafBc hp (by have h : ¬ t < t' := by simpa using h
                        have h' : ¬ t = t' := by simpa using h'
                        simp [befS, h']; omega)
theorem bCmp : ∀ ps R post, hCmp ps R post → bodyF [(94, hCompare), (92, hOr)] [] 93 ps R post := by
  intro ps R post hh
  obtain ⟨t, r, t', r', rfl, rfl, hp⟩ := hh
  rw [← vcCmp]
  exact ⟨_, _, rfl, rfl, _, _, rfl, rfl, _, _, rfl, rfl, hp⟩
theorem bCmpId : ∀ ps R post, hCmpId ps R post → bodyF [(94, hCompare), (92, hOr), (93, hCmp)] [] 68 ps R post := by
  intro ps R post hh
  obtain ⟨t, r, i, t', r', i', rfl, rfl, hp⟩ := hh
  rw [← vcCmpId]
  exact ⟨_, _, _, _, rfl, rfl, _, _, rfl, rfl, _, _, rfl, rfl, hp⟩
section
variable {X : XF}
theorem okBefore : FD X 108 hBefore := FD.mk (H := []) (by kernel_rfl) .nil .nil bBefore
theorem okCmpR : FD X 82 hCmp := FD.mk (H := [(108, hBefore)]) (by kernel_rfl) (.cons okBefore .nil) .nil (by
  intro ps R post hh
  obtain ⟨t, r, t', r', rfl, rfl, hp⟩ := hh
  rw [← vcCmpR]
  refine ⟨_, _, _, _, rfl, rfl, condI (fun h => ?_) fun h => ⟨_, _, _, _, rfl, rfl, condI (fun h' => ?_) fun h' => ?_⟩⟩
  all_goals exact leafIc hp (by simp only [befS, decide_eq_true_eq, decide_eq_false_iff_not] at *; simp only [cmpS, orI, cmpI]; (repeat' split) <;> omega))
theorem okCmpIdR : FD X 62 hCmpId := FD.mk (H := [(82, hCmp)]) (by kernel_rfl) (.cons okCmpR .nil) .nil (by
  intro ps R post hh
  obtain ⟨t, r, i, t', r', i', rfl, rfl, hp⟩ := hh
  rw [← vcCmpIdR]
  refine ⟨_, _, _, _, rfl, rfl, condI (fun h => ?_) fun h => condI (fun h' => ?_) fun h' => condI (fun h'' => ?_) fun h'' => ?_⟩
  all_goals exact leafIc hp (by simp only [bne_iff_ne, bne_eq_false_iff_eq, ne_eq, decide_eq_true_eq, decide_eq_false_iff_not] at *; simp only [cmpId, orI, cmpI]; (repeat' split) <;> omega))
end
theorem fcCompare : FC 94 hCompare := FC.mk (H := []) (by kernel_rfl) .nil bCompare
theorem fcCompareS : FC 32 hCompareS := FC.mk (H := []) (by kernel_rfl) .nil bCompareS
theorem fcOr : FC 92 hOr := FC.mk (H := []) (by kernel_rfl) .nil bOr
theorem fcCmp : FC 93 hCmp := FC.mk (H := [(94, hCompare), (92, hOr)]) (by kernel_rfl) (.cons fcCompare (.cons fcOr .nil)) bCmp
theorem fcCmpId : FC 68 hCmpId := FC.mk (H := [(94, hCompare), (92, hOr), (93, hCmp)]) (by kernel_rfl) (.cons fcCompare (.cons fcOr (.cons fcCmp .nil))) bCmpId
/-- A comparing function's answer. -/
theorem FC.cmps {g : Nat} {h : KF1} (hf : FC g h) {x y : D} {i : Int} (hp : h [.d x, .d y] [] (fun z => z = (.d (.int .i64 i), []))) : Cmps PR kp0 g x y i := by
  obtain ⟨z, h1, h2⟩ := hf _ _ _ hp
  subst h2
  exact h1
end Pi

/- Stamp: the loops: what their rounds ask. -/
namespace Pi
open Go Go.Proofs
set_option maxRecDepth 100000
set_option maxHeartbeats 0
abbrev iD (n : Int) : P := .d (.int .i64 n)
end Pi

/- Stamp: the loops. -/
namespace Pi
open Go Go.Proofs
set_option maxRecDepth 100000
variable {X : XF}
theorem incI {k : Int} (h0 : -9223372036854775808 ≤ k) (h1 : k < 9223372036854775807) : decide ((-9223372036854775808 : Int) ≤ k + (1 : Int) ∧ k + (1 : Int) ≤ (9223372036854775807 : Int)) = true := by simp; omega
theorem decT {p : Prop} [Decidable p] (h : p) : decide p = true := by simpa using h
theorem decF {p : Prop} [Decidable p] (h : ¬ p) : decide p = false := by simpa using h
/-- A branch on a proposition. -/
theorem condP {p : Prop} [Decidable p] {A B : Prop} (h1 : p → A) (h2 : ¬ p → B) : cond (decide p) A B := condI (fun h => h1 (by simpa using h)) (fun h => h2 (by simpa using h))
theorem oblP {p : Prop} [Decidable p] {A : Prop} (h1 : p) (h2 : A) : cond (decide p) A False := oblI (by simpa using h1) h2
theorem condE {a b : Int} {A B : Prop} (h1 : a = b → A) (h2 : a ≠ b → B) : cond (a == b) A B := condI (fun h => h1 (by simpa using h)) (fun h => h2 (by simpa using h))
theorem condN {a b : Int} {A B : Prop} (h1 : a ≠ b → A) (h2 : a = b → B) : cond (a != b) A B := condI (fun h => h1 (by simpa using h)) (fun h => h2 (by simpa using h))
end Pi

/- Stamp: the loops that make rows. -/
namespace Pi
open Go Go.Proofs
set_option maxRecDepth 100000
variable {X : XF}
/-- The first k of a row are told. -/
def Upto (f : Nat → Int) (k : Nat) (o : List Int) : Prop := ∀ i, i < k → o.getD i 0 = f i
theorem Upto.set {f : Nat → Int} {k : Nat} {o : List Int} (h : Upto f k o) (hk : k < o.length) : Upto f (k + 1) (o.set k (f k)) := fun i hi => by
  by_cases e : i = k
  · subst e; simp [List.getD_eq_getElem?_getD, hk]
  · have := h i (by omega)
    simpa [List.getD_eq_getElem?_getD, List.getElem?_set, Ne.symm e] using this
theorem Upto.all {f : Nat → Int} {o : List Int} (h : Upto f o.length o) : o = rowV o.length f := ext_get (by simp) fun i => by
  rw [rowV_get]
  split
  · exact h i (by assumption)
  · exact getD_ge (by omega)
end Pi

/- Stamp: texts: what the runs ask. -/
namespace Pi
open Go Go.Proofs
set_option maxRecDepth 100000
set_option maxHeartbeats 0
def hItoa : KF1 := fun ps R post => ∃ n, ps = [.d (.int .i64 n)] ∧ R = [] ∧ (-9223372036854775808 ≤ n ∧ n ≤ 9223372036854775807) ∧ post (.d (.str (Lib.itoa n)), [])
def textS (t r i : Int) : List UInt8 := Lib.itoa t ++ [46] ++ Lib.itoa r ++ [46] ++ Lib.itoa i
def textId (t r i : Int) : List UInt8 := if rightId t r i = true then textS t r i else []
def hText : KF1 := fun ps R post => ∃ t r i, ps = [.d (idD t r i)] ∧ R = [] ∧ post (.d (.str (textId t r i)), [])
theorem vcText (t r i : Int) (post : P × List (Nat × En) → Prop) : (∃ (t_1 : Int), ∃ (r_1 : Int), ∃ (i_1 : Int), [P.d (D.agg [D.int IntKind.i64 t, D.int IntKind.i64 r, D.int IntKind.i64 i])] = [P.d (D.agg [D.int IntKind.i64 t_1, D.int IntKind.i64 r_1, D.int IntKind.i64 i_1])] ∧ EqR [] [] ∧ bif !rightId t_1 r_1 i_1 then post (P.d (D.str []), []) else ∃ (n : Int), [P.d (D.int IntKind.i64 t)] = [P.d (D.int IntKind.i64 n)] ∧ EqR [] [] ∧ ((-9223372036854775808 : Int) ≤ n ∧ n ≤ (9223372036854775807 : Int)) ∧ bif decide (List.length (Lib.itoa n) + 1 ≤ 9223372036854775807) then ∃ (n_1 : Int), [P.d (D.int IntKind.i64 r)] = [P.d (D.int IntKind.i64 n_1)] ∧ EqR [] [] ∧ ((-9223372036854775808 : Int) ≤ n_1 ∧ n_1 ≤ (9223372036854775807 : Int)) ∧ bif decide (List.length (Lib.itoa n ++ [(46 : UInt8)]) + List.length (Lib.itoa n_1) ≤ 9223372036854775807) then bif decide (List.length (Lib.itoa n ++ [(46 : UInt8)] ++ Lib.itoa n_1) + 1 ≤ 9223372036854775807) then ∃ (n_2 : Int), [P.d (D.int IntKind.i64 i)] = [P.d (D.int IntKind.i64 n_2)] ∧ EqR [] [] ∧ ((-9223372036854775808 : Int) ≤ n_2 ∧ n_2 ≤ (9223372036854775807 : Int)) ∧ bif decide (List.length (Lib.itoa n ++ [(46 : UInt8)] ++ Lib.itoa n_1 ++ [(46 : UInt8)]) + List.length (Lib.itoa n_2) ≤ 9223372036854775807) then post (P.d (D.str (Lib.itoa n ++ [(46 : UInt8)] ++ Lib.itoa n_1 ++ [(46 : UInt8)] ++ Lib.itoa n_2)), []) else False else False else False else False) = (bodyF [(47, hRightId), (95, hItoa)] [] 69 [.d (idD t r i)] []) post := by kernel_rfl
end Pi

/- Stamp: texts. -/
namespace Pi
open Go Go.Proofs
set_option maxRecDepth 100000
variable {X : XF}

theorem okItoa : FD X 95 hItoa := FD.ofX Tryz.func95 (by kernel_rfl) (by kernel_rfl) (by
  intro ps R post hh
  obtain ⟨n, rfl, rfl, hc, hp⟩ := hh
  refine ⟨_, ?_, hp⟩
  show xItoa [.d (.int .i64 n)] [] = _
  exact if_pos hc)

theorem decDigits_len : ∀ u : Nat, (Lib.decDigits u).length ≤ u + 1 := by
  intro u
  induction u using Nat.strongRecOn with
  | _ u ih =>
    rw [Lib.decDigits]
    split
    · simp
    · have := ih (u / 10) (by omega)
      simp only [List.length_append, List.length_cons, List.length_nil]
      omega
theorem itoa_len {n : Int} (h0 : 0 ≤ n) (h1 : n ≤ 1099511627776) : (Lib.itoa n).length ≤ 1099511627777 := by
  unfold Lib.itoa
  rw [if_neg (by omega)]
  have := decDigits_len n.toNat
  omega

theorem okText : FD X 69 hText := FD.mk (H := [(47, hRightId), (95, hItoa)]) (by kernel_rfl) (.cons okRightId (.cons okItoa .nil)) .nil (by
  intro ps R post hh
  obtain ⟨t, r, i, rfl, rfl, hp⟩ := hh
  rw [← vcText]
  refine ⟨_, _, _, rfl, rfl, condI (fun h => ?_) fun h => ?_⟩
  · have h : rightId t r i = false := by simpa using h
    rw [textId, if_neg (by simp [h])] at hp
    exact hp
  · have h : rightId t r i = true := by simpa using h
    rw [textId, if_pos h] at hp
    simp only [rightId, decide_eq_true_eq] at h
    have l1 := itoa_len (n := t) (by omega) (by omega)
    have l2 := itoa_len (n := r) (by omega) (by omega)
    have l3 := itoa_len (n := i) (by omega) (by omega)
    refine ⟨_, rfl, rfl, ⟨by omega, by omega⟩, oblI (by simp; omega) ⟨_, rfl, rfl, ⟨by omega, by omega⟩, oblI (by simp; omega) (oblI (by simp; omega) ⟨_, rfl, rfl, ⟨by omega, by omega⟩, oblI (by simp; omega) hp⟩)⟩⟩)

/-- The id of a text. -/
def parse3 (s : List UInt8) : Option (Int × Int × Int) := match Lib.split s [46] with
  | [a, b, c] => if rightId (atoiV a) (atoiV b) (atoiV c) = true ∧ textS (atoiV a) (atoiV b) (atoiV c) = s then some (atoiV a, atoiV b, atoiV c) else none
  | _ => none
structure SplitOk (s : List UInt8) : Prop where
  len : s.length < 4294967281
  cnt : (Lib.split s [46]).length = Lib.count s [46] + 1
  lim : Lib.count s [46] ≤ 4294967281
  each : ∀ x ∈ Lib.split s [46], x.length ≤ 281474976710656
end Pi

/- Stamp: texts, plain laws. -/
namespace Pi
open Go

/-! splitting at one byte -/
def splitBy (c : UInt8) : List UInt8 → List (List UInt8)
  | [] => [[]]
  | b :: l => if b = c then [] :: splitBy c l else match splitBy c l with | h :: t => (b :: h) :: t | [] => [[b]]
theorem splitK_by (c : UInt8) : ∀ s : List UInt8, Lib.splitK [c] 0 (s.count c) s = splitBy c s
  | [] => rfl
  | b :: l => by
    have ih := splitK_by c l
    by_cases h : b = c
    · subst h
      rw [List.count_cons_self, splitBy, if_pos rfl, Lib.splitK]
      have hix : Lib.index (b :: l) [b] = 0 := by rw [Lib.index]; simp [List.isPrefixOf]
      rw [if_neg (by rw [hix]; decide), hix]
      simp [ih]
    · have hp : ([c] : List UInt8).isPrefixOf (b :: l) = false := by simp [List.isPrefixOf, Ne.symm h]
      have hix : Lib.index (b :: l) [c] = if Lib.index l [c] == -1 then -1 else Lib.index l [c] + 1 := by rw [Lib.index, hp]; simp
      rw [List.count_cons_of_ne (by simpa using h), splitBy, if_neg h]
      cases hk : l.count c with
      | zero =>
        rw [hk] at ih
        rw [← ih]
        rfl
      | succ m =>
        rw [hk] at ih
        have hc1 : Lib.count l [c] = m + 1 := by rw [Lib.count_one, hk]
        by_cases hm : Lib.index l [c] = -1
        · rw [Lib.count_miss hm] at hc1; omega
        · have hge := Lib.index_ge l [c]
          obtain ⟨j, hj⟩ : ∃ j : Nat, Lib.index l [c] = j := ⟨(Lib.index l [c]).toNat, by omega⟩
          rw [Lib.splitK, if_neg (by rw [hj]; simp), hj] at ih
          rw [Lib.splitK, hix, hj]
          have e1 : ((j : Int) == -1) = false := by rw [beq_eq_false_iff_ne]; omega
          have e2 : (((j : Int) + 1) == -1) = false := by rw [beq_eq_false_iff_ne]; omega
          simp only [e1, Bool.false_eq_true, if_false, e2]
          rw [← ih]
          simp only [List.length_singleton, Int.toNat_natCast, Nat.add_zero]
          rw [show ((j : Int) + 1).toNat = j + 1 by omega]
          simp
theorem split_by (c : UInt8) (s : List UInt8) : Lib.split s [c] = splitBy c s := by
  rw [Lib.split, Lib.count_one, splitK_by]
/-- Without the byte: one piece. -/
theorem splitBy_no (c : UInt8) : ∀ s : List UInt8, c ∉ s → splitBy c s = [s]
  | [], _ => rfl
  | b :: l, h => by
    simp at h
    unfold splitBy
    rw [if_neg (Ne.symm h.1), splitBy_no c l h.2]
theorem splitBy_app (c : UInt8) (t : List UInt8) : ∀ s : List UInt8, c ∉ s → splitBy c (s ++ c :: t) = s :: splitBy c t
  | [], _ => by simp [splitBy]
  | b :: l, h => by
    simp at h
    rw [List.cons_append, splitBy, if_neg (Ne.symm h.1), splitBy_app c t l h.2]

/-! numbers -/
def isDig (b : UInt8) : Bool := decide (48 ≤ b.toNat ∧ b.toNat ≤ 57)
def stepV (a : Nat) (b : UInt8) : Nat := a * 10 + (b.toNat - 48)
def numVal (l : List UInt8) : Nat := l.foldl stepV 0
def digitB (k : Nat) : UInt8 := UInt8.ofNat (48 + k)
theorem digitB_nat {k : Nat} (h : k < 10) : (digitB k).toNat = 48 + k := by
  unfold digitB
  rw [UInt8.toNat_ofNat']
  omega
theorem digitB_dig {k : Nat} (h : k < 10) : isDig (digitB k) = true := by
  unfold isDig; rw [digitB_nat h]; simp; omega
theorem dig_ofNat {b : UInt8} (h : isDig b = true) : ∃ k, k < 10 ∧ b = digitB k := by
  unfold isDig at h
  simp at h
  refine ⟨b.toNat - 48, by omega, ?_⟩
  apply UInt8.toNat_inj.1
  rw [digitB_nat (by omega)]
  omega
theorem dec_small {u : Nat} (h : u < 10) : Lib.decDigits u = [digitB u] := by rw [Lib.decDigits, dif_pos h]; rfl
theorem dec_big {u : Nat} (h : ¬ u < 10) : Lib.decDigits u = Lib.decDigits (u / 10) ++ [digitB (u % 10)] := by rw [Lib.decDigits, dif_neg h]; rfl
theorem numVal_app (l : List UInt8) (b : UInt8) : numVal (l ++ [b]) = stepV (numVal l) b := by simp [numVal]
theorem dec_dig : ∀ u : Nat, ∀ b ∈ Lib.decDigits u, isDig b = true := by
  intro u
  induction u using Nat.strongRecOn with
  | _ u ih =>
    intro b hb
    by_cases h : u < 10
    · rw [dec_small h] at hb; simp at hb; subst hb; exact digitB_dig h
    · rw [dec_big h] at hb
      rcases List.mem_append.1 hb with hb | hb
      · exact ih (u / 10) (by omega) b hb
      · simp at hb; subst hb; exact digitB_dig (by omega)
theorem dec_val : ∀ u : Nat, numVal (Lib.decDigits u) = u := by
  intro u
  induction u using Nat.strongRecOn with
  | _ u ih =>
    by_cases h : u < 10
    · rw [dec_small h]; simp [numVal, stepV, digitB_nat h]
    · rw [dec_big h, numVal_app, ih (u / 10) (by omega), stepV, digitB_nat (by omega)]; omega
theorem dec_ne (u : Nat) : Lib.decDigits u ≠ [] := by
  by_cases h : u < 10
  · rw [dec_small h]; simp
  · rw [dec_big h]; simp
theorem dec_head : ∀ u : Nat, 0 < u → (Lib.decDigits u).head? ≠ some 48 := by
  intro u
  induction u using Nat.strongRecOn with
  | _ u ih =>
    intro h0
    by_cases h : u < 10
    · rw [dec_small h]
      simp
      intro e
      have := congrArg UInt8.toNat e
      rw [digitB_nat h] at this
      simp at this
      omega
    · rw [dec_big h]
      have := ih (u / 10) (by omega) (by omega)
      cases hd : Lib.decDigits (u / 10) with
      | nil => exact absurd hd (dec_ne _)
      | cons x r => rw [hd] at this; simpa using this
theorem revInd {α : Type} {C : List α → Prop} (h0 : C []) (hs : ∀ l b, C l → C (l ++ [b])) (l : List α) : C l := by
  have : ∀ l : List α, C l.reverse := fun l => by
    induction l with
    | nil => exact h0
    | cons b l ih => rw [List.reverse_cons]; exact hs _ _ ih
  have h := this l.reverse
  rwa [List.reverse_reverse] at h
/-- Digits without a nought ahead are a number's. -/
theorem dec_of : ∀ l : List UInt8, l ≠ [] → (∀ b ∈ l, isDig b = true) → (l.head? = some 48 → l.length = 1) → Lib.decDigits (numVal l) = l := by
  refine revInd (fun h => absurd rfl h) ?_
  · intro l b ih _ hd hh
    obtain ⟨k, hk, rfl⟩ := dig_ofNat (hd b (by simp))
    rw [numVal_app, stepV, digitB_nat hk]
    cases l with
    | nil => simp [numVal]; rw [dec_small (by omega)]
    | cons x r =>
      have hx : x ≠ 48 := fun e => by
        subst e
        have := hh (by simp)
        simp at this
      have ih := ih (by simp) (fun b hb => hd b (List.mem_append_left _ hb)) (fun e => by simp at e; exact absurd e hx)
      have hpos : 0 < numVal (x :: r) := by
        refine Classical.byContradiction fun hc => ?_
        have h0 : numVal (x :: r) = 0 := by omega
        rw [h0, dec_small (by omega)] at ih
        injection ih with e1 _
        exact hx (by rw [← e1]; rfl)
      rw [show numVal (x :: r) * 10 + (48 + k - 48) = numVal (x :: r) * 10 + k by omega, dec_big (by omega), show (numVal (x :: r) * 10 + k) / 10 = numVal (x :: r) by omega, show (numVal (x :: r) * 10 + k) % 10 = k by omega, ih]
theorem dec_len : ∀ (k u : Nat), u < 10 ^ (k + 1) → (Lib.decDigits u).length ≤ k + 1
  | 0, u, h => by rw [dec_small (by simpa using h)]; simp
  | k + 1, u, h => by
    by_cases hu : u < 10
    · rw [dec_small hu]; simp
    · rw [dec_big hu]
      have := dec_len k (u / 10) (by rw [Nat.div_lt_iff_lt_mul (by omega)]; rw [Nat.pow_succ] at h; exact h)
      simp; omega
theorem numVal_ge : ∀ (l : List UInt8) (a : Nat), a ≤ l.foldl stepV a
  | [], a => Nat.le_refl _
  | b :: l, a => by
    have := numVal_ge l (stepV a b)
    simp only [List.foldl_cons]
    unfold stepV at this ⊢
    omega
theorem parseU : ∀ (l : List UInt8) (a : Nat), (∀ b ∈ l, isDig b = true) → l.foldl stepV a < 18446744073709551616 → Lib.parseUint10 a l = .ok (l.foldl stepV a)
  | [], a, _, _ => rfl
  | b :: l, a, hd, hlt => by
    have hb := hd b (by simp)
    unfold isDig at hb
    simp only [decide_eq_true_eq] at hb
    simp only [List.foldl_cons] at hlt ⊢
    have h1 := numVal_ge l (stepV a b)
    have h2 : stepV a b < 18446744073709551616 := by omega
    have e : a * 10 + (b.toNat - 48) = stepV a b := rfl
    rw [Lib.parseUint10, if_pos hb, if_neg (by unfold stepV at h2; omega), e, if_neg (by omega)]
    exact parseU l _ (fun b hb => hd b (by simp [hb])) hlt
theorem atoi_dec {u : Nat} (h : u < 9223372036854775808) : atoiV (Lib.decDigits u) = u := by
  have hv := dec_val u
  unfold numVal at hv
  have hp := parseU (Lib.decDigits u) 0 (dec_dig u) (by rw [hv]; omega)
  rw [hv] at hp
  unfold atoiV Lib.atoiAll
  cases hd : Lib.decDigits u with
  | nil => exact absurd hd (dec_ne u)
  | cons c r =>
    have hc := dec_dig u c (by rw [hd]; simp)
    unfold isDig at hc
    simp only [decide_eq_true_eq] at hc
    have e1 : ¬ (c.toNat = 43 ∨ c.toNat = 45) := by omega
    have e2 : ¬ c.toNat = 45 := by omega
    rw [hd] at hp
    have hm : Lib.parseMag (c :: r) = .ok u := by rw [Lib.parseMag, if_neg (by simp), hp]
    have e3 : ¬ (¬ c.toNat = 45 ∧ 9223372036854775808 ≤ u) := by omega
    have e4 : ¬ (c.toNat = 45 ∧ 9223372036854775808 < u) := by omega
    dsimp only
    rw [if_neg e1, hm]
    dsimp only
    rw [if_neg e3, if_neg e4, if_neg e2]

/-! the document's reading of an id -/
def digs (s : List UInt8) : List UInt8 := (s.take 16).takeWhile isDig
def numberV (s : List UInt8) : Option (Nat × List UInt8) :=
  if digs s = [] ∨ 15 < (digs s).length ∨ (s.head? = some 48 ∧ 1 < (digs s).length) then none else some (numVal (digs s), s.drop (digs s).length)
def dotV (s : List UInt8) : Option (Nat × List UInt8) := match s with | 46 :: r => numberV r | _ => none
def ref3 (s : List UInt8) : Option (Nat × Nat × Nat × List UInt8) := match numberV s with
  | none => none
  | some (a, r) => match dotV r with
    | none => none
    | some (b, r') => match dotV r' with
      | none => none
      | some (c, r'') => some (a, b, c, r'')
theorem takeWhile_app {α : Type} (p : α → Bool) : ∀ (d r : List α), (∀ b ∈ d, p b = true) → (∀ b, r.head? = some b → p b = false) → (d ++ r).takeWhile p = d
  | [], r, _, h => by
    cases r with
    | nil => rfl
    | cons x r => simp [h x rfl]
  | x :: d, r, hd, h => by
    simp [hd x (by simp)]
    exact takeWhile_app p d r (fun b hb => hd b (by simp [hb])) h
theorem numberV_some {s : List UInt8} {a : Nat} {r : List UInt8} (h : numberV s = some (a, r)) : s = Lib.decDigits a ++ r ∧ a < 10 ^ 15 := by
  unfold numberV at h
  split at h
  · cases h
  · rename_i hc
    simp only [not_or] at hc
    obtain ⟨h1, h2, h3⟩ := hc
    simp only [Option.some.injEq, Prod.mk.injEq] at h
    obtain ⟨rfl, rfl⟩ := h
    have hpre : s.take (digs s).length = digs s := by
      have h4 : digs s <+: s := (List.takeWhile_prefix _).trans (List.take_prefix _ _)
      exact (List.prefix_iff_eq_take.1 h4).symm
    have hdig : ∀ b ∈ digs s, isDig b = true := fun b hb => by
      have := List.all_takeWhile (p := isDig) (l := s.take 16)
      exact List.all_eq_true.1 this b hb
    have hhead : (digs s).head? = s.head? := by
      rw [← hpre]
      cases s with
      | nil => simp
      | cons x r =>
        cases hd : (digs (x :: r)).length with
        | zero => exact absurd (List.length_eq_zero_iff.1 hd) h1
        | succ k => simp
    have hdec : Lib.decDigits (numVal (digs s)) = digs s := dec_of _ h1 hdig (fun e => by
      rw [hhead] at e
      have := List.length_pos_iff.2 h1
      simp only [e, true_and] at h3
      omega)
    refine ⟨?_, ?_⟩
    · rw [hdec]
      conv => lhs; rw [← List.take_append_drop (digs s).length s]
      rw [hpre]
    · refine Nat.lt_of_lt_of_le ?_ (Nat.pow_le_pow_right (by omega) (by omega : (digs s).length ≤ 15))
      clear hdec hhead hpre h3 h2 h1
      have : ∀ l : List UInt8, (∀ b ∈ l, isDig b = true) → numVal l < 10 ^ l.length := by
        refine revInd (fun _ => by simp [numVal]) fun l b ih hd => ?_
        have h1 := ih fun b hb => hd b (List.mem_append_left _ hb)
        have h2 := hd b (by simp)
        unfold isDig at h2
        simp only [decide_eq_true_eq] at h2
        rw [numVal_app, stepV, List.length_append, List.length_singleton, Nat.pow_succ]
        omega
      exact this _ hdig
theorem numberV_of {a : Nat} (ha : a < 10 ^ 15) {r : List UInt8} (hr : ∀ b, r.head? = some b → isDig b = false) : numberV (Lib.decDigits a ++ r) = some (a, r) := by
  have hl := dec_len 14 a ha
  have hd : digs (Lib.decDigits a ++ r) = Lib.decDigits a := by
    unfold digs
    rw [List.take_append, List.take_of_length_le (by omega)]
    refine takeWhile_app isDig _ _ (dec_dig a) fun b hb => hr b ?_
    cases r with
    | nil => simp at hb
    | cons x r =>
      obtain ⟨k, hk⟩ : ∃ k, 16 - (Lib.decDigits a).length = k + 1 := ⟨15 - (Lib.decDigits a).length, by omega⟩
      rw [hk] at hb
      simpa using hb
  have hne := dec_ne a
  unfold numberV
  rw [hd, if_neg, dec_val, List.drop_left]
  rintro (h | h | ⟨h, h'⟩)
  · exact hne h
  · omega
  · have hh : (Lib.decDigits a ++ r).head? = (Lib.decDigits a).head? := by
      cases hda : Lib.decDigits a with
      | nil => exact absurd hda hne
      | cons x t => rfl
    rw [hh] at h
    by_cases h0 : a < 10
    · rw [dec_small h0] at h'; simp at h'
    · exact dec_head a (by omega) h
theorem ref3_some {s : List UInt8} {a b c : Nat} {r : List UInt8} (h : ref3 s = some (a, b, c, r)) : s = Lib.decDigits a ++ 46 :: (Lib.decDigits b ++ 46 :: (Lib.decDigits c ++ r)) ∧ a < 10 ^ 15 ∧ b < 10 ^ 15 ∧ c < 10 ^ 15 := by
  unfold ref3 at h
  split at h
  · cases h
  · rename_i a' r1 h1
    split at h
    · cases h
    · rename_i b' r2 h2
      split at h
      · cases h
      · rename_i c' r3 h3
        simp only [Option.some.injEq, Prod.mk.injEq] at h
        obtain ⟨rfl, rfl, rfl, rfl⟩ := h
        obtain ⟨e1, l1⟩ := numberV_some h1
        unfold dotV at h2 h3
        split at h2
        · rename_i q2
          split at h3
          · rename_i q3
            obtain ⟨e2, l2⟩ := numberV_some h2
            obtain ⟨e3, l3⟩ := numberV_some h3
            refine ⟨?_, l1, l2, l3⟩
            rw [e1, e2, e3]
          · cases h3
        · cases h2
theorem ref3_of {a b c : Nat} (ha : a < 10 ^ 15) (hb : b < 10 ^ 15) (hc : c < 10 ^ 15) : ref3 (Lib.decDigits a ++ 46 :: (Lib.decDigits b ++ 46 :: Lib.decDigits c)) = some (a, b, c, []) := by
  have h46 : ∀ (r : List UInt8) (x : UInt8), (46 :: r).head? = some x → isDig x = false := fun r x h => by simp at h; subst h; rfl
  have h1 := numberV_of ha (r := 46 :: (Lib.decDigits b ++ 46 :: Lib.decDigits c)) (h46 _)
  have h2 := numberV_of hb (r := 46 :: Lib.decDigits c) (h46 _)
  have h3 := numberV_of hc (r := []) (fun x h => by simp at h)
  rw [List.append_nil] at h3
  unfold ref3
  rw [h1]
  simp only [dotV, h2, h3]
theorem itoa_nat (a : Nat) : Lib.itoa (a : Int) = Lib.decDigits a := by unfold Lib.itoa; rw [if_neg (by omega)]; rfl
theorem no46 (a : Nat) : (46 : UInt8) ∉ Lib.decDigits a := fun h => by
  have := dec_dig a 46 h
  simp [isDig] at this
theorem split_text (a b c : Nat) : splitBy 46 (Lib.decDigits a ++ 46 :: (Lib.decDigits b ++ 46 :: Lib.decDigits c)) = [Lib.decDigits a, Lib.decDigits b, Lib.decDigits c] := by
  rw [splitBy_app _ _ _ (no46 a), splitBy_app _ _ _ (no46 b), splitBy_no _ _ (no46 c)]
end Pi

/- Stamp: the document's texts: what the runs ask. -/
namespace Pi
open Go Go.Proofs
set_option maxRecDepth 100000
set_option maxHeartbeats 0
abbrev sD (s : List UInt8) : P := .d (.str s)
abbrev nbrH (s : List UInt8) (n i : Int) : S := ⟨55, [(0, sD s), (4, iD n), (5, iD i)], []⟩
def gNbr : S → K (PX × S) := fun s post => ∃ l, s = nbrH l 0 0 ∧ l.length ≤ 9223372036854775807 ∧ post (.exit 0, ⟨55, [(0, sD l), (4, iD (numVal (digs l) : Nat)), (5, iD ((digs l).length : Nat))], []⟩)
def hNumber : KF1 := fun ps R post => ∃ s, ps = [sD s] ∧ R = [] ∧ s.length ≤ 9223372036854775807 ∧ (numberV s = none → post (.tup [iD (-1), sD []], [])) ∧ ∀ n r, numberV s = some (n, r) → post (.tup [iD (n : Nat), sD r], [])
def hParseR : KF1 := fun ps R post => ∃ s, ps = [sD s] ∧ R = [] ∧ s.length ≤ 9223372036854775807 ∧ (parse3 s = none → post (.tup [.d (idD 0 0 0), .d (.bool false)], [])) ∧ (∀ t r i, parse3 s = some (t, r, i) → post (.tup [.d (idD t r i), .d (.bool true)], []))
def vcNbrN_0 (s : List UInt8) (i : Int) : Bool := decide ((0 : Int) ≤ i ∧ i < (↑(List.length s) : Int))
def vcNbrN_1 (s : List UInt8) (i : Int) : Int := (↑(UInt8.toNat (List.getD s (Int.toNat i) (0 : UInt8))) : Int)
def vcNbrN_2  : Int := (-9223372036854775808 : Int)
def vcNbrN_3 (n : Int) : Int := n * (10 : Int)
def vcNbrN_4 (s : List UInt8) (n : Int) (i : Int) : Int := vcNbrN_3 n + vcNbrN_1 s i
def vcNbrN_5 (s : List UInt8) (n : Int) (i : Int) : Int := vcNbrN_4 s n i - (48 : Int)
def vcNbrN_6 (i : Int) : Int := i + (1 : Int)
theorem vcNbrN (s : List UInt8) (n i : Int) (post : PX × S → Prop) : (bif decide (i < (↑(List.length s) : Int)) then bif decide (i < (16 : Int)) then bif vcNbrN_0 s i then bif decide (vcNbrN_1 s i ≥ (48 : Int)) then bif vcNbrN_0 s i then bif decide (vcNbrN_1 s i ≤ (57 : Int)) then bif decide (vcNbrN_2 ≤ vcNbrN_3 n ∧ vcNbrN_3 n ≤ (9223372036854775807 : Int)) then bif vcNbrN_0 s i then bif decide (vcNbrN_2 ≤ vcNbrN_1 s i ∧ vcNbrN_1 s i ≤ (9223372036854775807 : Int)) then bif decide (vcNbrN_2 ≤ vcNbrN_4 s n i ∧ vcNbrN_4 s n i ≤ (9223372036854775807 : Int)) then bif decide (vcNbrN_2 ≤ vcNbrN_5 s n i ∧ vcNbrN_5 s n i ≤ (9223372036854775807 : Int)) then bif decide (vcNbrN_2 ≤ vcNbrN_6 i ∧ vcNbrN_6 i ≤ (9223372036854775807 : Int)) then post (PX.normal, S.mk 55 [(0, P.d (D.str s)), (4, P.d (D.int IntKind.i64 (vcNbrN_5 s n i))), (5, P.d (D.int IntKind.i64 (vcNbrN_6 i)))] []) else False else False else False else False else False else False else post (PX.exit 0, S.mk 55 [(0, P.d (D.str s)), (4, P.d (D.int IntKind.i64 n)), (5, P.d (D.int IntKind.i64 i))] []) else False else post (PX.exit 0, S.mk 55 [(0, P.d (D.str s)), (4, P.d (D.int IntKind.i64 n)), (5, P.d (D.int IntKind.i64 i))] []) else False else post (PX.exit 0, S.mk 55 [(0, P.d (D.str s)), (4, P.d (D.int IntKind.i64 n)), (5, P.d (D.int IntKind.i64 i))] []) else post (PX.exit 0, S.mk 55 [(0, P.d (D.str s)), (4, P.d (D.int IntKind.i64 n)), (5, P.d (D.int IntKind.i64 i))] [])) = (roundL [] [] 83 3 (nbrH s n i)) post := by kernel_rfl
theorem vcNbr (s : List UInt8) (post : P × List (Nat × En) → Prop) : (∃ (l : List UInt8), S.mk 55 [(0, P.d (D.str s)), (4, P.d (D.int IntKind.i64 (0 : Int))), (5, P.d (D.int IntKind.i64 (0 : Int)))] [] = S.mk 55 [(0, P.d (D.str l)), (4, P.d (D.int IntKind.i64 (0 : Int))), (5, P.d (D.int IntKind.i64 (0 : Int)))] [] ∧ List.length l ≤ 9223372036854775807 ∧ bif (↑(List.length (digs l)) : Int) == (0 : Int) then post (P.tup [P.d (D.int IntKind.i64 (-1 : Int)), P.d (D.str [])], []) else bif decide ((↑(List.length (digs l)) : Int) > (15 : Int)) then post (P.tup [P.d (D.int IntKind.i64 (-1 : Int)), P.d (D.str [])], []) else bif decide ((0 : Int) ≤ (0 : Int) ∧ (0 : Int) < (↑(List.length l) : Int)) then bif (↑(UInt8.toNat (List.getD l 0 (0 : UInt8))) : Int) == (48 : Int) then bif decide ((↑(List.length (digs l)) : Int) > (1 : Int)) then post (P.tup [P.d (D.int IntKind.i64 (-1 : Int)), P.d (D.str [])], []) else bif decide ((0 : Int) ≤ (↑(List.length (digs l)) : Int) ∧ (↑(List.length (digs l)) : Int) ≤ (↑(List.length l) : Int)) then post (P.tup [P.d (D.int IntKind.i64 (↑(numVal (digs l)) : Int)), P.d (D.str (List.drop (List.length (digs l)) (List.take (List.length l) l)))], []) else False else bif decide ((0 : Int) ≤ (↑(List.length (digs l)) : Int) ∧ (↑(List.length (digs l)) : Int) ≤ (↑(List.length l) : Int)) then post (P.tup [P.d (D.int IntKind.i64 (↑(numVal (digs l)) : Int)), P.d (D.str (List.drop (List.length (digs l)) (List.take (List.length l) l)))], []) else False else False) = (bodyF [] [(3, loopHook (kpF 83 3) gNbr)] 83 [sD s] []) post := by kernel_rfl
def vcParseR_0 (v2 : Nat) (v7 : Nat) (v12 : Nat) : List D := [D.int IntKind.i64 (↑v2 : Int), D.int IntKind.i64 (↑v7 : Int), D.int IntKind.i64 (↑v12 : Int)]
def vcParseR_1 (v2 : Nat) (v7 : Nat) (v12 : Nat) : P := P.d (D.agg [D.int IntKind.i64 (D.iVal (D.nth (vcParseR_0 v2 v7 v12) 0)), D.int IntKind.i64 (D.iVal (D.nth (vcParseR_0 v2 v7 v12) 1)), D.int IntKind.i64 (D.iVal (D.nth (vcParseR_0 v2 v7 v12) 2))])
theorem vcParseR (s : List UInt8) (post : P × List (Nat × En) → Prop) : (∃ (s_1 : List UInt8), [P.d (D.str s)] = [P.d (D.str s_1)] ∧ EqR [] [] ∧ List.length s_1 ≤ 9223372036854775807 ∧ (numberV s_1 = none → post (P.tup [P.d (D.agg [D.int IntKind.i64 (0 : Int), D.int IntKind.i64 (0 : Int), D.int IntKind.i64 (0 : Int)]), P.d (D.bool false)], [])) ∧ ∀ (n : Nat) (r : List UInt8), numberV s_1 = some (n, r) → bif r == [] then post (P.tup [P.d (D.agg [D.int IntKind.i64 (0 : Int), D.int IntKind.i64 (0 : Int), D.int IntKind.i64 (0 : Int)]), P.d (D.bool false)], []) else bif decide ((0 : Int) ≤ (0 : Int) ∧ (0 : Int) < (↑(List.length r) : Int)) then bif (↑(UInt8.toNat (List.getD r 0 (0 : UInt8))) : Int) != (46 : Int) then post (P.tup [P.d (D.agg [D.int IntKind.i64 (0 : Int), D.int IntKind.i64 (0 : Int), D.int IntKind.i64 (0 : Int)]), P.d (D.bool false)], []) else bif decide ((0 : Int) ≤ (1 : Int) ∧ (1 : Int) ≤ (↑(List.length r) : Int)) then ∃ (s : List UInt8), [P.d (D.str (List.drop 1 (List.take (List.length r) r)))] = [P.d (D.str s)] ∧ EqR [] [] ∧ List.length s ≤ 9223372036854775807 ∧ (numberV s = none → post (P.tup [P.d (D.agg [D.int IntKind.i64 (0 : Int), D.int IntKind.i64 (0 : Int), D.int IntKind.i64 (0 : Int)]), P.d (D.bool false)], [])) ∧ ∀ (n_1 : Nat) (r : List UInt8), numberV s = some (n_1, r) → bif r == [] then post (P.tup [P.d (D.agg [D.int IntKind.i64 (0 : Int), D.int IntKind.i64 (0 : Int), D.int IntKind.i64 (0 : Int)]), P.d (D.bool false)], []) else bif decide ((0 : Int) ≤ (0 : Int) ∧ (0 : Int) < (↑(List.length r) : Int)) then bif (↑(UInt8.toNat (List.getD r 0 (0 : UInt8))) : Int) != (46 : Int) then post (P.tup [P.d (D.agg [D.int IntKind.i64 (0 : Int), D.int IntKind.i64 (0 : Int), D.int IntKind.i64 (0 : Int)]), P.d (D.bool false)], []) else bif decide ((0 : Int) ≤ (1 : Int) ∧ (1 : Int) ≤ (↑(List.length r) : Int)) then ∃ (s : List UInt8), [P.d (D.str (List.drop 1 (List.take (List.length r) r)))] = [P.d (D.str s)] ∧ EqR [] [] ∧ List.length s ≤ 9223372036854775807 ∧ (numberV s = none → post (P.tup [P.d (D.agg [D.int IntKind.i64 (0 : Int), D.int IntKind.i64 (0 : Int), D.int IntKind.i64 (0 : Int)]), P.d (D.bool false)], [])) ∧ ∀ (n_2 : Nat) (r : List UInt8), numberV s = some (n_2, r) → bif !r == [] then post (P.tup [P.d (D.agg [D.int IntKind.i64 (0 : Int), D.int IntKind.i64 (0 : Int), D.int IntKind.i64 (0 : Int)]), P.d (D.bool false)], []) else ∃ (t : Int), ∃ (r : Int), ∃ (i : Int), [vcParseR_1 n n_1 n_2] = [P.d (D.agg [D.int IntKind.i64 t, D.int IntKind.i64 r, D.int IntKind.i64 i])] ∧ EqR [] [] ∧ bif !rightId t r i then post (P.tup [P.d (D.agg [D.int IntKind.i64 (0 : Int), D.int IntKind.i64 (0 : Int), D.int IntKind.i64 (0 : Int)]), P.d (D.bool false)], []) else post (P.tup [vcParseR_1 n n_1 n_2, P.d (D.bool true)], []) else False else False else False else False) = (bodyF [(83, hNumber), (25, hRightId)] [] 63 [sD s] []) post := by kernel_rfl
end Pi

/- Stamp: the document's texts. -/
namespace Pi
open Go Go.Proofs
set_option maxRecDepth 100000
variable {X : XF}
theorem itoa_len21 {n : Int} (h0 : 0 ≤ n) (h1 : n ≤ 9223372036854775807) : (Lib.itoa n).length ≤ 21 := by
  have h := dec_len 20 n.toNat (by have : (10 : Nat) ^ 21 = 1000000000000000000000 := by decide
                                   omega)
  unfold Lib.itoa
  rw [if_neg (by omega)]
  exact h
theorem digs_le (s : List UInt8) : (digs s).length ≤ s.length ∧ (digs s).length ≤ 16 := by
  have h1 := (List.takeWhile_prefix (p := isDig) (l := s.take 16)).length_le
  have : (digs s).length ≤ (s.take 16).length := h1
  simp at this
  omega
theorem digs_pre (s : List UInt8) : s.take (digs s).length = digs s := by
  have h4 : digs s <+: s := (List.takeWhile_prefix _).trans (List.take_prefix _ _)
  exact (List.prefix_iff_eq_take.1 h4).symm
theorem digs_in {s : List UInt8} {i : Nat} (h : i < (digs s).length) : isDig (s.getD i 0) = true := by
  have h1 := List.all_takeWhile (p := isDig) (l := s.take 16)
  have h2 : (digs s)[i] ∈ digs s := List.getElem_mem h
  have h3 := List.all_eq_true.1 h1 _ h2
  have h4 := (digs_le s).1
  have e : (digs s)[i] = s[i] := by
    have := digs_pre s
    have h5 : (s.take (digs s).length)[i]'(by simp; omega) = (digs s)[i] := by congr 1
    rw [← h5, List.getElem_take]
  rw [e] at h3
  simpa [List.getD_eq_getElem?_getD, show i < s.length by omega] using h3
theorem takeWhile_stop {α : Type} (p : α → Bool) : ∀ (l : List α), (l.takeWhile p).length < l.length → ∃ x, l[(l.takeWhile p).length]? = some x ∧ p x = false
  | [], h => by simp at h
  | x :: l, h => by
    cases hx : p x with
    | false => refine ⟨x, ?_, hx⟩; simp [List.takeWhile, hx]
    | true =>
      simp only [List.takeWhile, hx, List.length_cons] at h ⊢
      obtain ⟨y, h1, h2⟩ := takeWhile_stop p l (by omega)
      exact ⟨y, by simpa using h1, h2⟩
theorem digs_stop {s : List UInt8} (h : (digs s).length < s.length) (h' : (digs s).length < 16) : isDig (s.getD (digs s).length 0) = false := by
  obtain ⟨x, h1, h2⟩ := takeWhile_stop isDig (s.take 16) (by
    have : ((s.take 16).takeWhile isDig).length = (digs s).length := rfl
    rw [this]; simp; omega)
  have : ((s.take 16).takeWhile isDig).length = (digs s).length := rfl
  rw [this] at h1
  rw [List.getElem?_take, if_pos h'] at h1
  simp [List.getD_eq_getElem?_getD, h1, h2]
theorem numVal_take {s : List UInt8} {i : Nat} (h : i < s.length) : numVal (s.take (i + 1)) = stepV (numVal (s.take i)) (s.getD i 0) := by
  rw [List.take_add_one, List.getElem?_eq_getElem h]
  simp only [Option.toList_some]
  rw [numVal_app]
  simp [List.getD_eq_getElem?_getD, h]
theorem numVal_lt {l : List UInt8} : (∀ b ∈ l, isDig b = true) → numVal l < 10 ^ l.length := by
  refine revInd (C := fun l => (∀ b ∈ l, isDig b = true) → numVal l < 10 ^ l.length) (fun _ => by simp [numVal]) (fun l b ih hd => ?_) l
  have h1 := ih fun b hb => hd b (List.mem_append_left _ hb)
  have h2 := hd b (by simp)
  unfold isDig at h2
  simp only [decide_eq_true_eq] at h2
  rw [numVal_app, stepV, List.length_append, List.length_singleton, Nat.pow_succ]
  omega
theorem loopNbr : LD X 83 3 (loopHook (kpF 83 3) gNbr) := LD.par (H := []) (hk := []) (by kernel_rfl) (by kernel_rfl) .nil .nil
  (A := List UInt8) (B := Int × Int) (fun a b => nbrH a b.1 b.2)
  (fun a b => a.length ≤ 9223372036854775807 ∧ 0 ≤ b.2 ∧ b.2 ≤ (digs a).length ∧ b.1 = (numVal (a.take b.2.toNat) : Nat))
  (fun a b => ((digs a).length - b.2).toNat)
  (fun a x => x = (.exit 0, ⟨55, [(0, sD a), (4, iD (numVal (digs a) : Nat)), (5, iD ((digs a).length : Nat))], []⟩))
  (by
    rintro l ⟨n, i⟩ ⟨hl, h0, h1, hn⟩
    dsimp only at *
    (rw [← vcNbrN]; delta vcNbrN_0 vcNbrN_1 vcNbrN_2 vcNbrN_3 vcNbrN_4 vcNbrN_5 vcNbrN_6)
    have hle := digs_le l
    have hout : ∀ (hc : ¬ (i < (digs l).length)), nbrH l n i = ⟨55, [(0, sD l), (4, iD (numVal (digs l) : Nat)), (5, iD ((digs l).length : Nat))], []⟩ := fun hc => by
      have e : i.toNat = (digs l).length := by omega
      rw [e, digs_pre] at hn
      rw [hn, show i = ((digs l).length : Int) by omega]
    have hstop : (hc : i < (digs l).length) → isDig (l.getD i.toNat 0) = true := fun hc => digs_in (by omega)
    have hgo : i < l.length → i < 16 → isDig (l.getD i.toNat 0) = true → i < (digs l).length := fun a1 a2 a3 => by
      refine Classical.byContradiction fun hc => ?_
      have e : i.toNat = (digs l).length := by omega
      have := digs_stop (s := l) (by omega) (by omega)
      rw [← e, a3] at this
      cases this
    have hdg : ∀ b : UInt8, isDig b = true ↔ (48 ≤ (b.toNat : Int) ∧ (b.toNat : Int) ≤ 57) := fun b => by unfold isDig; simp; omega
    rw [hdg] at hgo hstop
    generalize hb : (((l.getD i.toNat 0).toNat : Nat) : Int) = b at *
    have hout' : ¬ (i < (digs l).length) → (fun x : PX × S => x = (.exit 0, ⟨55, [(0, sD l), (4, iD (numVal (digs l) : Nat)), (5, iD ((digs l).length : Nat))], []⟩)) (.exit 0, nbrH l n i) := fun hc => by
      show (_, _) = _
      rw [hout hc]
    refine condP (fun c1 => condP (fun c2 => oblP ⟨h0, c1⟩ (condP (fun c3 => oblP ⟨h0, c1⟩ (condP (fun c4 => ?_) fun c4 => hout' fun hc => by have := hstop hc; omega)) fun c3 => hout' fun hc => by have := hstop hc; omega)) fun c2 => hout' fun hc => by omega) fun c1 => hout' fun hc => by omega
    have hlt := hgo c1 c2 ⟨c3, c4⟩
    have hi : i.toNat < l.length := by omega
    have hv := numVal_take hi
    have hbd : numVal (l.take i.toNat) < 10 ^ (l.take i.toNat).length := numVal_lt fun b hb => by
      obtain ⟨j, hj, rfl⟩ := List.getElem_of_mem hb
      simp at hj
      have := digs_in (s := l) (i := j) (by omega)
      simpa [List.getD_eq_getElem?_getD, show j < l.length by omega] using this
    have hbd2 : numVal (l.take i.toNat) < 10 ^ 16 := Nat.lt_of_lt_of_le hbd (Nat.pow_le_pow_right (by omega) (by simp; omega))
    have hx : numVal (l.take i.toNat) < 10000000000000000 := by simpa using hbd2
    refine oblP (by omega) (oblP ⟨h0, c1⟩ (oblP (by omega) (oblP (by omega) (oblP (by omega) (oblP (by omega) ?_)))))
    refine ⟨_, ?_, (n * 10 + b - 48, i + 1), rfl, ⟨hl, by dsimp only; omega, by dsimp only; omega, ?_⟩, rfl⟩
    · dsimp only; omega
    · dsimp only
      rw [show (i + 1).toNat = i.toNat + 1 by omega, hv, stepV]
      omega)
  (by
    rintro s post ⟨l, rfl, h1, h2⟩
    refine ⟨l, (0, 0), rfl, ⟨h1, by simp, by simp, by simp [numVal]⟩, ?_⟩
    rintro x rfl
    exact h2)
theorem okNumber : FD X 83 hNumber := FD.mk (H := []) (hk := [(3, loopHook (kpF 83 3) gNbr)]) (by kernel_rfl) .nil (.cons loopNbr .nil) (by
  intro ps R post hh
  obtain ⟨s, rfl, rfl, hl, hno, hyes⟩ := hh
  rw [← vcNbr]
  have hle := digs_le s
  have hz : digs s = [] ↔ (digs s).length = 0 := by rw [List.length_eq_zero_iff]
  have hhd : 0 < s.length → ((s.head? = some 48) ↔ (((s.getD 0 0).toNat : Nat) : Int) = 48) := fun h => by
    cases s with
    | nil => simp at h
    | cons x r =>
      simp only [List.head?_cons, Option.some.injEq, List.getD_cons_zero]
      constructor
      · rintro rfl; rfl
      · intro e; apply UInt8.toNat_inj.1; simp; omega
  unfold numberV at hno hyes
  refine ⟨s, rfl, hl, condE (fun h => ?_) fun h => condP (fun h' => ?_) fun h' => oblP (by omega) (condE (fun h2 => condP (fun h3 => ?_) fun h3 => ?_) fun h2 => ?_)⟩
  · exact hno (by rw [if_pos (.inl (hz.2 (by omega)))])
  · exact hno (by rw [if_pos (.inr (.inl (by omega)))])
  · exact hno (by rw [if_pos (.inr (.inr ⟨(hhd (by omega)).2 h2, by omega⟩))])
  · refine oblP (by omega) ?_
    rw [List.take_length]
    exact hyes _ _ (by rw [if_neg (by rw [hz, hhd (by omega)]; omega)])
  · refine oblP (by omega) ?_
    rw [List.take_length]
    exact hyes _ _ (by rw [if_neg (by rw [hz, hhd (by omega)]; omega)]))
/-- What the program reads is what the document reads. -/
def fin3 (a b c : Nat) (r : List UInt8) : Option (Int × Int × Int) := if r = [] ∧ rightId a b c = true then some ((a : Int), (b : Int), (c : Int)) else none
def refC (a b : Nat) (r : List UInt8) : Option (Int × Int × Int) := match dotV r with | none => none | some (c, r') => fin3 a b c r'
def refB (a : Nat) (r : List UInt8) : Option (Int × Int × Int) := match dotV r with | none => none | some (b, r') => refC a b r'
def refParse (s : List UInt8) : Option (Int × Int × Int) := match numberV s with | none => none | some (a, r) => refB a r
theorem refParse_eq (s : List UInt8) : refParse s = match ref3 s with | some (a, b, c, r) => fin3 a b c r | none => none := by
  unfold refParse ref3
  cases numberV s with
  | none => rfl
  | some x =>
    obtain ⟨a, r⟩ := x
    simp only
    unfold refB
    cases dotV r with
    | none => rfl
    | some x =>
      obtain ⟨b, r'⟩ := x
      simp only
      unfold refC
      cases dotV r' with
      | none => rfl
      | some x => rfl
theorem rightId_lt {a b c : Nat} (h : rightId a b c = true) : a < 10 ^ 15 ∧ b < 10 ^ 15 ∧ c < 10 ^ 15 := by
  simp only [rightId, decide_eq_true_eq] at h
  have : (10 : Nat) ^ 15 = 1000000000000000 := by decide
  omega
theorem textS_nat (a b c : Nat) : textS a b c = Lib.decDigits a ++ 46 :: (Lib.decDigits b ++ 46 :: Lib.decDigits c) := by
  simp [textS, itoa_nat]
theorem parse3_text {a b c : Nat} (h : rightId a b c = true) : parse3 (textS a b c) = some ((a : Int), (b : Int), (c : Int)) := by
  obtain ⟨h1, h2, h3⟩ := rightId_lt h
  have p15 : (10 : Nat) ^ 15 = 1000000000000000 := by decide
  unfold parse3
  rw [split_by, textS_nat, split_text]
  simp only [atoi_dec (u := a) (by omega), atoi_dec (u := b) (by omega), atoi_dec (u := c) (by omega)]
  rw [if_pos ⟨h, by rw [textS_nat]⟩]
theorem parse3_some {s : List UInt8} {t r i : Int} (h : parse3 s = some (t, r, i)) : rightId t r i = true ∧ textS t r i = s := by
  unfold parse3 at h
  split at h
  · split at h
    · rename_i hc
      simp only [Option.some.injEq, Prod.mk.injEq] at h
      obtain ⟨rfl, rfl, rfl⟩ := h
      exact hc
    · cases h
  · cases h
theorem nat3 {t r i : Int} (h : rightId t r i = true) : ∃ a b c : Nat, t = a ∧ r = b ∧ i = c := by
  simp only [rightId, decide_eq_true_eq] at h
  exact ⟨t.toNat, r.toNat, i.toNat, by omega, by omega, by omega⟩
theorem parse3_ref (s : List UInt8) : parse3 s = refParse s := by
  cases h : parse3 s with
  | some x =>
    obtain ⟨t, r, i⟩ := x
    obtain ⟨h1, h2⟩ := parse3_some h
    obtain ⟨a, b, c, rfl, rfl, rfl⟩ := nat3 h1
    obtain ⟨l1, l2, l3⟩ := rightId_lt h1
    rw [← h2, textS_nat, refParse_eq, ref3_of l1 l2 l3]
    simp only [fin3, h1, and_self, if_true]
  | none =>
    rw [refParse_eq]
    cases hr : ref3 s with
    | none => rfl
    | some x =>
      obtain ⟨a, b, c, r⟩ := x
      simp only [fin3]
      rw [if_neg]
      rintro ⟨rfl, hid⟩
      obtain ⟨e, _⟩ := ref3_some hr
      rw [List.append_nil, ← textS_nat] at e
      rw [e, parse3_text hid] at h
      cases h
theorem okParseR : FD X 63 hParseR := FD.mk (H := [(83, hNumber), (25, hRightId)]) (hk := []) (by kernel_rfl) (.cons okNumber (.cons okRightIdR .nil)) .nil (by
  intro ps R post hh
  obtain ⟨s, rfl, rfl, hl, hno, hyes⟩ := hh
  (rw [← vcParseR]; delta vcParseR_0 vcParseR_1)
  rw [parse3_ref] at hno
  simp only [parse3_ref] at hyes
  have dot : ∀ (r : List UInt8), (∀ q, r ≠ 46 :: q) → dotV r = none := fun r h => by
    unfold dotV
    split
    · rename_i q; exact absurd rfl (h q)
    · rfl
  refine ⟨s, rfl, rfl, hl, fun h1 => hno (by rw [refParse, h1]), fun n1 r1 h1 => ?_⟩
  have l1 : r1.length ≤ s.length := by rw [(numberV_some h1).1]; simp
  have e1 : refParse s = refB n1 r1 := by rw [refParse, h1]
  rw [e1] at hno hyes
  refine condI (fun c => hno (by rw [refB, dot r1 (fun q e => by rw [e] at c; simp at c)])) fun c => ?_
  obtain ⟨b1, q1, rfl⟩ : ∃ b q, r1 = b :: q := by cases r1 with | nil => simp at c | cons b q => exact ⟨b, q, rfl⟩
  simp only [List.getD_cons_zero, List.take_length, List.drop_succ_cons, List.drop_zero]
  refine oblP (by simp) (condN (fun c' => hno (by rw [refB, dot _ (fun q e => by simp at e; obtain ⟨e, _⟩ := e; rw [e] at c'; exact c' rfl)])) fun c' => oblP (by simp; omega) ?_)
  have eb : b1 = 46 := UInt8.toNat_inj.1 (by simp; omega)
  subst eb
  refine ⟨q1, rfl, rfl, by simp at l1; omega, fun h2 => hno (by rw [refB, dotV, h2]), fun n2 r2 h2 => ?_⟩
  have e2 : refB n1 (46 :: q1) = refC n1 n2 r2 := by rw [refB, dotV, h2]
  rw [e2] at hno hyes
  have l2 : r2.length ≤ q1.length := by rw [(numberV_some h2).1]; simp
  refine condI (fun c => hno (by rw [refC, dot r2 (fun q e => by rw [e] at c; simp at c)])) fun c => ?_
  obtain ⟨b2, q2, rfl⟩ : ∃ b q, r2 = b :: q := by cases r2 with | nil => simp at c | cons b q => exact ⟨b, q, rfl⟩
  simp only [List.getD_cons_zero, List.drop_succ_cons, List.drop_zero]
  refine oblP (by simp) (condN (fun c' => hno (by rw [refC, dot _ (fun q e => by simp at e; obtain ⟨e, _⟩ := e; rw [e] at c'; exact c' rfl)])) fun c' => oblP (by simp; omega) ?_)
  have eb : b2 = 46 := UInt8.toNat_inj.1 (by simp; omega)
  subst eb
  refine ⟨q2, rfl, rfl, by simp at l1 l2; omega, fun h3 => hno (by rw [refC, dotV, h3]), fun n3 r3 h3 => ?_⟩
  have e3 : refC n1 n2 (46 :: q2) = fin3 n1 n2 n3 r3 := by rw [refC, dotV, h3]
  rw [e3] at hno hyes
  unfold fin3 at hno hyes
  refine condI (fun c => hno ?_) fun c => ?_
  · rw [if_neg (fun h => by rw [h.1] at c; simp at c)]
  have e3 : r3 = [] := by simpa using c
  subst e3
  refine ⟨(n1 : Int), (n2 : Int), (n3 : Int), rfl, rfl, condI (fun h => hno ?_) fun h => hyes _ _ _ ?_⟩
  · rw [if_neg (by simpa using h)]
  · rw [if_pos (by simpa using h)]
    rfl)
end Pi

/- Pathname: plain laws. -/
namespace Pi
open Go

def signsL : List UInt8 := [48, 49, 50, 51, 52, 53, 54, 55, 56, 57, 65, 66, 67, 68, 69, 70, 71, 72, 73, 74, 75, 76, 77, 78, 79, 80, 81, 82, 83, 84, 85, 86, 87, 88, 89, 90, 97, 98, 99, 100, 101, 102, 103, 104, 105, 106, 107, 108, 109, 110, 111, 112, 113, 114, 115, 116, 117, 118, 119, 120, 121, 122, 46, 45, 95]
def nameB (b : UInt8) : Bool := decide ((48 ≤ b.toNat ∧ b.toNat ≤ 57) ∨ (65 ≤ b.toNat ∧ b.toNat ≤ 90) ∨ (97 ≤ b.toNat ∧ b.toNat ≤ 122) ∨ b.toNat = 46 ∨ b.toNat = 45 ∨ b.toNat = 95)
theorem signs_fin : ∀ n : Fin 256, signsL.contains (UInt8.ofNat n.val) = nameB (UInt8.ofNat n.val) := by decide +kernel
theorem signs_name (b : UInt8) : signsL.contains b = nameB b := by
  have := signs_fin ⟨b.toNat, b.toNat_lt⟩
  simpa using this
def nameOk (s : List UInt8) : Bool := decide (s ≠ [] ∧ s.length ≤ 32 ∧ s ≠ [46] ∧ s ≠ [46, 46] ∧ ∀ b ∈ s, nameB b = true)
theorem dropWhile_nil {α : Type} (p : α → Bool) : ∀ l : List α, l.dropWhile p = [] ↔ ∀ b ∈ l, p b = true
  | [] => by simp
  | x :: l => by
    cases h : p x with
    | true => simp [List.dropWhile, h, dropWhile_nil p l]
    | false => simp [List.dropWhile, h]
theorem trim_nil (s cs : List UInt8) : Lib.trimS s cs = [] ↔ ∀ b ∈ s, cs.contains b = true := by
  unfold Lib.trimS Lib.trimLeftS Lib.trimRightS
  rw [dropWhile_nil]
  constructor
  · intro h b hb
    have hr : b ∈ s.reverse := by simpa using hb
    rw [← List.takeWhile_append_dropWhile (p := (cs.contains ·)) (l := s.reverse)] at hr
    rcases List.mem_append.1 hr with h1 | h1
    · exact List.all_eq_true.1 (List.all_takeWhile (p := (cs.contains ·)) (l := s.reverse)) b h1
    · exact h b (by simpa using h1)
  · intro h b hb
    have hb : b ∈ s.reverse.dropWhile (cs.contains ·) := by simpa using hb
    exact h b (by simpa using (List.dropWhile_sublist _).subset hb)

/-! the first of a byte -/
def pre (c : UInt8) (s : List UInt8) : List UInt8 := s.takeWhile (· != c)
theorem pre_le (c : UInt8) (s : List UInt8) : (pre c s).length ≤ s.length := (List.takeWhile_prefix _).length_le
theorem pre_take (c : UInt8) (s : List UInt8) : s.take (pre c s).length = pre c s := (List.prefix_iff_eq_take.1 (List.takeWhile_prefix _)).symm
theorem pre_no (c : UInt8) (s : List UInt8) : c ∉ pre c s := fun h => by
  have := List.all_eq_true.1 (List.all_takeWhile (p := (· != c)) (l := s)) c h
  simp at this
theorem pre_in {c : UInt8} {s : List UInt8} {i : Nat} (h : i < (pre c s).length) : s.getD i 0 ≠ c := by
  intro e
  have h4 := pre_le c s
  have h5 : (s.take (pre c s).length)[i]'(by simp; omega) = (pre c s)[i] := by congr 1; exact pre_take c s
  rw [List.getElem_take] at h5
  have h6 : s.getD i 0 = s[i] := by simp [List.getD_eq_getElem?_getD, show i < s.length by omega]
  rw [h6, h5] at e
  have h7 : (pre c s)[i] ∈ pre c s := List.getElem_mem h
  rw [e] at h7
  exact pre_no c s h7
theorem pre_stop {c : UInt8} {s : List UInt8} (h : (pre c s).length < s.length) : s.getD (pre c s).length 0 = c := by
  obtain ⟨x, h1, h2⟩ := takeWhile_stop (· != c) s h
  have h1 : s[(pre c s).length]? = some x := h1
  simp only [List.getD_eq_getElem?_getD, h1, Option.getD_some]
  simpa using h2
theorem pre_full {c : UInt8} {s : List UInt8} : (pre c s).length = s.length ↔ c ∉ s := by
  constructor
  · intro h hc
    have := pre_take c s
    rw [h, List.take_length] at this
    exact pre_no c s (this ▸ hc)
  · intro h
    have := pre_le c s
    refine Classical.byContradiction fun hc => h ?_
    have h1 := pre_stop (c := c) (s := s) (by omega)
    rw [List.getD_eq_getElem?_getD, List.getElem?_eq_getElem (by omega)] at h1
    exact h1 ▸ List.getElem_mem (by omega)
theorem pre_all {c : UInt8} {s : List UInt8} (h : c ∉ s) : pre c s = s := by
  have := pre_take c s
  rw [pre_full.2 h, List.take_length] at this
  exact this.symm
theorem pre_app {c : UInt8} (t : List UInt8) : ∀ {s : List UInt8}, c ∉ s → pre c (s ++ c :: t) = s
  | [], _ => by simp [pre]
  | b :: l, h => by
    simp at h
    have hb : (b != c) = true := by simpa using Ne.symm h.1
    have ih := pre_app t h.2
    unfold pre at ih ⊢
    simp [hb, ih]
/-- A name, or one that clashed. -/
def seenOk (s : List UInt8) : Bool := nameOk (pre 126 s) && (decide (126 ∉ s) || (parse3 (s.drop ((pre 126 s).length + 1))).isSome)

/-! paths -/
def joinP (l : List (List UInt8)) : List UInt8 := 47 :: Lib.join l [47]
theorem join_cons2 (x y : List UInt8) (l : List (List UInt8)) : Lib.join (x :: y :: l) [47] = x ++ 47 :: Lib.join (y :: l) [47] := by
  simp [Lib.join, List.intercalate]
theorem join_one (x : List UInt8) : Lib.join [x] [47] = x := by simp [Lib.join, List.intercalate]
theorem name_no {s : List UInt8} {c : UInt8} (h : nameOk s = true) (hc : nameB c = false) : c ∉ s := fun hm => by
  simp only [nameOk, decide_eq_true_eq] at h
  rw [h.2.2.2.2 c hm] at hc
  cases hc
theorem text_no {t r i : Int} (h : rightId t r i = true) {c : UInt8} (hc : isDig c = false) (hd : c ≠ 46) : c ∉ textS t r i := by
  obtain ⟨a, b, d, rfl, rfl, rfl⟩ := nat3 h
  rw [textS_nat]
  have no : ∀ u, c ∉ Lib.decDigits u := fun u hm => by rw [dec_dig u c hm] at hc; cases hc
  simp [no, hd]
theorem seen_no {s : List UInt8} (h : seenOk s = true) : (47 : UInt8) ∉ s := by
  simp only [seenOk, Bool.and_eq_true, Bool.or_eq_true, decide_eq_true_eq] at h
  obtain ⟨h1, h2⟩ := h
  have hn : (47 : UInt8) ∉ pre 126 s := name_no h1 rfl
  rcases h2 with h2 | h2
  · rwa [pre_all h2] at hn
  · by_cases hm : (126 : UInt8) ∈ s
    · obtain ⟨x, hx⟩ := Option.isSome_iff_exists.1 h2
      obtain ⟨t, r, i⟩ := x
      obtain ⟨h3, h4⟩ := parse3_some hx
      have hd : (47 : UInt8) ∉ s.drop ((pre 126 s).length + 1) := by rw [← h4]; exact text_no h3 rfl (by decide)
      intro hmem
      have hlt : (pre 126 s).length < s.length := by
        have := pre_le 126 s
        refine Nat.lt_of_le_of_ne this fun e => pre_full.1 e hm
      rw [← List.take_append_drop (pre 126 s).length s, pre_take, List.drop_eq_getElem_cons hlt] at hmem
      have hst := pre_stop hlt
      rw [List.getD_eq_getElem?_getD, List.getElem?_eq_getElem hlt, Option.getD_some] at hst
      rcases List.mem_append.1 hmem with hh | hh
      · exact hn hh
      · rw [hst] at hh
        rcases List.mem_cons.1 hh with hh | hh
        · exact absurd hh (by decide)
        · exact hd hh
    · rwa [pre_all hm] at hn
theorem seen_ne {s : List UInt8} (h : seenOk s = true) : s ≠ [] := fun e => by
  subst e
  exact absurd h (by decide +kernel)
/-- What a name that clashes is seen as. -/
def clashP (s : List UInt8) (t r i : Int) : List UInt8 × Int := if nameOk s = true then (if rightId t r i = true then (s ++ 126 :: textS t r i, 0) else ([], 1)) else ([], 70)
theorem clash_pre {s : List UInt8} {t r i : Int} (h : nameOk s = true) : pre 126 (s ++ 126 :: textS t r i) = s := pre_app _ (name_no h rfl)
theorem clash_seen {s : List UInt8} {t r i : Int} (h : nameOk s = true) (h' : rightId t r i = true) : seenOk (s ++ 126 :: textS t r i) = true := by
  have hd : (s ++ 126 :: textS t r i).drop (s.length + 1) = textS t r i := by simp
  simp only [seenOk, clash_pre h, h, hd, Bool.true_and]
  obtain ⟨a, b, c, rfl, rfl, rfl⟩ := nat3 h'
  rw [parse3_text h']
  simp
theorem clash_name {s : List UInt8} {t r i : Int} : nameOk (s ++ 126 :: textS t r i) = false := by
  cases h : nameOk (s ++ 126 :: textS t r i) with
  | false => rfl
  | true => exact absurd (by simp) (name_no h (c := 126) rfl)
theorem clash_inj {s s' : List UInt8} {t r i t' r' i' : Int} (h : nameOk s = true) (h1 : rightId t r i = true) (h' : nameOk s' = true) (h1' : rightId t' r' i' = true) (e : s ++ 126 :: textS t r i = s' ++ 126 :: textS t' r' i') : s = s' ∧ t = t' ∧ r = r' ∧ i = i' := by
  have hp := congrArg (pre 126) e
  rw [clash_pre h, clash_pre h'] at hp
  subst hp
  have ht : textS t r i = textS t' r' i' := by simpa using e
  obtain ⟨a, b, c, rfl, rfl, rfl⟩ := nat3 h1
  obtain ⟨a', b', c', rfl, rfl, rfl⟩ := nat3 h1'
  have := parse3_text h1
  rw [ht, parse3_text h1'] at this
  simp only [Option.some.injEq, Prod.mk.injEq] at this
  exact ⟨rfl, this.1.symm, this.2.1.symm, this.2.2.symm⟩
end Pi

/- Stamp: the laws on texts. -/
namespace Pi
open Go Go.Proofs
set_option maxRecDepth 100000
section
variable {X : XF}
theorem textId_len (t r i : Int) : (textId t r i).length ≤ 2000000 := by
  unfold textId
  split
  · rename_i h
    simp only [rightId, decide_eq_true_eq] at h
    have l1 := itoa_len21 (n := t) (by omega) (by omega)
    have l2 := itoa_len21 (n := r) (by omega) (by omega)
    have l3 := itoa_len21 (n := i) (by omega) (by omega)
    simp [textS]; omega
  · simp
end
end Pi

/- Pathname: the loops and small functions: what their runs ask. -/
namespace Pi
open Go Go.Proofs
set_option maxRecDepth 100000
set_option maxHeartbeats 0
abbrev tD (l : List (List UInt8)) : P := .d (.sl 1 (l.map D.str))
abbrev bD' (b : Bool) : P := .d (.bool b)
def hTrim : KF1 := fun ps R post => ∃ s c, ps = [sD s, sD c] ∧ R = [] ∧ (s.length ≤ 9223372036854775807 ∧ c.length < 4294967281 ∧ c.all (fun b => decide (b.toNat < 128)) = true) ∧ post (sD (Lib.trimS s c), [])
def hJoinL : KF1 := fun ps R post => ∃ l c, ps = [tD l, sD c] ∧ R = [] ∧ (l.length ≤ 140737488355328 ∧ (Lib.join l c).length ≤ 140737488355328) ∧ post (sD (Lib.join l c), [])
def hName : KF1 := fun ps R post => ∃ s, ps = [sD s] ∧ R = [] ∧ post (bD' (nameOk s), [])
def hSeen : KF1 := fun ps R post => ∃ s, ps = [sD s] ∧ R = [] ∧ s.length ≤ 2000000 ∧ post (bD' (seenOk s), [])
def hClash : KF1 := fun ps R post => ∃ s t r i, ps = [sD s, .d (idD t r i)] ∧ R = [] ∧ post (.tup [sD (clashP s t r i).1, iD (clashP s t r i).2], [])
abbrev nmH (s : List UInt8) (k : Int) : S := ⟨64, [(0, sD s), (3, iD k)], []⟩
abbrev seH (s : List UInt8) (k : Int) : S := ⟨33, [(0, sD s), (3, iD k)], []⟩
theorem vcName (s : List UInt8) (post : P × List (Nat × En) → Prop) : (bif !s == [] then bif decide ((↑(List.length s) : Int) ≤ (32 : Int)) then bif !s == [(46 : UInt8)] then bif !s == [(46 : UInt8), (46 : UInt8)] then ∃ (s_1 : List UInt8), ∃ (c : List UInt8), [P.d (D.str s), P.d (D.str [(48 : UInt8), (49 : UInt8), (50 : UInt8), (51 : UInt8), (52 : UInt8), (53 : UInt8), (54 : UInt8), (55 : UInt8), (56 : UInt8), (57 : UInt8), (65 : UInt8), (66 : UInt8), (67 : UInt8), (68 : UInt8), (69 : UInt8), (70 : UInt8), (71 : UInt8), (72 : UInt8), (73 : UInt8), (74 : UInt8), (75 : UInt8), (76 : UInt8), (77 : UInt8), (78 : UInt8), (79 : UInt8), (80 : UInt8), (81 : UInt8), (82 : UInt8), (83 : UInt8), (84 : UInt8), (85 : UInt8), (86 : UInt8), (87 : UInt8), (88 : UInt8), (89 : UInt8), (90 : UInt8), (97 : UInt8), (98 : UInt8), (99 : UInt8), (100 : UInt8), (101 : UInt8), (102 : UInt8), (103 : UInt8), (104 : UInt8), (105 : UInt8), (106 : UInt8), (107 : UInt8), (108 : UInt8), (109 : UInt8), (110 : UInt8), (111 : UInt8), (112 : UInt8), (113 : UInt8), (114 : UInt8), (115 : UInt8), (116 : UInt8), (117 : UInt8), (118 : UInt8), (119 : UInt8), (120 : UInt8), (121 : UInt8), (122 : UInt8), (46 : UInt8), (45 : UInt8), (95 : UInt8)])] = [P.d (D.str s_1), P.d (D.str c)] ∧ EqR [] [] ∧ (List.length s_1 ≤ 9223372036854775807 ∧ List.length c < 4294967281 ∧ (List.all c fun (b : UInt8) => decide (UInt8.toNat b < 128)) = true) ∧ post (P.d (D.bool (Lib.trimS s_1 c == [])), []) else post (P.d (D.bool false), []) else post (P.d (D.bool false), []) else post (P.d (D.bool false), []) else post (P.d (D.bool false), [])) = (bodyF [(66, hTrim)] [] 48 [sD s] []) post := by kernel_rfl
def vcNmN_0 (s : List UInt8) (k : Int) : Int := (↑(UInt8.toNat (List.getD s (Int.toNat k) (0 : UInt8))) : Int)
def vcNmN_1 (k : Int) : Int := k + (1 : Int)
theorem vcNmN (s : List UInt8) (k : Int) (post : PX × S → Prop) : (bif decide (k < (↑(List.length s) : Int)) then bif decide ((0 : Int) ≤ k ∧ k < (↑(List.length s) : Int)) then bif decide (vcNmN_0 s k ≥ (48 : Int)) then bif decide (vcNmN_0 s k ≤ (57 : Int)) then bif decide ((-9223372036854775808 : Int) ≤ vcNmN_1 k ∧ vcNmN_1 k ≤ (9223372036854775807 : Int)) then post (PX.normal, S.mk 64 [(0, P.d (D.str s)), (3, P.d (D.int IntKind.i64 (vcNmN_1 k)))] []) else False else bif decide (vcNmN_0 s k ≥ (65 : Int)) then bif decide (vcNmN_0 s k ≤ (90 : Int)) then bif decide ((-9223372036854775808 : Int) ≤ vcNmN_1 k ∧ vcNmN_1 k ≤ (9223372036854775807 : Int)) then post (PX.normal, S.mk 64 [(0, P.d (D.str s)), (3, P.d (D.int IntKind.i64 (vcNmN_1 k)))] []) else False else bif decide (vcNmN_0 s k ≥ (97 : Int)) then bif decide (vcNmN_0 s k ≤ (122 : Int)) then bif decide ((-9223372036854775808 : Int) ≤ vcNmN_1 k ∧ vcNmN_1 k ≤ (9223372036854775807 : Int)) then post (PX.normal, S.mk 64 [(0, P.d (D.str s)), (3, P.d (D.int IntKind.i64 (vcNmN_1 k)))] []) else False else bif vcNmN_0 s k == (46 : Int) then bif decide ((-9223372036854775808 : Int) ≤ vcNmN_1 k ∧ vcNmN_1 k ≤ (9223372036854775807 : Int)) then post (PX.normal, S.mk 64 [(0, P.d (D.str s)), (3, P.d (D.int IntKind.i64 (vcNmN_1 k)))] []) else False else bif vcNmN_0 s k == (45 : Int) then bif decide ((-9223372036854775808 : Int) ≤ vcNmN_1 k ∧ vcNmN_1 k ≤ (9223372036854775807 : Int)) then post (PX.normal, S.mk 64 [(0, P.d (D.str s)), (3, P.d (D.int IntKind.i64 (vcNmN_1 k)))] []) else False else bif !vcNmN_0 s k == (95 : Int) then post (PX.ret, S.mk 64 [(2, P.d (D.bool false))] []) else bif decide ((-9223372036854775808 : Int) ≤ vcNmN_1 k ∧ vcNmN_1 k ≤ (9223372036854775807 : Int)) then post (PX.normal, S.mk 64 [(0, P.d (D.str s)), (3, P.d (D.int IntKind.i64 (vcNmN_1 k)))] []) else False else bif vcNmN_0 s k == (46 : Int) then bif decide ((-9223372036854775808 : Int) ≤ vcNmN_1 k ∧ vcNmN_1 k ≤ (9223372036854775807 : Int)) then post (PX.normal, S.mk 64 [(0, P.d (D.str s)), (3, P.d (D.int IntKind.i64 (vcNmN_1 k)))] []) else False else bif vcNmN_0 s k == (45 : Int) then bif decide ((-9223372036854775808 : Int) ≤ vcNmN_1 k ∧ vcNmN_1 k ≤ (9223372036854775807 : Int)) then post (PX.normal, S.mk 64 [(0, P.d (D.str s)), (3, P.d (D.int IntKind.i64 (vcNmN_1 k)))] []) else False else bif !vcNmN_0 s k == (95 : Int) then post (PX.ret, S.mk 64 [(2, P.d (D.bool false))] []) else bif decide ((-9223372036854775808 : Int) ≤ vcNmN_1 k ∧ vcNmN_1 k ≤ (9223372036854775807 : Int)) then post (PX.normal, S.mk 64 [(0, P.d (D.str s)), (3, P.d (D.int IntKind.i64 (vcNmN_1 k)))] []) else False else bif decide (vcNmN_0 s k ≥ (97 : Int)) then bif decide (vcNmN_0 s k ≤ (122 : Int)) then bif decide ((-9223372036854775808 : Int) ≤ vcNmN_1 k ∧ vcNmN_1 k ≤ (9223372036854775807 : Int)) then post (PX.normal, S.mk 64 [(0, P.d (D.str s)), (3, P.d (D.int IntKind.i64 (vcNmN_1 k)))] []) else False else bif vcNmN_0 s k == (46 : Int) then bif decide ((-9223372036854775808 : Int) ≤ vcNmN_1 k ∧ vcNmN_1 k ≤ (9223372036854775807 : Int)) then post (PX.normal, S.mk 64 [(0, P.d (D.str s)), (3, P.d (D.int IntKind.i64 (vcNmN_1 k)))] []) else False else bif vcNmN_0 s k == (45 : Int) then bif decide ((-9223372036854775808 : Int) ≤ vcNmN_1 k ∧ vcNmN_1 k ≤ (9223372036854775807 : Int)) then post (PX.normal, S.mk 64 [(0, P.d (D.str s)), (3, P.d (D.int IntKind.i64 (vcNmN_1 k)))] []) else False else bif !vcNmN_0 s k == (95 : Int) then post (PX.ret, S.mk 64 [(2, P.d (D.bool false))] []) else bif decide ((-9223372036854775808 : Int) ≤ vcNmN_1 k ∧ vcNmN_1 k ≤ (9223372036854775807 : Int)) then post (PX.normal, S.mk 64 [(0, P.d (D.str s)), (3, P.d (D.int IntKind.i64 (vcNmN_1 k)))] []) else False else bif vcNmN_0 s k == (46 : Int) then bif decide ((-9223372036854775808 : Int) ≤ vcNmN_1 k ∧ vcNmN_1 k ≤ (9223372036854775807 : Int)) then post (PX.normal, S.mk 64 [(0, P.d (D.str s)), (3, P.d (D.int IntKind.i64 (vcNmN_1 k)))] []) else False else bif vcNmN_0 s k == (45 : Int) then bif decide ((-9223372036854775808 : Int) ≤ vcNmN_1 k ∧ vcNmN_1 k ≤ (9223372036854775807 : Int)) then post (PX.normal, S.mk 64 [(0, P.d (D.str s)), (3, P.d (D.int IntKind.i64 (vcNmN_1 k)))] []) else False else bif !vcNmN_0 s k == (95 : Int) then post (PX.ret, S.mk 64 [(2, P.d (D.bool false))] []) else bif decide ((-9223372036854775808 : Int) ≤ vcNmN_1 k ∧ vcNmN_1 k ≤ (9223372036854775807 : Int)) then post (PX.normal, S.mk 64 [(0, P.d (D.str s)), (3, P.d (D.int IntKind.i64 (vcNmN_1 k)))] []) else False else bif decide (vcNmN_0 s k ≥ (65 : Int)) then bif decide (vcNmN_0 s k ≤ (90 : Int)) then bif decide ((-9223372036854775808 : Int) ≤ vcNmN_1 k ∧ vcNmN_1 k ≤ (9223372036854775807 : Int)) then post (PX.normal, S.mk 64 [(0, P.d (D.str s)), (3, P.d (D.int IntKind.i64 (vcNmN_1 k)))] []) else False else bif decide (vcNmN_0 s k ≥ (97 : Int)) then bif decide (vcNmN_0 s k ≤ (122 : Int)) then bif decide ((-9223372036854775808 : Int) ≤ vcNmN_1 k ∧ vcNmN_1 k ≤ (9223372036854775807 : Int)) then post (PX.normal, S.mk 64 [(0, P.d (D.str s)), (3, P.d (D.int IntKind.i64 (vcNmN_1 k)))] []) else False else bif vcNmN_0 s k == (46 : Int) then bif decide ((-9223372036854775808 : Int) ≤ vcNmN_1 k ∧ vcNmN_1 k ≤ (9223372036854775807 : Int)) then post (PX.normal, S.mk 64 [(0, P.d (D.str s)), (3, P.d (D.int IntKind.i64 (vcNmN_1 k)))] []) else False else bif vcNmN_0 s k == (45 : Int) then bif decide ((-9223372036854775808 : Int) ≤ vcNmN_1 k ∧ vcNmN_1 k ≤ (9223372036854775807 : Int)) then post (PX.normal, S.mk 64 [(0, P.d (D.str s)), (3, P.d (D.int IntKind.i64 (vcNmN_1 k)))] []) else False else bif !vcNmN_0 s k == (95 : Int) then post (PX.ret, S.mk 64 [(2, P.d (D.bool false))] []) else bif decide ((-9223372036854775808 : Int) ≤ vcNmN_1 k ∧ vcNmN_1 k ≤ (9223372036854775807 : Int)) then post (PX.normal, S.mk 64 [(0, P.d (D.str s)), (3, P.d (D.int IntKind.i64 (vcNmN_1 k)))] []) else False else bif vcNmN_0 s k == (46 : Int) then bif decide ((-9223372036854775808 : Int) ≤ vcNmN_1 k ∧ vcNmN_1 k ≤ (9223372036854775807 : Int)) then post (PX.normal, S.mk 64 [(0, P.d (D.str s)), (3, P.d (D.int IntKind.i64 (vcNmN_1 k)))] []) else False else bif vcNmN_0 s k == (45 : Int) then bif decide ((-9223372036854775808 : Int) ≤ vcNmN_1 k ∧ vcNmN_1 k ≤ (9223372036854775807 : Int)) then post (PX.normal, S.mk 64 [(0, P.d (D.str s)), (3, P.d (D.int IntKind.i64 (vcNmN_1 k)))] []) else False else bif !vcNmN_0 s k == (95 : Int) then post (PX.ret, S.mk 64 [(2, P.d (D.bool false))] []) else bif decide ((-9223372036854775808 : Int) ≤ vcNmN_1 k ∧ vcNmN_1 k ≤ (9223372036854775807 : Int)) then post (PX.normal, S.mk 64 [(0, P.d (D.str s)), (3, P.d (D.int IntKind.i64 (vcNmN_1 k)))] []) else False else bif decide (vcNmN_0 s k ≥ (97 : Int)) then bif decide (vcNmN_0 s k ≤ (122 : Int)) then bif decide ((-9223372036854775808 : Int) ≤ vcNmN_1 k ∧ vcNmN_1 k ≤ (9223372036854775807 : Int)) then post (PX.normal, S.mk 64 [(0, P.d (D.str s)), (3, P.d (D.int IntKind.i64 (vcNmN_1 k)))] []) else False else bif vcNmN_0 s k == (46 : Int) then bif decide ((-9223372036854775808 : Int) ≤ vcNmN_1 k ∧ vcNmN_1 k ≤ (9223372036854775807 : Int)) then post (PX.normal, S.mk 64 [(0, P.d (D.str s)), (3, P.d (D.int IntKind.i64 (vcNmN_1 k)))] []) else False else bif vcNmN_0 s k == (45 : Int) then bif decide ((-9223372036854775808 : Int) ≤ vcNmN_1 k ∧ vcNmN_1 k ≤ (9223372036854775807 : Int)) then post (PX.normal, S.mk 64 [(0, P.d (D.str s)), (3, P.d (D.int IntKind.i64 (vcNmN_1 k)))] []) else False else bif !vcNmN_0 s k == (95 : Int) then post (PX.ret, S.mk 64 [(2, P.d (D.bool false))] []) else bif decide ((-9223372036854775808 : Int) ≤ vcNmN_1 k ∧ vcNmN_1 k ≤ (9223372036854775807 : Int)) then post (PX.normal, S.mk 64 [(0, P.d (D.str s)), (3, P.d (D.int IntKind.i64 (vcNmN_1 k)))] []) else False else bif vcNmN_0 s k == (46 : Int) then bif decide ((-9223372036854775808 : Int) ≤ vcNmN_1 k ∧ vcNmN_1 k ≤ (9223372036854775807 : Int)) then post (PX.normal, S.mk 64 [(0, P.d (D.str s)), (3, P.d (D.int IntKind.i64 (vcNmN_1 k)))] []) else False else bif vcNmN_0 s k == (45 : Int) then bif decide ((-9223372036854775808 : Int) ≤ vcNmN_1 k ∧ vcNmN_1 k ≤ (9223372036854775807 : Int)) then post (PX.normal, S.mk 64 [(0, P.d (D.str s)), (3, P.d (D.int IntKind.i64 (vcNmN_1 k)))] []) else False else bif !vcNmN_0 s k == (95 : Int) then post (PX.ret, S.mk 64 [(2, P.d (D.bool false))] []) else bif decide ((-9223372036854775808 : Int) ≤ vcNmN_1 k ∧ vcNmN_1 k ≤ (9223372036854775807 : Int)) then post (PX.normal, S.mk 64 [(0, P.d (D.str s)), (3, P.d (D.int IntKind.i64 (vcNmN_1 k)))] []) else False else False else post (PX.exit 0, S.mk 64 [] [])) = (roundL [] [] 44 4 (nmH s k)) post := by kernel_rfl
theorem vcSeN (s : List UInt8) (k : Int) (post : PX × S → Prop) : (bif decide (k < (↑(List.length s) : Int)) then bif decide ((0 : Int) ≤ k ∧ k < (↑(List.length s) : Int)) then bif (↑(UInt8.toNat (List.getD s (Int.toNat k) (0 : UInt8))) : Int) == (126 : Int) then bif decide ((-9223372036854775808 : Int) ≤ k + (1 : Int) ∧ k + (1 : Int) ≤ (9223372036854775807 : Int)) then bif decide ((0 : Int) ≤ k + (1 : Int) ∧ k + (1 : Int) ≤ (↑(List.length s) : Int)) then ∃ (s_1 : List UInt8), [P.d (D.str (List.drop (Int.toNat (k + (1 : Int))) (List.take (List.length s) s)))] = [P.d (D.str s_1)] ∧ EqR [] [] ∧ List.length s_1 ≤ 9223372036854775807 ∧ (parse3 s_1 = none → post (PX.ret, S.mk 33 [(0, P.d (D.str s)), (2, P.d (D.bool false))] [])) ∧ ∀ (t r i : Int), parse3 s_1 = some (t, r, i) → bif decide ((0 : Int) ≤ k ∧ k ≤ (↑(List.length s) : Int)) then ∃ (s_2 : List UInt8), [P.d (D.str (List.drop 0 (List.take (Int.toNat k) s)))] = [P.d (D.str s_2)] ∧ EqR [] [] ∧ post (PX.ret, S.mk 33 [(0, P.d (D.str s)), (2, P.d (D.bool (nameOk s_2)))] []) else False else False else False else bif decide ((-9223372036854775808 : Int) ≤ k + (1 : Int) ∧ k + (1 : Int) ≤ (9223372036854775807 : Int)) then post (PX.normal, S.mk 33 [(0, P.d (D.str s)), (3, P.d (D.int IntKind.i64 (k + (1 : Int))))] []) else False else False else post (PX.exit 0, S.mk 33 [(0, P.d (D.str s))] [])) = (roundL [(63, hParseR), (44, hName)] [] 43 2 (seH s k)) post := by kernel_rfl
theorem vcClash (s : List UInt8) (t r i : Int) (post : P × List (Nat × En) → Prop) : (∃ (t_1 : Int), ∃ (r_1 : Int), ∃ (i_1 : Int), [P.d (D.agg [D.int IntKind.i64 t, D.int IntKind.i64 r, D.int IntKind.i64 i])] = [P.d (D.agg [D.int IntKind.i64 t_1, D.int IntKind.i64 r_1, D.int IntKind.i64 i_1])] ∧ EqR [] [] ∧ ∃ (s_1 : List UInt8), [P.d (D.str s)] = [P.d (D.str s_1)] ∧ EqR [] [] ∧ bif !nameOk s_1 then post (P.tup [P.d (D.str []), P.d (D.int IntKind.i64 (70 : Int))], []) else bif textId t_1 r_1 i_1 == [] then post (P.tup [P.d (D.str []), P.d (D.int IntKind.i64 (1 : Int))], []) else bif decide (List.length s + 1 ≤ 9223372036854775807) then bif decide (List.length (s ++ [(126 : UInt8)]) + List.length (textId t_1 r_1 i_1) ≤ 9223372036854775807) then post (P.tup [P.d (D.str (s ++ [(126 : UInt8)] ++ textId t_1 r_1 i_1)), P.d (D.int IntKind.i64 (0 : Int))], []) else False else False) = (bodyF [(48, hName), (69, hText)] [] 51 [sD s, .d (idD t r i)] []) post := by kernel_rfl
theorem vcJoin (l : List (List UInt8)) (post : P × List (Nat × En) → Prop) : (∃ (l_1 : List (List UInt8)), ∃ (c : List UInt8), [P.d (D.sl 1 (List.map D.str l)), P.d (D.str [(47 : UInt8)])] = [P.d (D.sl 1 (List.map D.str l_1)), P.d (D.str c)] ∧ EqR [] [] ∧ (List.length l_1 ≤ 140737488355328 ∧ List.length (Lib.join l_1 c) ≤ 140737488355328) ∧ bif decide (1 + List.length (Lib.join l_1 c) ≤ 9223372036854775807) then post (P.d (D.str ([(47 : UInt8)] ++ Lib.join l_1 c)), []) else False) = (bodyF [(70, hJoinL)] [] 52 [tD l] []) post := by kernel_rfl
end Pi

/- Pathname: the loops and small functions. -/
namespace Pi
open Go Go.Proofs
set_option maxRecDepth 100000
section
variable {X : XF}
theorem okTrim : FD X 66 hTrim := FD.ofX Tryz.func66 (by kernel_rfl) (by kernel_rfl) (by
  intro ps R post hh
  obtain ⟨s, c, rfl, rfl, hc, hp⟩ := hh
  refine ⟨_, ?_, hp⟩
  show xTrim [.d (.str s), .d (.str c)] [] = _
  exact if_pos hc)
theorem strsOf_map : ∀ l : List (List UInt8), strsOf (l.map D.str) = some l
  | [] => rfl
  | x :: l => by simp [strsOf, strsOf_map l]
theorem okJoinL : FD X 70 hJoinL := FD.ofX Tryz.func70 (by kernel_rfl) (by kernel_rfl) (by
  intro ps R post hh
  obtain ⟨l, c, rfl, rfl, hc, hp⟩ := hh
  refine ⟨_, ?_, hp⟩
  show xJoin [.d (.sl 1 (l.map D.str)), .d (.str c)] [] = _
  unfold xJoin
  simp only [strsOf_map]
  exact if_pos hc)
theorem okName : FD X 48 hName := FD.mk (H := [(66, hTrim)]) (hk := []) (by kernel_rfl) (.cons okTrim .nil) .nil (by
  intro ps R post hh
  obtain ⟨s, rfl, rfl, hp⟩ := hh
  rw [← vcName]
  refine condI (fun h1 => condP (fun h2 => condI (fun h3 => condI (fun h4 => ⟨s, signsL, rfl, rfl, ⟨by omega, by decide, by decide⟩, ?_⟩) fun h4 => ?_) fun h3 => ?_) fun h2 => ?_) fun h1 => ?_
  · refine leafB hp ?_
    rw [Bool.eq_iff_iff, nameOk, beq_iff_eq, trim_nil]
    simp only [signs_name, decide_eq_true_eq]
    constructor
    · intro h; exact h.2.2.2.2
    · intro h; exact ⟨by simpa using h1, by omega, by simpa using h3, by simpa using h4, h⟩
  · exact leafB hp (decF fun h => by simp at h4; exact h.2.2.2.1 h4)
  · exact leafB hp (decF fun h => by simp at h3; exact h.2.2.1 h3)
  · exact leafB hp (decF fun h => by omega)
  · exact leafB hp (decF fun h => by simp at h1; exact h.1 h1))
/-- A byte, and whether it may stand in a name. -/
theorem nameB_iff (b : UInt8) : nameB b = true ↔ ((48 ≤ (b.toNat : Int) ∧ (b.toNat : Int) ≤ 57) ∨ (65 ≤ (b.toNat : Int) ∧ (b.toNat : Int) ≤ 90) ∨ (97 ≤ (b.toNat : Int) ∧ (b.toNat : Int) ≤ 122) ∨ (b.toNat : Int) = 46 ∨ (b.toNat : Int) = 45 ∨ (b.toNat : Int) = 95) := by
  unfold nameB
  simp only [decide_eq_true_eq]
  omega
theorem allBytes (p : UInt8 → Bool) (s : List UInt8) : (∀ b ∈ s, p b = true) ↔ ∀ i : Nat, i < s.length → p (s.getD i 0) = true := by
  constructor
  · intro h i hi
    have := h s[i] (List.getElem_mem hi)
    simpa [List.getD_eq_getElem?_getD, hi] using this
  · intro h x hx
    obtain ⟨i, hi, rfl⟩ := List.getElem_of_mem hx
    have := h i hi
    simpa [List.getD_eq_getElem?_getD, hi] using this
def gNm : S → K (PX × S) := fun s post => ∃ l, s = nmH l 0 ∧ l.length ≤ 32 ∧ (¬ (∀ b ∈ l, nameB b = true) → post (.ret, ⟨64, [(2, bD' false)], []⟩)) ∧ ((∀ b ∈ l, nameB b = true) → post (.exit 0, ⟨64, [], []⟩))
theorem loopNm : LD X 44 4 (loopHook (kpF 44 4) gNm) := LD.par (H := []) (hk := []) (by kernel_rfl) (by kernel_rfl) .nil .nil
  (A := List UInt8) (B := Int) (fun a k => nmH a k)
  (fun a k => a.length ≤ 32 ∧ 0 ≤ k ∧ k ≤ a.length ∧ ∀ i : Nat, (i : Int) < k → nameB (a.getD i 0) = true)
  (fun a k => (a.length - k).toNat)
  (fun a x => ((¬ ∀ b ∈ a, nameB b = true) ∧ x = (.ret, ⟨64, [(2, bD' false)], []⟩)) ∨ ((∀ b ∈ a, nameB b = true) ∧ x = (.exit 0, ⟨64, [], []⟩)))
  (by
    rintro l k ⟨hs, h0, h1, he⟩
    (rw [← vcNmN]; delta vcNmN_0 vcNmN_1)
    have hb := nameB_iff (l.getD k.toNat 0)
    have hno : ¬ nameB (l.getD k.toNat 0) = true → k < l.length → ¬ ∀ b ∈ l, nameB b = true := fun h hk hh => h ((allBytes _ l).1 hh k.toNat (by omega))
    have hyes : nameB (l.getD k.toNat 0) = true → k < l.length → roundPost (l.length - k).toNat (fun m s => ∃ b', s = nmH l b' ∧ (l.length ≤ 32 ∧ 0 ≤ b' ∧ b' ≤ (l.length : Int) ∧ ∀ i : Nat, (i : Int) < b' → nameB (l.getD i 0) = true) ∧ m = (l.length - b').toNat) (fun x => ((¬ ∀ b ∈ l, nameB b = true) ∧ x = (.ret, ⟨64, [(2, bD' false)], []⟩)) ∨ ((∀ b ∈ l, nameB b = true) ∧ x = (.exit 0, ⟨64, [], []⟩))) (PX.normal, nmH l (k + 1)) := fun h hk =>
      ⟨_, by omega, k + 1, rfl, ⟨hs, by omega, by omega, fun i hi => by
          by_cases e : (i : Int) = k
          · have : i = k.toNat := by omega
            rw [this]; exact h
          · exact he i (by omega)⟩, rfl⟩
    generalize (((l.getD k.toNat 0).toNat : Nat) : Int) = b at *
    refine condP (fun h => oblP (by omega) ?_) fun h => .inr ⟨(allBytes _ l).2 fun i hi => he i (by omega), rfl⟩
    repeat' (first | refine condP (fun _ => ?_) (fun _ => ?_) | refine condE (fun _ => ?_) (fun _ => ?_) | refine condN (fun _ => ?_) (fun _ => ?_))
    all_goals first
      | exact absurd (incI (k := k) (by omega) (by omega)) (by simp; omega)
      | exact hyes (hb.2 (by omega)) h
      | exact .inl ⟨hno (fun hh => by have := hb.1 hh; omega) h, rfl⟩)
  (by
    rintro s post ⟨l, rfl, h1, h2, h3⟩
    refine ⟨l, 0, rfl, ⟨h1, by omega, by omega, fun i hi => by omega⟩, ?_⟩
    rintro x (⟨h, rfl⟩ | ⟨h, rfl⟩)
    · exact h2 h
    · exact h3 h)
end
end Pi

/- Pathname: more loops. -/
namespace Pi
open Go Go.Proofs
set_option maxRecDepth 100000
section
variable {X : XF}
theorem isDs (x : List UInt8) : isD PR 9 (.str x) = true := by kernel_rfl
theorem tx_nth {l : List (List UInt8)} {i : Nat} (h : i < l.length) : D.nth (l.map D.str) i = .str (l.getD i []) := by
  simp [D.nth, h]
def gSe : S → K (PX × S) := fun s post => ∃ l, s = seH l 0 ∧ l.length ≤ 2000000 ∧ (126 ∈ l → post (.ret, ⟨33, [(0, sD l), (2, bD' (seenOk l))], []⟩)) ∧ (126 ∉ l → post (.exit 0, ⟨33, [(0, sD l)], []⟩))
theorem loopSe (hN : FD X 44 hName) : LD X 43 2 (loopHook (kpF 43 2) gSe) := LD.par (H := [(63, hParseR), (44, hName)]) (hk := []) (by kernel_rfl) (by kernel_rfl) (.cons okParseR (.cons hN .nil)) .nil
  (A := List UInt8) (B := Int) (fun a k => seH a k)
  (fun a k => a.length ≤ 2000000 ∧ 0 ≤ k ∧ k ≤ (pre 126 a).length)
  (fun a k => ((pre 126 a).length - k).toNat)
  (fun a x => (126 ∈ a ∧ x = (.ret, ⟨33, [(0, sD a), (2, bD' (seenOk a))], []⟩)) ∨ (126 ∉ a ∧ x = (.exit 0, ⟨33, [(0, sD a)], []⟩)))
  (by
    rintro l k ⟨hs, h0, h1⟩
    rw [← vcSeN]
    have hle := pre_le 126 l
    have hb : ∀ b : UInt8, ((b.toNat : Nat) : Int) = 126 ↔ b = 126 := fun b => ⟨fun e => UInt8.toNat_inj.1 (by simp; omega), fun e => by subst e; rfl⟩
    refine condP (fun h => oblP ⟨h0, h⟩ (condE (fun h' => ?_) fun h' => ?_)) fun h => ?_
    · rw [hb] at h'
      have hk : k = (pre 126 l).length := by
        refine Classical.byContradiction fun hc => ?_
        exact pre_in (c := 126) (s := l) (i := k.toNat) (by omega) h'
      have hm : 126 ∈ l := by
        have : l.getD k.toNat 0 = l[k.toNat]'(by omega) := by simp [List.getD_eq_getElem?_getD, show k.toNat < l.length by omega]
        rw [this] at h'
        rw [← h']
        exact List.getElem_mem _
      have e1 : (k + 1).toNat = (pre 126 l).length + 1 := by omega
      have e2 : k.toNat = (pre 126 l).length := by omega
      refine oblI (incI (by omega) (by omega)) (oblP (by omega) ⟨_, rfl, rfl, by simp; omega, fun hno => ?_, fun t r i hyes => oblP (by omega) ⟨_, rfl, rfl, ?_⟩⟩)
      · rw [e1, List.take_length] at hno
        refine .inl ⟨hm, ?_⟩
        have : seenOk l = false := by simp [seenOk, hm, hno]
        rw [this]
      · rw [e1, List.take_length] at hyes
        refine .inl ⟨hm, ?_⟩
        have : seenOk l = nameOk (pre 126 l) := by simp [seenOk, hyes]
        rw [this, e2, List.drop_zero, pre_take]
    · rw [ne_eq, hb] at h'
      have hlt : k < (pre 126 l).length := by
        refine Classical.byContradiction fun hc => h' ?_
        have e2 : k.toNat = (pre 126 l).length := by omega
        rw [e2]
        exact pre_stop (by omega)
      exact oblI (incI (by omega) (by omega)) ⟨_, by omega, k + 1, rfl, ⟨hs, by omega, by omega⟩, rfl⟩
    · exact .inr ⟨pre_full.1 (by omega), rfl⟩)
  (by
    rintro s post ⟨l, rfl, h1, h2, h3⟩
    refine ⟨l, 0, rfl, ⟨h1, by omega, by omega⟩, ?_⟩
    rintro x (⟨h, rfl⟩ | ⟨h, rfl⟩)
    · exact h2 h
    · exact h3 h)
end
end Pi

/- Pathname: the functions: what their runs ask. -/
namespace Pi
open Go Go.Proofs
set_option maxRecDepth 100000
set_option maxHeartbeats 0
def joinR (l : List (List UInt8)) : List UInt8 := l.flatMap fun x => 47 :: x
def sumL (l : List (List UInt8)) : Nat := (joinR l).length
def hJoinP : KF1 := fun ps R post => ∃ l, ps = [tD l] ∧ R = [] ∧ sumL l ≤ 2000000 ∧ post (sD (joinP l), [])
theorem vcNameR (s : List UInt8) (post : P × List (Nat × En) → Prop) : (bif s == [] then post (P.d (D.bool false), []) else bif decide ((↑(List.length s) : Int) > (32 : Int)) then post (P.d (D.bool false), []) else bif s == [(46 : UInt8)] then post (P.d (D.bool false), []) else bif s == [(46 : UInt8), (46 : UInt8)] then post (P.d (D.bool false), []) else ∃ (l : List UInt8), S.mk 64 [(0, P.d (D.str s)), (3, P.d (D.int IntKind.i64 (0 : Int)))] [] = S.mk 64 [(0, P.d (D.str l)), (3, P.d (D.int IntKind.i64 (0 : Int)))] [] ∧ List.length l ≤ 32 ∧ ((¬∀ (b : UInt8), b ∈ l → nameB b = true) → post (P.d (D.bool false), [])) ∧ ((∀ (b : UInt8), b ∈ l → nameB b = true) → post (P.d (D.bool true), []))) = (bodyF [] [(4, loopHook (kpF 44 4) gNm)] 44 [sD s] []) post := by kernel_rfl
theorem vcSeenR (s : List UInt8) (post : P × List (Nat × En) → Prop) : (∃ (l : List UInt8), S.mk 33 [(0, P.d (D.str s)), (3, P.d (D.int IntKind.i64 (0 : Int)))] [] = S.mk 33 [(0, P.d (D.str l)), (3, P.d (D.int IntKind.i64 (0 : Int)))] [] ∧ List.length l ≤ 2000000 ∧ ((126 : UInt8) ∈ l → post (P.d (D.bool (seenOk l)), [])) ∧ (¬(126 : UInt8) ∈ l → ∃ (s : List UInt8), [P.d (D.str l)] = [P.d (D.str s)] ∧ EqR [] [] ∧ post (P.d (D.bool (nameOk s)), []))) = (bodyF [(44, hName)] [(2, loopHook (kpF 43 2) gSe)] 43 [sD s] []) post := by kernel_rfl
end Pi

/- Pathname: the functions. -/
namespace Pi
open Go Go.Proofs
set_option maxRecDepth 100000
section
variable {X : XF}
theorem okNameR : FD X 44 hName := FD.mk (H := []) (hk := [(4, loopHook (kpF 44 4) gNm)]) (by kernel_rfl) .nil (.cons loopNm .nil) (by
  intro ps R post hh
  obtain ⟨s, rfl, rfl, hp⟩ := hh
  rw [← vcNameR]
  refine condI (fun h1 => ?_) fun h1 => condP (fun h2 => ?_) fun h2 => condI (fun h3 => ?_) fun h3 => condI (fun h4 => ?_) fun h4 => ⟨s, rfl, by omega, fun hno => ?_, fun hyes => ?_⟩
  · exact leafB hp (decF fun h => h.1 (by simpa using h1))
  · exact leafB hp (decF fun h => by omega)
  · exact leafB hp (decF fun h => h.2.2.1 (by simpa using h3))
  · exact leafB hp (decF fun h => h.2.2.2.1 (by simpa using h4))
  · exact leafB hp (decF fun h => hno h.2.2.2.2)
  · exact leafB hp (decT ⟨by simpa using h1, by omega, by simpa using h3, by simpa using h4, hyes⟩))
theorem okSeenR : FD X 43 hSeen := FD.mk (H := [(44, hName)]) (hk := [(2, loopHook (kpF 43 2) gSe)]) (by kernel_rfl) (.cons okNameR .nil) (.cons (loopSe okNameR) .nil) (by
  intro ps R post hh
  obtain ⟨s, rfl, rfl, hs, hp⟩ := hh
  rw [← vcSeenR]
  exact ⟨s, rfl, hs, fun _ => hp, fun hm => ⟨s, rfl, rfl, leafB hp (by simp [seenOk, hm, pre_all hm])⟩⟩)
theorem sum_len (l : List (List UInt8)) : l.length ≤ sumL l := by
  induction l with
  | nil => simp
  | cons x l ih => simp [sumL, joinR] at ih ⊢; omega
theorem joinR_P : ∀ l : List (List UInt8), l ≠ [] → joinR l = joinP l
  | [], h => absurd rfl h
  | [x], _ => by simp [joinR, joinP, join_one]
  | x :: y :: l, _ => by
    have ih := joinR_P (y :: l) (by simp)
    rw [joinP, join_cons2]
    rw [joinP] at ih
    rw [← ih]
    simp [joinR]
theorem joinP_len (l : List (List UInt8)) : (joinP l).length ≤ sumL l + 1 := by
  cases l with
  | nil => simp [joinP, Lib.join, List.intercalate]
  | cons x l => rw [← joinR_P (x :: l) (by simp)]; unfold sumL; omega
theorem okJoin : FD X 52 hJoinP := FD.mk (H := [(70, hJoinL)]) (hk := []) (by kernel_rfl) (.cons okJoinL .nil) .nil (by
  intro ps R post hh
  obtain ⟨l, rfl, rfl, hl, hp⟩ := hh
  rw [← vcJoin]
  have h1 := sum_len l
  have h2 := joinP_len l
  simp [joinP] at h2
  exact ⟨l, [47], rfl, rfl, ⟨by omega, by omega⟩, oblP (by omega) hp⟩)
theorem textId_nil {t r i : Int} : textId t r i = [] ↔ rightId t r i = false := by
  unfold textId
  split
  · rename_i h
    simp [h, textS]
  · rename_i h
    simpa using h
theorem okClash : FD X 51 hClash := FD.mk (H := [(48, hName), (69, hText)]) (hk := []) (by kernel_rfl) (.cons okName (.cons okText .nil)) .nil (by
  intro ps R post hh
  obtain ⟨s, t, r, i, rfl, rfl, hp⟩ := hh
  rw [← vcClash]
  unfold clashP at hp
  refine ⟨t, r, i, rfl, rfl, s, rfl, rfl, condI (fun h => ?_) fun h => condI (fun h2 => ?_) fun h2 => ?_⟩
  · rw [if_neg (by simpa using h)] at hp; exact hp
  · have h2 : rightId t r i = false := textId_nil.1 (by simpa using h2)
    rw [if_pos (by simpa using h), if_neg (by simp [h2])] at hp; exact hp
  · have hn : nameOk s = true := by simpa using h
    have hi : rightId t r i = true := by
      cases hi : rightId t r i with
      | true => rfl
      | false => rw [textId_nil.2 hi] at h2; simp at h2
    rw [if_pos hn, if_pos hi] at hp
    have hl := textId_len t r i
    simp only [nameOk, decide_eq_true_eq] at hn
    refine oblP (by omega) (oblP (by simp; omega) ?_)
    rw [textId, if_pos hi]
    simpa using hp)
end
end Pi

/- Tree: taken, way: what their runs ask. -/
namespace Pi
open Go Go.Proofs
set_option maxRecDepth 100000
set_option maxHeartbeats 0
abbrev Id3 := Int × Int × Int
def ixD (x : Id3) : D := .agg [.int .i64 x.1, .int .i64 x.2.1, .int .i64 x.2.2]
abbrev idsP (l : List Id3) : P := .d (.sl 3 (l.map ixD))
/-- A place: node, parent, name, is it a directory. -/
abbrev Pl := Id3 × Id3 × List UInt8 × Bool
def plD (p : Pl) : D := .agg [.int .i64 p.1.1, .int .i64 p.1.2.1, .int .i64 p.1.2.2, .int .i64 p.2.1.1, .int .i64 p.2.1.2.1, .int .i64 p.2.1.2.2, .str p.2.2.1, .bool p.2.2.2]
abbrev plsP (l : List Pl) : P := .d (.sl 8 (l.map plD))
/-- The nodes' maps. -/
abbrev nodR (f1 f2 f3 f4 : D → Option D) (c1 c2 c3 c4 : Int) : List (Nat × En) :=
  [(0, ⟨0, none, .box 61 [.mp 1 0, .mp 2 0, .mp 3 0, .mp 4 0]⟩), (1, ⟨0, none, .map 41 f1 c1 false⟩), (2, ⟨0, none, .map 41 f2 c2 false⟩), (3, ⟨0, none, .map 41 f3 c3 false⟩), (4, ⟨0, none, .map 41 f4 c4 false⟩)]
abbrev tk3 (l : List Pl) (live : List Id3) (k : Int) (f1 : D → Option D) (c1 : Int) : S :=
  ⟨68, [(1, idsP live), (5, .ref 0 0 0), (18, plsP l), (19, .d (.int .i64 (l.length : Int))), (20, .d (.int .i64 k))], nodR f1 (fun _ => none) (fun _ => none) (fun _ => none) c1 0 0 0⟩
abbrev tk10 (live : List Id3) (k : Int) (f1 f2 : D → Option D) (c1 c2 : Int) : S :=
  ⟨68, [(5, .ref 0 0 0), (54, idsP live), (55, .d (.int .i64 (live.length : Int))), (56, .d (.int .i64 k))], nodR f1 f2 (fun _ => none) (fun _ => none) c1 c2 0 0⟩
/-- A map of ids, as data. -/
def mpD {α : Type} (enc : α → D) (m : Id3 → Option α) : D → Option D
  | .agg [.int .i64 a, .int .i64 b, .int .i64 c] => (m (a, b, c)).map enc
  | _ => none
def okPl (p : Pl) : Bool := rightId p.1.1 p.1.2.1 p.1.2.2 && nameOk p.2.2.1
/-- The place of a node. -/
def atPl (T : List Pl) (x : Id3) : Option Pl := T.find? fun p => p.1 == x
def tkS (T : List Pl) (p : Pl) : List Pl := if (atPl T p.1).isSome then T else if okPl p then T ++ [p] else T
def tkL (l : List Pl) : List Pl := l.foldl tkS []
def lvS (V : List Id3) (x : Id3) : List Id3 := if x ∈ V then V else V ++ [x]
def lvL (l : List Id3) : List Id3 := l.foldl lvS []
abbrev plM (T : List Pl) : D → Option D := mpD plD (atPl T)
abbrev inM (V : List Id3) : D → Option D := mpD (fun _ => .agg []) (fun x => if x ∈ V then some () else none)
abbrev noM : D → Option D := fun _ => none
def gTk3 : S → K (PX × S) := fun s post => ∃ l live, s = tk3 l live 0 noM 0 ∧ l.length ≤ 1000000 ∧ post (.exit 0, ⟨68, [(1, idsP live), (5, .ref 0 0 0)], nodR (plM (tkL l)) noM noM noM ((tkL l).length : Int) 0 0 0⟩)
def gTk10 : S → K (PX × S) := fun s post => ∃ live f1 c1, s = tk10 live 0 f1 noM c1 0 ∧ live.length ≤ 1000000 ∧ post (.exit 2, ⟨68, [(5, .ref 0 0 0)], nodR f1 (inM (lvL live)) noM noM c1 ((lvL live).length : Int) 0 0⟩)
def vcTk_0  : P := P.ref 0 0 0
def vcTk_1  : Nat × P := (5, vcTk_0)
def vcTk_2  : List (Nat × P) := [(20, P.d (D.int IntKind.i64 (0 : Int)))]
def vcTk_3  : Nat × En := (0, En.mk 0 none (Obj.box (61 : TypeId) [P.mp 1 0, P.mp 2 0, P.mp 3 0, P.mp 4 0]))
def vcTk_4  : En := En.mk 0 none (Obj.map 41 (fun (_ : D) => none) (0 : Int) false)
def vcTk_5  : List (Nat × En) := [(3, vcTk_4), (4, vcTk_4)]
def vcTk_6  : List (Nat × En) := (2, vcTk_4) :: vcTk_5
def vcTk_7  : List (Nat × En) := vcTk_3 :: (1, vcTk_4) :: vcTk_6
def vcTk_8 (v1 : List Id3) : P := P.d (D.sl 3 (List.map ixD v1))
def vcTk_9  : List (Nat × P) := [(56, P.d (D.int IntKind.i64 (0 : Int)))]
def vcTk_10 (v5 : D → Option D) (v6 : Int) : Nat × En := (1, En.mk 0 none (Obj.map 41 v5 v6 false))
theorem vcTk (l : List Pl) (live : List Id3) (post : P × List (Nat × En) → Prop) : (∃ (l_1 : List Pl), ∃ (live_1 : List Id3), S.mk 68 ((1, P.d (D.sl 3 (List.map ixD live))) :: vcTk_1 :: (18, P.d (D.sl 8 (List.map plD l))) :: (19, P.d (D.int IntKind.i64 (↑(List.length (List.map plD l)) : Int))) :: vcTk_2) vcTk_7 = S.mk 68 ((1, vcTk_8 live_1) :: vcTk_1 :: (18, P.d (D.sl 8 (List.map plD l_1))) :: (19, P.d (D.int IntKind.i64 (↑(List.length l_1) : Int))) :: vcTk_2) vcTk_7 ∧ List.length l_1 ≤ 1000000 ∧ ∃ (live : List Id3), ∃ (f1 : D → Option D), ∃ (c1 : Int), S.mk 68 (vcTk_1 :: (54, vcTk_8 live_1) :: (55, P.d (D.int IntKind.i64 (↑(List.length (List.map ixD live_1)) : Int))) :: vcTk_9) (vcTk_3 :: (1, En.mk 0 none (Obj.map 41 (fun (x : D) => match x with | D.agg [D.int IntKind.i64 a, D.int IntKind.i64 b, D.int IntKind.i64 c] => Option.map plD (atPl (tkL l_1) (a, b, c)) | _ => none) (↑(List.length (tkL l_1)) : Int) false)) :: vcTk_6) = S.mk 68 (vcTk_1 :: (54, P.d (D.sl 3 (List.map ixD live))) :: (55, P.d (D.int IntKind.i64 (↑(List.length live) : Int))) :: vcTk_9) (vcTk_3 :: vcTk_10 f1 c1 :: vcTk_6) ∧ List.length live ≤ 1000000 ∧ post (vcTk_0, vcTk_3 :: vcTk_10 f1 c1 :: (2, En.mk 0 none (Obj.map 41 (fun (x : D) => match x with | D.agg [D.int IntKind.i64 a, D.int IntKind.i64 b, D.int IntKind.i64 c] => Option.map (fun (_ : Unit) => D.agg []) ((fun (x : Id3) => if x ∈ lvL live then some () else none) (a, b, c)) | _ => none) (↑(List.length (lvL live)) : Int) false)) :: vcTk_5)) = (bodyF [] [(3, loopHook (kpF 26 3) gTk3), (10, loopHook (kpF 26 10) gTk10)] 26 [plsP l, idsP live] []) post := by kernel_rfl
def hTaken : KF1 := fun ps R post => ∃ l live, ps = [plsP l, idsP live] ∧ R = [] ∧ (l.length ≤ 1000000 ∧ live.length ≤ 1000000) ∧ post (.ref 0 0 0, nodR (plM (tkL l)) (inM (lvL live)) noM noM ((tkL l).length : Int) ((lvL live).length : Int) 0 0)
def vcTk3_0 (l : List Pl) (k : Int) : D := D.nth (List.map plD l) (Int.toNat k)
def vcTk3_1 (l : List Pl) (k : Int) : D := D.int IntKind.i64 (D.iVal (D.cAt (vcTk3_0 l k) 0))
def vcTk3_2 (l : List Pl) (k : Int) : D := D.agg [vcTk3_1 l k, D.int IntKind.i64 (D.iVal (D.cAt (vcTk3_0 l k) 1)), D.int IntKind.i64 (D.iVal (D.cAt (vcTk3_0 l k) 2))]
def vcTk3_3  : D := D.int IntKind.i64 (0 : Int)
def vcTk3_4 (k : Int) : Int := k + (1 : Int)
def vcTk3_5 (k : Int) : Bool := decide ((-9223372036854775808 : Int) ≤ vcTk3_4 k ∧ vcTk3_4 k ≤ (9223372036854775807 : Int))
def vcTk3_6 (live : List Id3) : Nat × P := (1, P.d (D.sl 3 (List.map ixD live)))
def vcTk3_7  : Nat × P := (5, P.ref 0 0 0)
def vcTk3_8 (l : List Pl) (live : List Id3) (k : Int) : List (Nat × P) := [vcTk3_6 live, vcTk3_7, (18, P.d (D.sl 8 (List.map plD l))), (19, P.d (D.int IntKind.i64 (↑(List.length l) : Int))), (20, P.d (D.int IntKind.i64 (vcTk3_4 k)))]
def vcTk3_9  : Nat × En := (0, En.mk 0 none (Obj.box (61 : TypeId) [P.mp 1 0, P.mp 2 0, P.mp 3 0, P.mp 4 0]))
def vcTk3_10  : Nat := 0 + 1
def vcTk3_11  : Nat := vcTk3_10 + 1
def vcTk3_12  : Nat := vcTk3_11 + 1
def vcTk3_13  : Nat := vcTk3_12 + 1
def vcTk3_14  : Nat := vcTk3_13 + 1
def vcTk3_15  : Nat := vcTk3_14 + 1
def vcTk3_16  : En := En.mk 0 none (Obj.map 41 (fun (_ : D) => none) (0 : Int) false)
def vcTk3_17  : List (Nat × En) := [(2, vcTk3_16), (3, vcTk3_16), (4, vcTk3_16)]
def vcTk3_18 (f1 : D → Option D) (c1 : Int) : List (Nat × En) := vcTk3_9 :: (1, En.mk 0 none (Obj.map 41 f1 c1 false)) :: vcTk3_17
theorem vcTk3 (l : List Pl) (live : List Id3) (k : Int) (f1 : D → Option D) (c1 : Int) (post : PX × S → Prop) : (bif decide (k < (↑(List.length l) : Int)) then bif decide ((0 : Int) ≤ k ∧ k < (↑(List.length (List.map plD l)) : Int)) then bif isD PR (47 : TypeId) (vcTk3_0 l k) then bif isD PR (47 : TypeId) (getO (f1 (vcTk3_2 l k)) (D.agg [vcTk3_3, vcTk3_3, vcTk3_3, vcTk3_3, vcTk3_3, vcTk3_3, D.str [], D.bool false])) then bif !Option.isSome (f1 (vcTk3_2 l k)) then ∃ (t : Int), ∃ (r : Int), ∃ (i : Int), [P.d (vcTk3_2 l k)] = [P.d (D.agg [D.int IntKind.i64 t, D.int IntKind.i64 r, D.int IntKind.i64 i])] ∧ EqR [] [] ∧ bif rightId t r i then ∃ (s : List UInt8), [P.d (D.str (D.sVal (D.cAt (vcTk3_0 l k) 6)))] = [P.d (D.str s)] ∧ EqR [] [] ∧ bif nameOk s then bif vcTk3_5 k then post (PX.normal, S.mk 68 (vcTk3_8 l live k) (vcTk3_9 :: (1, En.mk 0 none (Obj.map 41 (fun (k' : D) => bif D.eqB (D.agg [vcTk3_1 l k, D.int IntKind.i64 (D.iVal (D.cAt (vcTk3_0 l k) vcTk3_10)), D.int IntKind.i64 (D.iVal (D.cAt (vcTk3_0 l k) vcTk3_11))]) k' then some (D.agg [vcTk3_1 l k, D.int IntKind.i64 (D.iVal (D.cAt (vcTk3_0 l k) vcTk3_10)), D.int IntKind.i64 (D.iVal (D.cAt (vcTk3_0 l k) vcTk3_11)), D.int IntKind.i64 (D.iVal (D.cAt (vcTk3_0 l k) vcTk3_12)), D.int IntKind.i64 (D.iVal (D.cAt (vcTk3_0 l k) vcTk3_13)), D.int IntKind.i64 (D.iVal (D.cAt (vcTk3_0 l k) vcTk3_14)), D.str (D.sVal (D.cAt (vcTk3_0 l k) vcTk3_15)), D.bool (D.bVal (D.cAt (vcTk3_0 l k) (vcTk3_15 + 1)))]) else f1 k') (bif Option.isSome (f1 (vcTk3_2 l k)) then c1 else c1 + (1 : Int)) false)) :: vcTk3_17)) else False else bif vcTk3_5 k then post (PX.normal, S.mk 68 (vcTk3_8 l live k) (vcTk3_18 f1 c1)) else False else bif vcTk3_5 k then post (PX.normal, S.mk 68 (vcTk3_8 l live k) (vcTk3_18 f1 c1)) else False else bif vcTk3_5 k then post (PX.normal, S.mk 68 (vcTk3_8 l live k) (vcTk3_18 f1 c1)) else False else False else False else False else post (PX.exit 0, S.mk 68 [vcTk3_6 live, vcTk3_7] (vcTk3_18 f1 c1))) = (roundL [(47, hRightId), (48, hName)] [] 26 3 (tk3 l live k f1 c1)) post := by kernel_rfl
theorem vcTk10 (live : List Id3) (k : Int) (f1 f2 : D → Option D) (c1 c2 : Int) (post : PX × S → Prop) : (bif decide (k < (↑(List.length live) : Int)) then bif decide ((0 : Int) ≤ k ∧ k < (↑(List.length (List.map ixD live)) : Int)) then bif isD PR 41 (D.nth (List.map ixD live) (Int.toNat k)) then bif decide ((-9223372036854775808 : Int) ≤ k + (1 : Int) ∧ k + (1 : Int) ≤ (9223372036854775807 : Int)) then post (PX.normal, S.mk 68 [(5, P.ref 0 0 0), (54, P.d (D.sl 3 (List.map ixD live))), (55, P.d (D.int IntKind.i64 (↑(List.length live) : Int))), (56, P.d (D.int IntKind.i64 (k + (1 : Int))))] [(0, En.mk 0 none (Obj.box 61 [P.mp 1 0, P.mp 2 0, P.mp 3 0, P.mp 4 0])), (1, En.mk 0 none (Obj.map 41 f1 c1 false)), (2, En.mk 0 none (Obj.map 41 (fun (k' : D) => bif D.eqB (D.agg [D.int IntKind.i64 (D.iVal (D.cAt (D.nth (List.map ixD live) (Int.toNat k)) 0)), D.int IntKind.i64 (D.iVal (D.cAt (D.nth (List.map ixD live) (Int.toNat k)) (0 + 1))), D.int IntKind.i64 (D.iVal (D.cAt (D.nth (List.map ixD live) (Int.toNat k)) (0 + 1 + 1)))]) k' then some (D.agg []) else f2 k') (bif Option.isSome (f2 (D.agg [D.int IntKind.i64 (D.iVal (D.cAt (D.nth (List.map ixD live) (Int.toNat k)) 0)), D.int IntKind.i64 (D.iVal (D.cAt (D.nth (List.map ixD live) (Int.toNat k)) 1)), D.int IntKind.i64 (D.iVal (D.cAt (D.nth (List.map ixD live) (Int.toNat k)) 2))])) then c2 else c2 + (1 : Int)) false)), (3, En.mk 0 none (Obj.map 41 (fun (_ : D) => none) (0 : Int) false)), (4, En.mk 0 none (Obj.map 41 (fun (_ : D) => none) (0 : Int) false))]) else False else False else False else post (PX.exit 2, S.mk 68 [(5, P.ref 0 0 0)] [(0, En.mk 0 none (Obj.box 61 [P.mp 1 0, P.mp 2 0, P.mp 3 0, P.mp 4 0])), (1, En.mk 0 none (Obj.map 41 f1 c1 false)), (2, En.mk 0 none (Obj.map 41 f2 c2 false)), (3, En.mk 0 none (Obj.map 41 (fun (_ : D) => none) (0 : Int) false)), (4, En.mk 0 none (Obj.map 41 (fun (_ : D) => none) (0 : Int) false))])) = (roundL [] [] 26 10 (tk10 live k f1 f2 c1 c2)) post := by kernel_rfl
end Pi

/- Tree: taken. -/
namespace Pi
open Go Go.Proofs
set_option maxRecDepth 100000
theorem mpD_id {α : Type} (enc : α → D) (m : Id3 → Option α) (x : Id3) : mpD enc m (ixD x) = (m x).map enc := rfl
theorem mpD_upd {α : Type} (enc : α → D) (m m' : Id3 → Option α) (x : Id3) (v : α) (h1 : m' x = some v) (h2 : ∀ y, y ≠ x → m' y = m y) : updD (ixD x) (enc v) (mpD enc m) = mpD enc m' := by
  funext d
  unfold updD
  cases hd : D.eqB (ixD x) d with
  | true =>
    have := (D.eqB_iff _ _).1 hd
    subst this
    rw [mpD_id enc m' x, h1]
    rfl
  | false =>
    have hne : ixD x ≠ d := fun e => by rw [(D.eqB_iff _ _).2 e] at hd; cases hd
    simp only [cond_false]
    unfold mpD
    split
    · rename_i a b c
      rw [h2 (a, b, c) (fun e => hne (by rw [← e]; rfl))]
    · rfl
theorem atPl_add {T : List Pl} {p : Pl} (h : (atPl T p.1).isSome = false) : updD (ixD p.1) (plD p) (plM T) = plM (T ++ [p]) := by
  have hn : T.find? (fun q => q.1 == p.1) = none := by
    unfold atPl at h
    cases e : T.find? (fun q => q.1 == p.1) with
    | none => rfl
    | some q => rw [e] at h; cases h
  refine mpD_upd _ _ _ _ _ ?_ fun y hy => ?_
  · unfold atPl
    rw [List.find?_append, hn]
    simp
  · unfold atPl
    rw [List.find?_append]
    have : ([p] : List Pl).find? (fun q => q.1 == y) = none := by simp; intro e; exact hy (by rw [← e])
    rw [this, Option.or_none]
theorem inM_add {V : List Id3} {x : Id3} : updD (ixD x) (.agg []) (inM V) = inM (lvS V x) := by
  refine mpD_upd (fun _ => .agg []) _ _ x () ?_ fun y hy => ?_
  · unfold lvS
    split <;> simp_all
  · unfold lvS
    split
    · rfl
    · simp [hy]
theorem inM_id (V : List Id3) (x : Id3) : inM V (ixD x) = (if x ∈ V then some () else none).map (fun _ => .agg []) := rfl
theorem inM_len (V : List Id3) (x : Id3) : (bif (inM V (ixD x)).isSome then (V.length : Int) else (V.length : Int) + 1) = ((lvS V x).length : Int) := by
  rw [inM_id]
  unfold lvS
  by_cases h : x ∈ V <;> simp [h]
theorem plM_id (T : List Pl) (x : Id3) : plM T (ixD x) = (atPl T x).map plD := rfl
theorem isPl (p : Pl) : isD PR 47 (plD p) = true := by
  obtain ⟨⟨a, b, c⟩, ⟨d, e, f⟩, g, h⟩ := p
  kernel_rfl
theorem isIx (x : Id3) : isD PR 41 (ixD x) = true := by
  obtain ⟨a, b, c⟩ := x
  kernel_rfl
def pl0 : Pl := ((0, 0, 0), (0, 0, 0), [], false)
theorem pl_nth {l : List Pl} {i : Nat} (h : i < l.length) : D.nth (l.map plD) i = plD (l.getD i pl0) := by
  rw [nth_map plD l i h]
  simp [List.getD_eq_getElem?_getD, h]
theorem ix_nth {l : List Id3} {i : Nat} (h : i < l.length) : D.nth (l.map ixD) i = ixD (l.getD i (0, 0, 0)) := by
  rw [nth_map ixD l i h]
  simp [List.getD_eq_getElem?_getD, h]
theorem foldl_take {α β : Type} (f : β → α → β) (b : β) (l : List α) (d : α) (k : Nat) (h : k < l.length) : (l.take (k + 1)).foldl f b = f ((l.take k).foldl f b) (l.getD k d) := by
  rw [List.take_add_one, List.getElem?_eq_getElem h, List.foldl_append]
  simp [List.getD_eq_getElem?_getD, h]
section
variable {X : XF}
theorem loopTk10 : LD X 26 10 (loopHook (kpF 26 10) gTk10) := LD.par (H := []) (hk := []) (by kernel_rfl) (by kernel_rfl) .nil .nil
  (A := List Id3 × (D → Option D) × Int) (B := Int) (fun a k => tk10 a.1 k a.2.1 (inM (lvL (a.1.take k.toNat))) a.2.2 (lvL (a.1.take k.toNat)).length)
  (fun a k => a.1.length ≤ 1000000 ∧ 0 ≤ k ∧ k.toNat ≤ a.1.length)
  (fun a k => (a.1.length - k).toNat)
  (fun a x => x = (.exit 2, ⟨68, [(5, .ref 0 0 0)], nodR a.2.1 (inM (lvL a.1)) noM noM a.2.2 (lvL a.1).length 0 0⟩))
  (by
    rintro ⟨l, f1, c1⟩ k ⟨hm, h0, h1⟩
    dsimp only at *
    rw [← vcTk10]
    simp only [List.length_map]
    refine condP (fun h => ?_) fun h => ?_
    · have hk : k.toNat < l.length := by omega
      rw [ix_nth hk]
      refine oblP ⟨h0, by omega⟩ (oblI (isIx _) (oblI (incI (by omega) (by omega)) ⟨_, ?_, k + 1, ?_, ⟨hm, by omega, by omega⟩, rfl⟩))
      · omega
      · have e : lvL (l.take (k + 1).toNat) = lvS (lvL (l.take k.toNat)) (l.getD k.toNat (0, 0, 0)) := by
          rw [show (k + 1).toNat = k.toNat + 1 by omega]
          exact foldl_take lvS [] l _ k.toNat hk
        rw [e, ← inM_add, ← inM_len]
        rfl
    · rw [List.take_of_length_le (by omega)]; rfl)
  (by
    rintro s post ⟨l, f1, c1, rfl, hm, hp⟩
    refine ⟨(l, f1, c1), 0, ?_, ⟨hm, by decide, by simp⟩, ?_⟩
    · have : inM (lvL []) = noM := by
        funext d
        show mpD _ _ d = none
        unfold mpD
        split <;> rfl
      show _ = tk10 l 0 f1 (inM (lvL [])) c1 0
      rw [this]
    · rintro x rfl
      exact hp)
theorem loopTk3 : LD X 26 3 (loopHook (kpF 26 3) gTk3) := LD.par (H := [(47, hRightId), (48, hName)]) (hk := []) (by kernel_rfl) (by kernel_rfl) (.cons okRightId (.cons okName .nil)) .nil
  (A := List Pl × List Id3) (B := Int) (fun a k => tk3 a.1 a.2 k (plM (tkL (a.1.take k.toNat))) (tkL (a.1.take k.toNat)).length)
  (fun a k => a.1.length ≤ 1000000 ∧ 0 ≤ k ∧ k.toNat ≤ a.1.length)
  (fun a k => (a.1.length - k).toNat)
  (fun a x => x = (.exit 0, ⟨68, [(1, idsP a.2), (5, .ref 0 0 0)], nodR (plM (tkL a.1)) noM noM noM (tkL a.1).length 0 0 0⟩))
  (by
    rintro ⟨l, live⟩ k ⟨hm, h0, h1⟩
    dsimp only at *
    (rw [← vcTk3]; delta vcTk3_0 vcTk3_1 vcTk3_2 vcTk3_3 vcTk3_4 vcTk3_5 vcTk3_6 vcTk3_7 vcTk3_8 vcTk3_9 vcTk3_10 vcTk3_11 vcTk3_12 vcTk3_13 vcTk3_14 vcTk3_15 vcTk3_16 vcTk3_17 vcTk3_18)
    simp only [List.length_map]
    refine condP (fun h => ?_) fun h => ?_
    · have hk : k.toNat < l.length := by omega
      rw [pl_nth hk]
      have e : tkL (l.take (k + 1).toNat) = tkS (tkL (l.take k.toNat)) (l.getD k.toNat pl0) := by
        rw [show (k + 1).toNat = k.toNat + 1 by omega]
        exact foldl_take tkS [] l _ k.toNat hk
      generalize l.getD k.toNat pl0 = p at e
      generalize tkL (l.take k.toNat) = T at e
      have go : ∀ T', tkS T p = T' → ∃ m, m < ((l.length : Int) - k).toNat ∧ ∃ b, (⟨68, [(1, idsP live), (5, .ref 0 0 0), (18, plsP l), (19, .d (.int .i64 (l.length : Int))), (20, .d (.int .i64 (k + 1)))], nodR (plM T') noM noM noM T'.length 0 0 0⟩ : S) = tk3 l live b (plM (tkL (l.take b.toNat))) (tkL (l.take b.toNat)).length ∧ (l.length ≤ 1000000 ∧ 0 ≤ b ∧ b.toNat ≤ l.length) ∧ m = ((l.length : Int) - b).toNat := fun T' hT => ⟨((l.length : Int) - (k + 1)).toNat, by omega, k + 1, by rw [e, hT], ⟨hm, by omega, by omega⟩, rfl⟩
      refine oblP ⟨h0, by omega⟩ (oblI (isPl _) (oblI ?_ (condI (fun hh => ?_) fun hh => oblI (incI (by omega) (by omega)) ?_)))
      · show isD PR 47 (getO (plM T (ixD p.1)) _) = true
        rw [plM_id]
        cases atPl T p.1 with
        | none => kernel_rfl
        | some q => exact isPl q
      · have hno : (atPl T p.1).isSome = false := by
          have hh' : (!(plM T (ixD p.1)).isSome) = true := hh
          have : (plM T (ixD p.1)).isSome = false := by simpa using hh'
          rw [plM_id, Option.isSome_map] at this
          exact this
        refine ⟨p.1.1, p.1.2.1, p.1.2.2, rfl, rfl, condI (fun h3 => ⟨p.2.2.1, rfl, rfl, condI (fun h4 => oblI (incI (by omega) (by omega)) ?_) fun h4 => oblI (incI (by omega) (by omega)) ?_⟩) fun h3 => oblI (incI (by omega) (by omega)) ?_⟩
        · have := go (T ++ [p]) (by unfold tkS; simp [hno, okPl, h3, h4])
          rw [← atPl_add hno] at this
          have el : ((T ++ [p]).length : Int) = (bif Option.isSome (plM T (ixD p.1)) then (T.length : Int) else (T.length : Int) + 1) := by
            rw [plM_id]; simp [hno]
          rw [el] at this
          exact this
        · exact go T (by unfold tkS; simp [hno, okPl, h4])
        · exact go T (by unfold tkS; simp [hno, okPl, h3])
      · have hyes : (atPl T p.1).isSome = true := by
          have hh' : (!(plM T (ixD p.1)).isSome) = false := hh
          have : (plM T (ixD p.1)).isSome = true := by simpa using hh'
          rw [plM_id, Option.isSome_map] at this
          exact this
        exact go T (by unfold tkS; simp [hyes])
    · rw [List.take_of_length_le (by omega)]; rfl)
  (by
    rintro s post ⟨l, live, rfl, hm, hp⟩
    refine ⟨(l, live), 0, ?_, ⟨hm, by decide, by simp⟩, ?_⟩
    · have : plM (tkL []) = noM := by
        funext d
        show mpD _ _ d = none
        unfold mpD
        split <;> rfl
      show _ = tk3 l live 0 (plM (tkL [])) 0
      rw [this]
    · rintro x rfl
      exact hp)
theorem okTaken : FD X 26 hTaken := FD.mk (H := []) (hk := [(3, loopHook (kpF 26 3) gTk3), (10, loopHook (kpF 26 10) gTk10)]) (by kernel_rfl) .nil (.cons loopTk3 (.cons loopTk10 .nil)) (by
  intro ps R post hh
  obtain ⟨l, live, rfl, rfl, ⟨h1, h2⟩, hp⟩ := hh
  (rw [← vcTk]; delta vcTk_0 vcTk_1 vcTk_2 vcTk_3 vcTk_4 vcTk_5 vcTk_6 vcTk_7 vcTk_8 vcTk_9 vcTk_10)
  simp only [List.length_map]
  exact ⟨l, live, rfl, h1, live, _, _, rfl, h2, hp⟩)
end
end Pi

/- Tree: way: what its runs ask. -/
namespace Pi
open Go Go.Proofs
set_option maxRecDepth 100000
set_option maxHeartbeats 0
/-- The nodes' maps, lent. -/
abbrev nodT (f1 f2 f3 f4 : D → Option D) (c1 c2 c3 c4 : Int) (z2 z3 : Bool) : List (Nat × En) :=
  [(0, ⟨0, some 0, .box 61 [.mp 1 0, .mp 2 0, .mp 3 0, .mp 4 0]⟩), (1, ⟨0, some 1, .map 41 f1 c1 false⟩), (2, ⟨0, some 2, .map 41 f2 c2 z2⟩), (3, ⟨0, some 3, .map 41 f3 c3 z3⟩), (4, ⟨0, some 4, .map 41 f4 c4 false⟩)]
abbrev wyR (x : Id3) (out : List Id3) (f1 f2 f3 f4 : D → Option D) (c1 c2 c3 c4 : Int) (z2 z3 : Bool) : List (Nat × En) :=
  nodT f1 f2 f3 f4 c1 c2 c3 c4 z2 z3 ++ [(5, ⟨0, none, .box 41 [.d (.int .i64 x.1), .d (.int .i64 x.2.1), .d (.int .i64 x.2.2)]⟩), (6, ⟨0, none, .arr 41 false (out.map ixD)⟩)]
abbrev wyH (x : Id3) (out : List Id3) (m k : Int) (f1 f2 f3 f4 : D → Option D) (c1 c2 c3 c4 : Int) (z2 z3 : Bool) : S :=
  ⟨50, [(0, .ref 0 0 0), (3, .ref 5 0 0), (6, .sl 6 0 out.length), (15, .d (.int .i64 m)), (16, .d (.int .i64 k))], wyR x out f1 f2 f3 f4 c1 c2 c3 c4 z2 z3⟩
def vcWyN_0 (x : Id3) : D := D.agg [D.int IntKind.i64 (Prod.fst x), D.int IntKind.i64 (Prod.fst (Prod.snd x)), D.int IntKind.i64 (Prod.snd (Prod.snd x))]
def vcWyN_1  : D := D.int IntKind.i64 (0 : Int)
def vcWyN_2 (x : Id3) (f1 : D → Option D) : D := getO (f1 (vcWyN_0 x)) (D.agg [vcWyN_1, vcWyN_1, vcWyN_1, vcWyN_1, vcWyN_1, vcWyN_1, D.str [], D.bool false])
def vcWyN_3  : Nat × P := (0, P.ref 0 0 0)
def vcWyN_4  : Nat × En := (0, En.mk 0 (some 0) (Obj.box (61 : TypeId) [P.mp 1 0, P.mp 2 0, P.mp 3 0, P.mp 4 0]))
def vcWyN_5 (f1 : D → Option D) (c1 : Int) : Nat × En := (1, En.mk 0 (some 1) (Obj.map 41 f1 c1 false))
def vcWyN_6 (f2 : D → Option D) (c2 : Int) (z2 : Bool) : Nat × En := (2, En.mk 0 (some 2) (Obj.map 41 f2 c2 z2))
def vcWyN_7 (f3 : D → Option D) (c3 : Int) (z3 : Bool) : Nat × En := (3, En.mk 0 (some 3) (Obj.map 41 f3 c3 z3))
def vcWyN_8 (f4 : D → Option D) (c4 : Int) : Nat × En := (4, En.mk 0 (some 4) (Obj.map 41 f4 c4 false))
def vcWyN_9 (x : Id3) (out : List Id3) : Nat := List.length out + List.length [vcWyN_0 x]
def vcWyN_10 (x : Id3) (out : List Id3) : En := En.mk 0 none (Obj.arr (41 : TypeId) false (List.take (List.length out) (List.map ixD out) ++ [vcWyN_0 x]))
def vcWyN_11 (k : Int) : Int := k + (1 : Int)
theorem vcWyN (x : Id3) (out : List Id3) (m k : Int) (f1 f2 f3 f4 : D → Option D) (c1 c2 c3 c4 : Int) (z2 z3 : Bool) (post : PX × S → Prop) : (bif decide (k < m) then bif isD PR (47 : TypeId) (vcWyN_2 x f1) then bif !Option.isSome (f1 (vcWyN_0 x)) then post (PX.ret, S.mk 50 [vcWyN_3, (4, P.sl 5 0 0), (5, P.d (D.bool false))] [vcWyN_4, vcWyN_5 f1 c1, vcWyN_6 f2 c2 z2, vcWyN_7 f3 c3 z3, vcWyN_8 f4 c4, (5, En.mk 0 none (Obj.arr (41 : TypeId) false []))]) else bif decide ((↑(List.length out) : Int) > (0 : Int)) then bif !D.bVal (D.cAt (vcWyN_2 x f1) 7) then post (PX.ret, S.mk 50 [vcWyN_3, (4, P.sl 5 0 0), (5, P.d (D.bool false))] [vcWyN_4, vcWyN_5 f1 c1, vcWyN_6 f2 c2 z2, vcWyN_7 f3 c3 z3, vcWyN_8 f4 c4, (5, En.mk 0 none (Obj.arr (41 : TypeId) false []))]) else bif Nat.ble (List.length out) (List.length (List.map ixD out)) && roomOk (vcWyN_9 x out) 24 then bif D.iVal (D.cAt (vcWyN_2 x f1) 3) == (0 : Int) && (D.iVal (D.cAt (vcWyN_2 x f1) 4) == (0 : Int) && true) && (D.iVal (D.cAt (vcWyN_2 x f1) 5) == (0 : Int) && true) then post (PX.ret, S.mk 50 [vcWyN_3, (4, P.sl 5 0 (vcWyN_9 x out)), (5, P.d (D.bool true))] [vcWyN_4, vcWyN_5 f1 c1, vcWyN_6 f2 c2 z2, vcWyN_7 f3 c3 z3, vcWyN_8 f4 c4, (5, vcWyN_10 x out)]) else bif decide ((-9223372036854775808 : Int) ≤ vcWyN_11 k ∧ vcWyN_11 k ≤ (9223372036854775807 : Int)) then post (PX.normal, S.mk 50 [vcWyN_3, (3, P.ref 5 0 0), (6, P.sl 6 0 (vcWyN_9 x out)), (15, P.d (D.int IntKind.i64 m)), (16, P.d (D.int IntKind.i64 (vcWyN_11 k)))] [vcWyN_4, vcWyN_5 f1 c1, vcWyN_6 f2 c2 z2, vcWyN_7 f3 c3 z3, vcWyN_8 f4 c4, (5, En.mk 0 none (Obj.box (41 : TypeId) [P.d (D.int IntKind.i64 (D.iVal (D.cAt (vcWyN_2 x f1) 3))), P.d (D.int IntKind.i64 (D.iVal (D.cAt (vcWyN_2 x f1) 4))), P.d (D.int IntKind.i64 (D.iVal (D.cAt (vcWyN_2 x f1) 5)))])), (6, vcWyN_10 x out)]) else False else False else bif Nat.ble (List.length out) (List.length (List.map ixD out)) && roomOk (vcWyN_9 x out) 24 then bif D.iVal (D.cAt (vcWyN_2 x f1) 3) == (0 : Int) && (D.iVal (D.cAt (vcWyN_2 x f1) 4) == (0 : Int) && true) && (D.iVal (D.cAt (vcWyN_2 x f1) 5) == (0 : Int) && true) then post (PX.ret, S.mk 50 [vcWyN_3, (4, P.sl 5 0 (vcWyN_9 x out)), (5, P.d (D.bool true))] [vcWyN_4, vcWyN_5 f1 c1, vcWyN_6 f2 c2 z2, vcWyN_7 f3 c3 z3, vcWyN_8 f4 c4, (5, vcWyN_10 x out)]) else bif decide ((-9223372036854775808 : Int) ≤ vcWyN_11 k ∧ vcWyN_11 k ≤ (9223372036854775807 : Int)) then post (PX.normal, S.mk 50 [vcWyN_3, (3, P.ref 5 0 0), (6, P.sl 6 0 (vcWyN_9 x out)), (15, P.d (D.int IntKind.i64 m)), (16, P.d (D.int IntKind.i64 (vcWyN_11 k)))] [vcWyN_4, vcWyN_5 f1 c1, vcWyN_6 f2 c2 z2, vcWyN_7 f3 c3 z3, vcWyN_8 f4 c4, (5, En.mk 0 none (Obj.box (41 : TypeId) [P.d (D.int IntKind.i64 (D.iVal (D.cAt (vcWyN_2 x f1) 3))), P.d (D.int IntKind.i64 (D.iVal (D.cAt (vcWyN_2 x f1) 4))), P.d (D.int IntKind.i64 (D.iVal (D.cAt (vcWyN_2 x f1) 5)))])), (6, vcWyN_10 x out)]) else False else False else False else post (PX.exit 0, S.mk 50 [vcWyN_3] [vcWyN_4, vcWyN_5 f1 c1, vcWyN_6 f2 c2 z2, vcWyN_7 f3 c3 z3, vcWyN_8 f4 c4])) = (roundL [] [] 49 3 (wyH x out m k f1 f2 f3 f4 c1 c2 c3 c4 z2 z3)) post := by kernel_rfl
/-- A node and all above it. -/
def wyF (T : List Pl) : Nat → Id3 → List Id3 → Option (List Id3)
  | 0, _, _ => none
  | n + 1, x, out => match atPl T x with
    | none => none
    | some p => if 0 < out.length ∧ p.2.2.2 = false then none else if p.2.1 = (0, 0, 0) then some (out ++ [x]) else wyF T n p.2.1 (out ++ [x])
def wy (T : List Pl) (x : Id3) : Option (List Id3) := wyF T (T.length + 1) x []
abbrev wyO (l : List Id3) (b : Bool) (f1 f2 f3 f4 : D → Option D) (c1 c2 c3 c4 : Int) (z2 z3 : Bool) : S :=
  ⟨50, [(0, .ref 0 0 0), (4, .sl 5 0 l.length), (5, .d (.bool b))], nodT f1 f2 f3 f4 c1 c2 c3 c4 z2 z3 ++ [(5, ⟨0, none, .arr 41 false (l.map ixD)⟩)]⟩
def gWy : S → K (PX × S) := fun s post => ∃ T x f2 f3 f4 c2 c3 c4 z2 z3, s = wyH x [] ((T.length : Int) + 1) 0 (plM T) f2 f3 f4 T.length c2 c3 c4 z2 z3 ∧ T.length ≤ 1000000 ∧
  (∀ l, wy T x = some l → post (.ret, wyO l true (plM T) f2 f3 f4 T.length c2 c3 c4 z2 z3)) ∧ (wy T x = none → post (.ret, wyO [] false (plM T) f2 f3 f4 T.length c2 c3 c4 z2 z3) ∧ post (.exit 0, ⟨50, [(0, .ref 0 0 0)], nodT (plM T) f2 f3 f4 T.length c2 c3 c4 z2 z3⟩))
def vcWy_0 (c1 : Int) : Int := c1 + (1 : Int)
def vcWy_1  : Nat × P := (0, P.ref 0 0 0)
def vcWy_2  : Nat × P := (3, P.ref 5 0 0)
def vcWy_3  : Nat × P := (6, P.sl 6 0 0)
def vcWy_4  : List (Nat × P) := [(16, P.d (D.int IntKind.i64 (0 : Int)))]
def vcWy_5  : Nat × En := (0, En.mk 0 (some 0) (Obj.box (61 : TypeId) [P.mp 1 0, P.mp 2 0, P.mp 3 0, P.mp 4 0]))
def vcWy_6  : En := En.mk 0 none (Obj.arr (41 : TypeId) false [])
def vcWy_7  : List (Nat × En) := [(6, vcWy_6)]
def vcWy_8 (v0 : List Pl) : Nat × En := (1, En.mk 0 (some 1) (Obj.map 41 (fun (x : D) => match x with | D.agg [D.int IntKind.i64 a, D.int IntKind.i64 b, D.int IntKind.i64 c] => Option.map plD (atPl v0 (a, b, c)) | _ => none) (↑(List.length v0) : Int) false))
def vcWy_9 (v3 : D → Option D) (v6 : Int) (v9 : Bool) : Nat × En := (2, En.mk 0 (some 2) (Obj.map 41 v3 v6 v9))
def vcWy_10 (v4 : D → Option D) (v7 : Int) (v10 : Bool) : Nat × En := (3, En.mk 0 (some 3) (Obj.map 41 v4 v7 v10))
def vcWy_11 (v5 : D → Option D) (v8 : Int) : Nat × En := (4, En.mk 0 (some 4) (Obj.map 41 v5 v8 false))
theorem vcWy (T : List Pl) (x : Id3) (f2 f3 f4 : D → Option D) (c1 c2 c3 c4 : Int) (z2 z3 : Bool) (post : P × List (Nat × En) → Prop) : (bif decide ((-9223372036854775808 : Int) ≤ vcWy_0 c1 ∧ vcWy_0 c1 ≤ (9223372036854775807 : Int)) then ∃ (T_1 : List Pl), ∃ (x_1 : Id3), ∃ (f2_1 : D → Option D), ∃ (f3_1 : D → Option D), ∃ (f4_1 : D → Option D), ∃ (c2_1 : Int), ∃ (c3_1 : Int), ∃ (c4_1 : Int), ∃ (z2_1 : Bool), ∃ (z3_1 : Bool), S.mk 50 (vcWy_1 :: vcWy_2 :: vcWy_3 :: (15, P.d (D.int IntKind.i64 (vcWy_0 c1))) :: vcWy_4) (vcWy_5 :: (1, En.mk 0 (some 1) (Obj.map 41 (fun (x : D) => match x with | D.agg [D.int IntKind.i64 a, D.int IntKind.i64 b, D.int IntKind.i64 c] => Option.map plD (atPl T (a, b, c)) | _ => none) c1 false)) :: (2, En.mk 0 (some 2) (Obj.map 41 f2 c2 z2)) :: (3, En.mk 0 (some 3) (Obj.map 41 f3 c3 z3)) :: (4, En.mk 0 (some 4) (Obj.map 41 f4 c4 false)) :: (5, En.mk 0 none (Obj.box (41 : TypeId) [P.d (D.int IntKind.i64 (Prod.fst x)), P.d (D.int IntKind.i64 (Prod.fst (Prod.snd x))), P.d (D.int IntKind.i64 (Prod.snd (Prod.snd x)))])) :: vcWy_7) = S.mk 50 (vcWy_1 :: vcWy_2 :: vcWy_3 :: (15, P.d (D.int IntKind.i64 ((↑(List.length T_1) : Int) + (1 : Int)))) :: vcWy_4) (vcWy_5 :: vcWy_8 T_1 :: vcWy_9 f2_1 c2_1 z2_1 :: vcWy_10 f3_1 c3_1 z3_1 :: vcWy_11 f4_1 c4_1 :: (5, En.mk 0 none (Obj.box (41 : TypeId) [P.d (D.int IntKind.i64 (Prod.fst x_1)), P.d (D.int IntKind.i64 (Prod.fst (Prod.snd x_1))), P.d (D.int IntKind.i64 (Prod.snd (Prod.snd x_1)))])) :: vcWy_7) ∧ List.length T_1 ≤ 1000000 ∧ (∀ (l : List Id3), wy T_1 x_1 = some l → post (P.tup [P.sl 5 0 (List.length l), P.d (D.bool true)], [vcWy_5, vcWy_8 T_1, vcWy_9 f2_1 c2_1 z2_1, vcWy_10 f3_1 c3_1 z3_1, vcWy_11 f4_1 c4_1, (5, En.mk 0 none (Obj.arr (41 : TypeId) false (List.map ixD l)))])) ∧ (wy T_1 x_1 = none → post (P.tup [P.sl 5 0 0, P.d (D.bool false)], [vcWy_5, vcWy_8 T_1, vcWy_9 f2_1 c2_1 z2_1, vcWy_10 f3_1 c3_1 z3_1, vcWy_11 f4_1 c4_1, (5, vcWy_6)]) ∧ post (P.tup [P.sl 5 0 0, P.d (D.bool false)], [vcWy_5, vcWy_8 T_1, vcWy_9 f2_1 c2_1 z2_1, vcWy_10 f3_1 c3_1 z3_1, vcWy_11 f4_1 c4_1, (5, vcWy_6)])) else False) = (bodyF [] [(3, loopHook (kpF 49 3) gWy)] 49 [.ref 0 0 0, .d (ixD x)] (nodT (plM T) f2 f3 f4 c1 c2 c3 c4 z2 z3)) post := by kernel_rfl
def hWay : KF1 := fun ps R post => ∃ T x f2 f3 f4 c2 c3 c4 z2 z3, ps = [.ref 0 0 0, .d (ixD x)] ∧ R = nodT (plM T) f2 f3 f4 T.length c2 c3 c4 z2 z3 ∧ T.length ≤ 1000000 ∧
  (∀ l, wy T x = some l → post (.tup [.sl 5 0 l.length, .d (.bool true)], nodT (plM T) f2 f3 f4 T.length c2 c3 c4 z2 z3 ++ [(5, ⟨0, none, .arr 41 false (l.map ixD)⟩)])) ∧
  (wy T x = none → post (.tup [.sl 5 0 0, .d (.bool false)], nodT (plM T) f2 f3 f4 T.length c2 c3 c4 z2 z3 ++ [(5, ⟨0, none, .arr 41 false []⟩)]))
end Pi

/- Tree: way. -/
namespace Pi
open Go Go.Proofs
set_option maxRecDepth 100000
theorem take_ix (l : List Id3) : (l.map ixD).take l.length = l.map ixD := List.take_of_length_le (by simp)
section
variable {X : XF}
abbrev WyA := List Pl × Id3 × (D → Option D) × (D → Option D) × (D → Option D) × Int × Int × Int × Bool × Bool
theorem loopWy : LD X 49 3 (loopHook (kpF 49 3) gWy) := LD.par (H := []) (hk := []) (by kernel_rfl) (by kernel_rfl) .nil .nil
  (A := WyA) (B := Id3 × List Id3 × Int) (fun a b => wyH b.1 b.2.1 ((a.1.length : Int) + 1) b.2.2 (plM a.1) a.2.2.1 a.2.2.2.1 a.2.2.2.2.1 a.1.length a.2.2.2.2.2.1 a.2.2.2.2.2.2.1 a.2.2.2.2.2.2.2.1 a.2.2.2.2.2.2.2.2.1 a.2.2.2.2.2.2.2.2.2)
  (fun a b => a.1.length ≤ 1000000 ∧ b.2.2 = (b.2.1.length : Int) ∧ b.2.1.length ≤ a.1.length + 1 ∧ wyF a.1 (a.1.length + 1 - b.2.1.length) b.1 b.2.1 = wy a.1 a.2.1)
  (fun a b => a.1.length + 1 - b.2.1.length)
  (fun a x => (∃ l, wy a.1 a.2.1 = some l ∧ x = (.ret, wyO l true (plM a.1) a.2.2.1 a.2.2.2.1 a.2.2.2.2.1 a.1.length a.2.2.2.2.2.1 a.2.2.2.2.2.2.1 a.2.2.2.2.2.2.2.1 a.2.2.2.2.2.2.2.2.1 a.2.2.2.2.2.2.2.2.2)) ∨
    (wy a.1 a.2.1 = none ∧ (x = (.ret, wyO [] false (plM a.1) a.2.2.1 a.2.2.2.1 a.2.2.2.2.1 a.1.length a.2.2.2.2.2.1 a.2.2.2.2.2.2.1 a.2.2.2.2.2.2.2.1 a.2.2.2.2.2.2.2.2.1 a.2.2.2.2.2.2.2.2.2) ∨
      x = (.exit 0, ⟨50, [(0, .ref 0 0 0)], nodT (plM a.1) a.2.2.1 a.2.2.2.1 a.2.2.2.2.1 a.1.length a.2.2.2.2.2.1 a.2.2.2.2.2.2.1 a.2.2.2.2.2.2.2.1 a.2.2.2.2.2.2.2.2.1 a.2.2.2.2.2.2.2.2.2⟩))))
  (by
    rintro ⟨T, x0, f2, f3, f4, c2, c3, c4, z2, z3⟩ ⟨x, out, k⟩ ⟨hm, hk0, hle, hw⟩
    dsimp only at *
    (rw [← vcWyN]; delta vcWyN_0 vcWyN_1 vcWyN_2 vcWyN_3 vcWyN_4 vcWyN_5 vcWyN_6 vcWyN_7 vcWyN_8 vcWyN_9 vcWyN_10 vcWyN_11)
    refine condP (fun h => ?_) fun h => ?_
    · have hn : T.length + 1 - out.length = (T.length - out.length) + 1 := by omega
      rw [hn] at hw
      simp only [wyF] at hw
      have hf : plM T (D.agg [D.int IntKind.i64 (Prod.fst x), D.int IntKind.i64 (Prod.fst (Prod.snd x)), D.int IntKind.i64 (Prod.snd (Prod.snd x))]) = (atPl T x).map plD := rfl
      simp only [hf]
      cases hp : atPl T x with
      | none =>
        rw [hp] at hw
        exact oblI (by kernel_rfl) (condT rfl (.inr ⟨hw.symm, .inl rfl⟩))
      | some p =>
        rw [hp] at hw
        simp only at hw
        refine oblI (isPl p) (condF rfl ?_)
        have fit : decide ((-9223372036854775808 : Int) ≤ k + (1 : Int) ∧ k + (1 : Int) ≤ (9223372036854775807 : Int)) = true := incI (by omega) (by omega)
        have room : (Nat.ble (List.length out) (List.length (List.map ixD out)) && roomOk (List.length out + List.length [D.agg [D.int IntKind.i64 (Prod.fst x), D.int IntKind.i64 (Prod.fst (Prod.snd x)), D.int IntKind.i64 (Prod.snd (Prod.snd x))]]) 24) = true := by
          rw [List.length_map]
          simp [roomOk]
          omega
        have e1 : (out ++ [x]).length = out.length + List.length [D.agg [D.int IntKind.i64 (Prod.fst x), D.int IntKind.i64 (Prod.fst (Prod.snd x)), D.int IntKind.i64 (Prod.snd (Prod.snd x))]] := by simp
        have e2 : (out ++ [x]).map ixD = List.take out.length (out.map ixD) ++ [D.agg [D.int IntKind.i64 (Prod.fst x), D.int IntKind.i64 (Prod.fst (Prod.snd x)), D.int IntKind.i64 (Prod.snd (Prod.snd x))]] := by rw [take_ix]; simp [ixD]
        have pz : ∀ b : Bool, (p.2.1.1 == 0 && (p.2.1.2.1 == 0 && true) && (p.2.1.2.2 == 0 && true)) = b → (if p.2.1 = (0, 0, 0) then true else false) = b := fun b hb => by
          subst hb
          by_cases h3 : p.2.1 = (0, 0, 0)
          · rw [h3]; rfl
          · rw [if_neg h3]
            cases hb : (p.2.1.1 == 0 && (p.2.1.2.1 == 0 && true) && (p.2.1.2.2 == 0 && true)) with
            | false => rfl
            | true =>
              simp at hb
              exact absurd (Prod.ext hb.1.1 (Prod.ext hb.1.2 hb.2)) h3
        have f1 : ¬ (0 < out.length ∧ p.2.2.2 = false) → (p.2.1.1 == 0 && (p.2.1.2.1 == 0 && true) && (p.2.1.2.2 == 0 && true)) = true → wy T x0 = some (out ++ [x]) := fun hg hz => by
          have h3 : p.2.1 = (0, 0, 0) := by
            have := pz _ hz
            by_cases h3 : p.2.1 = (0, 0, 0)
            · exact h3
            · rw [if_neg h3] at this; cases this
          rw [if_neg hg, if_pos h3] at hw
          exact hw.symm
        have f2' : ¬ (0 < out.length ∧ p.2.2.2 = false) → (p.2.1.1 == 0 && (p.2.1.2.1 == 0 && true) && (p.2.1.2.2 == 0 && true)) = false → wyF T (T.length + 1 - (out ++ [x]).length) p.2.1 (out ++ [x]) = wy T x0 := fun hg hz => by
          have h3 : ¬ p.2.1 = (0, 0, 0) := fun h3 => by
            have := pz _ hz
            rw [if_pos h3] at this; cases this
          rw [if_neg hg, if_neg h3] at hw
          have en : T.length + 1 - (out ++ [x]).length = T.length - out.length := by rw [List.length_append, List.length_singleton]; omega
          rw [en]
          exact hw
        refine condP (fun hpos => condI (fun hd => .inr ⟨?_, .inl rfl⟩) fun hd => oblI room (condI (fun hz => .inl ⟨out ++ [x], ?_, ?_⟩) fun hz => oblI fit ⟨T.length + 1 - (out ++ [x]).length, ?_, (p.2.1, out ++ [x], k + 1), ?_, ⟨hm, ?_, ?_, ?_⟩, ?_⟩))
          fun hpos => oblI room (condI (fun hz => .inl ⟨out ++ [x], ?_, ?_⟩) fun hz => oblI fit ⟨T.length + 1 - (out ++ [x]).length, ?_, (p.2.1, out ++ [x], k + 1), ?_, ⟨hm, ?_, ?_, ?_⟩, ?_⟩)
        · have hd' : (!p.2.2.2) = true := hd
          have hd2 : p.2.2.2 = false := by simpa using hd'
          rw [if_pos ⟨by omega, hd2⟩] at hw
          exact hw.symm
        · exact f1 (fun hg => by have hd' : (!p.2.2.2) = false := hd; rw [hg.2] at hd'; cases hd') hz
        · simp only [wyO, e1, e2]; rfl
        · simp; omega
        · simp only [wyH, wyR, e1, e2]; rfl
        · show k + 1 = ((out ++ [x]).length : Int)
          rw [hk0, List.length_append, List.length_singleton]
          omega
        · simp; omega
        · exact f2' (fun hg => by have hd' : (!p.2.2.2) = false := hd; rw [hg.2] at hd'; cases hd') hz
        · rfl
        · exact f1 (fun hg => hpos (by have := hg.1; omega)) hz
        · simp only [wyO, e1, e2]; rfl
        · simp; omega
        · simp only [wyH, wyR, e1, e2]; rfl
        · show k + 1 = ((out ++ [x]).length : Int)
          rw [hk0, List.length_append, List.length_singleton]
          omega
        · simp; omega
        · exact f2' (fun hg => hpos (by have := hg.1; omega)) hz
        · rfl
    · have : T.length + 1 - out.length = 0 := by omega
      rw [this] at hw
      exact .inr ⟨hw.symm, .inr rfl⟩)
  (by
    rintro s post ⟨T, x, f2, f3, f4, c2, c3, c4, z2, z3, rfl, hm, h1, h2⟩
    refine ⟨(T, x, f2, f3, f4, c2, c3, c4, z2, z3), (x, [], 0), rfl, ⟨hm, rfl, by simp, rfl⟩, ?_⟩
    rintro y (⟨l, h3, rfl⟩ | ⟨h3, rfl | rfl⟩)
    · exact h1 l h3
    · exact (h2 h3).1
    · exact (h2 h3).2)
theorem okWay : FD X 49 hWay := FD.mk (H := []) (hk := [(3, loopHook (kpF 49 3) gWy)]) (by kernel_rfl) .nil (.cons loopWy .nil) (by
  intro ps R post hh
  obtain ⟨T, x, f2, f3, f4, c2, c3, c4, z2, z3, h01, h02, hm, h1, h2⟩ := hh
  subst h01
  have key : ∀ c1 : Int, c1 = (T.length : Int) → bodyF [] [(3, loopHook (kpF 49 3) gWy)] 49 [.ref 0 0 0, .d (ixD x)] (nodT (plM T) f2 f3 f4 c1 c2 c3 c4 z2 z3) post := by
    intro c1 hc
    (rw [← vcWy]; delta vcWy_0 vcWy_1 vcWy_2 vcWy_3 vcWy_4 vcWy_5 vcWy_6 vcWy_7 vcWy_8 vcWy_9 vcWy_10 vcWy_11)
    refine oblI (incI (by omega) (by omega)) ⟨T, x, f2, f3, f4, c2, c3, c4, z2, z3, ?_, hm, fun l hl => h1 l hl, fun h => ⟨h2 h, h2 h⟩⟩
    rw [hc]
  rw [h02]
  clear h1 h2 h02
  generalize hc : (T.length : Int) = c1
  exact key c1 hc.symm)
end
end Pi

/- Tree: the order of ids and texts; sorting as it is done one by one. -/
namespace Pi
open Go
/-! ### orders -/
def ltX (x y : Id3) : Bool := decide (x.1 < y.1 ∨ x.1 = y.1 ∧ (x.2.1 < y.2.1 ∨ x.2.1 = y.2.1 ∧ x.2.2 < y.2.2))
theorem cmpX_lt (x y : Id3) : cmpId x.1 x.2.1 x.2.2 y.1 y.2.1 y.2.2 < 0 ↔ ltX x y = true := by
  unfold ltX
  simp only [decide_eq_true_eq, cmpId, cmpS, orI, cmpI]
  (repeat' split) <;> omega
/-- A strict order, all in all. -/
structure Lin {α : Type} (lt : α → α → Bool) : Prop where
  irr : ∀ x, lt x x = false
  tr : ∀ x y z, lt x y = true → lt y z = true → lt x z = true
  tot : ∀ x y, lt x y = false → lt y x = false → x = y
theorem lin_X : Lin ltX where
  irr x := by simp [ltX]
  tr x y z := by simp only [ltX, decide_eq_true_eq]; omega
  tot x y := by
    simp only [ltX, decide_eq_false_iff_not]
    intro h1 h2
    obtain ⟨a, b, c⟩ := x
    obtain ⟨d, e, f⟩ := y
    simp only at h1 h2
    have : a = d := by omega
    have : b = e := by omega
    have : c = f := by omega
    subst_vars
    rfl
theorem Lin.asymm {α : Type} {lt : α → α → Bool} (h : Lin lt) {x y : α} (h1 : lt x y = true) : lt y x = false := by
  cases h2 : lt y x with
  | false => rfl
  | true => have := h.tr _ _ _ h1 h2; rw [h.irr] at this; cases this
theorem Lin.ntr {α : Type} {lt : α → α → Bool} (h : Lin lt) {x y z : α} (h1 : lt x y = false) (h2 : lt y z = false) : lt x z = false := by
  cases h3 : lt x z with
  | false => rfl
  | true =>
    cases h4 : lt y x with
    | true => rw [h.tr _ _ _ h4 h3] at h2; cases h2
    | false =>
      have := h.tot _ _ h1 h4
      subst this
      rw [h3] at h2
      cases h2
theorem bytesLess_nil : ∀ x, Op.bytesLess x [] = false
  | [] => rfl
  | _ :: _ => rfl
theorem bytesLess_cons (a b : UInt8) (r s : List UInt8) : Op.bytesLess (a :: r) (b :: s) = (decide (a < b) || a == b && Op.bytesLess r s) := rfl
theorem bytesLess_irr : ∀ x, Op.bytesLess x x = false
  | [] => rfl
  | a :: r => by rw [bytesLess_cons, bytesLess_irr r]; simp [UInt8.lt_irrefl]
theorem bytesLess_tot : ∀ x y, Op.bytesLess x y = false → Op.bytesLess y x = false → x = y
  | [], [], _, _ => rfl
  | [], _ :: _, h, _ => by cases h
  | _ :: _, [], _, h => by cases h
  | a :: r, b :: s, h1, h2 => by
    rw [bytesLess_cons] at h1 h2
    simp only [Bool.or_eq_false_iff, decide_eq_false_iff_not, Bool.and_eq_false_imp, beq_iff_eq] at h1 h2
    have : a = b := UInt8.le_antisymm (UInt8.not_lt.1 h2.1) (UInt8.not_lt.1 h1.1)
    subst this
    rw [bytesLess_tot r s (h1.2 rfl) (h2.2 rfl)]
theorem bytesLess_tr : ∀ x y z, Op.bytesLess x y = true → Op.bytesLess y z = true → Op.bytesLess x z = true
  | _, y, [], _, h => by rw [bytesLess_nil] at h; cases h
  | x, [], _ :: _, h, _ => by rw [bytesLess_nil] at h; cases h
  | [], _ :: _, _ :: _, _, _ => rfl
  | a :: r, b :: s, c :: t, h1, h2 => by
    rw [bytesLess_cons] at h1 h2 ⊢
    simp only [Bool.or_eq_true, decide_eq_true_eq, Bool.and_eq_true, beq_iff_eq] at h1 h2 ⊢
    rcases h1 with h1 | ⟨rfl, h1⟩
    · rcases h2 with h2 | ⟨rfl, h2⟩
      · exact .inl (UInt8.lt_trans h1 h2)
      · exact .inl h1
    · rcases h2 with h2 | ⟨rfl, h2⟩
      · exact .inl h2
      · exact .inr ⟨rfl, bytesLess_tr r s t h1 h2⟩
theorem lin_B : Lin Op.bytesLess := ⟨bytesLess_irr, bytesLess_tr, bytesLess_tot⟩
theorem cmpB_lt (x y : List UInt8) : cmpB x y < 0 ↔ Op.bytesLess x y = true := by
  unfold cmpB
  split
  · simp_all
  · split <;> simp_all
/-! ### sorting, one by one -/
section
variable {α : Type} (lt : α → α → Bool)
/-- Into a row that falls. -/
def insE (a : α) : List α → List α
  | [] => [a]
  | b :: r => if lt a b then b :: insE a r else a :: b :: r
/-- Put in at its end, and moved down. -/
def insR (o : List α) (a : α) : List α := (insE lt a o.reverse).reverse
def sortI (l : List α) : List α := l.foldl (insR lt) []
variable {lt}
theorem insE_perm (a : α) : ∀ l, (insE lt a l).Perm (a :: l)
  | [] => .refl _
  | b :: r => by
    unfold insE
    split
    · exact ((insE_perm a r).cons b).trans (.swap a b r)
    · exact .refl _
theorem insR_perm (o : List α) (a : α) : (insR lt o a).Perm (o ++ [a]) := by
  unfold insR
  refine (List.reverse_perm _).trans ((insE_perm a _).trans ?_)
  exact ((List.reverse_perm o).cons a).trans (List.perm_append_comm (l₁ := [a]) (l₂ := o))
theorem foldI_perm : ∀ (l o : List α), (l.foldl (insR lt) o).Perm (o ++ l)
  | [], o => by simp
  | a :: r, o => by
    refine (foldI_perm r _).trans ?_
    exact ((insR_perm o a).append_right r).trans (by simp)
theorem sortI_perm (l : List α) : (sortI lt l).Perm l := by simpa [sortI] using foldI_perm (lt := lt) l []
theorem insE_pw (h : Lin lt) (a : α) : ∀ l, l.Pairwise (fun x y => lt x y = false) → (insE lt a l).Pairwise (fun x y => lt x y = false)
  | [], _ => by simp [insE]
  | b :: r, hp => by
    unfold insE
    have hp' := List.pairwise_cons.1 hp
    split
    · rename_i hl
      refine List.pairwise_cons.2 ⟨fun y hy => ?_, insE_pw h a r hp'.2⟩
      rcases List.mem_cons.1 ((insE_perm a r).mem_iff.1 hy) with rfl | hy
      · exact h.asymm hl
      · exact hp'.1 _ hy
    · rename_i hl
      have hl : lt a b = false := by simpa using hl
      refine List.pairwise_cons.2 ⟨fun y hy => ?_, hp⟩
      rcases List.mem_cons.1 hy with rfl | hy
      · exact hl
      · exact h.ntr hl (hp'.1 _ hy)
theorem insR_pw (h : Lin lt) {o : List α} (a : α) (hp : o.Pairwise (fun x y => lt y x = false)) : (insR lt o a).Pairwise (fun x y => lt y x = false) := by
  unfold insR
  rw [List.pairwise_reverse]
  exact insE_pw h a _ (by rw [List.pairwise_reverse]; exact hp)
theorem foldI_pw (h : Lin lt) : ∀ (l o : List α), o.Pairwise (fun x y => lt y x = false) → (l.foldl (insR lt) o).Pairwise (fun x y => lt y x = false)
  | [], _, hp => hp
  | a :: r, _, hp => foldI_pw h r _ (insR_pw h a hp)
theorem sortI_pw (h : Lin lt) (l : List α) : (sortI lt l).Pairwise (fun x y => lt y x = false) := foldI_pw h l [] .nil
/-- There is one sorted row. -/
theorem sorted_one (h : Lin lt) {a b : List α} (hp : a.Perm b) (ha : a.Pairwise (fun x y => lt y x = false)) (hb : b.Pairwise (fun x y => lt y x = false)) : a = b :=
  List.Perm.eq_of_pairwise (fun _ _ _ _ h1 h2 => h.tot _ _ h2 h1) ha hb hp
theorem sortI_of (h : Lin lt) {a b : List α} (hp : a.Perm b) (ha : a.Pairwise (fun x y => lt y x = false)) : a = sortI lt b :=
  sorted_one h (hp.trans (sortI_perm b).symm) ha (sortI_pw h b)
end
/-- Sorted by keys that are unlike. -/
theorem sorted_key {α β : Type} {lt : β → β → Bool} (h : Lin lt) (key : α → β) {a b : List α} (hk : ∀ x ∈ a, ∀ y ∈ a, key x = key y → x = y) (hp : a.Perm b)
    (ha : a.Pairwise (fun x y => lt (key y) (key x) = false)) (hb : b.Pairwise (fun x y => lt (key y) (key x) = false)) : a = b :=
  List.Perm.eq_of_pairwise (le := fun x y => lt (key y) (key x) = false) (fun x y hx hy h1 h2 => hk x hx y (hp.mem_iff.2 hy) (h.tot _ _ h2 h1)) ha hb hp
theorem insE_key {α β : Type} {lt : β → β → Bool} (key : α → β) (a : α) : ∀ l : List α, (insE (fun x y => lt (key x) (key y)) a l).map key = insE lt (key a) (l.map key)
  | [] => rfl
  | b :: r => by
    simp only [insE, List.map_cons]
    split
    · simp [insE_key key a r]
    · simp
theorem insR_key {α β : Type} {lt : β → β → Bool} (key : α → β) (o : List α) (a : α) : (insR (fun x y => lt (key x) (key y)) o a).map key = insR lt (o.map key) (key a) := by
  unfold insR
  rw [List.map_reverse, insE_key, List.map_reverse]
theorem foldI_key {α β : Type} {lt : β → β → Bool} (key : α → β) : ∀ l o : List α, (l.foldl (insR (fun x y => lt (key x) (key y))) o).map key = (l.map key).foldl (insR lt) (o.map key)
  | [], _ => rfl
  | a :: r, o => by
    simp only [List.foldl_cons, List.map_cons]
    rw [foldI_key key r, insR_key]
theorem sortI_key {α β : Type} {lt : β → β → Bool} (h : Lin lt) (key : α → β) (l : List α) : (sortI (fun x y => lt (key x) (key y)) l).Pairwise (fun x y => lt (key y) (key x) = false) := by
  have e : (sortI (fun x y => lt (key x) (key y)) l).map key = sortI lt (l.map key) := foldI_key key l []
  have := sortI_pw h (l.map key)
  rw [← e, List.pairwise_map] at this
  exact this
end Pi

/- Tree: ways up to the root. -/
namespace Pi
open Go
abbrev rootId : Id3 := (0, 0, 0)
/-- A node and all above it, by directories. -/
inductive Up (T : List Pl) : Id3 → List Id3 → Prop
  | top {x : Id3} {p : Pl} (h : atPl T x = some p) (h0 : p.2.1 = rootId) : Up T x [x]
  | step {x : Id3} {p q : Pl} {w : List Id3} (h : atPl T x = some p) (h0 : p.2.1 ≠ rootId) (hq : atPl T p.2.1 = some q) (hd : q.2.2.2 = true) (hw : Up T p.2.1 w) : Up T x (x :: w)
section
variable {T : List Pl}
theorem atPl_mem {x : Id3} {p : Pl} (h : atPl T x = some p) : p ∈ T ∧ p.1 = x := by
  unfold atPl at h
  exact ⟨List.mem_of_find?_eq_some h, by simpa using List.find?_some h⟩
theorem Up.one {x : Id3} {w : List Id3} (h : Up T x w) : ∀ {w'}, Up T x w' → w = w' := by
  induction h with
  | top h h0 =>
    intro w' h'
    cases h' with
    | top => rfl
    | step h1 h2 => rw [h] at h1; cases h1; exact absurd h0 h2
  | step h h0 hq hd hw ih =>
    intro w' h'
    cases h' with
    | top h1 h2 => rw [h] at h1; cases h1; exact absurd h2 h0
    | step h1 h2 _ _ h5 => rw [h] at h1; cases h1; rw [ih h5]
theorem Up.hd {x : Id3} {w : List Id3} (h : Up T x w) : ∃ r, w = x :: r := by
  cases h with
  | top => exact ⟨_, rfl⟩
  | step => exact ⟨_, rfl⟩
theorem Up.at {x : Id3} {w : List Id3} (h : Up T x w) : ∃ p, atPl T x = some p := by
  cases h with
  | top h => exact ⟨_, h⟩
  | step h => exact ⟨_, h⟩
theorem Up.sub {x : Id3} {w : List Id3} (h : Up T x w) : ∀ u ∈ w, ∃ w', Up T u w' ∧ w'.length ≤ w.length ∧ ∃ v, w = v ++ w' := by
  induction h with
  | top h h0 =>
    intro u hu
    simp at hu
    subst hu
    exact ⟨_, .top h h0, by simp, [], rfl⟩
  | @step x p q w h h0 hq hd hw ih =>
    intro u hu
    rcases List.mem_cons.1 hu with rfl | hu
    · exact ⟨_, .step h h0 hq hd hw, Nat.le_refl _, [], rfl⟩
    · obtain ⟨w', h1, h2, v, h3⟩ := ih u hu
      exact ⟨w', h1, by simp; omega, x :: v, by rw [h3]; rfl⟩
theorem Up.nodup {x : Id3} {w : List Id3} (h : Up T x w) : w.Nodup := by
  induction h with
  | top => simp
  | @step x p q w h h0 hq hd hw ih =>
    refine List.nodup_cons.2 ⟨fun hx => ?_, ih⟩
    obtain ⟨w', h1, h2, _⟩ := hw.sub x hx
    have := h1.one (.step h h0 hq hd hw)
    rw [this] at h2
    simp at h2
    omega
theorem Up.len {x : Id3} {w : List Id3} (h : Up T x w) : w.length ≤ T.length := by
  have : w ⊆ T.map (·.1) := fun u hu => by
    obtain ⟨w', h1, _⟩ := h.sub u hu
    obtain ⟨p, hp⟩ := h1.at
    obtain ⟨h2, h3⟩ := atPl_mem hp
    exact List.mem_map.2 ⟨p, h2, h3⟩
  simpa using h.nodup.length_le_of_subset this
theorem wyF_up : ∀ (n : Nat) (x : Id3) (out l : List Id3), wyF T n x out = some l → (∀ p, 0 < out.length → atPl T x = some p → p.2.2.2 = true) → ∃ w, l = out ++ w ∧ Up T x w
  | 0, _, _, _, h, _ => by cases h
  | n + 1, x, out, l, h, hd => by
    unfold wyF at h
    cases hp : atPl T x with
    | none => rw [hp] at h; cases h
    | some p =>
      rw [hp] at h
      simp only at h
      split at h
      · cases h
      · split at h
        · cases h
          exact ⟨[x], rfl, .top hp (by assumption)⟩
        · rename_i h0 h1
          cases hq : atPl T p.2.1 with
          | none =>
            cases n with
            | zero => cases h
            | succ n => unfold wyF at h; rw [hq] at h; cases h
          | some q =>
            have hdir : q.2.2.2 = true := by
              cases n with
              | zero => cases h
              | succ n =>
                unfold wyF at h
                rw [hq] at h
                simp only at h
                split at h
                · cases h
                · rename_i hh
                  cases hqd : q.2.2.2 with
                  | true => rfl
                  | false => exact absurd ⟨by simp, hqd⟩ hh
            obtain ⟨w, e, hw⟩ := wyF_up n p.2.1 (out ++ [x]) l h fun p' _ hp' => by rw [hq] at hp'; cases hp'; exact hdir
            exact ⟨x :: w, by rw [e]; simp, .step hp h1 hq hdir hw⟩
theorem up_wyF {x : Id3} {w : List Id3} (h : Up T x w) : ∀ (n : Nat) (out : List Id3), w.length ≤ n → (∀ p, 0 < out.length → atPl T x = some p → p.2.2.2 = true) → wyF T n x out = some (out ++ w) := by
  induction h with
  | @top x p h h0 =>
    intro n out hn hd
    cases n with
    | zero => simp at hn
    | succ n =>
      unfold wyF
      simp only [h]
      rw [if_neg (fun hh => by have := hd p hh.1 h; rw [hh.2] at this; cases this), if_pos h0]
  | @step x p q w h h0 hq hd' hw ih =>
    intro n out hn hd
    cases n with
    | zero => simp at hn
    | succ n =>
      unfold wyF
      simp only [h]
      rw [if_neg (fun hh => by have := hd p hh.1 h; rw [hh.2] at this; cases this), if_neg h0]
      rw [ih n (out ++ [x]) (by simp at hn; omega) fun p' _ hp' => by rw [hq] at hp'; cases hp'; exact hd']
      simp
theorem wy_iff {x : Id3} {w : List Id3} : wy T x = some w ↔ Up T x w := by
  constructor
  · intro h
    obtain ⟨w', e, hw⟩ := wyF_up _ _ _ _ h (fun _ h => by simp at h)
    rw [e]
    exact hw
  · intro h
    have := up_wyF h (T.length + 1) [] (by have := h.len; omega) (fun _ h => by simp at h)
    rw [List.nil_append] at this
    exact this
/-- Does a node lead up to the root, by directories? -/
def rootF (T : List Pl) : Nat → Id3 → Bool
  | 0, _ => false
  | n + 1, x => match atPl T x with
    | none => false
    | some p => if p.2.1 = rootId then true else match atPl T p.2.1 with
      | none => false
      | some q => if q.2.2.2 = false then false else rootF T n p.2.1
def rooted (T : List Pl) (x : Id3) : Bool := rootF T (T.length + 1) x
theorem rootF_up : ∀ (n : Nat) (x : Id3), rootF T n x = true → ∃ w, Up T x w
  | 0, _, h => by cases h
  | n + 1, x, h => by
    unfold rootF at h
    cases hp : atPl T x with
    | none => rw [hp] at h; cases h
    | some p =>
      rw [hp] at h
      simp only at h
      split at h
      · exact ⟨_, .top hp (by assumption)⟩
      · rename_i h0
        cases hq : atPl T p.2.1 with
        | none => rw [hq] at h; cases h
        | some q =>
          rw [hq] at h
          simp only at h
          split at h
          · cases h
          · rename_i hd
            obtain ⟨w, hw⟩ := rootF_up n _ h
            exact ⟨_, .step hp h0 hq (by simpa using hd) hw⟩
theorem up_rootF {x : Id3} {w : List Id3} (h : Up T x w) : ∀ n, w.length ≤ n → rootF T n x = true := by
  induction h with
  | @top x p h h0 =>
    intro n hn
    cases n with
    | zero => simp at hn
    | succ n => unfold rootF; simp only [h]; rw [if_pos h0]
  | @step x p q w h h0 hq hd hw ih =>
    intro n hn
    cases n with
    | zero => simp at hn
    | succ n =>
      unfold rootF
      simp only [h, hq]
      rw [if_neg h0, if_neg (by rw [hd]; simp)]
      exact ih n (by simp at hn; omega)
theorem rooted_iff {x : Id3} : rooted T x = true ↔ ∃ w, Up T x w :=
  ⟨rootF_up _ _, fun ⟨_, h⟩ => up_rootF h _ (by have := h.len; omega)⟩
/-- Is a node another one, or above it? -/
def withinF (T : List Pl) : Nat → Id3 → Id3 → Bool
  | 0, _, _ => true
  | n + 1, x, up => if x = up then true else match atPl T x with
    | none => false
    | some p => withinF T n p.2.1 up
def within (T : List Pl) (x up : Id3) : Bool := withinF T (T.length + 1) x up
/-! ### who is seen -/
theorem lvS_nodup {V : List Id3} {x : Id3} (h : V.Nodup) : (lvS V x).Nodup := by
  unfold lvS
  split
  · exact h
  · rename_i hx
    rw [List.nodup_append]
    exact ⟨h, by simp, fun a ha b hb => by simp at hb; subst hb; exact fun e => hx (e ▸ ha)⟩
theorem lvS_mem {V : List Id3} {x z : Id3} : z ∈ lvS V x ↔ z ∈ V ∨ z = x := by
  unfold lvS
  split
  · rename_i hx
    exact ⟨.inl, fun h => h.elim id fun e => e ▸ hx⟩
  · simp
theorem lvF_mem : ∀ (l V : List Id3) (z : Id3), z ∈ l.foldl lvS V ↔ z ∈ V ∨ z ∈ l
  | [], V, z => by simp
  | x :: r, V, z => by
    rw [List.foldl_cons, lvF_mem r, lvS_mem, List.mem_cons, or_assoc]
theorem lvF_nodup : ∀ (l V : List Id3), V.Nodup → (l.foldl lvS V).Nodup
  | [], _, h => h
  | _ :: r, _, h => lvF_nodup r _ (lvS_nodup h)
theorem lvL_mem {l : List Id3} {z : Id3} : z ∈ lvL l ↔ z ∈ l := by simp [lvL, lvF_mem]
theorem lvL_nodup (l : List Id3) : (lvL l).Nodup := lvF_nodup l [] (by simp)
/-- Is a node seen? -/
def marked (T : List Pl) (live : List Id3) (z : Id3) : Bool := live.any fun x => match wy T x with | some w => w.contains z | none => false
theorem marked_iff {live : List Id3} {z : Id3} : marked T live z = true ↔ ∃ x ∈ live, ∃ w, Up T x w ∧ z ∈ w := by
  unfold marked
  rw [List.any_eq_true]
  constructor
  · rintro ⟨x, hx, h⟩
    cases hw : wy T x with
    | none => rw [hw] at h; cases h
    | some w => rw [hw] at h; exact ⟨x, hx, w, wy_iff.1 hw, by simpa using h⟩
  · rintro ⟨x, hx, w, hw, hz⟩
    exact ⟨x, hx, by rw [wy_iff.2 hw]; simpa using hz⟩
def seenL (T : List Pl) (live : List Id3) : List Pl := T.filter fun p => marked T live p.1
theorem marked_up {live : List Id3} {z : Id3} (h : marked T live z = true) : ∃ w, Up T z w ∧ ∀ u ∈ w, marked T live u = true := by
  obtain ⟨x, hx, w, hw, hz⟩ := marked_iff.1 h
  obtain ⟨w', h1, _, v, h3⟩ := hw.sub z hz
  exact ⟨w', h1, fun u hu => marked_iff.2 ⟨x, hx, w, hw, by rw [h3]; exact List.mem_append_right _ hu⟩⟩
theorem marked_at {live : List Id3} {z : Id3} (h : marked T live z = true) : ∃ p, atPl T z = some p := by
  obtain ⟨w, hw, _⟩ := marked_up h
  exact hw.at
/-- Who is marked by one that is live. -/
def mkF (S : List Id3) : List Id3 → List Id3
  | [] => S
  | u :: r => if u ∈ S then S else mkF (S ++ [u]) r
/-- Of any who are marked, all above are. -/
def UpC (T : List Pl) (S : List Id3) : Prop := ∀ z ∈ S, ∃ w, Up T z w ∧ ∀ u ∈ w, u ∈ S
theorem mkF_mem {x : Id3} {w : List Id3} (h : Up T x w) : ∀ {S : List Id3}, (∀ u ∈ w, u ∈ S → ∀ w', Up T u w' → ∀ z ∈ w', z ∈ S) → ∀ z, z ∈ mkF S w ↔ z ∈ S ∨ z ∈ w := by
  induction h with
  | @top x p h h0 =>
    intro S hC z
    unfold mkF
    split
    · rename_i hx
      exact ⟨.inl, fun h => h.elim id fun hz => by simp at hz; exact hz ▸ hx⟩
    · simp [mkF]
  | @step x p q w h h0 hq hd hw ih =>
    intro S hC z
    unfold mkF
    split
    · rename_i hx
      exact ⟨.inl, fun hz => hz.elim id fun hz => hC x (by simp) hx _ (.step h h0 hq hd hw) z hz⟩
    · rename_i hx
      have hn := (Up.step h h0 hq hd hw).nodup
      have hxw : x ∉ w := (List.nodup_cons.1 hn).1
      rw [ih (fun u hu hS w' hw' z hz => by
        have hS' : u ∈ S := by
          rcases List.mem_append.1 hS with h | h
          · exact h
          · simp at h; subst h; exact absurd hu hxw
        exact List.mem_append_left _ (hC u (by simp [hu]) hS' w' hw' z hz))]
      simp [or_assoc]
theorem mkF_nodup : ∀ (w : List Id3) {S : List Id3}, S.Nodup → (mkF S w).Nodup
  | [], _, h => h
  | u :: r, S, h => by
    unfold mkF
    split
    · exact h
    · rename_i hu
      refine mkF_nodup r ?_
      rw [List.nodup_append]
      exact ⟨h, by simp, fun a ha b hb => by simp at hb; subst hb; exact fun e => hu (e ▸ ha)⟩
theorem UpC.in {S : List Id3} (h : UpC T S) {z : Id3} (hz : z ∈ S) {w : List Id3} (hw : Up T z w) : ∀ u ∈ w, u ∈ S := by
  obtain ⟨w', h1, h2⟩ := h z hz
  rw [hw.one h1]
  exact h2
theorem UpC.mk {x : Id3} {w : List Id3} (h : Up T x w) {S : List Id3} (hS : UpC T S) : UpC T (mkF S w) ∧ ∀ z, z ∈ mkF S w ↔ z ∈ S ∨ z ∈ w := by
  have hm := mkF_mem h (S := S) fun u _ hu w' hw' => hS.in hu hw'
  refine ⟨fun z hz => ?_, hm⟩
  rcases (hm z).1 hz with hz | hz
  · obtain ⟨w', h1, h2⟩ := hS z hz
    exact ⟨w', h1, fun u hu => (hm u).2 (.inl (h2 u hu))⟩
  · obtain ⟨w', h1, _, v, h3⟩ := h.sub z hz
    exact ⟨w', h1, fun u hu => (hm u).2 (.inr (by rw [h3]; exact List.mem_append_right _ hu))⟩
def markR (T : List Pl) (S : List Id3) (x : Id3) : List Id3 := match wy T x with | some w => mkF S w | none => S
theorem markR_ok {S : List Id3} (x : Id3) (h : UpC T S) (hn : S.Nodup) : UpC T (markR T S x) ∧ (markR T S x).Nodup ∧ ∀ z, z ∈ markR T S x ↔ z ∈ S ∨ ∃ w, Up T x w ∧ z ∈ w := by
  unfold markR
  cases hw : wy T x with
  | none => exact ⟨h, hn, fun z => ⟨.inl, fun h => h.elim id fun ⟨w, h1, _⟩ => by rw [wy_iff.2 h1] at hw; cases hw⟩⟩
  | some w =>
    have hw := wy_iff.1 hw
    obtain ⟨h1, h2⟩ := h.mk hw
    exact ⟨h1, mkF_nodup w hn, fun z => by rw [h2]; exact or_congr Iff.rfl ⟨fun h => ⟨w, hw, h⟩, fun ⟨w', h3, h4⟩ => by rw [hw.one h3]; exact h4⟩⟩
/-- The ids of the seen ones. -/
def seenI (T : List Pl) (live : List Id3) : List Id3 := (seenL T live).map (·.1)
/-- Each node stands once. -/
def Uq (T : List Pl) : Prop := (T.map (·.1)).Nodup
theorem atPl_of (hu : Uq T) {p : Pl} (hp : p ∈ T) : atPl T p.1 = some p := by
  unfold atPl
  unfold Uq at hu
  induction T with
  | nil => cases hp
  | cons a r ih =>
    rw [List.map_cons, List.nodup_cons] at hu
    rw [List.find?_cons]
    rcases List.mem_cons.1 hp with rfl | hp
    · simp
    · have : (a.1 == p.1) = false := by
        simp only [beq_eq_false_iff_ne, ne_eq]
        exact fun e => hu.1 (e ▸ List.mem_map_of_mem hp)
      rw [this]
      exact ih hu.2 hp
theorem seenI_mem {live : List Id3} {z : Id3} : z ∈ seenI T live ↔ marked T live z = true := by
  unfold seenI seenL
  constructor
  · intro h
    obtain ⟨p, hp, rfl⟩ := List.mem_map.1 h
    exact (List.mem_filter.1 hp).2
  · intro h
    obtain ⟨p, hp⟩ := marked_at h
    obtain ⟨h1, h2⟩ := atPl_mem hp
    exact List.mem_map.2 ⟨p, List.mem_filter.2 ⟨h1, by rw [h2]; exact h⟩, h2⟩
theorem seenI_nodup (hu : Uq T) (live : List Id3) : (seenI T live).Nodup :=
  List.Nodup.sublist (List.filter_sublist.map _) hu
theorem seen_perm (hu : Uq T) {live S : List Id3} (hn : S.Nodup) (h : ∀ z, z ∈ S ↔ marked T live z = true) : S.Perm (seenI T live) :=
  (List.perm_ext_iff_of_nodup hn (seenI_nodup hu live)).2 fun z => by rw [h, seenI_mem]
theorem marked_ext {live live' : List Id3} (h : ∀ z, z ∈ live ↔ z ∈ live') (z : Id3) : marked T live z = marked T live' z := by
  rw [Bool.eq_iff_iff, marked_iff, marked_iff]
  exact ⟨fun ⟨x, hx, h'⟩ => ⟨x, (h x).1 hx, h'⟩, fun ⟨x, hx, h'⟩ => ⟨x, (h x).2 hx, h'⟩⟩
end
end Pi

/- Tree: names, paths, items. -/
namespace Pi
open Go
theorem name_seen {s : List UInt8} (h : nameOk s = true) : seenOk s = true := by
  have h1 := name_no h (c := 126) rfl
  simp [seenOk, pre_all h1, h, h1]
/-- All are right, each node stands once. -/
def Rt (T : List Pl) : Prop := Uq T ∧ ∀ p ∈ T, okPl p = true
theorem tkS_rt {T : List Pl} (h : Rt T) (p : Pl) : Rt (tkS T p) := by
  unfold tkS
  split
  · exact h
  · rename_i h0
    split
    · rename_i hp
      refine ⟨?_, fun q hq => ?_⟩
      · unfold Uq
        rw [List.map_append, List.nodup_append]
        refine ⟨h.1, by simp, fun a ha b hb => ?_⟩
        simp at hb
        subst hb
        intro e
        obtain ⟨q, hq, hqa⟩ := List.mem_map.1 ha
        apply h0
        unfold atPl
        rw [List.find?_isSome]
        exact ⟨q, hq, by simp [hqa, e]⟩
      · rcases List.mem_append.1 hq with hq | hq
        · exact h.2 q hq
        · simp at hq; subst hq; exact hp
    · exact h
theorem tkF_rt : ∀ (l T : List Pl), Rt T → Rt (l.foldl tkS T)
  | [], _, h => h
  | p :: r, _, h => tkF_rt r _ (tkS_rt h p)
theorem tkL_rt (l : List Pl) : Rt (tkL l) := tkF_rt l [] ⟨by simp [Uq], by simp⟩
theorem tkS_len (T : List Pl) (p : Pl) : (tkS T p).length ≤ T.length + 1 := by
  unfold tkS
  split
  · omega
  · split
    · simp
    · omega
theorem tkF_len : ∀ (l T : List Pl), (l.foldl tkS T).length ≤ T.length + l.length
  | [], _ => by simp
  | p :: r, T => by
    have := tkF_len r (tkS T p)
    have := tkS_len T p
    simp only [List.foldl_cons, List.length_cons]
    omega
theorem tkL_len (l : List Pl) : (tkL l).length ≤ l.length := by simpa [tkL] using tkF_len l []
/-- Those that are right and of unlike nodes all count. -/
theorem tkF_all : ∀ (l T : List Pl), (∀ p ∈ l, okPl p = true) → (T ++ l |>.map (·.1)).Nodup → l.foldl tkS T = T ++ l
  | [], T, _, _ => by simp
  | p :: r, T, h, hn => by
    have h0 : (atPl T p.1).isSome = false := by
      cases h1 : (atPl T p.1).isSome with
      | false => rfl
      | true =>
        obtain ⟨q, hq⟩ := Option.isSome_iff_exists.1 h1
        obtain ⟨h2, h3⟩ := atPl_mem hq
        rw [List.map_append, List.nodup_append] at hn
        exact absurd h3 (hn.2.2 q.1 (List.mem_map_of_mem h2) p.1 (by simp))
    have e : tkS T p = T ++ [p] := by unfold tkS; rw [h0]; simp [h p (by simp)]
    rw [List.foldl_cons, e, tkF_all r (T ++ [p]) (fun q hq => h q (by simp [hq])) (by simpa using hn)]
    simp
theorem tkL_all {l : List Pl} (h : ∀ p ∈ l, okPl p = true) (hn : (l.map (·.1)).Nodup) : tkL l = l := by
  unfold tkL
  rw [tkF_all l [] h (by simpa using hn)]
  rfl
/-- What a node is seen as, of those that are seen. -/
def nmP (L : List Pl) (p : Pl) : List UInt8 := if L.any (fun q => decide (q.2.1 = p.2.1) && (q.2.2.1 == p.2.2.1) && ltX q.1 p.1) then (clashP p.2.2.1 p.1.1 p.1.2.1 p.1.2.2).1 else p.2.2.1
def nmX (T : List Pl) (live : List Id3) (x : Id3) : List UInt8 := match atPl T x with | some p => nmP (seenL T live) p | none => []
def namesX (T : List Pl) (live : List Id3) (x : Id3) : List (List UInt8) := match wy T x with | some w => w.reverse.map (nmX T live) | none => []
def pathX (T : List Pl) (live : List Id3) (x : Id3) : List UInt8 := joinR (namesX T live x)
abbrev It := Id3 × List UInt8 × Bool × Bool
def itemX (T : List Pl) (live : List Id3) (p : Pl) : It := (p.1, pathX T live p.1, p.2.2.2, !decide (p.1 ∈ live))
abbrev ltP (a b : It) : Bool := Op.bytesLess a.2.1 b.2.1
def itemsX (T : List Pl) (live : List Id3) : List It := sortI ltP ((seenL T live).map (itemX T live))
section
variable {T : List Pl} {live : List Id3}
theorem clashR {p : Pl} (h : okPl p = true) : (clashP p.2.2.1 p.1.1 p.1.2.1 p.1.2.2).1 = p.2.2.1 ++ 126 :: textS p.1.1 p.1.2.1 p.1.2.2 := by
  simp only [okPl, Bool.and_eq_true] at h
  rw [clashP, if_pos h.2, if_pos h.1]
theorem nmP_seen {L : List Pl} {p : Pl} (h : okPl p = true) : seenOk (nmP L p) = true := by
  have h' := h
  simp only [okPl, Bool.and_eq_true] at h'
  unfold nmP
  split
  · rw [clashR h]; exact clash_seen h'.2 h'.1
  · exact name_seen h'.2
theorem nmP_inj {L : List Pl} {p q : Pl} (hp : p ∈ L) (hq : q ∈ L) (op : okPl p = true) (oq : okPl q = true) (hpar : p.2.1 = q.2.1) (h : nmP L p = nmP L q) : p.1 = q.1 := by
  have op' := op
  have oq' := oq
  simp only [okPl, Bool.and_eq_true] at op' oq'
  unfold nmP at h
  split at h
  · rename_i c1
    split at h
    · rename_i c2
      rw [clashR op, clashR oq] at h
      obtain ⟨_, h1, h2, h3⟩ := clash_inj op'.2 op'.1 oq'.2 oq'.1 h
      exact Prod.ext h1 (Prod.ext h2 h3)
    · rw [clashR op] at h
      rw [← h] at oq'
      rw [clash_name] at oq'
      cases oq'.2
  · rename_i c1
    split at h
    · rw [clashR oq] at h
      rw [h] at op'
      rw [clash_name] at op'
      cases op'.2
    · rename_i c2
      refine lin_X.tot _ _ ?_ ?_
      · cases hl : ltX p.1 q.1 with
        | false => rfl
        | true => exact absurd (List.any_eq_true.2 ⟨p, hp, by simp [hpar, h, hl]⟩) c2
      · cases hl : ltX q.1 p.1 with
        | false => rfl
        | true => exact absurd (List.any_eq_true.2 ⟨q, hq, by simp [hpar, h, hl]⟩) c1
theorem joinR_inj : ∀ {a b : List (List UInt8)}, (∀ x ∈ a, (47 : UInt8) ∉ x) → (∀ x ∈ b, (47 : UInt8) ∉ x) → joinR a = joinR b → a = b
  | [], [], _, _, _ => rfl
  | [], _ :: _, _, _, h => by simp [joinR] at h
  | _ :: _, [], _, _, h => by simp [joinR] at h
  | x :: a, y :: b, ha, hb, h => by
    have h' : x ++ joinR a = y ++ joinR b := by simpa [joinR] using h
    have key : ∀ (x y : List UInt8) (u v : List (List UInt8)), (47 : UInt8) ∉ x → (47 : UInt8) ∉ y → x ++ joinR u = y ++ joinR v → x = y := by
      intro x
      induction x with
      | nil =>
        intro y u v _ hy h
        cases y with
        | nil => rfl
        | cons c y =>
          cases u with
          | nil => simp [joinR] at h
          | cons z u => simp [joinR] at h; exact absurd (by simp [h.1]) hy
      | cons c x ih =>
        intro y u v hx hy h
        cases y with
        | nil =>
          cases v with
          | nil => simp [joinR] at h
          | cons z v => simp [joinR] at h; exact absurd (by simp [h.1]) hx
        | cons d y =>
          simp only [List.cons_append, List.cons.injEq] at h
          rw [h.1, ih y u v (fun m => hx (by simp [m])) (fun m => hy (by simp [m])) h.2]
    have e := key x y a b (ha x (by simp)) (hb y (by simp)) h'
    subst e
    rw [joinR_inj (fun z hz => ha z (by simp [hz])) (fun z hz => hb z (by simp [hz])) (List.append_cancel_left h')]
theorem namesX_seen (hT : Rt T) (x : Id3) : ∀ s ∈ namesX T live x, seenOk s = true := by
  intro s hs
  unfold namesX at hs
  cases hw : wy T x with
  | none => rw [hw] at hs; cases hs
  | some w =>
    rw [hw] at hs
    obtain ⟨u, hu, rfl⟩ := List.mem_map.1 hs
    obtain ⟨w', h1, _⟩ := (wy_iff.1 hw).sub u (by simpa using hu)
    obtain ⟨p, hp⟩ := h1.at
    unfold nmX
    rw [hp]
    exact nmP_seen (hT.2 p (atPl_mem hp).1)
theorem seen_mem {x : Id3} {p : Pl} (h : marked T live x = true) (hp : atPl T x = some p) : p ∈ seenL T live := by
  obtain ⟨h1, h2⟩ := atPl_mem hp
  exact List.mem_filter.2 ⟨h1, by rw [h2]; exact h⟩
theorem up_inj (hT : Rt T) {x : Id3} {w : List Id3} (h : Up T x w) : ∀ {y v}, Up T y v → (∀ u ∈ w, marked T live u = true) → (∀ u ∈ v, marked T live u = true) → w.map (nmX T live) = v.map (nmX T live) → x = y := by
  have hd : ∀ {a b : Id3} {p q : Pl}, atPl T a = some p → atPl T b = some q → marked T live a = true → marked T live b = true → p.2.1 = q.2.1 → nmX T live a = nmX T live b → a = b := by
    intro a b p q ha hb ma mb hpar h
    unfold nmX at h
    rw [ha, hb] at h
    have := nmP_inj (seen_mem ma ha) (seen_mem mb hb) (hT.2 p (atPl_mem ha).1) (hT.2 q (atPl_mem hb).1) hpar h
    rw [← (atPl_mem ha).2, ← (atPl_mem hb).2, this]
  induction h with
  | @top x p h h0 =>
    intro y v hv mw mv e
    cases hv with
    | top h' h0' =>
      simp only [List.map_cons, List.map_nil, List.cons.injEq, and_true] at e
      exact hd h h' (mw _ (by simp)) (mv _ (by simp)) (by rw [h0, h0']) e
    | step _ _ _ _ hw =>
      obtain ⟨r, rfl⟩ := hw.hd
      simp at e
  | @step x p q w h h0 hq hdir hw ih =>
    intro y v hv mw mv e
    cases hv with
    | top =>
      obtain ⟨r, rfl⟩ := hw.hd
      simp at e
    | @step y p' q' v h' h0' _ _ hv =>
      simp only [List.map_cons, List.cons.injEq] at e
      have := ih hv (fun u hu => mw u (by simp [hu])) (fun u hu => mv u (by simp [hu])) e.2
      exact hd h h' (mw _ (by simp)) (mv _ (by simp)) this e.1
theorem pathX_up {x : Id3} {w : List Id3} (h : Up T x w) : namesX T live x = w.reverse.map (nmX T live) := by
  unfold namesX
  rw [wy_iff.2 h]
/-- No two that are seen have one path. -/
theorem pathX_inj (hT : Rt T) {x y : Id3} (hx : marked T live x = true) (hy : marked T live y = true) (h : pathX T live x = pathX T live y) : x = y := by
  obtain ⟨w, hw, mw⟩ := marked_up hx
  obtain ⟨v, hv, mv⟩ := marked_up hy
  have := joinR_inj (fun s hs => seen_no (namesX_seen hT x s hs)) (fun s hs => seen_no (namesX_seen hT y s hs)) h
  rw [pathX_up hw, pathX_up hv, List.map_reverse, List.map_reverse, List.reverse_inj] at this
  exact up_inj hT hw hv mw mv this
theorem seen_pl {p : Pl} (h : p ∈ seenL T live) : p ∈ T ∧ marked T live p.1 = true := by
  unfold seenL at h
  rw [List.mem_filter] at h
  exact h
theorem items_key (hT : Rt T) : ∀ a ∈ (seenL T live).map (itemX T live), ∀ b ∈ (seenL T live).map (itemX T live), a.2.1 = b.2.1 → a = b := by
  intro a ha b hb h
  obtain ⟨p, hp, rfl⟩ := List.mem_map.1 ha
  obtain ⟨q, hq, rfl⟩ := List.mem_map.1 hb
  obtain ⟨p1, p2⟩ := seen_pl hp
  obtain ⟨q1, q2⟩ := seen_pl hq
  have e := pathX_inj hT p2 q2 h
  have e1 := atPl_of hT.1 p1
  have e2 := atPl_of hT.1 q1
  rw [e, e2] at e1
  cases e1
  rfl
theorem itemsX_perm : (itemsX T live).Perm ((seenL T live).map (itemX T live)) := sortI_perm _
theorem itemsX_pw : (itemsX T live).Pairwise fun a b => Op.bytesLess b.2.1 a.2.1 = false := sortI_key lin_B (fun a : It => a.2.1) _
/-- However they are sorted, there is one order. -/
theorem itemsX_of (hT : Rt T) {a : List It} (hp : a.Perm ((seenL T live).map (itemX T live))) (ha : a.Pairwise fun x y => Op.bytesLess y.2.1 x.2.1 = false) : a = itemsX T live :=
  sorted_key lin_B (fun a : It => a.2.1) (fun x hx y hy h => items_key hT x (hp.mem_iff.1 hx) y (hp.mem_iff.1 hy) h) (hp.trans itemsX_perm.symm) ha itemsX_pw
/-- They rise. -/
theorem itemsX_lt (hT : Rt T) : (itemsX T live).Pairwise fun a b => Op.bytesLess a.2.1 b.2.1 = true := by
  have hn : (itemsX T live).Nodup := by
    rw [itemsX_perm.nodup_iff]
    have : (seenL T live).map (itemX T live) |>.map (·.1) |>.Nodup := by
      have e : ((seenL T live).map (itemX T live)).map (·.1) = seenI T live := by simp [seenI, itemX]
      rw [e]
      exact seenI_nodup hT.1 live
    exact List.Pairwise.of_map (fun a : It => a.1) (fun a b h e => h (by rw [e])) this
  refine (itemsX_pw.and hn).imp_of_mem ?_
  intro a b ha hb hab
  cases hl : Op.bytesLess a.2.1 b.2.1 with
  | true => rfl
  | false => exact absurd (items_key hT a (itemsX_perm.mem_iff.1 ha) b (itemsX_perm.mem_iff.1 hb) (lin_B.tot _ _ hl hab.1)) hab.2
end
end Pi

/- The seat's runs whose order is open. -/
namespace Pi
open Go Go.Proofs
set_option maxRecDepth 100000
/-- A round of a loop, in whatever order. -/
noncomputable def roundLN (H HN : List (FuncId × KF1)) (hk : List (Nat × (S → K (PX × S)))) (f id : Nat) (s : S) : K (PX × S) :=
  roundK (pexecN PR (runK PR kp0 dcT H 60 60) HN (kpF f) hk (dcT f) (loopOf PR f id)) (kpF f id) s
/-- A function's body, in whatever order. -/
noncomputable def bodyFN (H HN : List (FuncId × KF1)) (hk : List (Nat × (S → K (PX × S)))) (f : Nat) (ps : List P) (R : List (Nat × En)) : K (P × List (Nat × En)) :=
  bodyN PR (runK PR kp0 dcT H 60 60) HN kp0 hk dcT f ps R
def ND (w0 : World) (f : Nat) (h : KF1) : Prop := NOK PR w0 f h
def LN (w0 : World) (f id : Nat) (g : S → K (PX × S)) : Prop := ∀ (val : Nat → Value) s post, g s post → TW PR ⟨val, w0⟩ (.loop (loopOf PR f id)) s post
inductive NDs (w0 : World) : List (FuncId × KF1) → Prop
  | nil : NDs w0 []
  | cons {f : Nat} {h : KF1} {r : List (FuncId × KF1)} (hf : ND w0 f h) (hr : NDs w0 r) : NDs w0 ((f, h) :: r)
theorem NDs.get {w0 : World} {HN : List (FuncId × KF1)} (h : NDs w0 HN) : ∀ f g, lk HN f = some g → NOK PR w0 f g := by
  induction h with
  | nil => intro f g h; cases h
  | @cons f' h' r hf hr ih =>
    intro f g h
    unfold lk at h
    split at h
    · rename_i he
      cases h
      rw [← Nat.eq_of_beq_eq_true he]
      exact hf
    · exact ih f g h
inductive LNs (w0 : World) (f : Nat) : List (Nat × (S → K (PX × S))) → Prop
  | nil : LNs w0 f []
  | cons {id : Nat} {g : S → K (PX × S)} {r : List (Nat × (S → K (PX × S)))} (h : LN w0 f id g) (hr : LNs w0 f r) : LNs w0 f ((id, g) :: r)
theorem LNs.get {w0 : World} {f : Nat} {hk : List (Nat × (S → K (PX × S)))} (h : LNs w0 f hk) : ∀ id g, lk hk id = some g → LN w0 f id g := by
  induction h with
  | nil => intro f g h; cases h
  | @cons f' h' r hf hr ih =>
    intro f g h
    unfold lk at h
    split at h
    · rename_i he
      cases h
      rw [← Nat.eq_of_beq_eq_true he]
      exact hf
    · exact ih f g h
theorem kf_ok {X : XF} {H : List (FuncId × KF1)} (hH : HD X H) : KFOK (runK PR kp0 dcT H 60 60) (runF PR (kpT X)) := by
  have := runK_ok (lf := 60) (clsAll_ok dcOK) hH 60
  rw [runK_X PR kpF xsT X.cf (fun _ _ _ => none) dcT H 60 60] at this
  exact this
theorem ND.mk {X : XF} {w0 : World} (hX : CFOK PR w0 X.cf) {H HN : List (FuncId × KF1)} {hk : List (Nat × (S → K (PX × S)))} {f : Nat} {h : KF1} (hdr : PR.follows .mixedOrders = true) (hu : uniq PR f = true) (hH : HD X H) (hHN : NDs w0 HN) (hl : LNs w0 f hk)
    (hb : ∀ ps R post, h ps R post → bodyFN H HN hk f ps R post) : ND w0 f h :=
  NOK.mk (kp := kpT X) hHN.get (kf_ok hH) hX hdr dcOK hu hl.get (fun ps R post hp => hb ps R post hp)
/-- By parameters: a head, what is asked, what comes out. -/
theorem LN.par {X : XF} {w0 : World} (hX : CFOK PR w0 X.cf) {H HN : List (FuncId × KF1)} {hk : List (Nat × (S → K (PX × S)))} {f id : Nat} {g : S → K (PX × S)} (hdr : PR.follows .mixedOrders = true) (hu : uniq PR f = true) (hc : clsOK (dcT f) (loopOf PR f id) = true) (hH : HD X H) (hHN : NDs w0 HN) (hl : LNs w0 f hk)
    {A B : Type} (hd : A → B → S) (Inv : A → B → Prop) (mu : A → B → Nat) (Out : A → PX × S → Prop)
    (hr : ∀ a b, Inv a b → roundLN H HN hk f id (hd a b) (roundPost (mu a b) (fun m s => ∃ b', s = hd a b' ∧ Inv a b' ∧ m = mu a b') (Out a)))
    (hg : ∀ s post, g s post → ∃ a b, s = hd a b ∧ Inv a b ∧ ∀ x, Out a x → post x) : LN w0 f id (loopHook (kpF f id) g) := by
  intro val s post hp
  unfold loopHook at hp
  cases hh : headOf (kpF f id) s with
  | none => simp only [hh] at hp
  | some s0 =>
    simp only [hh] at hp
    obtain ⟨a, b, rfl, h1, h2⟩ := hg s0 post hp
    refine TW.mono (TW.loop (keep := kpF f id) (I := fun m s => ∃ b', s = hd a b' ∧ Inv a b' ∧ m = mu a b') (O := Out a) (fun n s hs => ?_) hh ⟨b, rfl, h1, rfl⟩) h2
    obtain ⟨b', rfl, h3, rfl⟩ := hs
    have := hr a b' h3
    unfold roundLN at this
    refine TW.mono (pexecN_ok (kp := kpT X) (T := ⟨val, w0⟩) hHN.get (kf_ok hH) hX hdr (kp1 := kpF f) (loopOf PR f id) hc (fun d hd h hh s post hp => by
      have := hl.get _ _ hh val s post hp
      rwa [loopOf_in hu hd] at this) _ _ this) ?_
    rintro ⟨e, s1⟩ hx
    cases e with
    | normal =>
      obtain ⟨s2, h4, m, h5, h6⟩ := KW.ofO (p := fun s2 => headOf (kpF f id) s1 = some s2) (fun _ h => h) _ hx
      exact ⟨s2, h4, m, h5, h6⟩
    | exit i =>
      obtain ⟨s2, h4, h5⟩ := KW.ofO (p := fun s2 => behindOf (kpF f id) s1 = some s2) (fun _ h => h) _ hx
      exact ⟨s2, h4, h5⟩
    | ret =>
      obtain ⟨s2, h4, h5⟩ := KW.ofO (p := fun s2 => behindOf (kpF f id) s1 = some s2) (fun _ h => h) _ hx
      exact ⟨s2, h4, h5⟩
/-- slices.SortFunc, of one row that is lent. -/
def hSortA (g : FuncId) (cf : D → D → Int) (ty : TypeId) : KF1 := fun ps R post => ∃ es, ps = [.sl 0 0 es.length, .fn g []] ∧ R = [(0, ⟨0, some 0, .arr ty false es⟩)] ∧ CmpOn PR kp0 g es cf ∧
  ∀ es' : List D, es'.Perm es → es'.Pairwise (fun a b => ¬ cf b a < 0) → post (.tup [], [(0, ⟨0, some 0, .arr ty false es'⟩)])
theorem hSortA_hSort {g : FuncId} {cf : D → D → Int} {ty : TypeId} {ps : List P} {R : List (Nat × En)} {post : P × List (Nat × En) → Prop} (h : hSortA g cf ty ps R post) : hSort PR kp0 ty ps R post := by
  obtain ⟨es, rfl, rfl, hc, hp⟩ := h
  exact ⟨0, g, ⟨0, some 0, .arr ty false es⟩, es, cf, rfl, rfl, rfl, hc, fun es' h1 h2 => hp es' h1 h2⟩
end Pi

/- Tree: mark, rising, name, path: what their runs ask. -/
namespace Pi
open Go Go.Proofs
set_option maxRecDepth 100000
set_option maxHeartbeats 0
/-! mark -/
abbrev itE (n : Nat) (g : D → Option D) (e : Option (D × D)) : List (Nat × En) := [(n, ⟨0, none, .iter 41 62 g e⟩)]
abbrev mk1 (T : List Pl) (f2 f3 f4 : D → Option D) (g : D → Option D) (e : Option (D × D)) (c1 c2 c3 c4 : Int) : S :=
  ⟨49, [(0, .ref 0 0 0), (13, .ref 5 0 0)], nodT (plM T) f2 f3 f4 c1 c2 c3 c4 true false ++ itE 5 g e⟩
abbrev mk6 (T : List Pl) (f2 f3 f4 : D → Option D) (g : D → Option D) (e : Option (D × D)) (w : List Id3) (n : Nat) (k : Int) (c1 c2 c3 c4 : Int) : S :=
  ⟨49, [(0, .ref 0 0 0), (13, .ref 5 0 0), (26, .sl 6 0 n), (27, iD n), (28, iD k)], nodT (plM T) f2 f3 f4 c1 c2 c3 c4 true false ++ itE 5 g e ++ [(6, ⟨0, none, .arr 41 false (w.map ixD)⟩)]⟩
def gMk6 : S → K (PX × S) := fun s post => ∃ T f2 f4 g e S w c2 c4, s = mk6 T f2 (inM S) f4 g e w w.length 0 (T.length : Int) c2 (S.length : Int) c4 ∧ (w.length ≤ 1000000 ∧ S.length ≤ 1000000) ∧
  post (.exit 1, mk1 T f2 (inM (mkF S w)) f4 g e (T.length : Int) c2 ((mkF S w).length : Int) c4) ∧ post (.exit 2, mk1 T f2 (inM (mkF S w)) f4 g e (T.length : Int) c2 ((mkF S w).length : Int) c4)
def vcMk6_0 (w : List Id3) (k : Int) : D := D.nth (List.map ixD w) (Int.toNat k)
def vcMk6_1 (w : List Id3) (k : Int) : D := D.int IntKind.i64 (D.iVal (D.cAt (vcMk6_0 w k) 0))
def vcMk6_2 (V : List Id3) (w : List Id3) (k : Int) : Bool := Option.isSome (inM V (D.agg [vcMk6_1 w k, D.int IntKind.i64 (D.iVal (D.cAt (vcMk6_0 w k) 1)), D.int IntKind.i64 (D.iVal (D.cAt (vcMk6_0 w k) 2))]))
def vcMk6_3  : Nat × P := (0, P.ref 0 0 0)
def vcMk6_4  : Nat × P := (13, P.ref 5 0 0)
def vcMk6_5  : Nat × En := (0, En.mk 0 (some 0) (Obj.box (61 : TypeId) [P.mp 1 0, P.mp 2 0, P.mp 3 0, P.mp 4 0]))
def vcMk6_6 (T : List Pl) (c1 : Int) : Nat × En := (1, En.mk 0 (some 1) (Obj.map 41 (fun (x : D) => match x with | D.agg [D.int IntKind.i64 a, D.int IntKind.i64 b, D.int IntKind.i64 c] => Option.map plD (atPl T (a, b, c)) | _ => none) c1 false))
def vcMk6_7 (f2 : D → Option D) (c2 : Int) : Nat × En := (2, En.mk 0 (some 2) (Obj.map 41 f2 c2 true))
def vcMk6_8 (f4 : D → Option D) (c4 : Int) : Nat × En := (4, En.mk 0 (some 4) (Obj.map 41 f4 c4 false))
def vcMk6_9 (g : D → Option D) (e : Option (D × D)) : Nat × En := (5, En.mk 0 none (Obj.iter 41 62 g e))
def vcMk6_10 (k : Int) : Int := k + (1 : Int)
def vcMk6_11  : Nat := 0 + 1
theorem vcMk6 (T : List Pl) (f2 f4 g : D → Option D) (e : Option (D × D)) (V : List Id3) (w : List Id3) (n : Nat) (k c1 c2 c3 c4 : Int) (post : PX × S → Prop) : (bif decide (k < (↑n : Int)) then bif decide ((0 : Int) ≤ k ∧ k < (↑n : Int)) then bif decide (Int.toNat k < List.length (List.map ixD w)) then bif isD PR (41 : TypeId) (vcMk6_0 w k) then bif isD PR (62 : TypeId) (getO (inM V (D.agg [vcMk6_1 w k, D.int IntKind.i64 (D.iVal (D.cAt (vcMk6_0 w k) 1)), D.int IntKind.i64 (D.iVal (D.cAt (vcMk6_0 w k) 2))])) (D.agg [])) then bif vcMk6_2 V w k then post (PX.exit 1, S.mk 49 [vcMk6_3, vcMk6_4] [vcMk6_5, vcMk6_6 T c1, vcMk6_7 f2 c2, (3, En.mk 0 (some 3) (Obj.map 41 (fun (x : D) => match x with | D.agg [D.int IntKind.i64 a, D.int IntKind.i64 b, D.int IntKind.i64 c] => Option.map (fun (_ : Unit) => D.agg []) ((fun (x : Id3) => if x ∈ V then some () else none) (a, b, c)) | _ => none) c3 false)), vcMk6_8 f4 c4, vcMk6_9 g e]) else bif decide ((-9223372036854775808 : Int) ≤ vcMk6_10 k ∧ vcMk6_10 k ≤ (9223372036854775807 : Int)) then post (PX.normal, S.mk 49 [vcMk6_3, vcMk6_4, (26, P.sl 6 0 n), (27, P.d (D.int IntKind.i64 (↑n : Int))), (28, P.d (D.int IntKind.i64 (vcMk6_10 k)))] [vcMk6_5, vcMk6_6 T c1, vcMk6_7 f2 c2, (3, En.mk 0 (some 3) (Obj.map 41 (fun (k' : D) => bif D.eqB (D.agg [vcMk6_1 w k, D.int IntKind.i64 (D.iVal (D.cAt (vcMk6_0 w k) vcMk6_11)), D.int IntKind.i64 (D.iVal (D.cAt (vcMk6_0 w k) (vcMk6_11 + 1)))]) k' then some (D.agg []) else inM V k') (bif vcMk6_2 V w k then c3 else c3 + (1 : Int)) false)), vcMk6_8 f4 c4, vcMk6_9 g e, (6, En.mk 0 none (Obj.arr (41 : TypeId) false (List.map ixD w)))]) else False else False else False else False else False else post (PX.exit 2, S.mk 49 [vcMk6_3, vcMk6_4] [vcMk6_5, vcMk6_6 T c1, vcMk6_7 f2 c2, (3, En.mk 0 (some 3) (Obj.map 41 (fun (x : D) => match x with | D.agg [D.int IntKind.i64 a, D.int IntKind.i64 b, D.int IntKind.i64 c] => Option.map (fun (_ : Unit) => D.agg []) ((fun (x : Id3) => if x ∈ V then some () else none) (a, b, c)) | _ => none) c3 false)), vcMk6_8 f4 c4, vcMk6_9 g e])) = (roundLN [] [] [] 27 6 (mk6 T f2 (inM V) f4 g e w n k c1 c2 c3 c4)) post := by kernel_rfl
def vcMk1_0  : P := P.ref 0 0 0
def vcMk1_1 (v0 : D) : D := D.agg [D.int IntKind.i64 (D.iVal (D.cAt v0 0)), D.int IntKind.i64 (D.iVal (D.cAt v0 1)), D.int IntKind.i64 (D.iVal (D.cAt v0 2))]
def vcMk1_2  : Nat × En := (0, En.mk 0 (some 0) (Obj.box (61 : TypeId) [P.mp 1 0, P.mp 2 0, P.mp 3 0, P.mp 4 0]))
def vcMk1_3 (T : List Pl) (f2 : D → Option D) (f3 : D → Option D) (f4 : D → Option D) (c1 : Int) (c2 : Int) (c3 : Int) (c4 : Int) : List (Nat × En) := [vcMk1_2, (1, En.mk 0 (some 1) (Obj.map 41 (fun (x : D) => match x with | D.agg [D.int IntKind.i64 a, D.int IntKind.i64 b, D.int IntKind.i64 c] => Option.map plD (atPl T (a, b, c)) | _ => none) c1 false)), (2, En.mk 0 (some 2) (Obj.map 41 f2 c2 true)), (3, En.mk 0 (some 3) (Obj.map 41 f3 c3 false)), (4, En.mk 0 (some 4) (Obj.map 41 f4 c4 false))]
def vcMk1_4 (v3 : List Pl) : Nat × En := (1, En.mk 0 (some 1) (Obj.map 41 (fun (x : D) => match x with | D.agg [D.int IntKind.i64 a, D.int IntKind.i64 b, D.int IntKind.i64 c] => Option.map plD (atPl v3 (a, b, c)) | _ => none) (↑(List.length v3) : Int) false))
def vcMk1_5 (v6 : D → Option D) (v9 : Int) (v12 : Bool) : Nat × En := (2, En.mk 0 (some 2) (Obj.map 41 v6 v9 v12))
def vcMk1_6 (v7 : D → Option D) (v10 : Int) (v13 : Bool) : Nat × En := (3, En.mk 0 (some 3) (Obj.map 41 v7 v10 v13))
def vcMk1_7 (v8 : D → Option D) (v11 : Int) : Nat × En := (4, En.mk 0 (some 4) (Obj.map 41 v8 v11 false))
def vcMk1_8  : Nat × P := (0, vcMk1_0)
def vcMk1_9  : Nat × P := (13, P.ref 5 0 0)
def vcMk1_10  : List (Nat × P) := [(28, P.d (D.int IntKind.i64 (0 : Int)))]
def vcMk1_11  : Nat := 0 + 1
def vcMk1_12 (g : D → Option D) (v0 : D) : Nat × En := (5, En.mk 0 none (Obj.iter 41 62 (fun (k' : D) => bif D.eqB (D.agg [D.int IntKind.i64 (D.iVal (D.cAt v0 0)), D.int IntKind.i64 (D.iVal (D.cAt v0 vcMk1_11)), D.int IntKind.i64 (D.iVal (D.cAt v0 (vcMk1_11 + 1)))]) k' then none else g k') (some (vcMk1_1 v0, D.agg []))))
def vcMk1_13 (v26 : List Pl) : Nat × En := (1, En.mk 0 (some 1) (Obj.map 41 (fun (x : D) => match x with | D.agg [D.int IntKind.i64 a, D.int IntKind.i64 b, D.int IntKind.i64 c] => Option.map plD (atPl v26 (a, b, c)) | _ => none) (↑(List.length v26) : Int) false))
def vcMk1_14 (v27 : D → Option D) (v33 : Int) : Nat × En := (2, En.mk 0 (some 2) (Obj.map 41 v27 v33 true))
def vcMk1_15 (v28 : D → Option D) (v34 : Int) : Nat × En := (4, En.mk 0 (some 4) (Obj.map 41 v28 v34 false))
def vcMk1_16 (v29 : D → Option D) (v30 : Option (D × D)) : Nat × En := (5, En.mk 0 none (Obj.iter 41 62 v29 v30))
def vcMk1_17  : List (Nat × P) := [vcMk1_8, vcMk1_9]
theorem vcMk1 (T : List Pl) (f2 f3 f4 g : D → Option D) (e : Option (D × D)) (c1 c2 c3 c4 : Int) (post : PX × S → Prop) : ((∀ (k x : D), g k = some x → bif isD PR (41 : TypeId) k then bif isD PR (62 : TypeId) x then ∃ (T_1 : List Pl), ∃ (x : Id3), ∃ (f2_1 : D → Option D), ∃ (f3_1 : D → Option D), ∃ (f4_1 : D → Option D), ∃ (c2_1 : Int), ∃ (c3_1 : Int), ∃ (c4_1 : Int), ∃ (z2 : Bool), ∃ (z3 : Bool), [vcMk1_0, P.d (vcMk1_1 k)] = [vcMk1_0, P.d (D.agg [D.int IntKind.i64 (Prod.fst x), D.int IntKind.i64 (Prod.fst (Prod.snd x)), D.int IntKind.i64 (Prod.snd (Prod.snd x))])] ∧ vcMk1_3 T f2 f3 f4 c1 c2 c3 c4 = [vcMk1_2, vcMk1_4 T_1, vcMk1_5 f2_1 c2_1 z2, vcMk1_6 f3_1 c3_1 z3, vcMk1_7 f4_1 c4_1] ∧ List.length T_1 ≤ 1000000 ∧ (∀ (l : List Id3), wy T_1 x = some l → ∃ (T : List Pl), ∃ (f2 : D → Option D), ∃ (f4 : D → Option D), ∃ (g_1 : D → Option D), ∃ (e : Option (D × D)), ∃ (S : List Id3), ∃ (w : List Id3), ∃ (c2 : Int), ∃ (c4 : Int), Pi.S.mk 49 (vcMk1_8 :: vcMk1_9 :: (26, P.sl 6 0 (List.length l)) :: (27, P.d (D.int IntKind.i64 (↑(List.length l) : Int))) :: vcMk1_10) [vcMk1_2, vcMk1_4 T_1, vcMk1_5 f2_1 c2_1 z2, vcMk1_6 f3_1 c3_1 z3, vcMk1_7 f4_1 c4_1, vcMk1_12 g k, (6, En.mk 0 none (Obj.arr (41 : TypeId) false (List.map ixD l)))] = Pi.S.mk 49 (vcMk1_8 :: vcMk1_9 :: (26, P.sl 6 0 (List.length w)) :: (27, P.d (D.int IntKind.i64 (↑(List.length w) : Int))) :: vcMk1_10) [vcMk1_2, vcMk1_13 T, vcMk1_14 f2 c2, (3, En.mk 0 (some 3) (Obj.map 41 (fun (x : D) => match x with | D.agg [D.int IntKind.i64 a, D.int IntKind.i64 b, D.int IntKind.i64 c] => Option.map (fun (_ : Unit) => D.agg []) ((fun (x : Id3) => if x ∈ S then some () else none) (a, b, c)) | _ => none) (↑(List.length S) : Int) false)), vcMk1_15 f4 c4, vcMk1_16 g_1 e, (6, En.mk 0 none (Obj.arr (41 : TypeId) false (List.map ixD w)))] ∧ (List.length w ≤ 1000000 ∧ List.length S ≤ 1000000) ∧ post (PX.normal, Pi.S.mk 49 vcMk1_17 [vcMk1_2, vcMk1_13 T, vcMk1_14 f2 c2, (3, En.mk 0 (some 3) (Obj.map 41 (fun (x : D) => match x with | D.agg [D.int IntKind.i64 a, D.int IntKind.i64 b, D.int IntKind.i64 c] => Option.map (fun (_ : Unit) => D.agg []) ((fun (x : Id3) => if x ∈ mkF S w then some () else none) (a, b, c)) | _ => none) (↑(List.length (mkF S w)) : Int) false)), vcMk1_15 f4 c4, vcMk1_16 g_1 e]) ∧ post (PX.normal, Pi.S.mk 49 vcMk1_17 [vcMk1_2, vcMk1_13 T, vcMk1_14 f2 c2, (3, En.mk 0 (some 3) (Obj.map 41 (fun (x : D) => match x with | D.agg [D.int IntKind.i64 a, D.int IntKind.i64 b, D.int IntKind.i64 c] => Option.map (fun (_ : Unit) => D.agg []) ((fun (x : Id3) => if x ∈ mkF S w then some () else none) (a, b, c)) | _ => none) (↑(List.length (mkF S w)) : Int) false)), vcMk1_15 f4 c4, vcMk1_16 g_1 e])) ∧ (wy T_1 x = none → post (PX.normal, S.mk 49 vcMk1_17 [vcMk1_2, vcMk1_4 T_1, vcMk1_5 f2_1 c2_1 z2, vcMk1_6 f3_1 c3_1 z3, vcMk1_7 f4_1 c4_1, vcMk1_12 g k])) else False else False) ∧ ((∀ (k : D), g k = none) → post (PX.exit 0, S.mk 49 [vcMk1_8] (vcMk1_3 T f2 f3 f4 c1 c2 c3 c4)))) = (roundLN [(49, hWay)] [] [(6, loopHook (kpF 27 6) gMk6)] 27 1 (mk1 T f2 f3 f4 g e c1 c2 c3 c4)) post := by kernel_rfl
def gMk1 : S → K (PX × S) := fun s post => ∃ T V f4 c4, s = mk1 T (inM V) noM f4 (inM V) none (T.length : Int) (V.length : Int) 0 c4 ∧ (T.length ≤ 1000000 ∧ Uq T ∧ V.Nodup) ∧
  post (.exit 0, ⟨49, [(0, .ref 0 0 0)], nodT (plM T) (inM V) (inM (seenI T V)) f4 (T.length : Int) (V.length : Int) ((seenI T V).length : Int) c4 true false⟩)
def vcMark_0  : List (Nat × P) := [(0, P.ref 0 0 0), (13, P.ref 5 0 0)]
def vcMark_1  : Nat × En := (0, En.mk 0 (some 0) (Obj.box (61 : TypeId) [P.mp 1 0, P.mp 2 0, P.mp 3 0, P.mp 4 0]))
def vcMark_2 (v0 : List Pl) : Nat × En := (1, En.mk 0 (some 1) (Obj.map 41 (fun (x : D) => match x with | D.agg [D.int IntKind.i64 a, D.int IntKind.i64 b, D.int IntKind.i64 c] => Option.map plD (atPl v0 (a, b, c)) | _ => none) (↑(List.length v0) : Int) false))
def vcMark_3 (v1 : List Id3) : Nat × En := (2, En.mk 0 (some 2) (Obj.map 41 (fun (x : D) => match x with | D.agg [D.int IntKind.i64 a, D.int IntKind.i64 b, D.int IntKind.i64 c] => Option.map (fun (_ : Unit) => D.agg []) ((fun (x : Id3) => if x ∈ v1 then some () else none) (a, b, c)) | _ => none) (↑(List.length v1) : Int) true))
def vcMark_4 (v3 : D → Option D) (v4 : Int) : Nat × En := (4, En.mk 0 (some 4) (Obj.map 41 v3 v4 false))
theorem vcMark (T : List Pl) (f2 f3 f4 : D → Option D) (c1 c2 c3 c4 : Int) (z2 : Bool) (post : P × List (Nat × En) → Prop) : (∃ (T_1 : List Pl), ∃ (V : List Id3), ∃ (f4_1 : D → Option D), ∃ (c4_1 : Int), S.mk 49 vcMark_0 [vcMark_1, (1, En.mk 0 (some 1) (Obj.map 41 (fun (x : D) => match x with | D.agg [D.int IntKind.i64 a, D.int IntKind.i64 b, D.int IntKind.i64 c] => Option.map plD (atPl T (a, b, c)) | _ => none) c1 false)), (2, En.mk 0 (some 2) (Obj.map 41 f2 c2 true)), (3, En.mk 0 (some 3) (Obj.map 41 f3 c3 false)), (4, En.mk 0 (some 4) (Obj.map 41 f4 c4 false)), (5, En.mk 0 none (Obj.iter 41 62 f2 none))] = S.mk 49 vcMark_0 [vcMark_1, vcMark_2 T_1, vcMark_3 V, (3, En.mk 0 (some 3) (Obj.map 41 (fun (_ : D) => none) (0 : Int) false)), vcMark_4 f4_1 c4_1, (5, En.mk 0 none (Obj.iter 41 62 (fun (x : D) => match x with | D.agg [D.int IntKind.i64 a, D.int IntKind.i64 b, D.int IntKind.i64 c] => Option.map (fun (_ : Unit) => D.agg []) ((fun (x : Id3) => if x ∈ V then some () else none) (a, b, c)) | _ => none) none))] ∧ (List.length T_1 ≤ 1000000 ∧ Uq T_1 ∧ List.Nodup V) ∧ post (P.tup [], [vcMark_1, vcMark_2 T_1, vcMark_3 V, (3, En.mk 0 (some 3) (Obj.map 41 (fun (x : D) => match x with | D.agg [D.int IntKind.i64 a, D.int IntKind.i64 b, D.int IntKind.i64 c] => Option.map (fun (_ : Unit) => D.agg []) ((fun (x : Id3) => if x ∈ seenI T_1 V then some () else none) (a, b, c)) | _ => none) (↑(List.length (seenI T_1 V)) : Int) false)), vcMark_4 f4_1 c4_1])) = (bodyFN [] [] [(1, loopHook (kpF 27 1) gMk1)] 27 [.ref 0 0 0] (nodT (plM T) f2 f3 f4 c1 c2 c3 c4 z2 false)) post := by kernel_rfl
def hMark : KF1 := fun ps R post => ∃ T V f4 c4 z2, ps = [.ref 0 0 0] ∧ R = nodT (plM T) (inM V) noM f4 (T.length : Int) (V.length : Int) 0 c4 z2 false ∧ (T.length ≤ 1000000 ∧ Uq T ∧ V.Nodup) ∧
  post (.tup [], nodT (plM T) (inM V) (inM (seenI T V)) f4 (T.length : Int) (V.length : Int) ((seenI T V).length : Int) c4 true false)
/-! rising -/
/-- How two ids, as data, stand to one another. -/
def cfX : D → D → Int
  | .agg [.int .i64 a, .int .i64 b, .int .i64 c], .agg [.int .i64 a', .int .i64 b', .int .i64 c'] => cmpId a b c a' b' c'
  | _, _ => 0
abbrev rs3 (T : List Pl) (f2 f3 f4 g : D → Option D) (e : Option (D × D)) (out : List Id3) (n : Nat) (c1 c2 c3 c4 : Int) (z2 : Bool) : S :=
  ⟨27, [(0, .ref 0 0 0), (3, .sl 5 0 n), (15, .ref 6 0 0)], nodT (plM T) f2 f3 f4 c1 c2 c3 c4 z2 true ++ [(5, ⟨0, none, .arr 41 false (out.map ixD)⟩)] ++ itE 6 g e⟩
def gRs3 : S → K (PX × S) := fun s post => ∃ T V f2 f4 c1 c2 c4 z2, s = rs3 T f2 (inM V) f4 (inM V) none [] 0 c1 c2 (V.length : Int) c4 z2 ∧ (V.length ≤ 1000000 ∧ V.Nodup) ∧
  ∀ out : List Id3, out.Perm V → post (.exit 0, ⟨27, [(0, .ref 0 0 0), (3, .sl 5 0 out.length)], nodT (plM T) f2 (inM V) f4 c1 c2 (V.length : Int) c4 z2 true ++ [(5, ⟨0, none, .arr 41 false (out.map ixD)⟩)]⟩)
def vcRs3_0 (v0 : D) : D := D.agg [D.int IntKind.i64 (D.iVal (D.cAt v0 0)), D.int IntKind.i64 (D.iVal (D.cAt v0 1)), D.int IntKind.i64 (D.iVal (D.cAt v0 2))]
def vcRs3_1 (n : Nat) (v0 : D) : Nat := n + List.length [vcRs3_0 v0]
def vcRs3_2  : Nat × P := (0, P.ref 0 0 0)
def vcRs3_3  : Nat × En := (0, En.mk 0 (some 0) (Obj.box (61 : TypeId) [P.mp 1 0, P.mp 2 0, P.mp 3 0, P.mp 4 0]))
def vcRs3_4 (T : List Pl) (c1 : Int) : Nat × En := (1, En.mk 0 (some 1) (Obj.map 41 (fun (x : D) => match x with | D.agg [D.int IntKind.i64 a, D.int IntKind.i64 b, D.int IntKind.i64 c] => Option.map plD (atPl T (a, b, c)) | _ => none) c1 false))
def vcRs3_5 (f2 : D → Option D) (c2 : Int) (z2 : Bool) : Nat × En := (2, En.mk 0 (some 2) (Obj.map 41 f2 c2 z2))
def vcRs3_6 (f3 : D → Option D) (c3 : Int) : Nat × En := (3, En.mk 0 (some 3) (Obj.map 41 f3 c3 true))
def vcRs3_7 (f4 : D → Option D) (c4 : Int) : Nat × En := (4, En.mk 0 (some 4) (Obj.map 41 f4 c4 false))
def vcRs3_8  : Nat := 0 + 1
theorem vcRs3 (T : List Pl) (f2 f3 f4 g : D → Option D) (e : Option (D × D)) (out : List Id3) (n : Nat) (c1 c2 c3 c4 : Int) (z2 : Bool) (post : PX × S → Prop) : ((∀ (k x : D), g k = some x → bif isD PR (41 : TypeId) k then bif isD PR (62 : TypeId) x then bif Nat.ble n (List.length (List.map ixD out)) && roomOk (vcRs3_1 n k) 24 then post (PX.normal, S.mk 27 [vcRs3_2, (3, P.sl 5 0 (vcRs3_1 n k)), (15, P.ref 6 0 0)] [vcRs3_3, vcRs3_4 T c1, vcRs3_5 f2 c2 z2, vcRs3_6 f3 c3, vcRs3_7 f4 c4, (5, En.mk 0 none (Obj.arr (41 : TypeId) false (List.take n (List.map ixD out) ++ [vcRs3_0 k]))), (6, En.mk 0 none (Obj.iter 41 62 (fun (k' : D) => bif D.eqB (D.agg [D.int IntKind.i64 (D.iVal (D.cAt k 0)), D.int IntKind.i64 (D.iVal (D.cAt k vcRs3_8)), D.int IntKind.i64 (D.iVal (D.cAt k (vcRs3_8 + 1)))]) k' then none else g k') (some (vcRs3_0 k, D.agg []))))]) else False else False else False) ∧ ((∀ (k : D), g k = none) → post (PX.exit 0, S.mk 27 [vcRs3_2, (3, P.sl 5 0 n)] [vcRs3_3, vcRs3_4 T c1, vcRs3_5 f2 c2 z2, vcRs3_6 f3 c3, vcRs3_7 f4 c4, (5, En.mk 0 none (Obj.arr (41 : TypeId) false (List.map ixD out)))]))) = (roundLN [] [] [] 50 3 (rs3 T f2 f3 f4 g e out n c1 c2 c3 c4 z2)) post := by kernel_rfl
def vcRs_0 (c3 : Int) : Int := (24 : Int) * c3
def vcRs_1  : List (Nat × P) := [(0, P.ref 0 0 0), (3, P.sl 5 0 0), (15, P.ref 6 0 0)]
def vcRs_2  : Nat × En := (0, En.mk 0 (some 0) (Obj.box (61 : TypeId) [P.mp 1 0, P.mp 2 0, P.mp 3 0, P.mp 4 0]))
def vcRs_3  : Nat × En := (5, En.mk 0 none (Obj.arr (41 : TypeId) false []))
def vcRs_4 (v0 : List Pl) (v5 : Int) : Nat × En := (1, En.mk 0 (some 1) (Obj.map 41 (fun (x : D) => match x with | D.agg [D.int IntKind.i64 a, D.int IntKind.i64 b, D.int IntKind.i64 c] => Option.map plD (atPl v0 (a, b, c)) | _ => none) v5 false))
def vcRs_5 (v3 : D → Option D) (v6 : Int) (v8 : Bool) : Nat × En := (2, En.mk 0 (some 2) (Obj.map 41 v3 v6 v8))
def vcRs_6 (v1 : List Id3) : Nat × En := (3, En.mk 0 (some 3) (Obj.map 41 (fun (x : D) => match x with | D.agg [D.int IntKind.i64 a, D.int IntKind.i64 b, D.int IntKind.i64 c] => Option.map (fun (_ : Unit) => D.agg []) ((fun (x : Id3) => if x ∈ v1 then some () else none) (a, b, c)) | _ => none) (↑(List.length v1) : Int) true))
def vcRs_7 (v4 : D → Option D) (v7 : Int) : Nat × En := (4, En.mk 0 (some 4) (Obj.map 41 v4 v7 false))
def vcRs_8  : List P := [P.fn (68 : FuncId) []]
theorem vcRs (T : List Pl) (f2 f3 f4 : D → Option D) (c1 c2 c3 c4 : Int) (z2 z3 : Bool) (post : P × List (Nat × En) → Prop) : (bif decide ((0 : Int) ≤ (0 : Int) ∧ (0 : Int) ≤ c3 ∧ c3 ≤ (9223372036854775807 : Int) ∧ vcRs_0 c3 ≤ (281474976710656 : Int)) then ∃ (T_1 : List Pl), ∃ (V : List Id3), ∃ (f2_1 : D → Option D), ∃ (f4_1 : D → Option D), ∃ (c1_1 : Int), ∃ (c2_1 : Int), ∃ (c4_1 : Int), ∃ (z2_1 : Bool), S.mk 27 vcRs_1 [vcRs_2, (1, En.mk 0 (some 1) (Obj.map 41 (fun (x : D) => match x with | D.agg [D.int IntKind.i64 a, D.int IntKind.i64 b, D.int IntKind.i64 c] => Option.map plD (atPl T (a, b, c)) | _ => none) c1 false)), (2, En.mk 0 (some 2) (Obj.map 41 f2 c2 z2)), (3, En.mk 0 (some 3) (Obj.map 41 f3 c3 true)), (4, En.mk 0 (some 4) (Obj.map 41 f4 c4 false)), vcRs_3, (6, En.mk 0 none (Obj.iter 41 62 f3 none))] = S.mk 27 vcRs_1 [vcRs_2, vcRs_4 T_1 c1_1, vcRs_5 f2_1 c2_1 z2_1, vcRs_6 V, vcRs_7 f4_1 c4_1, vcRs_3, (6, En.mk 0 none (Obj.iter 41 62 (fun (x : D) => match x with | D.agg [D.int IntKind.i64 a, D.int IntKind.i64 b, D.int IntKind.i64 c] => Option.map (fun (_ : Unit) => D.agg []) ((fun (x : Id3) => if x ∈ V then some () else none) (a, b, c)) | _ => none) none))] ∧ (List.length V ≤ 1000000 ∧ List.Nodup V) ∧ ∀ (out : List Id3), List.Perm out V → ∃ (es : List D), P.sl 0 0 (List.length out) :: vcRs_8 = P.sl 0 0 (List.length es) :: vcRs_8 ∧ [(0, En.mk 0 (some 0) (Obj.arr (41 : TypeId) false (List.map ixD out)))] = [(0, En.mk 0 (some 0) (Obj.arr (41 : TypeId) false es))] ∧ CmpOn PR kp0 (68 : FuncId) es cfX ∧ ∀ (es' : List D), List.Perm es' es → List.Pairwise (fun (a b : D) => ¬cfX b a < (0 : Int)) es' → post (P.sl 5 0 (List.length out), [vcRs_2, vcRs_4 T_1 c1_1, vcRs_5 f2_1 c2_1 z2_1, vcRs_6 V, vcRs_7 f4_1 c4_1, (5, En.mk 0 none (Obj.arr (41 : TypeId) false es'))]) else False) = (bodyFN [(67, hSortA 68 cfX 41)] [] [(3, loopHook (kpF 50 3) gRs3)] 50 [.ref 0 0 0] (nodT (plM T) f2 f3 f4 c1 c2 c3 c4 z2 z3)) post := by kernel_rfl
def hRising : KF1 := fun ps R post => ∃ T V f2 f4 c1 c2 c4 z2 z3, ps = [.ref 0 0 0] ∧ R = nodT (plM T) f2 (inM V) f4 c1 c2 (V.length : Int) c4 z2 z3 ∧ (V.length ≤ 1000000 ∧ V.Nodup) ∧
  post (.sl 5 0 V.length, nodT (plM T) f2 (inM V) f4 c1 c2 (V.length : Int) c4 z2 true ++ [(5, ⟨0, none, .arr 41 false ((sortI ltX V).map ixD)⟩)])
end Pi

