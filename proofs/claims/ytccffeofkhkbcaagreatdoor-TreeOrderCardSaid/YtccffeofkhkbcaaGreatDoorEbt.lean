/- The texts X3Shelf XBld K3 X3 S3 StPure St1 St1H T1 T1H StV2 StV2H StV3H St5 St5H StTextP St7 St7H PathP StL2H P1 P1H P2H P3 P3H T2 T2H T3 T3H TrA TrB TrC SN T4 T4H T5 T5H TrD T5N. -/
import Derived.Test.YtccffeofkhkbcaaGreatDoorPiT
import Derived.Shelf.SlLaysF0
import Derived.Shelf.LaysM
import Derived.Shelf.LaysC
import Derived.Shelf.Strings.OnBuilder
import Derived.Shelf.Strings.SlTrimAscii
import Derived.Shelf.Small.Wraps
import Derived.Shelf.Strconv.AtoiAll
import Derived.Shelf.Strconv.Itoa3
import Derived.Shelf.Strings.Cut
import Derived.Shelf.Strings.Split
import Derived.Shelf.Strings.LastIndexAll
import Derived.Shelf.Unicode.ValidAny
import Derived.Shelf.Utf8.RuneCount
import Derived.Test.YtccffeofkhkbcaaGreatDoorProg
import Derived.Ground.SlsfProg
import Derived.KernelRfl
import Derived.Lib.SplitLaws
import Derived.Lib.SlTrimSet
/- The library's contracts that are used: the print of the kit's lay-shelf and lay-plain, cut down. -/
namespace Go.Proofs
open Go.Shelf
def Tryz.lays169_ren : Go.Shelf.Ren := ⟨fun | 169 => 98 | n => n, fun | 70 => 134 | 9 => 9 | 0 => 0 | 72 => 136 | 37 => 33 | 127 => 162 | 3 => 3 | 5 => 5 | n => n, fun | n => n⟩
theorem Tryz.lays169 : Go.Proofs.Lays.n169 Tryz.prog Tryz.lays169_ren := {
  mixed := by kernel_rfl
  f169 := Tryz.func98.trans (congrArg some (by kernel_rfl))
  t0 := Tryz.underlying0
  a0 := Tryz.isAgg0
  z0 := Tryz.sizeOf0
  v0 := Tryz.zeroValue0
  t3 := Tryz.underlying3
  a3 := Tryz.isAgg3
  z3 := Tryz.sizeOf3
  v3 := Tryz.zeroValue3
  t9 := Tryz.underlying9
  a9 := Tryz.isAgg9
  z9 := Tryz.sizeOf9
  v9 := Tryz.zeroValue9
  t37 := Tryz.underlying33
  a37 := Tryz.isAgg33
  z37 := Tryz.sizeOf33
  v37 := Tryz.zeroValue33
  t70 := Tryz.underlying134
  a70 := Tryz.isAgg134
  z70 := Tryz.sizeOf134
  v70 := Tryz.zeroValue134
  t72 := Tryz.underlying136
  a72 := Tryz.isAgg136
  z72 := Tryz.sizeOf136
  v72 := Tryz.zeroValue136
  t127 := Tryz.underlying162
  a127 := Tryz.isAgg162
  z127 := Tryz.sizeOf162
  v127 := Tryz.zeroValue162 }
theorem Tryz.Builder_Extra_169 : Builder.Extra Tryz.prog Tryz.lays169_ren := {
  sizeBuilder := by kernel_rfl
  liesBuilder := by kernel_rfl
  t5 := Tryz.underlying5
  a5 := Tryz.isAgg5
  z5 := Tryz.sizeOf5
  v5 := Tryz.zeroValue5
  infoByte := by kernel_rfl
  cellsByte := by kernel_rfl
  sizeByte := by kernel_rfl
  neB5 := by decide }
open Go.RowKit in
/-- (*strings.Builder).String: "String returns the accumulated string.": OF A BUILDER THAT HOLDS AT LEAST ONE BYTE. ✋ THE MODEL FREEZES THOSE BYTES IN THE BUFFER (unsafe.String): a later write INTO them ends the model's run without an answer; a later append BEHIND them goes on. The statement's order of evaluation is drawn: one draw. (LAID: no walk: one application.) -/
theorem Tryz.Builder_String (B b : Nat) (l : List UInt8) (w : World) (h : Lib.IsBuilder 136 5 B b (Lib.byteCells l) w) (h0 : l ≠ []) :
    Calls Tryz.prog 98 #[.pointer (some ⟨b, 0, none⟩)] w fun e w' => e = .returned (.string ⟨l.toArray⟩) ∧ Below B w w' := Any.Builder_String Tryz.lays169 Tryz.Builder_Extra_169 B b l w h h0
def Tryz.lays156_ren : Go.Shelf.Ren := ⟨fun | 156 => 70 | 165 => 96 | 166 => 97 | 169 => 98 | 240 => 123 | 241 => 124 | 276 => 135 | 277 => 136 | n => n, fun | 31 => 87 | 9 => 9 | 3 => 3 | 4 => 4 | 0 => 0 | 20 => 20 | 72 => 136 | 76 => 140 | 70 => 134 | 37 => 33 | 75 => 139 | 127 => 162 | 164 => 172 | 5 => 5 | 80 => 142 | n => n, fun | n => n⟩
theorem Tryz.lays156 : Go.Proofs.Lays.n156 Tryz.prog Tryz.lays156_ren := {
  mixed := by kernel_rfl
  f156 := Tryz.func70.trans (congrArg some (by kernel_rfl))
  f165 := Tryz.func96.trans (congrArg some (by kernel_rfl))
  f166 := Tryz.func97.trans (congrArg some (by kernel_rfl))
  f169 := Tryz.func98.trans (congrArg some (by kernel_rfl))
  f240 := Tryz.func123.trans (congrArg some (by kernel_rfl))
  f241 := Tryz.func124.trans (congrArg some (by kernel_rfl))
  f276 := Tryz.func135.trans (congrArg some (by kernel_rfl))
  f277 := Tryz.func136.trans (congrArg some (by kernel_rfl))
  t0 := Tryz.underlying0
  a0 := Tryz.isAgg0
  z0 := Tryz.sizeOf0
  v0 := Tryz.zeroValue0
  t3 := Tryz.underlying3
  a3 := Tryz.isAgg3
  z3 := Tryz.sizeOf3
  v3 := Tryz.zeroValue3
  t4 := Tryz.underlying4
  a4 := Tryz.isAgg4
  z4 := Tryz.sizeOf4
  v4 := Tryz.zeroValue4
  t9 := Tryz.underlying9
  a9 := Tryz.isAgg9
  z9 := Tryz.sizeOf9
  v9 := Tryz.zeroValue9
  t20 := Tryz.underlying20
  a20 := Tryz.isAgg20
  z20 := Tryz.sizeOf20
  v20 := Tryz.zeroValue20
  t31 := Tryz.underlying87
  a31 := Tryz.isAgg87
  z31 := Tryz.sizeOf87
  v31 := Tryz.zeroValue87
  t37 := Tryz.underlying33
  a37 := Tryz.isAgg33
  z37 := Tryz.sizeOf33
  v37 := Tryz.zeroValue33
  t70 := Tryz.underlying134
  a70 := Tryz.isAgg134
  z70 := Tryz.sizeOf134
  v70 := Tryz.zeroValue134
  t72 := Tryz.underlying136
  a72 := Tryz.isAgg136
  z72 := Tryz.sizeOf136
  v72 := Tryz.zeroValue136
  t75 := Tryz.underlying139
  a75 := Tryz.isAgg139
  z75 := Tryz.sizeOf139
  v75 := Tryz.zeroValue139
  t76 := Tryz.underlying140
  a76 := Tryz.isAgg140
  z76 := Tryz.sizeOf140
  v76 := Tryz.zeroValue140
  t127 := Tryz.underlying162
  a127 := Tryz.isAgg162
  z127 := Tryz.sizeOf162
  v127 := Tryz.zeroValue162
  t164 := Tryz.underlying172
  a164 := Tryz.isAgg172
  z164 := Tryz.sizeOf172
  v164 := Tryz.zeroValue172 }
theorem Tryz.Builder_Extra_156 : Builder.Extra Tryz.prog Tryz.lays156_ren := {
  sizeBuilder := by kernel_rfl
  liesBuilder := by kernel_rfl
  t5 := Tryz.underlying5
  a5 := Tryz.isAgg5
  z5 := Tryz.sizeOf5
  v5 := Tryz.zeroValue5
  infoByte := by kernel_rfl
  cellsByte := by kernel_rfl
  sizeByte := by kernel_rfl
  neB5 := by decide }
open Go.RowKit in
/-- No element: the empty string; the world is as it was. (Whatever the slice's address and capacity: a nil slice too.) (LAID: no walk: one application.) -/
theorem Tryz.strings_Join_none (a : Option Addr) (c : Nat) (sep : ByteArray) (w : World) :
    Calls Tryz.prog 70 #[.slice a 0 c, .string sep] w fun e w' => e = .returned (.string ⟨#[]⟩) ∧ w' = w := Any.strings_Join_none Tryz.lays156 Tryz.Builder_Extra_156 a c sep w
open Go.RowKit in
/-- strings.Join: "Join concatenates the elements of its first argument to create a single string. The separator string sep is placed between elements in the resulting string.": HOWEVER MANY ELEMENTS. Below the heap's end the world is as it was. (LAID: no walk: one application.) -/
theorem Tryz.strings_Join (bk o c : Nat) (xs : List ByteArray) (sep : ByteArray) (w : World) (hcells : ∀ (j : Nat) x, xs[j]? = some x → w.cell? ⟨bk, o + j, none⟩ = some (.string x)) (hbk : bk < w.heap.size) (hN : xs.length ≤ 140737488355328) (hcap : xs.length ≤ c) (hlen : (Lib.join (xs.map (·.data.toList)) sep.data.toList).length ≤ 140737488355328) :
    Calls Tryz.prog 70 #[.slice (some ⟨bk, o, none⟩) xs.length c, .string sep] w fun e w' => e = .returned (.string ⟨(Lib.join (xs.map (·.data.toList)) sep.data.toList).toArray⟩) ∧ Below w.heap.size w w' := Any.strings_Join Tryz.lays156 Tryz.Builder_Extra_156 bk o c xs sep w hcells hbk hN hcap hlen
def Tryz.lays160_ren : Go.Shelf.Ren := ⟨fun | 160 => 66 | 232 => 85 | 231 => 84 | 227 => 86 | 234 => 88 | 233 => 87 | 236 => 90 | 235 => 89 | 228 => 109 | 271 => 112 | 151 => 111 | 197 => 110 | 120 => 130 | 152 => 129 | 260 => 128 | 137 => 137 | 119 => 138 | 224 => 106 | 225 => 105 | 217 => 104 | 266 => 126 | n => n, fun | 9 => 9 | 4 => 4 | 3 => 3 | 5 => 5 | 117 => 127 | 116 => 126 | 0 => 0 | 124 => 130 | 21 => 21 | 105 => 153 | 46 => 91 | 119 => 175 | 139 => 178 | 138 => 177 | n => n, fun | 3 => 1 | 4 => 2 | n => n⟩
theorem Tryz.lays160 : Go.Proofs.Lays.n160 Tryz.prog Tryz.lays160_ren := {
  mixed := by kernel_rfl
  f119 := Tryz.func138.trans (congrArg some (by kernel_rfl))
  f120 := Tryz.func130.trans (congrArg some (by kernel_rfl))
  f137 := Tryz.func137.trans (congrArg some (by kernel_rfl))
  f151 := Tryz.func111.trans (congrArg some (by kernel_rfl))
  f152 := Tryz.func129.trans (congrArg some (by kernel_rfl))
  f160 := Tryz.func66.trans (congrArg some (by kernel_rfl))
  f197 := Tryz.func110.trans (congrArg some (by kernel_rfl))
  f217 := Tryz.func104.trans (congrArg some (by kernel_rfl))
  f224 := Tryz.func106.trans (congrArg some (by kernel_rfl))
  f225 := Tryz.func105.trans (congrArg some (by kernel_rfl))
  f227 := Tryz.func86.trans (congrArg some (by kernel_rfl))
  f228 := Tryz.func109.trans (congrArg some (by kernel_rfl))
  f231 := Tryz.func84.trans (congrArg some (by kernel_rfl))
  f232 := Tryz.func85.trans (congrArg some (by kernel_rfl))
  f233 := Tryz.func87.trans (congrArg some (by kernel_rfl))
  f234 := Tryz.func88.trans (congrArg some (by kernel_rfl))
  f235 := Tryz.func89.trans (congrArg some (by kernel_rfl))
  f236 := Tryz.func90.trans (congrArg some (by kernel_rfl))
  f260 := Tryz.func128.trans (congrArg some (by kernel_rfl))
  f266 := Tryz.func126.trans (congrArg some (by kernel_rfl))
  f271 := Tryz.func112.trans (congrArg some (by kernel_rfl))
  t0 := Tryz.underlying0
  a0 := Tryz.isAgg0
  z0 := Tryz.sizeOf0
  v0 := Tryz.zeroValue0
  t3 := Tryz.underlying3
  a3 := Tryz.isAgg3
  z3 := Tryz.sizeOf3
  v3 := Tryz.zeroValue3
  t4 := Tryz.underlying4
  a4 := Tryz.isAgg4
  z4 := Tryz.sizeOf4
  v4 := Tryz.zeroValue4
  t5 := Tryz.underlying5
  a5 := Tryz.isAgg5
  z5 := Tryz.sizeOf5
  v5 := Tryz.zeroValue5
  t9 := Tryz.underlying9
  a9 := Tryz.isAgg9
  z9 := Tryz.sizeOf9
  v9 := Tryz.zeroValue9
  t21 := Tryz.underlying21
  a21 := Tryz.isAgg21
  z21 := Tryz.sizeOf21
  v21 := Tryz.zeroValue21
  t46 := Tryz.underlying91
  a46 := Tryz.isAgg91
  z46 := Tryz.sizeOf91
  v46 := Tryz.zeroValue91
  t105 := Tryz.underlying153
  a105 := Tryz.isAgg153
  z105 := Tryz.sizeOf153
  v105 := Tryz.zeroValue153
  t116 := Tryz.underlying126
  a116 := Tryz.isAgg126
  z116 := Tryz.sizeOf126
  t117 := Tryz.underlying127
  a117 := Tryz.isAgg127
  z117 := Tryz.sizeOf127
  v117 := Tryz.zeroValue127
  t119 := Tryz.underlying175
  a119 := Tryz.isAgg175
  z119 := Tryz.sizeOf175
  t124 := Tryz.underlying130
  a124 := Tryz.isAgg130
  z124 := Tryz.sizeOf130
  v124 := Tryz.zeroValue130
  t138 := Tryz.underlying177
  a138 := Tryz.isAgg177
  z138 := Tryz.sizeOf177
  v138 := Tryz.zeroValue177
  t139 := Tryz.underlying178
  a139 := Tryz.isAgg178
  z139 := Tryz.sizeOf178
  v139 := Tryz.zeroValue178
  g3 := by kernel_rfl
  g4 := by kernel_rfl }
open Go.RowKit in
/-- strings.Trim: "Trim returns a slice of the string s with all leading and trailing Unicode code points contained in cutset removed.": AT A cutset OF ONE ASCII BYTE. THE WORLD BEHIND IT: as it was, or (where s is not empty) with ONE DRAW MORE off the tape: the statement 'return trimLeftByte(trimRightByte(s, c), c)' draws its order of evaluation. (LAID: no walk: one application.) -/
theorem Tryz.strings_Trim_one (s : ByteArray) (c : UInt8) (hc : c.toNat < 128) (w : World) (hs : s.size ≤ 9223372036854775807) :
    Calls Tryz.prog 66 #[.string s, .string ⟨#[c]⟩] w fun e w' => e = .returned (.string ⟨(Lib.trimB s.data.toList c).toArray⟩) ∧ (w' = w ∨ w' = w.drew) := Any.strings_Trim_one Tryz.lays160 s c hc w hs
def Tryz.laysM171_ren : Go.Shelf.Ren := ⟨fun | 171 => 95 | 243 => 122 | 246 => 134 | 283 => 140 | 284 => 141 | 285 => 142 | 286 => 143 | 129 => 80 | 317 => 144 | 318 => 145 | 319 => 146 | 320 => 147 | 337 => 148 | 338 => 149 | n => n, fun | 3 => 3 | 9 => 9 | 2 => 2 | 4 => 4 | 171 => 181 | 0 => 0 | 53 => 119 | 37 => 33 | 5 => 5 | 173 => 183 | 212 => 186 | 51 => 117 | 20 => 20 | 213 => 187 | 46 => 91 | 232 => 188 | 233 => 189 | n => n, fun | 17 => 3 | 18 => 4 | 19 => 5 | n => n⟩
theorem Tryz.laysM171 : Go.Proofs.LaysM.n171 Tryz.prog Tryz.laysM171_ren := {
  mixed := by kernel_rfl
  f129 := Tryz.func80.trans (congrArg some (by kernel_rfl))
  f171 := Tryz.func95.trans (congrArg some (by kernel_rfl))
  f243 := Tryz.func122.trans (congrArg some (by kernel_rfl))
  f246 := Tryz.func134.trans (congrArg some (by kernel_rfl))
  f283 := Tryz.func140.trans (congrArg some (by kernel_rfl))
  f284 := Tryz.func141.trans (congrArg some (by kernel_rfl))
  f285 := Tryz.func142.trans (congrArg some (by kernel_rfl))
  f286 := Tryz.func143.trans (congrArg some (by kernel_rfl))
  f317 := Tryz.func144.trans (congrArg some (by kernel_rfl))
  f318 := Tryz.func145.trans (congrArg some (by kernel_rfl))
  f319 := Tryz.func146.trans (congrArg some (by kernel_rfl))
  f320 := Tryz.func147.trans (congrArg some (by kernel_rfl))
  f337 := Tryz.func148.trans (congrArg some (by kernel_rfl))
  f338 := Tryz.func149.trans (congrArg some (by kernel_rfl))
  t0 := Tryz.underlying0
  a0 := Tryz.isAgg0
  z0 := Tryz.sizeOf0
  v0 := Tryz.zeroValue0
  t2 := Tryz.underlying2
  a2 := Tryz.isAgg2
  z2 := Tryz.sizeOf2
  v2 := Tryz.zeroValue2
  t3 := Tryz.underlying3
  a3 := Tryz.isAgg3
  z3 := Tryz.sizeOf3
  v3 := Tryz.zeroValue3
  t4 := Tryz.underlying4
  a4 := Tryz.isAgg4
  z4 := Tryz.sizeOf4
  v4 := Tryz.zeroValue4
  t5 := Tryz.underlying5
  a5 := Tryz.isAgg5
  z5 := Tryz.sizeOf5
  v5 := Tryz.zeroValue5
  t9 := Tryz.underlying9
  a9 := Tryz.isAgg9
  z9 := Tryz.sizeOf9
  v9 := Tryz.zeroValue9
  t20 := Tryz.underlying20
  a20 := Tryz.isAgg20
  z20 := Tryz.sizeOf20
  v20 := Tryz.zeroValue20
  t37 := Tryz.underlying33
  a37 := Tryz.isAgg33
  z37 := Tryz.sizeOf33
  v37 := Tryz.zeroValue33
  t46 := Tryz.underlying91
  a46 := Tryz.isAgg91
  z46 := Tryz.sizeOf91
  v46 := Tryz.zeroValue91
  t51 := Tryz.underlying117
  a51 := Tryz.isAgg117
  z51 := Tryz.sizeOf117
  v51 := Tryz.zeroValue117
  t53 := Tryz.underlying119
  a53 := Tryz.isAgg119
  z53 := Tryz.sizeOf119
  v53 := Tryz.zeroValue119
  t171 := Tryz.underlying181
  a171 := Tryz.isAgg181
  z171 := Tryz.sizeOf181
  v171 := Tryz.zeroValue181
  t173 := Tryz.underlying183
  a173 := Tryz.isAgg183
  z173 := Tryz.sizeOf183
  v173 := Tryz.zeroValue183
  t212 := Tryz.underlying186
  a212 := Tryz.isAgg186
  z212 := Tryz.sizeOf186
  v212 := Tryz.zeroValue186
  t213 := Tryz.underlying187
  a213 := Tryz.isAgg187
  z213 := Tryz.sizeOf187
  t232 := Tryz.underlying188
  a232 := Tryz.isAgg188
  z232 := Tryz.sizeOf188
  v232 := Tryz.zeroValue188
  t233 := Tryz.underlying189
  a233 := Tryz.isAgg189
  z233 := Tryz.sizeOf189
  v233 := Tryz.zeroValue189
  g17 := by kernel_rfl
  g18 := by kernel_rfl
  g19 := by kernel_rfl
  i0 := by kernel_rfl
  i2 := by kernel_rfl
  i3 := by kernel_rfl
  i4 := by kernel_rfl
  i5 := by kernel_rfl
  i9 := by kernel_rfl
  i20 := by kernel_rfl
  i37 := by kernel_rfl
  i46 := by kernel_rfl
  i51 := by kernel_rfl
  i53 := by kernel_rfl
  i171 := by kernel_rfl
  i173 := by kernel_rfl
  i212 := by kernel_rfl
  i232 := by kernel_rfl
  i233 := by kernel_rfl
  m17 := by kernel_rfl
  m18 := by kernel_rfl
  m19 := by kernel_rfl }
open Go.RowKit Go.Sort Go.Lib in
/-- strconv.Itoa: "Itoa is equivalent to FormatInt(int64(i), 10).": i's DECIMAL NUMERAL ('Lib.itoa': a '-' where i is negative, then the digits), FOR EVERY int. The world behind the call: the world before it, new blocks behind the heap (the library's 'var a [24]byte'), draws. (LAID: no walk: one application.) -/
theorem Tryz.strconv_Itoa (n : Int) (h0 : -9223372036854775808 ≤ n) (h1 : n ≤ 9223372036854775807) (w : World) (htab : Lib.TabIs Tryz.prog w "internal/strconv.uint64pow10" .u64 Lib.pow10Tab) :
    Calls Tryz.prog 95 #[.int .i64 n] w fun e w' => e = .returned (.string ⟨(Lib.itoa n).toArray⟩) ∧ ∃ k os, w' = grow (w.drewN k) os := Any.strconv_Itoa Tryz.laysM171 n h0 h1 w htab
def Tryz.lays144_ren : Go.Shelf.Ren := ⟨fun | 144 => 39 | 143 => 59 | 219 => 81 | 217 => 104 | 225 => 105 | 224 => 106 | 267 => 107 | 266 => 126 | 314 => 127 | n => n, fun | 9 => 9 | 4 => 4 | 3 => 3 | 5 => 5 | 46 => 91 | 146 => 166 | 51 => 117 | n => n, fun | 1 => 0 | n => n⟩
theorem Tryz.lays144 : Go.Proofs.Lays.n144 Tryz.prog Tryz.lays144_ren := {
  mixed := by kernel_rfl
  f143 := Tryz.func59.trans (congrArg some (by kernel_rfl))
  f144 := Tryz.func39.trans (congrArg some (by kernel_rfl))
  f217 := Tryz.func104.trans (congrArg some (by kernel_rfl))
  f219 := Tryz.func81.trans (congrArg some (by kernel_rfl))
  f224 := Tryz.func106.trans (congrArg some (by kernel_rfl))
  f225 := Tryz.func105.trans (congrArg some (by kernel_rfl))
  f266 := Tryz.func126.trans (congrArg some (by kernel_rfl))
  f267 := Tryz.func107.trans (congrArg some (by kernel_rfl))
  f314 := Tryz.func127.trans (congrArg some (by kernel_rfl))
  t3 := Tryz.underlying3
  a3 := Tryz.isAgg3
  z3 := Tryz.sizeOf3
  v3 := Tryz.zeroValue3
  t4 := Tryz.underlying4
  a4 := Tryz.isAgg4
  z4 := Tryz.sizeOf4
  v4 := Tryz.zeroValue4
  t5 := Tryz.underlying5
  a5 := Tryz.isAgg5
  z5 := Tryz.sizeOf5
  v5 := Tryz.zeroValue5
  t9 := Tryz.underlying9
  a9 := Tryz.isAgg9
  z9 := Tryz.sizeOf9
  v9 := Tryz.zeroValue9
  t46 := Tryz.underlying91
  a46 := Tryz.isAgg91
  z46 := Tryz.sizeOf91
  v46 := Tryz.zeroValue91
  t51 := Tryz.underlying117
  a51 := Tryz.isAgg117
  z51 := Tryz.sizeOf117
  v51 := Tryz.zeroValue117
  t146 := Tryz.underlying166
  a146 := Tryz.isAgg166
  z146 := Tryz.sizeOf166
  v146 := Tryz.zeroValue166
  g1 := by kernel_rfl }
open Go.RowKit Go.Lib in
/-- strings.Contains: "Contains reports whether substr is within s.": AT A substr OF ONE BYTE c: IT RETURNS 'decide (0 ≤ Lib.indexByte s c)'; the world is as it was. (LAID: no walk: one application.) -/
theorem Tryz.strings_Contains_one (s : ByteArray) (c : UInt8) (w : World) :
    Calls Tryz.prog 39 #[.string s, .string ⟨#[c]⟩] w fun e w' => e = .returned (.bool (decide (0 ≤ Lib.indexByte s.data.toList c))) ∧ w' = w := Any.strings_Contains_one Tryz.lays144 s c w
def Tryz.sort30_ren : Go.Shelf.Ren := ⟨fun | 6 => 30 | 15 => 54 | 14 => 53 | 28 => 79 | 29 => 80 | 20 => 71 | 21 => 72 | 22 => 73 | 23 => 74 | 24 => 75 | 25 => 76 | 26 => 77 | 27 => 78 | 46 => 99 | 47 => 100 | 48 => 101 | 49 => 102 | 50 => 103 | 57 => 125 | n => n, fun | 22 => 26 | 24 => 43 | 25 => 67 | 3 => 3 | 39 => 91 | 0 => 0 | 53 => 117 | 55 => 119 | 4 => 4 | 46 => 110 | 45 => 109 | 50 => 114 | 5 => 5 | 9 => 9 | 66 => 143 | 70 => 147 | 76 => 163 | 77 => 164 | n => n, fun | n => n⟩
theorem Tryz.sort30 : Go.Proofs.SlLaysF0.n6 Tryz.prog Tryz.sort30_ren := {
  mixed := by kernel_rfl
  f6 := ⟨Tryz.f30.name, by decide, Tryz.func30.trans (congrArg some (by kernel_rfl))⟩
  f14 := ⟨Tryz.f53.name, by decide, Tryz.func53.trans (congrArg some (by kernel_rfl))⟩
  f15 := Tryz.func54.trans (congrArg some (by kernel_rfl))
  f20 := ⟨Tryz.f71.name, by decide, Tryz.func71.trans (congrArg some (by kernel_rfl))⟩
  f21 := ⟨Tryz.f72.name, by decide, Tryz.func72.trans (congrArg some (by kernel_rfl))⟩
  f22 := ⟨Tryz.f73.name, by decide, Tryz.func73.trans (congrArg some (by kernel_rfl))⟩
  f23 := ⟨Tryz.f74.name, by decide, Tryz.func74.trans (congrArg some (by kernel_rfl))⟩
  f24 := ⟨Tryz.f75.name, by decide, Tryz.func75.trans (congrArg some (by kernel_rfl))⟩
  f25 := ⟨Tryz.f76.name, by decide, Tryz.func76.trans (congrArg some (by kernel_rfl))⟩
  f26 := ⟨Tryz.f77.name, by decide, Tryz.func77.trans (congrArg some (by kernel_rfl))⟩
  f27 := ⟨Tryz.f78.name, by decide, Tryz.func78.trans (congrArg some (by kernel_rfl))⟩
  f28 := Tryz.func79.trans (congrArg some (by kernel_rfl))
  f29 := Tryz.func80.trans (congrArg some (by kernel_rfl))
  f46 := ⟨Tryz.f99.name, by decide, Tryz.func99.trans (congrArg some (by kernel_rfl))⟩
  f47 := Tryz.func100.trans (congrArg some (by kernel_rfl))
  f48 := Tryz.func101.trans (congrArg some (by kernel_rfl))
  f49 := ⟨Tryz.f102.name, by decide, Tryz.func102.trans (congrArg some (by kernel_rfl))⟩
  f50 := ⟨Tryz.f103.name, by decide, Tryz.func103.trans (congrArg some (by kernel_rfl))⟩
  f57 := ⟨Tryz.f125.name, by decide, Tryz.func125.trans (congrArg some (by kernel_rfl))⟩
  t0 := Tryz.underlying0
  a0 := Tryz.isAgg0
  z0 := Tryz.sizeOf0
  v0 := Tryz.zeroValue0
  t3 := Tryz.underlying3
  a3 := Tryz.isAgg3
  z3 := Tryz.sizeOf3
  v3 := Tryz.zeroValue3
  t4 := Tryz.underlying4
  a4 := Tryz.isAgg4
  z4 := Tryz.sizeOf4
  v4 := Tryz.zeroValue4
  t5 := Tryz.underlying5
  a5 := Tryz.isAgg5
  z5 := Tryz.sizeOf5
  v5 := Tryz.zeroValue5
  t9 := Tryz.underlying9
  a9 := Tryz.isAgg9
  z9 := Tryz.sizeOf9
  v9 := Tryz.zeroValue9
  t22 := Tryz.underlying26
  a22 := Tryz.isAgg26
  z22 := Tryz.sizeOf26
  v22 := Tryz.zeroValue26
  t25 := Tryz.underlying67
  a25 := Tryz.isAgg67
  z25 := Tryz.sizeOf67
  v25 := Tryz.zeroValue67
  t39 := Tryz.underlying91
  a39 := Tryz.isAgg91
  z39 := Tryz.sizeOf91
  v39 := Tryz.zeroValue91
  t45 := Tryz.underlying109
  a45 := Tryz.isAgg109
  z45 := Tryz.sizeOf109
  v45 := Tryz.zeroValue109
  t46 := Tryz.underlying110
  a46 := Tryz.isAgg110
  z46 := Tryz.sizeOf110
  v46 := Tryz.zeroValue110
  t50 := Tryz.underlying114
  a50 := Tryz.isAgg114
  z50 := Tryz.sizeOf114
  v50 := Tryz.zeroValue114
  t53 := Tryz.underlying117
  a53 := Tryz.isAgg117
  z53 := Tryz.sizeOf117
  v53 := Tryz.zeroValue117
  t55 := Tryz.underlying119
  a55 := Tryz.isAgg119
  z55 := Tryz.sizeOf119
  v55 := Tryz.zeroValue119
  t66 := Tryz.underlying143
  a66 := Tryz.isAgg143
  z66 := Tryz.sizeOf143
  v66 := Tryz.zeroValue143
  t70 := Tryz.underlying147
  a70 := Tryz.isAgg147
  z70 := Tryz.sizeOf147
  v70 := Tryz.zeroValue147
  t76 := Tryz.underlying163
  a76 := Tryz.isAgg163
  z76 := Tryz.sizeOf163
  v76 := Tryz.zeroValue163
  t77 := Tryz.underlying164
  a77 := Tryz.isAgg164
  z77 := Tryz.sizeOf164
  v77 := Tryz.zeroValue164 }
def Tryz.sort67_ren : Go.Shelf.Ren := ⟨fun | 6 => 67 | 15 => 54 | 14 => 91 | 28 => 79 | 29 => 80 | 20 => 113 | 21 => 114 | 22 => 115 | 23 => 116 | 24 => 117 | 25 => 118 | 26 => 119 | 27 => 120 | 46 => 131 | 47 => 100 | 48 => 101 | 49 => 132 | 50 => 133 | 57 => 139 | n => n, fun | 22 => 23 | 24 => 41 | 25 => 101 | 3 => 3 | 39 => 91 | 0 => 0 | 53 => 117 | 55 => 119 | 4 => 4 | 46 => 110 | 45 => 109 | 50 => 114 | 5 => 5 | 9 => 9 | 66 => 143 | 70 => 147 | 76 => 163 | 77 => 164 | n => n, fun | n => n⟩
theorem Tryz.sort67 : Go.Proofs.SlLaysF0.n6 Tryz.prog Tryz.sort67_ren := {
  mixed := by kernel_rfl
  f6 := ⟨Tryz.f67.name, by decide, Tryz.func67.trans (congrArg some (by kernel_rfl))⟩
  f14 := ⟨Tryz.f91.name, by decide, Tryz.func91.trans (congrArg some (by kernel_rfl))⟩
  f15 := Tryz.func54.trans (congrArg some (by kernel_rfl))
  f20 := ⟨Tryz.f113.name, by decide, Tryz.func113.trans (congrArg some (by kernel_rfl))⟩
  f21 := ⟨Tryz.f114.name, by decide, Tryz.func114.trans (congrArg some (by kernel_rfl))⟩
  f22 := ⟨Tryz.f115.name, by decide, Tryz.func115.trans (congrArg some (by kernel_rfl))⟩
  f23 := ⟨Tryz.f116.name, by decide, Tryz.func116.trans (congrArg some (by kernel_rfl))⟩
  f24 := ⟨Tryz.f117.name, by decide, Tryz.func117.trans (congrArg some (by kernel_rfl))⟩
  f25 := ⟨Tryz.f118.name, by decide, Tryz.func118.trans (congrArg some (by kernel_rfl))⟩
  f26 := ⟨Tryz.f119.name, by decide, Tryz.func119.trans (congrArg some (by kernel_rfl))⟩
  f27 := ⟨Tryz.f120.name, by decide, Tryz.func120.trans (congrArg some (by kernel_rfl))⟩
  f28 := Tryz.func79.trans (congrArg some (by kernel_rfl))
  f29 := Tryz.func80.trans (congrArg some (by kernel_rfl))
  f46 := ⟨Tryz.f131.name, by decide, Tryz.func131.trans (congrArg some (by kernel_rfl))⟩
  f47 := Tryz.func100.trans (congrArg some (by kernel_rfl))
  f48 := Tryz.func101.trans (congrArg some (by kernel_rfl))
  f49 := ⟨Tryz.f132.name, by decide, Tryz.func132.trans (congrArg some (by kernel_rfl))⟩
  f50 := ⟨Tryz.f133.name, by decide, Tryz.func133.trans (congrArg some (by kernel_rfl))⟩
  f57 := ⟨Tryz.f139.name, by decide, Tryz.func139.trans (congrArg some (by kernel_rfl))⟩
  t0 := Tryz.underlying0
  a0 := Tryz.isAgg0
  z0 := Tryz.sizeOf0
  v0 := Tryz.zeroValue0
  t3 := Tryz.underlying3
  a3 := Tryz.isAgg3
  z3 := Tryz.sizeOf3
  v3 := Tryz.zeroValue3
  t4 := Tryz.underlying4
  a4 := Tryz.isAgg4
  z4 := Tryz.sizeOf4
  v4 := Tryz.zeroValue4
  t5 := Tryz.underlying5
  a5 := Tryz.isAgg5
  z5 := Tryz.sizeOf5
  v5 := Tryz.zeroValue5
  t9 := Tryz.underlying9
  a9 := Tryz.isAgg9
  z9 := Tryz.sizeOf9
  v9 := Tryz.zeroValue9
  t22 := Tryz.underlying23
  a22 := Tryz.isAgg23
  z22 := Tryz.sizeOf23
  v22 := Tryz.zeroValue23
  t25 := Tryz.underlying101
  a25 := Tryz.isAgg101
  z25 := Tryz.sizeOf101
  v25 := Tryz.zeroValue101
  t39 := Tryz.underlying91
  a39 := Tryz.isAgg91
  z39 := Tryz.sizeOf91
  v39 := Tryz.zeroValue91
  t45 := Tryz.underlying109
  a45 := Tryz.isAgg109
  z45 := Tryz.sizeOf109
  v45 := Tryz.zeroValue109
  t46 := Tryz.underlying110
  a46 := Tryz.isAgg110
  z46 := Tryz.sizeOf110
  v46 := Tryz.zeroValue110
  t50 := Tryz.underlying114
  a50 := Tryz.isAgg114
  z50 := Tryz.sizeOf114
  v50 := Tryz.zeroValue114
  t53 := Tryz.underlying117
  a53 := Tryz.isAgg117
  z53 := Tryz.sizeOf117
  v53 := Tryz.zeroValue117
  t55 := Tryz.underlying119
  a55 := Tryz.isAgg119
  z55 := Tryz.sizeOf119
  v55 := Tryz.zeroValue119
  t66 := Tryz.underlying143
  a66 := Tryz.isAgg143
  z66 := Tryz.sizeOf143
  v66 := Tryz.zeroValue143
  t70 := Tryz.underlying147
  a70 := Tryz.isAgg147
  z70 := Tryz.sizeOf147
  v70 := Tryz.zeroValue147
  t76 := Tryz.underlying163
  a76 := Tryz.isAgg163
  z76 := Tryz.sizeOf163
  v76 := Tryz.zeroValue163
  t77 := Tryz.underlying164
  a77 := Tryz.isAgg164
  z77 := Tryz.sizeOf164
  v77 := Tryz.zeroValue164 }
end Go.Proofs

/- Told: the functions of strings.Builder that the interpreter cannot run. -/
namespace Pi
open Go Go.Proofs Go.RowKit Go.Shelf

def u8s : List D → Option (List UInt8)
  | [] => some []
  | .int .u8 n :: r => if 0 ≤ n ∧ n < 256 then (match u8s r with | some l => some (UInt8.ofNat n.toNat :: l) | none => none) else none
  | _ => none
theorem u8s_spec : ∀ (es : List D) (l : List UInt8), u8s es = some l → es = l.map fun b => D.int .u8 (b.toNat : Int)
  | [], l, h => by simp [u8s] at h; subst h; rfl
  | x :: r, l, h => by
    unfold u8s at h
    split at h
    · rename_i heq; cases heq
    · rename_i n r' heq
      simp only [List.cons.injEq] at heq
      obtain ⟨rfl, rfl⟩ := heq
      split at h
      · rename_i hn
        split at h
        · rename_i l' hl
          simp at h
          subst h
          rw [u8s_spec r l' hl]
          simp only [List.map_cons, List.cons.injEq, and_true]
          congr 1
          simp only [UInt8.toNat_ofNat']
          omega
        · cases h
      · cases h
    · cases h

def xCheck : TF
  | [.ref 0 v 0], R => match lk R 0 with
    | some e => if Nat.beq e.ver v then (match e.obj with
      | .box 136 [.d .nilp, x] => some (.tup [], ins 0 ⟨e.ver, e.tag, .box 136 [.ref 0 v 0, x]⟩ R)
      | .box 136 [.ref 0 v' 0, _] => if Nat.beq v' v then some (.tup [], R) else none
      | _ => none) else none
    | none => none
  | _, _ => none
def xStr : TF
  | [.ref 0 v 0], R => match lk R 0 with
    | some e => if Nat.beq e.ver v then (match e.obj with
      | .box 136 [_, .d .nils] => some (.d (.str []), R)
      | .box 136 [_, .sl m vm len] => (match lk R m with
        | some em => if Nat.beq em.ver vm then (match em.obj with
          | .arr 5 false es => (match u8s (es.take len) with
            | some l => if Nat.beq l.length len && Nat.blt 0 len then some (.d (.str l), ins m ⟨em.ver, em.tag, .gone⟩ R) else none
            | none => none)
          | _ => none) else none
        | none => none)
      | _ => none) else none
    | none => none
  | _, _ => none
section
variable {w0 : World}
theorem tup_nil {F : Nat → Prop} {w : World} {G : Nat → Value} {R : List (Nat × En)} : PRep F w G R (.tuple #[]) (.tup []) := .tup [] [] rfl (fun i v c hv => by simp at hv)

theorem setCell_heap {w : World} {b : Nat} {cs : Array Value} {T : TypeId} {fr : Nat × Nat} (h : w.heap[b]? = some (.cells cs T fr)) (i : Nat) (v : Value) : (w.setCell ⟨b, i, none⟩ v).heap[b]? = some (.cells (cs.setIfInBounds i v) T fr) := by
  simp [World.setCell, Array.getElem?_modify, h]
theorem setCell_other {w : World} {b c i : Nat} (h : c ≠ b) (v : Value) : (w.setCell ⟨b, i, none⟩ v).heap[c]? = w.heap[c]? := by
  simp [World.setCell, Array.getElem?_modify, Ne.symm h]

set_option maxHeartbeats 1000000 in
set_option maxRecDepth 100000 in
/-- copyCheck of a builder that was used. -/
theorem ccUsed (b : Nat) (w : World) (h0 : w.cell? ⟨b, 0, none⟩ = some (.pointer (some ⟨b, 0, none⟩))) :
    Calls Tryz.prog 123 #[.pointer (some ⟨b, 0, none⟩)] w fun e w' => e = .returned (.tuple #[]) ∧ w' = w := by
  obtain ⟨j, hj, _⟩ := Option.map_eq_some_iff.1 (show (Tryz.prog.info? 136).map (·.size) = some 2 by kernel_rfl)
  have a72 := Tryz.isAgg136; have z72 := Tryz.sizeOf136; have v72 := Tryz.zeroValue136; have u72 := run_underlying Tryz.underlying136
  have a70 := Tryz.isAgg134; have z70 := Tryz.sizeOf134; have v70 := Tryz.zeroValue134; have u70 := run_underlying Tryz.underlying134
  have a4 := Tryz.isAgg4; have z4 := Tryz.sizeOf4; have v4 := Tryz.zeroValue4; have u4 := run_underlying Tryz.underlying4
  have u164 := run_underlying Tryz.underlying172
  have mixed : Tryz.prog.follows .mixedOrders = true := by kernel_rfl
  go_enter Tryz.func123, Tryz.ntmps123
  go_wp2
  rw [Lib.run_neq_ptr_same w _ Tryz.underlying134 hj]
  go_wp2
  go_end0
  exact ⟨rfl, rfl⟩
set_option maxHeartbeats 1000000 in
set_option maxRecDepth 100000 in
/-- copyCheck of a new builder. -/
theorem ccFresh (b : Nat) (w : World) (h0 : w.cell? ⟨b, 0, none⟩ = some (.pointer none)) (hsh : w.shape? b = some (136, 2)) (hfz : w.frozen? ⟨b, 0, none⟩ = false) :
    Calls Tryz.prog 123 #[.pointer (some ⟨b, 0, none⟩)] w fun e w' => e = .returned (.tuple #[]) ∧ w' = w.setCell ⟨b, 0, none⟩ (.pointer (some ⟨b, 0, none⟩)) := by
  obtain ⟨j, hj, hjs⟩ := Option.map_eq_some_iff.1 (show (Tryz.prog.info? 136).map (·.size) = some 2 by kernel_rfl)
  have hlb : liesAt Tryz.prog Tryz.prog.depth 136 (2 / Tryz.prog.cellsOf 136) 0 136 1 = true := by kernel_rfl
  have a72 := Tryz.isAgg136; have z72 := Tryz.sizeOf136; have v72 := Tryz.zeroValue136; have u72 := run_underlying Tryz.underlying136
  have a70 := Tryz.isAgg134; have z70 := Tryz.sizeOf134; have v70 := Tryz.zeroValue134; have u70 := run_underlying Tryz.underlying134
  have a4 := Tryz.isAgg4; have z4 := Tryz.sizeOf4; have v4 := Tryz.zeroValue4; have u4 := run_underlying Tryz.underlying4
  have u164 := run_underlying Tryz.underlying172
  have mixed : Tryz.prog.follows .mixedOrders = true := by kernel_rfl
  go_enter Tryz.func123, Tryz.ntmps123
  go_wp2
  rw [Lib.run_to_unsafe w ⟨b, 0, none⟩ Tryz.underlying134 Tryz.underlying172 hj (by rw [hjs]; decide) hsh (Nat.zero_lt_succ 1)]
  simp only [Result.andThen]
  rw [Oper.upon_value]
  go_wp2
  rw [run_callFunc_extern Tryz.func135 (by kernel_rfl) (by kernel_rfl) (by kernel_rfl) (e := Extern.AbiNoEscape.same) (by kernel_rfl)]
  rw [Lib.run_noEscape]
  simp only [Result.andThen]
  rw [Oper.upon_value]
  go_wp2
  rw [Lib.run_from_unsafe w ⟨b, 0, none⟩ Tryz.underlying172 Tryz.underlying134 hj hsh hlb]
  simp only [Result.andThen]
  rw [Oper.upon_value]
  go_wp2
  go_end0
  exact ⟨rfl, rfl⟩
theorem xCheck_ok : XOK Tryz.prog w0 123 xCheck := by
  intro h0 ps R p R1 h F G w vs hH hl hv
  unfold xCheck at h
  split at h
  · rename_i v
    match vs, hl, hv with
    | [u], _, hv =>
      have hp := hv 0 u _ rfl rfl
      split at h
      · rename_i e he
        split at h
        · rename_i hver
          have hver := Nat.eq_of_beq_eq_true hver
          have hO := hH.rg 0 e he
          cases hp with
          | ref _ _ _ _ hr h1 =>
            split at h
            · rename_i x heo
              rw [heo] at hO
              obtain ⟨b, hG, rfl⟩ := hr.at he hver (by rw [heo]; rfl)
              obtain ⟨b', cs, hG', hh, hsz, hone, hps⟩ := hO
              rw [hG] at hG'
              simp at hG'
              subst hG'
              simp only [Option.some.injEq, Prod.mk.injEq] at h
              obtain ⟨rfl, rfl⟩ := h
              have c0 : cs[0]? = some (.pointer none) := by
                have hs0 : 0 < cs.size := by rw [hsz]; simp
                have := hps 0 _ rfl
                rw [get_getD hs0]
                generalize cs.getD 0 undef = c at this
                cases this with
                | d hd => exact congrArg some (hd.toVc rfl)
              have hblt : b < w.heap.size := (Array.getElem?_eq_some_iff.1 hh).1
              have hcall := ccFresh b w (by rw [cell_of_cells hh]; exact c0) (by simp [World.shape?, hh, hsz]) (by simp [World.frozen?, hh])
              refine .inl ⟨enters Tryz.func123 (by kernel_rfl) (by kernel_rfl) _ w, hcall.mono fun e' w' ⟨he', hw'⟩ => ⟨_, he', F, G, ?_⟩⟩
              subst hw'
              have hnew : NewAt G R 0 ⟨e.ver, e.tag, .box 136 [.ref 0 v 0, x]⟩ (G 0) := fun e1 he1 => by rw [he] at he1; cases he1; exact .inr ⟨rfl, fun _ => ⟨by rw [heo]; rfl, rfl⟩⟩
              have hnames := names_upd hnew
              rw [upd_self] at hnames
              have hnF : ¬ F b := hH.fre 0 e b he (by rw [heo]; simp [ownB, hG, blockOf])
              have hF : ∀ c, F c → (w.setCell ⟨b, 0, none⟩ (.pointer (some ⟨b, 0, none⟩))).heap[c]? = w.heap[c]? := fun c hc => setCell_other (fun e => hnF (by rw [← e]; exact hc)) _
              obtain ⟨d1, d2⟩ := SRel.upd hH (e1 := ⟨e.ver, e.tag, .box 136 [.ref 0 v 0, x]⟩) (g1 := G 0) (w' := w.setCell ⟨b, 0, none⟩ (.pointer (some ⟨b, 0, none⟩))) hnew
                (fun c hc hno => setCell_other (fun e' => hno ⟨e, he, by rw [e', heo]; simp [ownB, hG, blockOf]⟩) _) (by simp [World.setCell]) rfl rfl rfl
                (fun c hc => .inr ⟨e, he, by rw [heo]; exact hc⟩)
                (by
                  rw [upd_self]
                  refine ⟨b, _, hG, setCell_heap hh 0 _, by simpa using hsz, ?_, ?_⟩
                  · intro c hc
                    obtain ⟨i, hi⟩ := List.mem_iff_getElem?.1 hc
                    rw [Array.getElem?_toList, Array.getElem?_setIfInBounds] at hi
                    split at hi
                    · simp at hi; obtain ⟨_, rfl⟩ := hi; rfl
                    · exact hone c (List.mem_iff_getElem?.2 ⟨i, by rw [Array.getElem?_toList]; exact hi⟩)
                  · intro i p hp
                    match i with
                    | 0 =>
                      simp at hp
                      subst hp
                      have e0 : (cs.setIfInBounds 0 (.pointer (some ⟨b, 0, none⟩))).getD 0 undef = .pointer (some ⟨b, 0, none⟩) := by
                        have hs0 : 0 < cs.size := by rw [hsz]; simp
                        simp [Array.getD_eq_getD_getElem?, hs0]
                      rw [e0]
                      exact .ref 0 v 0 _ ⟨_, lk_ins_same _ _ _, by rw [hver]; exact Nat.le_refl _, fun _ _ => ⟨b, hG, rfl⟩⟩ rfl
                    | 1 =>
                      simp at hp
                      subst hp
                      have e1 : (cs.setIfInBounds 0 (.pointer (some ⟨b, 0, none⟩))).getD 1 undef = cs.getD 1 undef := by
                        simp [Array.getD_eq_getD_getElem?]
                      rw [e1]
                      exact (hps 1 x rfl).mono (fun _ h => h) hF hnames
                    | i + 2 => simp at hp)
                (fun i hi hl => hH.tag 0 e i he hi (by rw [heo]; rfl))
              rw [upd_self] at d1 d2
              exact ⟨d1, tup_nil, d2⟩
            · rename_i v' x heo
              split at h
              · rename_i hv'
                have hv' := Nat.eq_of_beq_eq_true hv'
                subst hv'
                rw [heo] at hO
                obtain ⟨b, hG, rfl⟩ := hr.at he hver (by rw [heo]; rfl)
                obtain ⟨b', cs, hG', hh, hsz, hone, hps⟩ := hO
                rw [hG] at hG'
                simp at hG'
                subst hG'
                simp only [Option.some.injEq, Prod.mk.injEq] at h
                obtain ⟨rfl, rfl⟩ := h
                have c0 : cs[0]? = some (.pointer (some ⟨b, 0, none⟩)) := by
                  have hs0 : 0 < cs.size := by rw [hsz]; simp
                  have := hps 0 _ rfl
                  rw [get_getD hs0]
                  generalize cs.getD 0 undef = c at this
                  cases this with
                  | ref _ _ _ _ hr2 _ =>
                    obtain ⟨b2, hG2, rfl⟩ := hr2.at he hver (by rw [heo]; rfl)
                    rw [hG] at hG2
                    simp at hG2
                    subst hG2
                    rfl
                have hcall := ccUsed b w (by rw [cell_of_cells hh]; exact c0)
                refine .inl ⟨enters Tryz.func123 (by kernel_rfl) (by kernel_rfl) _ w, hcall.mono fun e' w' ⟨he', hw'⟩ => ⟨_, he', F, G, ?_⟩⟩
                subst hw'
                exact ⟨hH, tup_nil, Ext.refl _ _ _⟩
              · cases h
            · cases h
        · cases h
      · cases h
  · cases h

theorem freeze_heap {w : World} {g c n : Nat} (h : c ≠ g) : (w.freeze ⟨g, 0, none⟩ n).heap[c]? = w.heap[c]? := by
  unfold World.freeze
  split
  · rfl
  · simp [Array.getElem?_modify, Ne.symm h]
theorem freeze_size {w : World} {g n : Nat} : (w.freeze ⟨g, 0, none⟩ n).heap.size = w.heap.size := by
  unfold World.freeze
  split
  · rfl
  · simp

set_option maxHeartbeats 2000000 in
set_option maxRecDepth 100000 in
/-- String of a builder that holds a byte at least; the world behind it. -/
theorem str_row (b g cap len : Nat) (p : Value) (cur : Array Value) (l : List UInt8) (w : World) (hbk : w.heap[b]? = some (.cells #[p, .slice (some ⟨g, 0, none⟩) len cap] 136 (0, 0))) (hg : w.heap[g]? = some (.cells cur 5 (0, 0)))
    (h0 : l ≠ []) (hlen : l.length = len) (hcap : len ≤ cap) (hcm : cap ≤ maxLen) (hcs : cap ≤ cur.size) (hb : ∀ (j : Nat) (x : UInt8), l[j]? = some x → cur[j]? = some (Value.int IntKind.u8 (x.toNat : Int))) :
    Calls Tryz.prog 98 #[.pointer (some ⟨b, 0, none⟩)] w fun e w' => e = .returned (.string ⟨l.toArray⟩) ∧ w' = w.drew.freeze ⟨g, 0, none⟩ l.length := by
  subst hlen
  have L := Tryz.lays169
  have X := Tryz.Builder_Extra_169
  have hl0 : l.length ≠ 0 := by simpa using h0
  have c1 : w.drew.cell? ⟨b, 1, none⟩ = some (.slice (some ⟨g, 0, none⟩) l.length cap) := by
    have : w.drew.heap[b]? = some (.cells #[p, .slice (some ⟨g, 0, none⟩) l.length cap] 136 (0, 0)) := hbk
    rw [Lib.cell_of_heap this]; rfl
  have hSD : (Builtin.unsafeSliceData_ #[(Tryz.lays169_ren.t 37)] (Tryz.lays169_ren.t 127) #[.slice (some ⟨g, 0, none⟩) l.length cap]).run Tryz.prog w.drew = .ok (.pointer (some ⟨g, 0, none⟩)) w.drew :=
    Lib.run_unsafeSliceData_row _ _ _ _ _ _ (by omega)
  have hUS : (Builtin.unsafeString_ #[(Tryz.lays169_ren.t 127), (Tryz.lays169_ren.t 3)] (Tryz.lays169_ren.t 9) #[.pointer (some ⟨g, 0, none⟩), .int .i64 l.length]).run Tryz.prog w.drew = .ok (.string ⟨l.toArray⟩) (w.drew.freeze ⟨g, 0, none⟩ l.length) := by
    refine Lib.run_unsafeString_row w.drew (Tryz.lays169_ren.t 127) (Tryz.lays169_ren.t 3) (Tryz.lays169_ren.t 9) (Tryz.lays169_ren.t 5) L.t127 X.cellsByte g cur.size (by have hg' : w.drew.heap[g]? = some (.cells cur (Tryz.lays169_ren.t 5) (0, 0)) := hg; simp [World.shape?, hg']) l h0 (by omega) (by unfold maxLen at hcm; omega) ?_
    intro j x hx
    have hg' : w.drew.heap[g]? = some (.cells cur 5 (0, 0)) := hg
    rw [show (⟨g, 0, none⟩ : Addr).add j = ⟨g, j, none⟩ by cases j <;> simp [Addr.add], cell_of_cells hg']
    exact hb j x hx
  have mixed := L.mixed
  have t72 := L.t72; have a72 := L.a72; have z72 := L.z72; have v72 := L.v72; have u72 := run_underlying L.t72
  have t70 := L.t70; have a70 := L.a70; have z70 := L.z70; have v70 := L.v70; have u70 := run_underlying L.t70
  have t37 := L.t37; have a37 := L.a37; have z37 := L.z37; have v37 := L.v37; have u37 := run_underlying L.t37
  have t127 := L.t127; have a127 := L.a127; have z127 := L.z127; have v127 := L.v127; have u127 := run_underlying L.t127
  have t3 := L.t3; have a3 := L.a3; have z3 := L.z3; have v3 := L.v3; have u3 := run_underlying L.t3
  have t9 := L.t9; have a9 := L.a9; have z9 := L.z9; have v9 := L.v9; have u9 := run_underlying L.t9
  have t5 := X.t5; have a5 := X.a5; have z5 := X.z5; have v5 := X.v5; have u5 := run_underlying X.t5
  go_enter L.f169, Body.n169_ntmps Tryz.lays169_ren
  go_wp2
  go_region_o
  all_goals (go_wp2; go_ret; exact ⟨rfl, rfl⟩)

set_option maxHeartbeats 2000000 in
set_option maxRecDepth 100000 in
theorem str_nil (b : Nat) (p : Value) (w : World) (hbk : w.heap[b]? = some (.cells #[p, .slice none 0 0] 136 (0, 0))) :
    Calls Tryz.prog 98 #[.pointer (some ⟨b, 0, none⟩)] w fun e w' => e = .returned (.string ⟨#[]⟩) ∧ w' = w.drew := by
  have L := Tryz.lays169
  have X := Tryz.Builder_Extra_169
  have hUS := fun W q => Lib.run_unsafeString_none (P := Tryz.prog) W (Tryz.lays169_ren.t 127) (Tryz.lays169_ren.t 3) (Tryz.lays169_ren.t 9) q
  have c1 : w.drew.cell? ⟨b, 1, none⟩ = some (.slice none 0 0) := by
    have : w.drew.heap[b]? = some (.cells #[p, .slice none 0 0] 136 (0, 0)) := hbk
    rw [Lib.cell_of_heap this]; rfl
  have hSD : (Builtin.unsafeSliceData_ #[(Tryz.lays169_ren.t 37)] (Tryz.lays169_ren.t 127) #[.slice none 0 0]).run Tryz.prog w.drew = .ok (.pointer none) w.drew := rfl
  have mixed := L.mixed
  have t72 := L.t72; have a72 := L.a72; have z72 := L.z72; have v72 := L.v72; have u72 := run_underlying L.t72
  have t70 := L.t70; have a70 := L.a70; have z70 := L.z70; have v70 := L.v70; have u70 := run_underlying L.t70
  have t37 := L.t37; have a37 := L.a37; have z37 := L.z37; have v37 := L.v37; have u37 := run_underlying L.t37
  have t127 := L.t127; have a127 := L.a127; have z127 := L.z127; have v127 := L.v127; have u127 := run_underlying L.t127
  have t3 := L.t3; have a3 := L.a3; have z3 := L.z3; have v3 := L.v3; have u3 := run_underlying L.t3
  have t9 := L.t9; have a9 := L.a9; have z9 := L.z9; have v9 := L.v9; have u9 := run_underlying L.t9
  have t5 := X.t5; have a5 := X.a5; have z5 := X.z5; have v5 := X.v5; have u5 := run_underlying X.t5
  go_enter L.f169, Body.n169_ntmps Tryz.lays169_ren
  go_wp2
  go_region_o
  all_goals (go_wp2; go_ret; exact ⟨rfl, rfl⟩)

theorem HRel.drew {T : Tg} {F : Nat → Prop} {G : Nat → Value} {w : World} {R : List (Nat × En)} (h : HRel Tryz.prog T F G w R) : HRel Tryz.prog T F G w.drew R := by
  have hn : Names G G R R := Names.refl G R
  exact ⟨h.nod, h.size, fun t p hp => by simp [lk] at hp, fun n e he => (h.rg n e he).mono (fun _ h => h) (fun _ _ => rfl) hn rfl (fun _ _ => rfl), h.own, h.fre, h.bnd, h.tag, h.z, Nat.le_succ_of_le h.dr⟩

theorem two_cells {cs : Array Value} (h : cs.size = 2) : cs = #[cs.getD 0 undef, cs.getD 1 undef] := by
  apply Array.ext
  · simp [h]
  · intro i h1 h2
    have : i = 0 ∨ i = 1 := by simp at h2; omega
    rcases this with rfl | rfl <;> simp [Array.getD, h]

theorem xStr_ok : XOK Tryz.prog w0 98 xStr := by
  intro h0 ps R p R1 h F G w vs hH hl hv
  unfold xStr at h
  split at h
  · rename_i v
    match vs, hl, hv with
    | [u], _, hv =>
      have hp := hv 0 u _ rfl rfl
      split at h
      · rename_i e he
        split at h
        · rename_i hver
          have hver := Nat.eq_of_beq_eq_true hver
          have hO := hH.rg 0 e he
          cases hp with
          | ref _ _ _ _ hr h1 =>
            have hce := enters Tryz.func98 (by kernel_rfl) (by kernel_rfl)
            split at h
            · rename_i x heo
              rw [heo] at hO
              obtain ⟨b, hG, rfl⟩ := hr.at he hver (by rw [heo]; rfl)
              obtain ⟨b', cs, hG', hh, hsz, hone, hps⟩ := hO
              rw [hG] at hG'
              simp at hG'
              subst hG'
              simp only [Option.some.injEq, Prod.mk.injEq] at h
              obtain ⟨rfl, rfl⟩ := h
              have e1 : cs.getD 1 undef = .slice none 0 0 := by
                have := hps 1 _ rfl
                generalize cs.getD 1 undef = c at this
                cases this with
                | d hd => exact hd.toVc rfl
              have h2 := two_cells (by simpa using hsz)
              rw [e1] at h2
              rw [h2] at hh
              refine .inl ⟨hce _ w, (str_nil b _ w hh).mono fun e' w' ⟨he', hw'⟩ => ⟨_, he', F, G, ?_, .d (.str []), ?_⟩⟩
              · subst hw'
                exact hH.drew
              · subst hw'
                exact ⟨fun _ h => h, fun _ h => .inl h, fun _ h => .inl h, fun _ _ _ => rfl, Nat.le_refl _, rfl, rfl, rfl⟩
            · rename_i x m vm len heo
              rw [heo] at hO
              obtain ⟨b, hG, rfl⟩ := hr.at he hver (by rw [heo]; rfl)
              obtain ⟨b', cs, hG', hh, hsz, hone, hps⟩ := hO
              rw [hG] at hG'
              simp at hG'
              subst hG'
              split at h
              · rename_i em hem
                split at h
                · rename_i hvm
                  have hvm := Nat.eq_of_beq_eq_true hvm
                  split at h
                  · rename_i es hoe
                    split at h
                    · rename_i l hl8
                      split at h
                      · rename_i hcond
                        simp only [Bool.and_eq_true, Nat.blt_eq] at hcond
                        have hll := Nat.eq_of_beq_eq_true hcond.1
                        simp only [Option.some.injEq, Prod.mk.injEq] at h
                        obtain ⟨rfl, rfl⟩ := h
                        have hp1 := hps 1 _ rfl
                        have hOm := hH.rg m em hem
                        rw [hoe] at hOm
                        have h2 := two_cells (by simpa using hsz)
                        generalize cs.getD 1 undef = c1 at hp1 h2
                        cases hp1 with
                        | sl _ _ _ _ _ hrm =>
                          obtain ⟨a, N, cap, hGm, rfl, hlN⟩ := hrm.at hem hvm (by rw [hoe]; rfl)
                          have hes := u8s_spec _ _ hl8
                          have hel : len ≤ es.length := by
                            have := congrArg List.length hes
                            simp at this
                            omega
                          rcases hOm with ⟨_, rfl⟩ | ⟨g, cap', cur, k, hGm', hg, hk, hk0, hle, hcm, hcs, _, hE⟩
                          · simp at hel; omega
                          · rw [hGm] at hGm'
                            simp only [Value.slice.injEq] at hGm'
                            obtain ⟨rfl, rfl, rfl⟩ := hGm'
                            have hk1 : k = 1 := by
                              have : sz Tryz.prog 5 = some 1 := by kernel_rfl
                              rw [this] at hk
                              exact (Option.some.inj hk).symm
                            subst hk1
                            rw [h2] at hh
                            have hne : l ≠ [] := fun e0 => by subst e0; simp at hll; omega
                            have hcell : ∀ (j : Nat) (x : UInt8), l[j]? = some x → cur[j]? = some (.int .u8 x.toNat) := fun j x hx => by
                              have hj : j < l.length := (List.getElem?_eq_some_iff.1 hx).1
                              have hej : es[j]? = some (.int .u8 x.toNat) := by
                                have : (es.take len)[j]? = some (D.int .u8 (x.toNat : Int)) := by rw [hes, List.getElem?_map, hx]; rfl
                                rw [List.getElem?_take] at this
                                split at this
                                · exact this
                                · cases this
                              obtain ⟨q1, q2, q3⟩ := hE j _ hej
                              have := q3 0 _ rfl
                              rw [get_getD (by omega)]
                              simp only [Nat.mul_one, Nat.add_zero] at this
                              rw [this.toVc rfl]
                            refine .inl ⟨hce _ w, (str_row b g cap len _ cur l w hh hg hne hll (by omega) hcm (by omega) hcell).mono fun e' w' ⟨he', hw'⟩ => ⟨_, he', F, G, ?_⟩⟩
                            subst hw'
                            have hnew : NewAt G R m ⟨em.ver, em.tag, .gone⟩ (G m) := fun e1 he1 => by rw [hem] at he1; cases he1; exact .inr ⟨rfl, fun hlv => by cases hlv⟩
                            obtain ⟨d1, d2⟩ := SRel.upd hH (e1 := ⟨em.ver, em.tag, .gone⟩) (g1 := G m) (w' := w.drew.freeze ⟨g, 0, none⟩ l.length) (hdr := by unfold World.freeze; split <;> exact Nat.le_succ _) hnew
                              (fun c hc hno => freeze_heap (fun e' => hno ⟨em, hem, by rw [e', hoe]; simp [ownB, hGm, blockOf]⟩)) (by rw [freeze_size]; exact Nat.le_refl _) (by unfold World.freeze; split <;> rfl) (by unfold World.freeze; split <;> rfl) (by unfold World.freeze; split <;> rfl)
                              (fun c hc => by simp [ownB] at hc) trivial (fun i _ hlv => by cases hlv)
                            rw [upd_self] at d1 d2
                            exact ⟨d1, .d (.str l), d2⟩
                      · cases h
                    · cases h
                  · cases h
                · cases h
              · cases h
            · cases h
        · cases h
      · cases h
  · cases h
end
end Pi

/- The seat's tables. -/
namespace Pi
open Go
set_option maxRecDepth 100000
def kpTab : List (Nat × List (Nat × List Nat × List Nat)) := [(7, [(9, [7, 8, 9, 10, 11], [6, 7, 9, 10]), (13, [7, 8, 9, 10, 11, 12, 13], [6, 7, 8, 9, 10, 11, 12]), (22, [7, 9, 10, 14], [6, 7])]),
  (8, [(8, [7, 8, 9, 10, 11, 12], [7, 8, 9, 10, 11]), (12, [7, 8, 9, 10, 11, 13], [7, 8, 9, 10, 11])]),
  (9, [(8, [0, 3, 4, 5, 6, 7], [3, 4, 5, 6]), (19, [3, 6, 9, 10], [2, 3, 9])]),
  (11, [(4, [0, 1, 5], [4])]),
  (12, [(6, [5, 6, 27], [6])]),
  (13, [(4, [1, 5, 6, 7], [6]), (9, [1, 5, 6, 7, 9], [1, 5, 6, 7])]),
  (15, [(2, [0, 1, 5], [4])]),
  (17, [(2, [0, 3], [2]), (7, [0, 3, 4], [0, 2, 3])]),
  (18, [(5, [1, 2, 10, 11, 12], [10, 11])]),
  (19, [(2, [0, 3], [2])]),
  (20, [(2, [0, 3, 5], [4])]),
  (21, [(2, [0, 3, 5], [4])]),
  (22, [(2, [0, 3, 5], [0, 4])]),
  (26, [(3, [1, 5, 18, 19, 20], [1, 5]), (10, [5, 54, 55, 56], [5])]),
  (27, [(1, [0, 13], [0]), (6, [0, 13, 26, 27, 28], [0, 13])]),
  (28, [(2, [0, 2, 9, 10, 11], [0])]),
  (29, [(4, [0, 5, 7, 19, 20, 21], [0, 7])]),
  (33, [(4, [0, 1, 5, 6], [5]), (8, [0, 1, 5, 6, 7, 8], [0, 1, 5, 6, 7])]),
  (34, [(2, [0, 3, 5], [5])]),
  (35, [(2, [0, 1, 7, 8], [1, 4])]),
  (40, [(4, [0, 4, 5, 6], [4, 5])]),
  (41, [(4, [5, 6, 7], [6]), (14, [5, 6, 7, 10], [5, 6, 7])]),
  (42, [(2, [0, 3], [2])]),
  (43, [(2, [0, 3], [0, 2])]),
  (44, [(4, [0, 3], [2])]),
  (49, [(3, [0, 3, 6, 15, 16], [0, 4, 5])]),
  (50, [(3, [0, 3, 15], [0, 3])]),
  (53, [(2, [0, 1, 2, 3, 4, 10, 11], [4])]),
  (56, [(3, [0, 3, 4], [3])]),
  (57, [(2, [0, 4, 5, 7], [0, 6])]),
  (58, [(2, [0, 3, 5], [3, 4])]),
  (61, [(3, [0, 1, 5, 6], [5]), (7, [0, 1, 5, 6, 7, 8], [0, 1, 5, 6, 7]), (13, [0, 1, 5, 6, 9], [0, 1, 5, 6])]),
  (63, [(3, [0, 2, 4, 5], [0, 2, 3, 4])]),
  (64, [(4, [0, 3], [0, 3])]),
  (70, [(12, [0, 1, 5, 39, 40, 41], [0, 1, 5]), (22, [1, 8, 63, 64, 65], [8])]),
  (71, [(1, [0, 1, 2, 3, 8], [3]), (4, [0, 1, 2, 3, 8, 9], [0, 1, 2, 3, 8])]),
  (72, [(4, [0, 3, 8, 9, 10, 11], [0, 3, 8, 9, 10]), (8, [0, 3, 8, 9, 12], [3])]),
  (73, [(5, [0, 1, 3, 8, 9, 10, 11], [3])]),
  (75, [(2, [0, 3, 8, 9], [3])]),
  (76, [(3, [0, 1, 2, 3, 9, 10], [3, 8]), (5, [0, 1, 2, 3, 9, 10], [0, 1, 2, 3, 9, 10]), (14, [0, 1, 2, 3, 9, 10, 11], [0, 1, 2, 3, 9, 10]), (20, [0, 1, 2, 3, 9, 10, 12], [0, 1, 2, 3, 9, 10])]),
  (77, [(3, [0, 1, 4, 11, 12], [4, 11]), (3, [0, 1, 4, 11, 12], [0, 1, 4, 11, 12]), (5, [0, 1, 4, 11, 12], [0, 1, 4, 11, 12])]),
  (78, [(3, [0, 1, 4, 12, 13], [0, 1, 4, 12, 13]), (5, [0, 1, 4, 12, 13], [0, 1, 4, 12, 13]), (13, [0, 1, 4, 12, 13], [0, 1, 4, 13]), (13, [0, 1, 4, 12, 13], [0, 1, 4, 12, 13]), (15, [0, 1, 4, 12, 13], [0, 1, 4, 12, 13])]),
  (81, [(15, [0, 1, 5, 6, 7, 8, 9, 10], [4])]),
  (83, [(3, [0, 4, 5], [0, 4, 5])]),
  (84, [(1, [0, 1], [0])]),
  (85, [(1, [0, 1], [0])]),
  (86, [(2, [0, 2, 4], [2, 3])]),
  (87, [(1, [0, 1], [0, 1])]),
  (88, [(1, [0, 1], [0, 1])]),
  (89, [(1, [0, 1], [0])]),
  (90, [(1, [0, 1], [0])]),
  (91, [(2, [0, 1, 2, 3, 4, 10, 11], [4])]),
  (92, [(3, [3, 6, 7, 8], [2, 3])]),
  (99, [(1, [0, 2, 3, 4, 10], [4])]),
  (107, [(5, [0, 1, 5, 6, 7, 8, 9], [0, 1, 5, 6, 7, 8]), (11, [0, 1, 5, 6, 7, 8, 10], [4])]),
  (112, [(10, [0, 4, 5, 6], [0, 4, 5])]),
  (113, [(1, [0, 1, 2, 3, 8], [3]), (4, [0, 1, 2, 3, 8, 9], [0, 1, 2, 3, 8])]),
  (114, [(4, [0, 3, 8, 9, 10, 11], [0, 3, 8, 9, 10]), (8, [0, 3, 8, 9, 12], [3])]),
  (115, [(5, [0, 1, 3, 8, 9, 10, 11], [3])]),
  (117, [(2, [0, 3, 8, 9], [3])]),
  (118, [(3, [0, 1, 2, 3, 9, 10], [3, 8]), (5, [0, 1, 2, 3, 9, 10], [0, 1, 2, 3, 9, 10]), (14, [0, 1, 2, 3, 9, 10, 11], [0, 1, 2, 3, 9, 10]), (20, [0, 1, 2, 3, 9, 10, 12], [0, 1, 2, 3, 9, 10])]),
  (119, [(3, [0, 1, 4, 11, 12], [4, 11]), (3, [0, 1, 4, 11, 12], [0, 1, 4, 11, 12]), (5, [0, 1, 4, 11, 12], [0, 1, 4, 11, 12])]),
  (120, [(3, [0, 1, 4, 12, 13], [0, 1, 4, 12, 13]), (5, [0, 1, 4, 12, 13], [0, 1, 4, 12, 13]), (13, [0, 1, 4, 12, 13], [0, 1, 4, 13]), (13, [0, 1, 4, 12, 13], [0, 1, 4, 12, 13]), (15, [0, 1, 4, 12, 13], [0, 1, 4, 12, 13])]),
  (127, [(3, [0, 4, 5], [0, 4]), (8, [4, 6, 7, 8], [4, 6])]),
  (129, [(38, [175], [4]), (5, [0, 7, 8, 9], [4]), (12, [0, 7, 8, 9, 12], [8, 9]), (25, [0, 7, 8, 9, 14, 15], [4]), (29, [0, 7, 8, 9, 14, 15, 16], [0, 7, 8, 9, 14, 15])]),
  (131, [(1, [0, 2, 3, 4, 10], [4])]),
  (142, [(1, [0, 1, 4], [0, 1, 4])]),
  (143, [(11, [0, 1, 3, 4, 10, 11, 12, 13, 14, 15, 16], [0, 1, 3, 4, 10, 11, 12, 13]), (18, [0, 1, 3, 4, 10, 11, 12, 13, 17], [0, 1, 3, 4, 10, 11, 12, 13])])]
def clsTab : List (Nat × List (Nat × Nat)) := [(7, [(24, 1)]),
  (12, [(8, 1), (9, 1)]),
  (13, [(7, 1), (11, 1)]),
  (26, [(5, 1)]),
  (27, [(8, 1)]),
  (28, [(4, 1), (7, 1), (9, 1)]),
  (40, [(11, 1)]),
  (41, [(16, 1)]),
  (45, [(3, 1)]),
  (49, [(4, 1)]),
  (61, [(15, 1)]),
  (63, [(14, 1)]),
  (68, [(1, 1)]),
  (69, [(3, 1)]),
  (71, [(6, 1)]),
  (72, [(10, 1)]),
  (73, [(10, 1)]),
  (76, [(11, 1), (17, 1), (23, 1)]),
  (93, [(1, 1)]),
  (96, [(3, 1)]),
  (98, [(1, 1)]),
  (99, [(6, 1)]),
  (113, [(6, 1)]),
  (114, [(10, 1)]),
  (115, [(10, 1)]),
  (118, [(11, 1), (17, 1), (23, 1)]),
  (124, [(0, 1)]),
  (131, [(6, 1)]),
  (142, [(7, 1), (8, 1), (9, 1), (10, 1), (17, 1), (18, 1), (23, 1)])]

def xsB : List Nat := [95, 66, 70, 123, 98, 30, 67, 39]
def xsT : List Nat := xsB ++ [12]
/-- Functions whose nil slices stay nil. -/
def nilK : List Nat := []
def kpF (f id : Nat) : Option (List Nat × List Nat) := if Nat.beq id 999999 then (if memN f nilK then some ([], []) else none) else match lk kpTab f with | some l => lk l id | none => none
abbrev kp0 : Cfg := ⟨kpF, xsT, fun _ _ _ => none⟩
end Pi

/- The seat's told functions of the library. -/
namespace Pi
open Go Go.Proofs Go.RowKit

/-- What strconv.Atoi's number is. -/
def atoiV (l : List UInt8) : Int := match Lib.atoiAll l with | .ok v => v | .range => Lib.atoiSat l | _ => 0

def xItoa : TF
  | [.d (.int .i64 n)], [] => if -9223372036854775808 ≤ n ∧ n ≤ 9223372036854775807 then some (.d (.str (Lib.itoa n)), []) else none
  | _, _ => none
def xTrim : TF
  | [.d (.str s), .d (.str c)], [] => if s.length ≤ 9223372036854775807 ∧ c.length < 4294967281 ∧ c.all (fun b => decide (b.toNat < 128)) = true then some (.d (.str (Lib.trimS s c)), []) else none
  | _, _ => none
def xContains : TF
  | [.d (.str s), .d (.str [c])], [] => some (.d (.bool (decide (0 ≤ Lib.indexByte s c))), [])
  | _, _ => none
def strsOf : List D → Option (List (List UInt8))
  | [] => some []
  | .str s :: r => match strsOf r with | some l => some (s :: l) | none => none
  | _ => none
def xJoin : TF
  | [.d (.sl 1 es), .d (.str c)], [] => match strsOf es with
    | some l => if l.length ≤ 140737488355328 ∧ (Lib.join l c).length ≤ 140737488355328 then some (.d (.str (Lib.join l c)), []) else none
    | none => none
  | _, _ => none
noncomputable def xSortItem : TF := xSort Tryz.prog kp0 43
noncomputable def xSortId : TF := xSort Tryz.prog kp0 41
noncomputable def xL : List (Nat × TF) := [(95, xItoa), (66, xTrim), (70, xJoin), (123, xCheck), (98, xStr), (30, xSortItem), (67, xSortId), (39, xContains)]
noncomputable def xB : CF := xOf xL

/-- What is asked of the world in which all begins. -/
structure StW (w0 : World) : Prop where
  m : ∃ m, w0.cell? ⟨0, 0, none⟩ = some (.int .i64 m)
  tab : ∀ w : World, (∀ b, b < w0.heap.size → w.heap[b]? = w0.heap[b]?) → Lib.TabIs Tryz.prog w "internal/strconv.uint64pow10" .u64 Lib.pow10Tab
  u8 : Lib.Utf8Tabs 1 2 w0

theorem StW.zero {w0 : World} (h : StW w0) : StW { w0 with drawn := 0 } where
  m := h.m -- 0
  tab := h.tab -- 
  u8 := h.u8 -- 1 2

theorem below_grow (w : World) (k : Nat) (os : Array Go.Obj) : Below w.heap.size w (Go.Sort.grow (w.drewN k) os) :=
  ⟨rfl, rfl, rfl, by simp [Go.Sort.grow, World.drewN], fun b hb => by
    have hb' : b < (w.drewN k).heap.size := hb
    simp only [Go.Sort.grow]
    rw [Array.getElem?_append_left hb']
    rfl⟩
section
variable {w0 : World}
theorem strArg {F : Nat → Prop} {w : World} {G : Nat → Value} {R : List (Nat × En)} {v : Value} {s : List UInt8} (h : PRep F w G R v (.d (.str s))) : v = .string ⟨⟨s⟩⟩ := PRep.toV (p := .d (.str s)) h rfl

theorem xItoa_ok (hw : StW w0) : XOK Tryz.prog w0 95 xItoa := by
  intro h0 ps R p R1 h F G w vs hH hl hv
  have hz : ∀ b, b < w0.heap.size → w.heap[b]? = w0.heap[b]? := fun b hb => (hH.z b hb).2
  unfold xItoa at h
  split at h
  · rename_i n
    split at h
    · rename_i hn
      simp only [Option.some.injEq, Prod.mk.injEq] at h
      obtain ⟨rfl, rfl⟩ := h
      match vs, hl, hv with
      | [v], _, hv =>
        have hp := hv 0 v _ rfl rfl
        have e : v = .int .i64 n := PRep.toV (p := .d (.int .i64 n)) hp rfl
        subst e
        refine out_plain h0 hH (enters Tryz.func95 (by kernel_rfl) (by kernel_rfl) _ w) ?_
        exact (Tryz.strconv_Itoa n hn.1 hn.2 w (hw.tab w hz)).mono fun e w' ⟨he, k, os, hw'⟩ => ⟨_, he, by rw [hw']; exact below_grow _ _ _, fun F G => .d (.str _)⟩
    · cases h
  · cases h
theorem xTrim_ok : XOK Tryz.prog w0 66 xTrim := by
  intro h0 ps R p R1 h F G w vs hH hl hv
  unfold xTrim at h
  split at h
  · rename_i s c
    split at h
    · rename_i hc
      simp only [Option.some.injEq, Prod.mk.injEq] at h
      obtain ⟨rfl, rfl⟩ := h
      match vs, hl, hv with
      | [v, u], _, hv =>
        have e1 : v = .string ⟨⟨s⟩⟩ := strArg (hv 0 v _ rfl rfl)
        have e2 : u = .string ⟨⟨c⟩⟩ := strArg (hv 1 u _ rfl rfl)
        subst e1
        subst e2
        refine out_plain h0 hH (enters Tryz.func66 (by kernel_rfl) (by kernel_rfl) _ w) ?_
        exact (Go.Proofs.Any.strings_Trim_laid Tryz.lays160 (by kernel_rfl) ⟨⟨s⟩⟩ ⟨⟨c⟩⟩ w (by simpa [ByteArray.size] using hc.1) (by simpa [ByteArray.size] using hc.2.1) (Go.Proofs.ascii_of_all hc.2.2)).mono fun e w' ⟨he, hb⟩ => ⟨_, he, hb, fun F G => .d (.str _)⟩
    · cases h
  · cases h
theorem xContains_ok : XOK Tryz.prog w0 39 xContains := by
  intro h0 ps R p R1 h F G w vs hH hl hv
  unfold xContains at h
  split at h
  · rename_i s c
    simp only [Option.some.injEq, Prod.mk.injEq] at h
    obtain ⟨rfl, rfl⟩ := h
    match vs, hl, hv with
    | [v, u], _, hv =>
      have e1 : v = .string ⟨⟨s⟩⟩ := strArg (hv 0 v _ rfl rfl)
      have e2 : u = .string ⟨⟨[c]⟩⟩ := strArg (hv 1 u _ rfl rfl)
      subst e1
      subst e2
      refine out_plain h0 hH (enters Tryz.func39 (by kernel_rfl) (by kernel_rfl) _ w) ?_
      exact (Tryz.strings_Contains_one ⟨⟨s⟩⟩ c w).mono fun e w' ⟨he, hb⟩ => ⟨_, he, by rw [hb]; exact Below.refl _ _, fun F G => .d (.bool _)⟩
  · cases h
theorem strsOf_spec : ∀ (es : List D) (l : List (List UInt8)), strsOf es = some l → es = l.map D.str
  | [], l, h => by simp [strsOf] at h; subst h; rfl
  | x :: es, l, h => by
    cases x <;> try (simp [strsOf] at h; done)
    rename_i s
    simp only [strsOf] at h
    split at h
    · rename_i l' hl
      simp at h
      subst h
      rw [strsOf_spec es l' hl]
      rfl
    · cases h
theorem xJoin_ok : XOK Tryz.prog w0 70 xJoin := by
  intro h0 ps R p R1 h F G w vs hH hl hv
  unfold xJoin at h
  split at h
  · rename_i es c
    split at h
    · rename_i l hes
      have hes := strsOf_spec es l hes
      subst hes
      split at h
      · rename_i hc
        simp only [Option.some.injEq, Prod.mk.injEq] at h
        obtain ⟨rfl, rfl⟩ := h
        match vs, hl, hv with
        | [v, u], _, hv =>
          have h1 := hv 0 v _ rfl rfl
          have e2 : u = .string ⟨⟨c⟩⟩ := strArg (hv 1 u _ rfl rfl)
          subst e2
          refine out_plain h0 hH (enters Tryz.func70 (by kernel_rfl) (by kernel_rfl) _ w) ?_
          cases h1 with
          | d h1 =>
            generalize hes : l.map D.str = es at h1
            cases h1 with
            | slE a k cap =>
              have : l = [] := by simpa using hes
              subst this
              exact (Tryz.strings_Join_none a cap ⟨⟨c⟩⟩ w).mono fun e w' ⟨he, hb⟩ => ⟨_, he, hb ▸ Below.refl _ _, fun F G => .d (.str _)⟩
            | slN b off k cap es f hcap hb hk hcell hw hr =>
              subst hes
              have hj := Tryz.strings_Join b off cap (l.map fun x => ⟨⟨x⟩⟩) ⟨⟨c⟩⟩ w (fun j x hx => by
                rw [List.getElem?_map] at hx
                cases hi : l[j]? with
                | none => rw [hi] at hx; cases hx
                | some s =>
                  rw [hi] at hx
                  cases hx
                  have hjl : j < l.length := (List.getElem?_eq_some_iff.1 hi).1
                  rw [hw j (by simpa using hjl)]
                  have := hr j 0 (.str s) (.str s) (by rw [List.getElem?_map, hi]; rfl) rfl
                  simp only [Nat.mul_one, Nat.add_zero] at this
                  rw [this.toVc rfl]) (hH.bnd b hb) (by simpa using hc.1) (by simpa using hcap) (by simpa [Function.comp_def] using hc.2)
              simp only [List.length_map] at hj ⊢
              have e : (List.map (fun x => x.data.toList) (List.map (fun x => (⟨⟨x⟩⟩ : ByteArray)) l)) = l := by simp [Function.comp_def]
              rw [e] at hj
              exact hj.mono fun e w' ⟨he, hb⟩ => ⟨_, he, hb, fun F G => .d (.str _)⟩
      · cases h
    · cases h
  · cases h
set_option maxRecDepth 100000 in
theorem xSortItem_ok (w0 : World) : XOK Tryz.prog w0 30 xSortItem :=
  xSort_ok (kp := kp0) (fun w => noX_ok _ w) Tryz.sort30 (by kernel_rfl) (fun vs w => enters Tryz.func30 (by kernel_rfl) (by kernel_rfl) vs w) (ty := 43) (k := 6) (by kernel_rfl) (fun w => run_isAgg (d := _) (show Tryz.prog.underlying (Tryz.sort30_ren.t 24) = some _ from Tryz.underlying43) w) (run_sizeOf (by kernel_rfl)) w0
set_option maxRecDepth 100000 in
theorem xSortId_ok (w0 : World) : XOK Tryz.prog w0 67 xSortId :=
  xSort_ok (kp := kp0) (fun w => noX_ok _ w) Tryz.sort67 (by kernel_rfl) (fun vs w => enters Tryz.func67 (by kernel_rfl) (by kernel_rfl) vs w) (ty := 41) (k := 3) (by kernel_rfl) (fun w => run_isAgg (d := _) (show Tryz.prog.underlying (Tryz.sort67_ren.t 24) = some _ from Tryz.underlying41) w) (run_sizeOf (by kernel_rfl)) w0
theorem xB_ok {w1 : World} (hw1 : StW w1) : CFOK Tryz.prog { w1 with drawn := 0 } xB := by
  have hw := hw1.zero
  exact XAll.ok rfl (.cons (xItoa_ok hw) (.cons xTrim_ok (.cons xJoin_ok (.cons xCheck_ok (.cons xStr_ok (.cons (xSortItem_ok _) (.cons (xSortId_ok _) (.cons xContains_ok .nil))))))))
end
end Pi

/- The seat's runs. -/
namespace Pi
open Go Go.Proofs
set_option maxRecDepth 100000
/-- Told functions; those of the library are told as they are. -/
structure XF where
  cf : CF
  eq : ∀ f, memN f xsB = true → ∀ ps R, cf f ps R = xB f ps R
abbrev kpT (X : XF) : Cfg := ⟨kpF, xsT, X.cf⟩
def dcT (f id : Nat) : Nat := match lk clsTab f with | some l => (lk l id).getD 2 | none => 2
theorem dcOK : clsAll dcT 0 Tryz.prog.funcs.toList = true := by kernel_rfl
noncomputable abbrev PR := Tryz.prog
/-- A round of a loop. -/
noncomputable def roundL (H : List (FuncId × KF1)) (hk : List (Nat × (S → K (PX × S)))) (f id : Nat) (s : S) : K (PX × S) :=
  roundK (pexecK PR (runK PR kp0 dcT H 60 60) (kpF f) hk (dcT f) 60 (loopOf PR f id)) (kpF f id) s
/-- A function's body. -/
noncomputable def bodyF (H : List (FuncId × KF1)) (hk : List (Nat × (S → K (PX × S)))) (f : Nat) (ps : List P) (R : List (Nat × En)) : K (P × List (Nat × En)) :=
  bodyK PR (runK PR kp0 dcT H 60 60) kp0 hk dcT 60 f ps R
/-- What a function does. -/
def FD (X : XF) (f : Nat) (h : KF1) : Prop := FOK PR (kpT X) f h
def HD (X : XF) (H : List (FuncId × KF1)) : Prop := HOK PR (kpT X) H
/-- What a function's loop does. -/
def LD (X : XF) (f id : Nat) (g : S → K (PX × S)) : Prop := ∀ s, KW (g s) (fun x => Ev fun a b => ploop (pexec PR (runF PR (kpT X) a b) (kpF f) a (loopOf PR f id)) (kpF f id) a s = some x)
theorem HD.nil {X : XF} : HD X [] := HOK.nil
theorem HD.cons {X : XF} {f : Nat} {h : KF1} {H : List (FuncId × KF1)} (hf : FD X f h) (hH : HD X H) : HD X ((f, h) :: H) := HOK.cons hf hH
inductive LDs (X : XF) (f : Nat) : List (Nat × (S → K (PX × S))) → Prop
  | nil : LDs X f []
  | cons {id : Nat} {g : S → K (PX × S)} {r : List (Nat × (S → K (PX × S)))} (h : LD X f id g) (hr : LDs X f r) : LDs X f ((id, g) :: r)
theorem LDs.get {X : XF} {f : Nat} {hk : List (Nat × (S → K (PX × S)))} (h : LDs X f hk) : ∀ id g, lk hk id = some g → LD X f id g := by
  induction h with
  | nil => exact noLoops
  | cons h hr ih => exact oneLoop h ih
theorem FD.mk {X : XF} {H : List (FuncId × KF1)} {hk : List (Nat × (S → K (PX × S)))} {f : Nat} {h : KF1} (hu : uniq PR f = true) (hH : HD X H) (hl : LDs X f hk) (hb : ∀ ps R post, h ps R post → bodyF H hk f ps R post) : FD X f h :=
  FOK.mk dcOK hH hu hl.get (fun ps R post hp => by
    have := hb ps R post hp
    unfold bodyF at this
    rw [runK_X PR kpF xsT _ X.cf dcT H 60 60] at this
    exact this)
/-- By parameters: a head, what is asked, what comes out. -/
theorem LD.par {X : XF} {H : List (FuncId × KF1)} {hk : List (Nat × (S → K (PX × S)))} {f id : Nat} {g : S → K (PX × S)} (hu : uniq PR f = true) (hc : clsOK (dcT f) (loopOf PR f id) = true) (hH : HD X H) (hl : LDs X f hk)
    {A B : Type} (hd : A → B → S) (Inv : A → B → Prop) (mu : A → B → Nat) (Out : A → PX × S → Prop)
    (hr : ∀ a b, Inv a b → roundL H hk f id (hd a b) (roundPost (mu a b) (fun m s => ∃ b', s = hd a b' ∧ Inv a b' ∧ m = mu a b') (Out a)))
    (hg : ∀ s post, g s post → ∃ a b, s = hd a b ∧ Inv a b ∧ ∀ x, Out a x → post x) : LD X f id (loopHook (kpF f id) g) := by
  refine loopHook_ok fun s0 post hp => ?_
  obtain ⟨a, b, rfl, h1, h2⟩ := hg s0 post hp
  obtain ⟨x, g1, g2⟩ := loop_ok (keep := kpF f id) (kp1 := kpF f) (O := Out a) dcOK hH hc (fun d hd h hh => by
    have := hl.get _ _ hh
    unfold LD at this
    rwa [loopOf_in hu hd] at this) (I := fun m s => ∃ b', s = hd a b' ∧ Inv a b' ∧ m = mu a b') (fun n s hs => by
      obtain ⟨b', rfl, h3, rfl⟩ := hs
      have := hr a b' h3
      unfold roundL at this
      rw [runK_X PR kpF xsT _ X.cf dcT H 60 60] at this
      exact this) (mu a b) (hd a b) ⟨b, rfl, h1, rfl⟩
  exact ⟨x, g2, h2 x g1⟩
theorem FD.weaken {X : XF} {f : Nat} {h1 h2 : KF1} (h : FD X f h1) (hw : ∀ ps R post, h2 ps R post → h1 ps R post) : FD X f h2 := fun ps R post hp => h ps R post (hw ps R post hp)
/-- A told function of the library. -/
theorem FD.ofX {X : XF} {f : Nat} {fn : Func} {h : KF1} (hfn : PR.funcs[f]? = some fn) (hx : memN f xsT = true) (hx2 : memN f xsB = true) (hb : ∀ ps R post, h ps R post → ∃ x, xB f ps R = some x ∧ post x) : FD X f h :=
  FOK.ofX hfn hx fun ps R post hp => by
    obtain ⟨x, h1, h2⟩ := hb ps R post hp
    exact ⟨x, by rw [← h1]; exact X.eq f hx2 ps R, h2⟩
/-- A run, of what a function does. -/
theorem FD.run {X : XF} {f : Nat} {h : KF1} (hf : FD X f h) {ps : List P} {R : List (Nat × En)} {y : P × List (Nat × En)} (hp : h ps R (fun x => x = y)) : ∃ lf k, runF PR (kpT X) lf k f ps R = some y := by
  obtain ⟨x, h1, h2⟩ := hf ps R _ hp
  subst h2
  exact h1.some
/-- Functions that rest on no told ones. -/
def FC (f : Nat) (h : KF1) : Prop := FOK PR kp0 f h
def HC (H : List (FuncId × KF1)) : Prop := HOK PR kp0 H
theorem HC.nil : HC [] := HOK.nil
theorem HC.cons {f : Nat} {h : KF1} {H : List (FuncId × KF1)} (hf : FC f h) (hH : HC H) : HC ((f, h) :: H) := HOK.cons hf hH
theorem FC.mk {H : List (FuncId × KF1)} {f : Nat} {h : KF1} (hu : uniq PR f = true) (hH : HC H) (hb : ∀ ps R post, h ps R post → bodyF H [] f ps R post) : FC f h :=
  FOK.mk dcOK hH hu noLoops hb
noncomputable def xBase : XF := ⟨xB, fun _ _ _ _ => rfl⟩
end Pi

/- Stamp: vectors, plain laws. -/
namespace Pi

/-- How many numbers are left when the noughts at the end go: of the first k. -/
def pln (l : List Int) : Nat → Nat
  | 0 => 0
  | k + 1 => if l.getD k 0 = 0 then pln l k else k + 1
def plainV (l : List Int) : List Int := l.take (pln l l.length)
def rowV (n : Nat) (f : Nat → Int) : List Int := (List.range n).map f
@[simp] theorem rowV_len (n : Nat) (f : Nat → Int) : (rowV n f).length = n := by simp [rowV]
theorem pln_le (l : List Int) : ∀ k, pln l k ≤ k
  | 0 => Nat.le_refl 0
  | k + 1 => by
    have := pln_le l k
    unfold pln
    split <;> omega
@[simp] theorem plainV_len (l : List Int) : (plainV l).length = pln l l.length := by
  have := pln_le l l.length
  simp [plainV]; omega
theorem rowV_get (n : Nat) (f : Nat → Int) (i : Nat) : (rowV n f).getD i 0 = if i < n then f i else 0 := by
  simp only [rowV, List.getD_eq_getElem?_getD, List.getElem?_map]
  split
  · rename_i h; simp [h]
  · rename_i h; simp [h]
theorem ext_get {a b : List Int} (hl : a.length = b.length) (h : ∀ i, a.getD i 0 = b.getD i 0) : a = b := by
  apply List.ext_getElem hl
  intro i h1 h2
  have := h i
  simpa [List.getD_eq_getElem?_getD, h1, h2] using this
theorem getD_ge {v : List Int} {i : Nat} (h : v.length ≤ i) : v.getD i 0 = 0 := by
  simp [List.getD_eq_getElem?_getD, List.getElem?_eq_none h]
end Pi

/- Stamp: what the runs of its small functions ask. -/
namespace Pi
open Go Go.Proofs
set_option maxRecDepth 100000
set_option maxHeartbeats 0
abbrev idD (t r i : Int) : D := .agg [.int .i64 t, .int .i64 r, .int .i64 i]
abbrev stD (t r : Int) : D := .agg [.int .i64 t, .int .i64 r]
def rightId (t r i : Int) : Bool := decide (1 ≤ t ∧ t ≤ 1099511627776 ∧ 1 ≤ r ∧ r ≤ 16 ∧ 0 ≤ i ∧ i ≤ 400000)
theorem vcRightId (t r i : Int) (post : P × List (Nat × En) → Prop) : (bif decide (t ≥ (1 : Int)) then bif decide (t ≤ (1099511627776 : Int)) then bif decide (r ≥ (1 : Int)) then bif decide (r ≤ (16 : Int)) then bif decide (i ≥ (0 : Int)) then post (P.d (D.bool (decide (i ≤ (400000 : Int)))), []) else post (P.d (D.bool false), []) else post (P.d (D.bool false), []) else post (P.d (D.bool false), []) else post (P.d (D.bool false), []) else post (P.d (D.bool false), [])) = (bodyF [] [] 47 [.d (idD t r i)] []) post := by kernel_rfl
def hRightId : KF1 := fun ps R post => ∃ t r i, ps = [.d (idD t r i)] ∧ R = [] ∧ post (.d (.bool (rightId t r i)), [])
def numD (l : List Int) : List D := l.map (D.int .i64)
end Pi

/- Stamp: the small functions. -/
namespace Pi
open Go Go.Proofs
set_option maxRecDepth 100000
variable {X : XF}
theorem leafB {post : P × List (Nat × En) → Prop} {a b : Bool} {R : List (Nat × En)} (hp : post (P.d (D.bool a), R)) (h : a = b) : post (P.d (D.bool b), R) := h ▸ hp
theorem okRightId : FD X 47 hRightId := FD.mk (H := []) (by kernel_rfl) .nil .nil (by
  intro ps R post hh
  obtain ⟨t, r, i, rfl, rfl, hp⟩ := hh
  rw [← vcRightId]
  repeat' (first | refine condI (fun _ => ?_) (fun _ => ?_))
  all_goals exact leafB hp (by simp only [decide_eq_true_eq, decide_eq_false_iff_not, decide_eq_decide, rightId] at *; omega))
@[simp] theorem numD_len (l : List Int) : (numD l).length = l.length := by simp [numD]
theorem numD_nth {l : List Int} {i : Nat} (h : i < l.length) : D.nth (numD l) i = .int .i64 (l.getD i 0) := by
  simp [D.nth, numD, h]
end Pi

/- Tree: comparing: what the runs ask. -/
namespace Pi
open Go Go.Proofs
set_option maxRecDepth 100000
set_option maxHeartbeats 0
def cmpI (x y : Int) : Int := if x < y then -1 else if x > y then 1 else 0
def orI (x y : Int) : Int := if x ≠ 0 then x else y
def cmpS (t r t' r' : Int) : Int := orI (cmpI t t') (cmpI r r')
def cmpId (t r i t' r' i' : Int) : Int := orI (cmpS t r t' r') (cmpI i i')
def befS (t r t' r' : Int) : Bool := decide (t < t' ∨ t = t' ∧ r < r')
abbrev itD (t r i : Int) (p : List UInt8) (d b : Bool) : D := .agg [.int .i64 t, .int .i64 r, .int .i64 i, .str p, .bool d, .bool b]
theorem vcCompare (x y : Int) (post : P × List (Nat × En) → Prop) : (bif x != x then bif y != y then post (P.d (D.int IntKind.i64 (0 : Int)), []) else post (P.d (D.int IntKind.i64 (-1 : Int)), []) else bif y != y then post (P.d (D.int IntKind.i64 (1 : Int)), []) else bif decide (x < y) then post (P.d (D.int IntKind.i64 (-1 : Int)), []) else bif decide (x > y) then post (P.d (D.int IntKind.i64 (1 : Int)), []) else post (P.d (D.int IntKind.i64 (0 : Int)), [])) = (bodyF [] [] 94 [.d (.int .i64 x), .d (.int .i64 y)] []) post := by kernel_rfl
theorem vcCompareS (x y : List UInt8) (post : P × List (Nat × En) → Prop) : (bif !x == x then bif !y == y then post (P.d (D.int IntKind.i64 (0 : Int)), []) else post (P.d (D.int IntKind.i64 (-1 : Int)), []) else bif !y == y then post (P.d (D.int IntKind.i64 (1 : Int)), []) else bif Op.bytesLess x y then post (P.d (D.int IntKind.i64 (-1 : Int)), []) else bif !(Op.bytesLess x y || x == y) then post (P.d (D.int IntKind.i64 (1 : Int)), []) else post (P.d (D.int IntKind.i64 (0 : Int)), [])) = (bodyF [] [] 32 [.d (.str x), .d (.str y)] []) post := by kernel_rfl
theorem vcOr (x y : Int) (post : P × List (Nat × En) → Prop) : (bif D.iVal (D.nth [D.int IntKind.i64 x, D.int IntKind.i64 y] 0) != (0 : Int) then post (P.d (D.int IntKind.i64 (D.iVal (D.nth [D.int IntKind.i64 x, D.int IntKind.i64 y] 0))), []) else bif D.iVal (D.nth [D.int IntKind.i64 x, D.int IntKind.i64 y] 1) != (0 : Int) then post (P.d (D.int IntKind.i64 (D.iVal (D.nth [D.int IntKind.i64 x, D.int IntKind.i64 y] 1))), []) else post (P.d (D.int IntKind.i64 (0 : Int)), [])) = (bodyF [] [] 92 [.d (.sl 1 [.int .i64 x, .int .i64 y])] []) post := by kernel_rfl
theorem vcBefore (t r t' r' : Int) (post : P × List (Nat × En) → Prop) : (bif decide (t < t') then post (P.d (D.bool true), []) else bif t == t' then post (P.d (D.bool (decide (r < r'))), []) else post (P.d (D.bool false), [])) = (bodyF [] [] 108 [.d (stD t r), .d (stD t' r')] []) post := by kernel_rfl
def hCompare : KF1 := fun ps R post => ∃ x y, ps = [.d (.int .i64 x), .d (.int .i64 y)] ∧ R = [] ∧ post (.d (.int .i64 (cmpI x y)), [])
def hOr : KF1 := fun ps R post => ∃ x y, ps = [.d (.sl 1 [.int .i64 x, .int .i64 y])] ∧ R = [] ∧ post (.d (.int .i64 (orI x y)), [])
def hBefore : KF1 := fun ps R post => ∃ t r t' r', ps = [.d (stD t r), .d (stD t' r')] ∧ R = [] ∧ post (.d (.bool (befS t r t' r')), [])
def hCmp : KF1 := fun ps R post => ∃ t r t' r', ps = [.d (stD t r), .d (stD t' r')] ∧ R = [] ∧ post (.d (.int .i64 (cmpS t r t' r')), [])
def hCmpId : KF1 := fun ps R post => ∃ t r i t' r' i', ps = [.d (idD t r i), .d (idD t' r' i')] ∧ R = [] ∧ post (.d (.int .i64 (cmpId t r i t' r' i')), [])
theorem vcCmp (t r t' r' : Int) (post : P × List (Nat × En) → Prop) : (∃ (x : Int), ∃ (y : Int), [P.d (D.int IntKind.i64 t), P.d (D.int IntKind.i64 t')] = [P.d (D.int IntKind.i64 x), P.d (D.int IntKind.i64 y)] ∧ EqR [] [] ∧ ∃ (x_1 : Int), ∃ (y_1 : Int), [P.d (D.int IntKind.i64 r), P.d (D.int IntKind.i64 r')] = [P.d (D.int IntKind.i64 x_1), P.d (D.int IntKind.i64 y_1)] ∧ EqR [] [] ∧ ∃ (x_2 : Int), ∃ (y_2 : Int), [P.d (D.sl 1 [D.int IntKind.i64 (cmpI x y), D.int IntKind.i64 (cmpI x_1 y_1)])] = [P.d (D.sl 1 [D.int IntKind.i64 x_2, D.int IntKind.i64 y_2])] ∧ EqR [] [] ∧ post (P.d (D.int IntKind.i64 (orI x_2 y_2)), [])) = (bodyF [(94, hCompare), (92, hOr)] [] 93 [.d (stD t r), .d (stD t' r')] []) post := by kernel_rfl
theorem vcCmpR (t r t' r' : Int) (post : P × List (Nat × En) → Prop) : (∃ (t_1 : Int), ∃ (r_1 : Int), ∃ (t'_1 : Int), ∃ (r'_1 : Int), [P.d (D.agg [D.int IntKind.i64 t, D.int IntKind.i64 r]), P.d (D.agg [D.int IntKind.i64 t', D.int IntKind.i64 r'])] = [P.d (D.agg [D.int IntKind.i64 t_1, D.int IntKind.i64 r_1]), P.d (D.agg [D.int IntKind.i64 t'_1, D.int IntKind.i64 r'_1])] ∧ EqR [] [] ∧ bif befS t_1 r_1 t'_1 r'_1 then post (P.d (D.int IntKind.i64 (-1 : Int)), []) else ∃ (t_2 : Int), ∃ (r_2 : Int), ∃ (t'_2 : Int), ∃ (r'_2 : Int), [P.d (D.agg [D.int IntKind.i64 t', D.int IntKind.i64 r']), P.d (D.agg [D.int IntKind.i64 t, D.int IntKind.i64 r])] = [P.d (D.agg [D.int IntKind.i64 t_2, D.int IntKind.i64 r_2]), P.d (D.agg [D.int IntKind.i64 t'_2, D.int IntKind.i64 r'_2])] ∧ EqR [] [] ∧ bif befS t_2 r_2 t'_2 r'_2 then post (P.d (D.int IntKind.i64 (1 : Int)), []) else post (P.d (D.int IntKind.i64 (0 : Int)), [])) = (bodyF [(108, hBefore)] [] 82 [.d (stD t r), .d (stD t' r')] []) post := by kernel_rfl
theorem vcCmpId (t r i t' r' i' : Int) (post : P × List (Nat × En) → Prop) : (∃ (t_1 : Int), ∃ (r_1 : Int), ∃ (t'_1 : Int), ∃ (r'_1 : Int), [P.d (D.agg [D.int IntKind.i64 t, D.int IntKind.i64 r]), P.d (D.agg [D.int IntKind.i64 t', D.int IntKind.i64 r'])] = [P.d (D.agg [D.int IntKind.i64 t_1, D.int IntKind.i64 r_1]), P.d (D.agg [D.int IntKind.i64 t'_1, D.int IntKind.i64 r'_1])] ∧ EqR [] [] ∧ ∃ (x : Int), ∃ (y : Int), [P.d (D.int IntKind.i64 i), P.d (D.int IntKind.i64 i')] = [P.d (D.int IntKind.i64 x), P.d (D.int IntKind.i64 y)] ∧ EqR [] [] ∧ ∃ (x_1 : Int), ∃ (y_1 : Int), [P.d (D.sl 1 [D.int IntKind.i64 (cmpS t_1 r_1 t'_1 r'_1), D.int IntKind.i64 (cmpI x y)])] = [P.d (D.sl 1 [D.int IntKind.i64 x_1, D.int IntKind.i64 y_1])] ∧ EqR [] [] ∧ post (P.d (D.int IntKind.i64 (orI x_1 y_1)), [])) = (bodyF [(94, hCompare), (92, hOr), (93, hCmp)] [] 68 [.d (idD t r i), .d (idD t' r' i')] []) post := by kernel_rfl
theorem vcCmpIdR (t r i t' r' i' : Int) (post : P × List (Nat × En) → Prop) : (∃ (t_1 : Int), ∃ (r_1 : Int), ∃ (t'_1 : Int), ∃ (r'_1 : Int), [P.d (D.agg [D.int IntKind.i64 t, D.int IntKind.i64 r]), P.d (D.agg [D.int IntKind.i64 t', D.int IntKind.i64 r'])] = [P.d (D.agg [D.int IntKind.i64 t_1, D.int IntKind.i64 r_1]), P.d (D.agg [D.int IntKind.i64 t'_1, D.int IntKind.i64 r'_1])] ∧ EqR [] [] ∧ bif cmpS t_1 r_1 t'_1 r'_1 != (0 : Int) then post (P.d (D.int IntKind.i64 (cmpS t_1 r_1 t'_1 r'_1)), []) else bif decide (i < i') then post (P.d (D.int IntKind.i64 (-1 : Int)), []) else bif decide (i > i') then post (P.d (D.int IntKind.i64 (1 : Int)), []) else post (P.d (D.int IntKind.i64 (0 : Int)), [])) = (bodyF [(82, hCmp)] [] 62 [.d (idD t r i), .d (idD t' r' i')] []) post := by kernel_rfl
end Pi

/- Tree: comparing. -/
namespace Pi
open Go Go.Proofs
set_option maxRecDepth 100000
theorem leafIc {post : P × List (Nat × En) → Prop} {k : IntKind} {a b : Int} {R : List (Nat × En)} (hp : post (P.d (D.int k a), R)) (h : a = b) : post (P.d (D.int k b), R) := h ▸ hp
theorem leafBc {post : P × List (Nat × En) → Prop} {a b : Bool} {R : List (Nat × En)} (hp : post (P.d (D.bool a), R)) (h : a = b) : post (P.d (D.bool b), R) := h ▸ hp
theorem bne_self_i (x : Int) : (x != x) = false := by simp
theorem bCompare : ∀ ps R post, hCompare ps R post → bodyF [] [] 94 ps R post := by
  intro ps R post hh
  obtain ⟨x, y, rfl, rfl, hp⟩ := hh
  rw [← vcCompare]
  refine condF (bne_self_i x) (condF (bne_self_i y) ?_)
  refine condI (fun h => ?_) fun h => condI (fun h' => ?_) fun h' => ?_
  · exact leafIc hp (by have h : x < y := by simpa using h
                        simp [cmpI, h])
  · exact leafIc hp (by have h : ¬ x < y := by simpa using h
                        have h' : x > y := by simpa using h'
                        simp [cmpI, h, h'])
  · exact leafIc hp (by have h : ¬ x < y := by simpa using h
                        have h' : ¬ x > y := by simpa using h'
                        simp [cmpI, h, h'])
def cmpB (x y : List UInt8) : Int := if Op.bytesLess x y = true then -1 else if x = y then 0 else 1
def hCompareS : KF1 := fun ps R post => ∃ x y, ps = [.d (.str x), .d (.str y)] ∧ R = [] ∧ post (.d (.int .i64 (cmpB x y)), [])
theorem bCompareS : ∀ ps R post, hCompareS ps R post → bodyF [] [] 32 ps R post := by
  intro ps R post hh
  obtain ⟨x, y, rfl, rfl, hp⟩ := hh
  rw [← vcCompareS]
  refine condF (by simp) (condF (by simp) ?_)
  refine condI (fun h => ?_) fun h => condI (fun h' => ?_) fun h' => ?_
  · exact leafIc hp (by simp [cmpB, h])
  · exact leafIc hp (by
      have h' : ¬ x = y := by simp [h] at h'; simpa using h'
      simp [cmpB, h, h'])
  · exact leafIc hp (by
      have h' : x = y := by simp [h] at h'; simpa using h'
      subst h'
      simp [cmpB, h])
theorem bOr : ∀ ps R post, hOr ps R post → bodyF [] [] 92 ps R post := by
  intro ps R post hh
  obtain ⟨x, y, rfl, rfl, hp⟩ := hh
  rw [← vcOr]
  refine condI (fun h => ?_) fun h => condI (fun h' => ?_) fun h' => ?_
  · exact leafIc hp (by have h : x ≠ 0 := by simpa [D.nth, D.iVal] using h
                        simp [orI, h, D.nth, D.iVal])
  · exact leafIc hp (by have h : x = 0 := by simpa [D.nth, D.iVal] using h
                        simp [orI, h, D.nth, D.iVal])
  · exact leafIc hp (by have h : x = 0 := by simpa [D.nth, D.iVal] using h
                        have h' : y = 0 := by simpa [D.nth, D.iVal] using h'
                        simp [orI, h, h'])
theorem bBefore : ∀ ps R post, hBefore ps R post → bodyF [] [] 108 ps R post := by
  intro ps R post hh
  obtain ⟨t, r, t', r', rfl, rfl, hp⟩ := hh
  rw [← vcBefore]
  refine condI (fun h => ?_) fun h => condI (fun h' => ?_) fun h' => ?_
  · exact leafBc hp (by have h : t < t' := by simpa using h
                        simp [befS, h])
  · exact leafBc hp (by have h' : t = t' := by simpa using h'
                        simp [befS, h'])
  · exact leafBc hp (by have h : ¬ t < t' := by simpa using h
                        have h' : ¬ t = t' := by simpa using h'
                        simp [befS, h']; omega)
theorem bCmp : ∀ ps R post, hCmp ps R post → bodyF [(94, hCompare), (92, hOr)] [] 93 ps R post := by
  intro ps R post hh
  obtain ⟨t, r, t', r', rfl, rfl, hp⟩ := hh
  rw [← vcCmp]
  exact ⟨_, _, rfl, rfl, _, _, rfl, rfl, _, _, rfl, rfl, hp⟩
theorem bCmpId : ∀ ps R post, hCmpId ps R post → bodyF [(94, hCompare), (92, hOr), (93, hCmp)] [] 68 ps R post := by
  intro ps R post hh
  obtain ⟨t, r, i, t', r', i', rfl, rfl, hp⟩ := hh
  rw [← vcCmpId]
  exact ⟨_, _, _, _, rfl, rfl, _, _, rfl, rfl, _, _, rfl, rfl, hp⟩
section
variable {X : XF}
theorem okBefore : FD X 108 hBefore := FD.mk (H := []) (by kernel_rfl) .nil .nil bBefore
theorem okCmpR : FD X 82 hCmp := FD.mk (H := [(108, hBefore)]) (by kernel_rfl) (.cons okBefore .nil) .nil (by
  intro ps R post hh
  obtain ⟨t, r, t', r', rfl, rfl, hp⟩ := hh
  rw [← vcCmpR]
  refine ⟨_, _, _, _, rfl, rfl, condI (fun h => ?_) fun h => ⟨_, _, _, _, rfl, rfl, condI (fun h' => ?_) fun h' => ?_⟩⟩
  all_goals exact leafIc hp (by simp only [befS, decide_eq_true_eq, decide_eq_false_iff_not] at *; simp only [cmpS, orI, cmpI]; (repeat' split) <;> omega))
theorem okCmpIdR : FD X 62 hCmpId := FD.mk (H := [(82, hCmp)]) (by kernel_rfl) (.cons okCmpR .nil) .nil (by
  intro ps R post hh
  obtain ⟨t, r, i, t', r', i', rfl, rfl, hp⟩ := hh
  rw [← vcCmpIdR]
  refine ⟨_, _, _, _, rfl, rfl, condI (fun h => ?_) fun h => condI (fun h' => ?_) fun h' => condI (fun h'' => ?_) fun h'' => ?_⟩
  all_goals exact leafIc hp (by simp only [bne_iff_ne, bne_eq_false_iff_eq, ne_eq, decide_eq_true_eq, decide_eq_false_iff_not] at *; simp only [cmpId, orI, cmpI]; (repeat' split) <;> omega))
end
theorem fcCompare : FC 94 hCompare := FC.mk (H := []) (by kernel_rfl) .nil bCompare
theorem fcCompareS : FC 32 hCompareS := FC.mk (H := []) (by kernel_rfl) .nil bCompareS
theorem fcOr : FC 92 hOr := FC.mk (H := []) (by kernel_rfl) .nil bOr
theorem fcCmp : FC 93 hCmp := FC.mk (H := [(94, hCompare), (92, hOr)]) (by kernel_rfl) (.cons fcCompare (.cons fcOr .nil)) bCmp
theorem fcCmpId : FC 68 hCmpId := FC.mk (H := [(94, hCompare), (92, hOr), (93, hCmp)]) (by kernel_rfl) (.cons fcCompare (.cons fcOr (.cons fcCmp .nil))) bCmpId
/-- A comparing function's answer. -/
theorem FC.cmps {g : Nat} {h : KF1} (hf : FC g h) {x y : D} {i : Int} (hp : h [.d x, .d y] [] (fun z => z = (.d (.int .i64 i), []))) : Cmps PR kp0 g x y i := by
  obtain ⟨z, h1, h2⟩ := hf _ _ _ hp
  subst h2
  exact h1
end Pi

/- Stamp: the loops: what their rounds ask. -/
namespace Pi
open Go Go.Proofs
set_option maxRecDepth 100000
set_option maxHeartbeats 0
abbrev iD (n : Int) : P := .d (.int .i64 n)
end Pi

/- Stamp: the loops. -/
namespace Pi
open Go Go.Proofs
set_option maxRecDepth 100000
variable {X : XF}
theorem incI {k : Int} (h0 : -9223372036854775808 ≤ k) (h1 : k < 9223372036854775807) : decide ((-9223372036854775808 : Int) ≤ k + (1 : Int) ∧ k + (1 : Int) ≤ (9223372036854775807 : Int)) = true := by simp; omega
theorem decT {p : Prop} [Decidable p] (h : p) : decide p = true := by simpa using h
theorem decF {p : Prop} [Decidable p] (h : ¬ p) : decide p = false := by simpa using h
/-- A branch on a proposition. -/
theorem condP {p : Prop} [Decidable p] {A B : Prop} (h1 : p → A) (h2 : ¬ p → B) : cond (decide p) A B := condI (fun h => h1 (by simpa using h)) (fun h => h2 (by simpa using h))
theorem oblP {p : Prop} [Decidable p] {A : Prop} (h1 : p) (h2 : A) : cond (decide p) A False := oblI (by simpa using h1) h2
theorem condN {a b : Int} {A B : Prop} (h1 : a ≠ b → A) (h2 : a = b → B) : cond (a != b) A B := condI (fun h => h1 (by simpa using h)) (fun h => h2 (by simpa using h))
end Pi

/- Stamp: the loops that make rows. -/
namespace Pi
open Go Go.Proofs
set_option maxRecDepth 100000
variable {X : XF}
/-- The first k of a row are told. -/
def Upto (f : Nat → Int) (k : Nat) (o : List Int) : Prop := ∀ i, i < k → o.getD i 0 = f i
theorem Upto.set {f : Nat → Int} {k : Nat} {o : List Int} (h : Upto f k o) (hk : k < o.length) : Upto f (k + 1) (o.set k (f k)) := fun i hi => by
  by_cases e : i = k
  · subst e; simp [List.getD_eq_getElem?_getD, hk]
  · have := h i (by omega)
    simpa [List.getD_eq_getElem?_getD, List.getElem?_set, Ne.symm e] using this
theorem Upto.all {f : Nat → Int} {o : List Int} (h : Upto f o.length o) : o = rowV o.length f := ext_get (by simp) fun i => by
  rw [rowV_get]
  split
  · exact h i (by assumption)
  · exact getD_ge (by omega)
end Pi

/- Stamp: texts: what the runs ask. -/
namespace Pi
open Go Go.Proofs
set_option maxRecDepth 100000
set_option maxHeartbeats 0
def hItoa : KF1 := fun ps R post => ∃ n, ps = [.d (.int .i64 n)] ∧ R = [] ∧ (-9223372036854775808 ≤ n ∧ n ≤ 9223372036854775807) ∧ post (.d (.str (Lib.itoa n)), [])
def textS (t r i : Int) : List UInt8 := Lib.itoa t ++ [46] ++ Lib.itoa r ++ [46] ++ Lib.itoa i
def textId (t r i : Int) : List UInt8 := if rightId t r i = true then textS t r i else []
def hText : KF1 := fun ps R post => ∃ t r i, ps = [.d (idD t r i)] ∧ R = [] ∧ post (.d (.str (textId t r i)), [])
theorem vcText (t r i : Int) (post : P × List (Nat × En) → Prop) : (∃ (t_1 : Int), ∃ (r_1 : Int), ∃ (i_1 : Int), [P.d (D.agg [D.int IntKind.i64 t, D.int IntKind.i64 r, D.int IntKind.i64 i])] = [P.d (D.agg [D.int IntKind.i64 t_1, D.int IntKind.i64 r_1, D.int IntKind.i64 i_1])] ∧ EqR [] [] ∧ bif !rightId t_1 r_1 i_1 then post (P.d (D.str []), []) else ∃ (n : Int), [P.d (D.int IntKind.i64 t)] = [P.d (D.int IntKind.i64 n)] ∧ EqR [] [] ∧ ((-9223372036854775808 : Int) ≤ n ∧ n ≤ (9223372036854775807 : Int)) ∧ bif decide (List.length (Lib.itoa n) + 1 ≤ 9223372036854775807) then ∃ (n_1 : Int), [P.d (D.int IntKind.i64 r)] = [P.d (D.int IntKind.i64 n_1)] ∧ EqR [] [] ∧ ((-9223372036854775808 : Int) ≤ n_1 ∧ n_1 ≤ (9223372036854775807 : Int)) ∧ bif decide (List.length (Lib.itoa n ++ [(46 : UInt8)]) + List.length (Lib.itoa n_1) ≤ 9223372036854775807) then bif decide (List.length (Lib.itoa n ++ [(46 : UInt8)] ++ Lib.itoa n_1) + 1 ≤ 9223372036854775807) then ∃ (n_2 : Int), [P.d (D.int IntKind.i64 i)] = [P.d (D.int IntKind.i64 n_2)] ∧ EqR [] [] ∧ ((-9223372036854775808 : Int) ≤ n_2 ∧ n_2 ≤ (9223372036854775807 : Int)) ∧ bif decide (List.length (Lib.itoa n ++ [(46 : UInt8)] ++ Lib.itoa n_1 ++ [(46 : UInt8)]) + List.length (Lib.itoa n_2) ≤ 9223372036854775807) then post (P.d (D.str (Lib.itoa n ++ [(46 : UInt8)] ++ Lib.itoa n_1 ++ [(46 : UInt8)] ++ Lib.itoa n_2)), []) else False else False else False else False) = (bodyF [(47, hRightId), (95, hItoa)] [] 69 [.d (idD t r i)] []) post := by kernel_rfl
end Pi

/- Stamp: texts. -/
namespace Pi
open Go Go.Proofs
set_option maxRecDepth 100000
variable {X : XF}

theorem okItoa : FD X 95 hItoa := FD.ofX Tryz.func95 (by kernel_rfl) (by kernel_rfl) (by
  intro ps R post hh
  obtain ⟨n, rfl, rfl, hc, hp⟩ := hh
  refine ⟨_, ?_, hp⟩
  show xItoa [.d (.int .i64 n)] [] = _
  exact if_pos hc)

theorem decDigits_len : ∀ u : Nat, (Lib.decDigits u).length ≤ u + 1 := by
  intro u
  induction u using Nat.strongRecOn with
  | _ u ih =>
    rw [Lib.decDigits]
    split
    · simp
    · have := ih (u / 10) (by omega)
      simp only [List.length_append, List.length_cons, List.length_nil]
      omega
theorem itoa_len {n : Int} (h0 : 0 ≤ n) (h1 : n ≤ 1099511627776) : (Lib.itoa n).length ≤ 1099511627777 := by
  unfold Lib.itoa
  rw [if_neg (by omega)]
  have := decDigits_len n.toNat
  omega

theorem okText : FD X 69 hText := FD.mk (H := [(47, hRightId), (95, hItoa)]) (by kernel_rfl) (.cons okRightId (.cons okItoa .nil)) .nil (by
  intro ps R post hh
  obtain ⟨t, r, i, rfl, rfl, hp⟩ := hh
  rw [← vcText]
  refine ⟨_, _, _, rfl, rfl, condI (fun h => ?_) fun h => ?_⟩
  · have h : rightId t r i = false := by simpa using h
    rw [textId, if_neg (by simp [h])] at hp
    exact hp
  · have h : rightId t r i = true := by simpa using h
    rw [textId, if_pos h] at hp
    simp only [rightId, decide_eq_true_eq] at h
    have l1 := itoa_len (n := t) (by omega) (by omega)
    have l2 := itoa_len (n := r) (by omega) (by omega)
    have l3 := itoa_len (n := i) (by omega) (by omega)
    refine ⟨_, rfl, rfl, ⟨by omega, by omega⟩, oblI (by simp; omega) ⟨_, rfl, rfl, ⟨by omega, by omega⟩, oblI (by simp; omega) (oblI (by simp; omega) ⟨_, rfl, rfl, ⟨by omega, by omega⟩, oblI (by simp; omega) hp⟩)⟩⟩)

/-- The id of a text. -/
def parse3 (s : List UInt8) : Option (Int × Int × Int) := match Lib.split s [46] with
  | [a, b, c] => if rightId (atoiV a) (atoiV b) (atoiV c) = true ∧ textS (atoiV a) (atoiV b) (atoiV c) = s then some (atoiV a, atoiV b, atoiV c) else none
  | _ => none
structure SplitOk (s : List UInt8) : Prop where
  len : s.length < 4294967281
  cnt : (Lib.split s [46]).length = Lib.count s [46] + 1
  lim : Lib.count s [46] ≤ 4294967281
  each : ∀ x ∈ Lib.split s [46], x.length ≤ 281474976710656
end Pi

/- Stamp: texts, plain laws. -/
namespace Pi
open Go

/-! splitting at one byte -/
def splitBy (c : UInt8) : List UInt8 → List (List UInt8)
  | [] => [[]]
  | b :: l => if b = c then [] :: splitBy c l else match splitBy c l with | h :: t => (b :: h) :: t | [] => [[b]]
theorem splitK_by (c : UInt8) : ∀ s : List UInt8, Lib.splitK [c] 0 (s.count c) s = splitBy c s
  | [] => rfl
  | b :: l => by
    have ih := splitK_by c l
    by_cases h : b = c
    · subst h
      rw [List.count_cons_self, splitBy, if_pos rfl, Lib.splitK]
      have hix : Lib.index (b :: l) [b] = 0 := by rw [Lib.index]; simp [List.isPrefixOf]
      rw [if_neg (by rw [hix]; decide), hix]
      simp [ih]
    · have hp : ([c] : List UInt8).isPrefixOf (b :: l) = false := by simp [List.isPrefixOf, Ne.symm h]
      have hix : Lib.index (b :: l) [c] = if Lib.index l [c] == -1 then -1 else Lib.index l [c] + 1 := by rw [Lib.index, hp]; simp
      rw [List.count_cons_of_ne (by simpa using h), splitBy, if_neg h]
      cases hk : l.count c with
      | zero =>
        rw [hk] at ih
        rw [← ih]
        rfl
      | succ m =>
        rw [hk] at ih
        have hc1 : Lib.count l [c] = m + 1 := by rw [Lib.count_one, hk]
        by_cases hm : Lib.index l [c] = -1
        · rw [Lib.count_miss hm] at hc1; omega
        · have hge := Lib.index_ge l [c]
          obtain ⟨j, hj⟩ : ∃ j : Nat, Lib.index l [c] = j := ⟨(Lib.index l [c]).toNat, by omega⟩
          rw [Lib.splitK, if_neg (by rw [hj]; simp), hj] at ih
          rw [Lib.splitK, hix, hj]
          have e1 : ((j : Int) == -1) = false := by rw [beq_eq_false_iff_ne]; omega
          have e2 : (((j : Int) + 1) == -1) = false := by rw [beq_eq_false_iff_ne]; omega
          simp only [e1, Bool.false_eq_true, if_false, e2]
          rw [← ih]
          simp only [List.length_singleton, Int.toNat_natCast, Nat.add_zero]
          rw [show ((j : Int) + 1).toNat = j + 1 by omega]
          simp
theorem split_by (c : UInt8) (s : List UInt8) : Lib.split s [c] = splitBy c s := by
  rw [Lib.split, Lib.count_one, splitK_by]
/-- Without the byte: one piece. -/
theorem splitBy_no (c : UInt8) : ∀ s : List UInt8, c ∉ s → splitBy c s = [s]
  | [], _ => rfl
  | b :: l, h => by
    simp at h
    unfold splitBy
    rw [if_neg (Ne.symm h.1), splitBy_no c l h.2]
theorem splitBy_app (c : UInt8) (t : List UInt8) : ∀ s : List UInt8, c ∉ s → splitBy c (s ++ c :: t) = s :: splitBy c t
  | [], _ => by simp [splitBy]
  | b :: l, h => by
    simp at h
    rw [List.cons_append, splitBy, if_neg (Ne.symm h.1), splitBy_app c t l h.2]

/-! numbers -/
def isDig (b : UInt8) : Bool := decide (48 ≤ b.toNat ∧ b.toNat ≤ 57)
def stepV (a : Nat) (b : UInt8) : Nat := a * 10 + (b.toNat - 48)
def numVal (l : List UInt8) : Nat := l.foldl stepV 0
def digitB (k : Nat) : UInt8 := UInt8.ofNat (48 + k)
theorem digitB_nat {k : Nat} (h : k < 10) : (digitB k).toNat = 48 + k := by
  unfold digitB
  rw [UInt8.toNat_ofNat']
  omega
theorem digitB_dig {k : Nat} (h : k < 10) : isDig (digitB k) = true := by
  unfold isDig; rw [digitB_nat h]; simp; omega
theorem dec_small {u : Nat} (h : u < 10) : Lib.decDigits u = [digitB u] := by rw [Lib.decDigits, dif_pos h]; rfl
theorem dec_big {u : Nat} (h : ¬ u < 10) : Lib.decDigits u = Lib.decDigits (u / 10) ++ [digitB (u % 10)] := by rw [Lib.decDigits, dif_neg h]; rfl
theorem numVal_app (l : List UInt8) (b : UInt8) : numVal (l ++ [b]) = stepV (numVal l) b := by simp [numVal]
theorem dec_dig : ∀ u : Nat, ∀ b ∈ Lib.decDigits u, isDig b = true := by
  intro u
  induction u using Nat.strongRecOn with
  | _ u ih =>
    intro b hb
    by_cases h : u < 10
    · rw [dec_small h] at hb; simp at hb; subst hb; exact digitB_dig h
    · rw [dec_big h] at hb
      rcases List.mem_append.1 hb with hb | hb
      · exact ih (u / 10) (by omega) b hb
      · simp at hb; subst hb; exact digitB_dig (by omega)
theorem dec_val : ∀ u : Nat, numVal (Lib.decDigits u) = u := by
  intro u
  induction u using Nat.strongRecOn with
  | _ u ih =>
    by_cases h : u < 10
    · rw [dec_small h]; simp [numVal, stepV, digitB_nat h]
    · rw [dec_big h, numVal_app, ih (u / 10) (by omega), stepV, digitB_nat (by omega)]; omega
theorem dec_ne (u : Nat) : Lib.decDigits u ≠ [] := by
  by_cases h : u < 10
  · rw [dec_small h]; simp
  · rw [dec_big h]; simp
theorem dec_len : ∀ (k u : Nat), u < 10 ^ (k + 1) → (Lib.decDigits u).length ≤ k + 1
  | 0, u, h => by rw [dec_small (by simpa using h)]; simp
  | k + 1, u, h => by
    by_cases hu : u < 10
    · rw [dec_small hu]; simp
    · rw [dec_big hu]
      have := dec_len k (u / 10) (by rw [Nat.div_lt_iff_lt_mul (by omega)]; rw [Nat.pow_succ] at h; exact h)
      simp; omega
theorem numVal_ge : ∀ (l : List UInt8) (a : Nat), a ≤ l.foldl stepV a
  | [], a => Nat.le_refl _
  | b :: l, a => by
    have := numVal_ge l (stepV a b)
    simp only [List.foldl_cons]
    unfold stepV at this ⊢
    omega
theorem parseU : ∀ (l : List UInt8) (a : Nat), (∀ b ∈ l, isDig b = true) → l.foldl stepV a < 18446744073709551616 → Lib.parseUint10 a l = .ok (l.foldl stepV a)
  | [], a, _, _ => rfl
  | b :: l, a, hd, hlt => by
    have hb := hd b (by simp)
    unfold isDig at hb
    simp only [decide_eq_true_eq] at hb
    simp only [List.foldl_cons] at hlt ⊢
    have h1 := numVal_ge l (stepV a b)
    have h2 : stepV a b < 18446744073709551616 := by omega
    have e : a * 10 + (b.toNat - 48) = stepV a b := rfl
    rw [Lib.parseUint10, if_pos hb, if_neg (by unfold stepV at h2; omega), e, if_neg (by omega)]
    exact parseU l _ (fun b hb => hd b (by simp [hb])) hlt
theorem atoi_dec {u : Nat} (h : u < 9223372036854775808) : atoiV (Lib.decDigits u) = u := by
  have hv := dec_val u
  unfold numVal at hv
  have hp := parseU (Lib.decDigits u) 0 (dec_dig u) (by rw [hv]; omega)
  rw [hv] at hp
  unfold atoiV Lib.atoiAll
  cases hd : Lib.decDigits u with
  | nil => exact absurd hd (dec_ne u)
  | cons c r =>
    have hc := dec_dig u c (by rw [hd]; simp)
    unfold isDig at hc
    simp only [decide_eq_true_eq] at hc
    have e1 : ¬ (c.toNat = 43 ∨ c.toNat = 45) := by omega
    have e2 : ¬ c.toNat = 45 := by omega
    rw [hd] at hp
    have hm : Lib.parseMag (c :: r) = .ok u := by rw [Lib.parseMag, if_neg (by simp), hp]
    have e3 : ¬ (¬ c.toNat = 45 ∧ 9223372036854775808 ≤ u) := by omega
    have e4 : ¬ (c.toNat = 45 ∧ 9223372036854775808 < u) := by omega
    dsimp only
    rw [if_neg e1, hm]
    dsimp only
    rw [if_neg e3, if_neg e4, if_neg e2]

theorem itoa_nat (a : Nat) : Lib.itoa (a : Int) = Lib.decDigits a := by unfold Lib.itoa; rw [if_neg (by omega)]; rfl
theorem no46 (a : Nat) : (46 : UInt8) ∉ Lib.decDigits a := fun h => by
  have := dec_dig a 46 h
  simp [isDig] at this
theorem split_text (a b c : Nat) : splitBy 46 (Lib.decDigits a ++ 46 :: (Lib.decDigits b ++ 46 :: Lib.decDigits c)) = [Lib.decDigits a, Lib.decDigits b, Lib.decDigits c] := by
  rw [splitBy_app _ _ _ (no46 a), splitBy_app _ _ _ (no46 b), splitBy_no _ _ (no46 c)]
end Pi

/- Stamp: the document's texts: what the runs ask. -/
namespace Pi
open Go Go.Proofs
set_option maxRecDepth 100000
set_option maxHeartbeats 0
abbrev sD (s : List UInt8) : P := .d (.str s)
end Pi

/- Stamp: the document's texts. -/
namespace Pi
open Go Go.Proofs
set_option maxRecDepth 100000
variable {X : XF}
theorem itoa_len21 {n : Int} (h0 : 0 ≤ n) (h1 : n ≤ 9223372036854775807) : (Lib.itoa n).length ≤ 21 := by
  have h := dec_len 20 n.toNat (by have : (10 : Nat) ^ 21 = 1000000000000000000000 := by decide
                                   omega)
  unfold Lib.itoa
  rw [if_neg (by omega)]
  exact h
theorem takeWhile_stop {α : Type} (p : α → Bool) : ∀ (l : List α), (l.takeWhile p).length < l.length → ∃ x, l[(l.takeWhile p).length]? = some x ∧ p x = false
  | [], h => by simp at h
  | x :: l, h => by
    cases hx : p x with
    | false => refine ⟨x, ?_, hx⟩; simp [List.takeWhile, hx]
    | true =>
      simp only [List.takeWhile, hx, List.length_cons] at h ⊢
      obtain ⟨y, h1, h2⟩ := takeWhile_stop p l (by omega)
      exact ⟨y, by simpa using h1, h2⟩
theorem rightId_lt {a b c : Nat} (h : rightId a b c = true) : a < 10 ^ 15 ∧ b < 10 ^ 15 ∧ c < 10 ^ 15 := by
  simp only [rightId, decide_eq_true_eq] at h
  have : (10 : Nat) ^ 15 = 1000000000000000 := by decide
  omega
theorem textS_nat (a b c : Nat) : textS a b c = Lib.decDigits a ++ 46 :: (Lib.decDigits b ++ 46 :: Lib.decDigits c) := by
  simp [textS, itoa_nat]
theorem parse3_text {a b c : Nat} (h : rightId a b c = true) : parse3 (textS a b c) = some ((a : Int), (b : Int), (c : Int)) := by
  obtain ⟨h1, h2, h3⟩ := rightId_lt h
  have p15 : (10 : Nat) ^ 15 = 1000000000000000 := by decide
  unfold parse3
  rw [split_by, textS_nat, split_text]
  simp only [atoi_dec (u := a) (by omega), atoi_dec (u := b) (by omega), atoi_dec (u := c) (by omega)]
  rw [if_pos ⟨h, by rw [textS_nat]⟩]
theorem parse3_some {s : List UInt8} {t r i : Int} (h : parse3 s = some (t, r, i)) : rightId t r i = true ∧ textS t r i = s := by
  unfold parse3 at h
  split at h
  · split at h
    · rename_i hc
      simp only [Option.some.injEq, Prod.mk.injEq] at h
      obtain ⟨rfl, rfl, rfl⟩ := h
      exact hc
    · cases h
  · cases h
theorem nat3 {t r i : Int} (h : rightId t r i = true) : ∃ a b c : Nat, t = a ∧ r = b ∧ i = c := by
  simp only [rightId, decide_eq_true_eq] at h
  exact ⟨t.toNat, r.toNat, i.toNat, by omega, by omega, by omega⟩
end Pi

/- Pathname: plain laws. -/
namespace Pi
open Go

def signsL : List UInt8 := [48, 49, 50, 51, 52, 53, 54, 55, 56, 57, 65, 66, 67, 68, 69, 70, 71, 72, 73, 74, 75, 76, 77, 78, 79, 80, 81, 82, 83, 84, 85, 86, 87, 88, 89, 90, 97, 98, 99, 100, 101, 102, 103, 104, 105, 106, 107, 108, 109, 110, 111, 112, 113, 114, 115, 116, 117, 118, 119, 120, 121, 122, 46, 45, 95]
def nameB (b : UInt8) : Bool := decide ((48 ≤ b.toNat ∧ b.toNat ≤ 57) ∨ (65 ≤ b.toNat ∧ b.toNat ≤ 90) ∨ (97 ≤ b.toNat ∧ b.toNat ≤ 122) ∨ b.toNat = 46 ∨ b.toNat = 45 ∨ b.toNat = 95)
theorem signs_fin : ∀ n : Fin 256, signsL.contains (UInt8.ofNat n.val) = nameB (UInt8.ofNat n.val) := by decide +kernel
theorem signs_name (b : UInt8) : signsL.contains b = nameB b := by
  have := signs_fin ⟨b.toNat, b.toNat_lt⟩
  simpa using this
def nameOk (s : List UInt8) : Bool := decide (s ≠ [] ∧ s.length ≤ 32 ∧ s ≠ [46] ∧ s ≠ [46, 46] ∧ ∀ b ∈ s, nameB b = true)
theorem dropWhile_nil {α : Type} (p : α → Bool) : ∀ l : List α, l.dropWhile p = [] ↔ ∀ b ∈ l, p b = true
  | [] => by simp
  | x :: l => by
    cases h : p x with
    | true => simp [List.dropWhile, h, dropWhile_nil p l]
    | false => simp [List.dropWhile, h]
theorem trim_nil (s cs : List UInt8) : Lib.trimS s cs = [] ↔ ∀ b ∈ s, cs.contains b = true := by
  unfold Lib.trimS Lib.trimLeftS Lib.trimRightS
  rw [dropWhile_nil]
  constructor
  · intro h b hb
    have hr : b ∈ s.reverse := by simpa using hb
    rw [← List.takeWhile_append_dropWhile (p := (cs.contains ·)) (l := s.reverse)] at hr
    rcases List.mem_append.1 hr with h1 | h1
    · exact List.all_eq_true.1 (List.all_takeWhile (p := (cs.contains ·)) (l := s.reverse)) b h1
    · exact h b (by simpa using h1)
  · intro h b hb
    have hb : b ∈ s.reverse.dropWhile (cs.contains ·) := by simpa using hb
    exact h b (by simpa using (List.dropWhile_sublist _).subset hb)

/-! the first of a byte -/
def pre (c : UInt8) (s : List UInt8) : List UInt8 := s.takeWhile (· != c)
theorem pre_le (c : UInt8) (s : List UInt8) : (pre c s).length ≤ s.length := (List.takeWhile_prefix _).length_le
theorem pre_take (c : UInt8) (s : List UInt8) : s.take (pre c s).length = pre c s := (List.prefix_iff_eq_take.1 (List.takeWhile_prefix _)).symm
theorem pre_no (c : UInt8) (s : List UInt8) : c ∉ pre c s := fun h => by
  have := List.all_eq_true.1 (List.all_takeWhile (p := (· != c)) (l := s)) c h
  simp at this
theorem pre_stop {c : UInt8} {s : List UInt8} (h : (pre c s).length < s.length) : s.getD (pre c s).length 0 = c := by
  obtain ⟨x, h1, h2⟩ := takeWhile_stop (· != c) s h
  have h1 : s[(pre c s).length]? = some x := h1
  simp only [List.getD_eq_getElem?_getD, h1, Option.getD_some]
  simpa using h2
theorem pre_full {c : UInt8} {s : List UInt8} : (pre c s).length = s.length ↔ c ∉ s := by
  constructor
  · intro h hc
    have := pre_take c s
    rw [h, List.take_length] at this
    exact pre_no c s (this ▸ hc)
  · intro h
    have := pre_le c s
    refine Classical.byContradiction fun hc => h ?_
    have h1 := pre_stop (c := c) (s := s) (by omega)
    rw [List.getD_eq_getElem?_getD, List.getElem?_eq_getElem (by omega)] at h1
    exact h1 ▸ List.getElem_mem (by omega)
theorem pre_all {c : UInt8} {s : List UInt8} (h : c ∉ s) : pre c s = s := by
  have := pre_take c s
  rw [pre_full.2 h, List.take_length] at this
  exact this.symm
theorem pre_app {c : UInt8} (t : List UInt8) : ∀ {s : List UInt8}, c ∉ s → pre c (s ++ c :: t) = s
  | [], _ => by simp [pre]
  | b :: l, h => by
    simp at h
    have hb : (b != c) = true := by simpa using Ne.symm h.1
    have ih := pre_app t h.2
    unfold pre at ih ⊢
    simp [hb, ih]
/-- A name, or one that clashed. -/
def seenOk (s : List UInt8) : Bool := nameOk (pre 126 s) && (decide (126 ∉ s) || (parse3 (s.drop ((pre 126 s).length + 1))).isSome)

/-! paths -/
def joinP (l : List (List UInt8)) : List UInt8 := 47 :: Lib.join l [47]
theorem join_cons2 (x y : List UInt8) (l : List (List UInt8)) : Lib.join (x :: y :: l) [47] = x ++ 47 :: Lib.join (y :: l) [47] := by
  simp [Lib.join, List.intercalate]
theorem join_one (x : List UInt8) : Lib.join [x] [47] = x := by simp [Lib.join, List.intercalate]
theorem name_no {s : List UInt8} {c : UInt8} (h : nameOk s = true) (hc : nameB c = false) : c ∉ s := fun hm => by
  simp only [nameOk, decide_eq_true_eq] at h
  rw [h.2.2.2.2 c hm] at hc
  cases hc
theorem text_no {t r i : Int} (h : rightId t r i = true) {c : UInt8} (hc : isDig c = false) (hd : c ≠ 46) : c ∉ textS t r i := by
  obtain ⟨a, b, d, rfl, rfl, rfl⟩ := nat3 h
  rw [textS_nat]
  have no : ∀ u, c ∉ Lib.decDigits u := fun u hm => by rw [dec_dig u c hm] at hc; cases hc
  simp [no, hd]
theorem seen_no {s : List UInt8} (h : seenOk s = true) : (47 : UInt8) ∉ s := by
  simp only [seenOk, Bool.and_eq_true, Bool.or_eq_true, decide_eq_true_eq] at h
  obtain ⟨h1, h2⟩ := h
  have hn : (47 : UInt8) ∉ pre 126 s := name_no h1 rfl
  rcases h2 with h2 | h2
  · rwa [pre_all h2] at hn
  · by_cases hm : (126 : UInt8) ∈ s
    · obtain ⟨x, hx⟩ := Option.isSome_iff_exists.1 h2
      obtain ⟨t, r, i⟩ := x
      obtain ⟨h3, h4⟩ := parse3_some hx
      have hd : (47 : UInt8) ∉ s.drop ((pre 126 s).length + 1) := by rw [← h4]; exact text_no h3 rfl (by decide)
      intro hmem
      have hlt : (pre 126 s).length < s.length := by
        have := pre_le 126 s
        refine Nat.lt_of_le_of_ne this fun e => pre_full.1 e hm
      rw [← List.take_append_drop (pre 126 s).length s, pre_take, List.drop_eq_getElem_cons hlt] at hmem
      have hst := pre_stop hlt
      rw [List.getD_eq_getElem?_getD, List.getElem?_eq_getElem hlt, Option.getD_some] at hst
      rcases List.mem_append.1 hmem with hh | hh
      · exact hn hh
      · rw [hst] at hh
        rcases List.mem_cons.1 hh with hh | hh
        · exact absurd hh (by decide)
        · exact hd hh
    · rwa [pre_all hm] at hn
/-- What a name that clashes is seen as. -/
def clashP (s : List UInt8) (t r i : Int) : List UInt8 × Int := if nameOk s = true then (if rightId t r i = true then (s ++ 126 :: textS t r i, 0) else ([], 1)) else ([], 70)
theorem clash_pre {s : List UInt8} {t r i : Int} (h : nameOk s = true) : pre 126 (s ++ 126 :: textS t r i) = s := pre_app _ (name_no h rfl)
theorem clash_seen {s : List UInt8} {t r i : Int} (h : nameOk s = true) (h' : rightId t r i = true) : seenOk (s ++ 126 :: textS t r i) = true := by
  have hd : (s ++ 126 :: textS t r i).drop (s.length + 1) = textS t r i := by simp
  simp only [seenOk, clash_pre h, h, hd, Bool.true_and]
  obtain ⟨a, b, c, rfl, rfl, rfl⟩ := nat3 h'
  rw [parse3_text h']
  simp
theorem clash_name {s : List UInt8} {t r i : Int} : nameOk (s ++ 126 :: textS t r i) = false := by
  cases h : nameOk (s ++ 126 :: textS t r i) with
  | false => rfl
  | true => exact absurd (by simp) (name_no h (c := 126) rfl)
theorem clash_inj {s s' : List UInt8} {t r i t' r' i' : Int} (h : nameOk s = true) (h1 : rightId t r i = true) (h' : nameOk s' = true) (h1' : rightId t' r' i' = true) (e : s ++ 126 :: textS t r i = s' ++ 126 :: textS t' r' i') : s = s' ∧ t = t' ∧ r = r' ∧ i = i' := by
  have hp := congrArg (pre 126) e
  rw [clash_pre h, clash_pre h'] at hp
  subst hp
  have ht : textS t r i = textS t' r' i' := by simpa using e
  obtain ⟨a, b, c, rfl, rfl, rfl⟩ := nat3 h1
  obtain ⟨a', b', c', rfl, rfl, rfl⟩ := nat3 h1'
  have := parse3_text h1
  rw [ht, parse3_text h1'] at this
  simp only [Option.some.injEq, Prod.mk.injEq] at this
  exact ⟨rfl, this.1.symm, this.2.1.symm, this.2.2.symm⟩
end Pi

/- Stamp: the laws on texts. -/
namespace Pi
open Go Go.Proofs
set_option maxRecDepth 100000
section
variable {X : XF}
theorem textId_len (t r i : Int) : (textId t r i).length ≤ 2000000 := by
  unfold textId
  split
  · rename_i h
    simp only [rightId, decide_eq_true_eq] at h
    have l1 := itoa_len21 (n := t) (by omega) (by omega)
    have l2 := itoa_len21 (n := r) (by omega) (by omega)
    have l3 := itoa_len21 (n := i) (by omega) (by omega)
    simp [textS]; omega
  · simp
end
end Pi

/- Pathname: the loops and small functions: what their runs ask. -/
namespace Pi
open Go Go.Proofs
set_option maxRecDepth 100000
set_option maxHeartbeats 0
abbrev tD (l : List (List UInt8)) : P := .d (.sl 1 (l.map D.str))
abbrev bD' (b : Bool) : P := .d (.bool b)
def hTrim : KF1 := fun ps R post => ∃ s c, ps = [sD s, sD c] ∧ R = [] ∧ (s.length ≤ 9223372036854775807 ∧ c.length < 4294967281 ∧ c.all (fun b => decide (b.toNat < 128)) = true) ∧ post (sD (Lib.trimS s c), [])
def hJoinL : KF1 := fun ps R post => ∃ l c, ps = [tD l, sD c] ∧ R = [] ∧ (l.length ≤ 140737488355328 ∧ (Lib.join l c).length ≤ 140737488355328) ∧ post (sD (Lib.join l c), [])
def hName : KF1 := fun ps R post => ∃ s, ps = [sD s] ∧ R = [] ∧ post (bD' (nameOk s), [])
def hClash : KF1 := fun ps R post => ∃ s t r i, ps = [sD s, .d (idD t r i)] ∧ R = [] ∧ post (.tup [sD (clashP s t r i).1, iD (clashP s t r i).2], [])
theorem vcName (s : List UInt8) (post : P × List (Nat × En) → Prop) : (bif !s == [] then bif decide ((↑(List.length s) : Int) ≤ (32 : Int)) then bif !s == [(46 : UInt8)] then bif !s == [(46 : UInt8), (46 : UInt8)] then ∃ (s_1 : List UInt8), ∃ (c : List UInt8), [P.d (D.str s), P.d (D.str [(48 : UInt8), (49 : UInt8), (50 : UInt8), (51 : UInt8), (52 : UInt8), (53 : UInt8), (54 : UInt8), (55 : UInt8), (56 : UInt8), (57 : UInt8), (65 : UInt8), (66 : UInt8), (67 : UInt8), (68 : UInt8), (69 : UInt8), (70 : UInt8), (71 : UInt8), (72 : UInt8), (73 : UInt8), (74 : UInt8), (75 : UInt8), (76 : UInt8), (77 : UInt8), (78 : UInt8), (79 : UInt8), (80 : UInt8), (81 : UInt8), (82 : UInt8), (83 : UInt8), (84 : UInt8), (85 : UInt8), (86 : UInt8), (87 : UInt8), (88 : UInt8), (89 : UInt8), (90 : UInt8), (97 : UInt8), (98 : UInt8), (99 : UInt8), (100 : UInt8), (101 : UInt8), (102 : UInt8), (103 : UInt8), (104 : UInt8), (105 : UInt8), (106 : UInt8), (107 : UInt8), (108 : UInt8), (109 : UInt8), (110 : UInt8), (111 : UInt8), (112 : UInt8), (113 : UInt8), (114 : UInt8), (115 : UInt8), (116 : UInt8), (117 : UInt8), (118 : UInt8), (119 : UInt8), (120 : UInt8), (121 : UInt8), (122 : UInt8), (46 : UInt8), (45 : UInt8), (95 : UInt8)])] = [P.d (D.str s_1), P.d (D.str c)] ∧ EqR [] [] ∧ (List.length s_1 ≤ 9223372036854775807 ∧ List.length c < 4294967281 ∧ (List.all c fun (b : UInt8) => decide (UInt8.toNat b < 128)) = true) ∧ post (P.d (D.bool (Lib.trimS s_1 c == [])), []) else post (P.d (D.bool false), []) else post (P.d (D.bool false), []) else post (P.d (D.bool false), []) else post (P.d (D.bool false), [])) = (bodyF [(66, hTrim)] [] 48 [sD s] []) post := by kernel_rfl
theorem vcClash (s : List UInt8) (t r i : Int) (post : P × List (Nat × En) → Prop) : (∃ (t_1 : Int), ∃ (r_1 : Int), ∃ (i_1 : Int), [P.d (D.agg [D.int IntKind.i64 t, D.int IntKind.i64 r, D.int IntKind.i64 i])] = [P.d (D.agg [D.int IntKind.i64 t_1, D.int IntKind.i64 r_1, D.int IntKind.i64 i_1])] ∧ EqR [] [] ∧ ∃ (s_1 : List UInt8), [P.d (D.str s)] = [P.d (D.str s_1)] ∧ EqR [] [] ∧ bif !nameOk s_1 then post (P.tup [P.d (D.str []), P.d (D.int IntKind.i64 (70 : Int))], []) else bif textId t_1 r_1 i_1 == [] then post (P.tup [P.d (D.str []), P.d (D.int IntKind.i64 (1 : Int))], []) else bif decide (List.length s + 1 ≤ 9223372036854775807) then bif decide (List.length (s ++ [(126 : UInt8)]) + List.length (textId t_1 r_1 i_1) ≤ 9223372036854775807) then post (P.tup [P.d (D.str (s ++ [(126 : UInt8)] ++ textId t_1 r_1 i_1)), P.d (D.int IntKind.i64 (0 : Int))], []) else False else False) = (bodyF [(48, hName), (69, hText)] [] 51 [sD s, .d (idD t r i)] []) post := by kernel_rfl
theorem vcJoin (l : List (List UInt8)) (post : P × List (Nat × En) → Prop) : (∃ (l_1 : List (List UInt8)), ∃ (c : List UInt8), [P.d (D.sl 1 (List.map D.str l)), P.d (D.str [(47 : UInt8)])] = [P.d (D.sl 1 (List.map D.str l_1)), P.d (D.str c)] ∧ EqR [] [] ∧ (List.length l_1 ≤ 140737488355328 ∧ List.length (Lib.join l_1 c) ≤ 140737488355328) ∧ bif decide (1 + List.length (Lib.join l_1 c) ≤ 9223372036854775807) then post (P.d (D.str ([(47 : UInt8)] ++ Lib.join l_1 c)), []) else False) = (bodyF [(70, hJoinL)] [] 52 [tD l] []) post := by kernel_rfl
end Pi

/- Pathname: the loops and small functions. -/
namespace Pi
open Go Go.Proofs
set_option maxRecDepth 100000
section
variable {X : XF}
theorem okTrim : FD X 66 hTrim := FD.ofX Tryz.func66 (by kernel_rfl) (by kernel_rfl) (by
  intro ps R post hh
  obtain ⟨s, c, rfl, rfl, hc, hp⟩ := hh
  refine ⟨_, ?_, hp⟩
  show xTrim [.d (.str s), .d (.str c)] [] = _
  exact if_pos hc)
theorem strsOf_map : ∀ l : List (List UInt8), strsOf (l.map D.str) = some l
  | [] => rfl
  | x :: l => by simp [strsOf, strsOf_map l]
theorem okJoinL : FD X 70 hJoinL := FD.ofX Tryz.func70 (by kernel_rfl) (by kernel_rfl) (by
  intro ps R post hh
  obtain ⟨l, c, rfl, rfl, hc, hp⟩ := hh
  refine ⟨_, ?_, hp⟩
  show xJoin [.d (.sl 1 (l.map D.str)), .d (.str c)] [] = _
  unfold xJoin
  simp only [strsOf_map]
  exact if_pos hc)
theorem okName : FD X 48 hName := FD.mk (H := [(66, hTrim)]) (hk := []) (by kernel_rfl) (.cons okTrim .nil) .nil (by
  intro ps R post hh
  obtain ⟨s, rfl, rfl, hp⟩ := hh
  rw [← vcName]
  refine condI (fun h1 => condP (fun h2 => condI (fun h3 => condI (fun h4 => ⟨s, signsL, rfl, rfl, ⟨by omega, by decide, by decide⟩, ?_⟩) fun h4 => ?_) fun h3 => ?_) fun h2 => ?_) fun h1 => ?_
  · refine leafB hp ?_
    rw [Bool.eq_iff_iff, nameOk, beq_iff_eq, trim_nil]
    simp only [signs_name, decide_eq_true_eq]
    constructor
    · intro h; exact h.2.2.2.2
    · intro h; exact ⟨by simpa using h1, by omega, by simpa using h3, by simpa using h4, h⟩
  · exact leafB hp (decF fun h => by simp at h4; exact h.2.2.2.1 h4)
  · exact leafB hp (decF fun h => by simp at h3; exact h.2.2.1 h3)
  · exact leafB hp (decF fun h => by omega)
  · exact leafB hp (decF fun h => by simp at h1; exact h.1 h1))
end
end Pi

/- Pathname: more loops. -/
namespace Pi
open Go Go.Proofs
set_option maxRecDepth 100000
section
variable {X : XF}
theorem isDs (x : List UInt8) : isD PR 9 (.str x) = true := by kernel_rfl
theorem tx_nth {l : List (List UInt8)} {i : Nat} (h : i < l.length) : D.nth (l.map D.str) i = .str (l.getD i []) := by
  simp [D.nth, h]
end
end Pi

/- Pathname: the functions: what their runs ask. -/
namespace Pi
open Go Go.Proofs
set_option maxRecDepth 100000
set_option maxHeartbeats 0
def joinR (l : List (List UInt8)) : List UInt8 := l.flatMap fun x => 47 :: x
def sumL (l : List (List UInt8)) : Nat := (joinR l).length
def hJoinP : KF1 := fun ps R post => ∃ l, ps = [tD l] ∧ R = [] ∧ sumL l ≤ 2000000 ∧ post (sD (joinP l), [])
end Pi

/- Pathname: the functions. -/
namespace Pi
open Go Go.Proofs
set_option maxRecDepth 100000
section
variable {X : XF}
theorem sum_len (l : List (List UInt8)) : l.length ≤ sumL l := by
  induction l with
  | nil => simp
  | cons x l ih => simp [sumL, joinR] at ih ⊢; omega
theorem joinR_P : ∀ l : List (List UInt8), l ≠ [] → joinR l = joinP l
  | [], h => absurd rfl h
  | [x], _ => by simp [joinR, joinP, join_one]
  | x :: y :: l, _ => by
    have ih := joinR_P (y :: l) (by simp)
    rw [joinP, join_cons2]
    rw [joinP] at ih
    rw [← ih]
    simp [joinR]
theorem joinP_len (l : List (List UInt8)) : (joinP l).length ≤ sumL l + 1 := by
  cases l with
  | nil => simp [joinP, Lib.join, List.intercalate]
  | cons x l => rw [← joinR_P (x :: l) (by simp)]; unfold sumL; omega
theorem okJoin : FD X 52 hJoinP := FD.mk (H := [(70, hJoinL)]) (hk := []) (by kernel_rfl) (.cons okJoinL .nil) .nil (by
  intro ps R post hh
  obtain ⟨l, rfl, rfl, hl, hp⟩ := hh
  rw [← vcJoin]
  have h1 := sum_len l
  have h2 := joinP_len l
  simp [joinP] at h2
  exact ⟨l, [47], rfl, rfl, ⟨by omega, by omega⟩, oblP (by omega) hp⟩)
theorem textId_nil {t r i : Int} : textId t r i = [] ↔ rightId t r i = false := by
  unfold textId
  split
  · rename_i h
    simp [h, textS]
  · rename_i h
    simpa using h
theorem okClash : FD X 51 hClash := FD.mk (H := [(48, hName), (69, hText)]) (hk := []) (by kernel_rfl) (.cons okName (.cons okText .nil)) .nil (by
  intro ps R post hh
  obtain ⟨s, t, r, i, rfl, rfl, hp⟩ := hh
  rw [← vcClash]
  unfold clashP at hp
  refine ⟨t, r, i, rfl, rfl, s, rfl, rfl, condI (fun h => ?_) fun h => condI (fun h2 => ?_) fun h2 => ?_⟩
  · rw [if_neg (by simpa using h)] at hp; exact hp
  · have h2 : rightId t r i = false := textId_nil.1 (by simpa using h2)
    rw [if_pos (by simpa using h), if_neg (by simp [h2])] at hp; exact hp
  · have hn : nameOk s = true := by simpa using h
    have hi : rightId t r i = true := by
      cases hi : rightId t r i with
      | true => rfl
      | false => rw [textId_nil.2 hi] at h2; simp at h2
    rw [if_pos hn, if_pos hi] at hp
    have hl := textId_len t r i
    simp only [nameOk, decide_eq_true_eq] at hn
    refine oblP (by omega) (oblP (by simp; omega) ?_)
    rw [textId, if_pos hi]
    simpa using hp)
end
end Pi

/- Tree: taken, way: what their runs ask. -/
namespace Pi
open Go Go.Proofs
set_option maxRecDepth 100000
set_option maxHeartbeats 0
abbrev Id3 := Int × Int × Int
def ixD (x : Id3) : D := .agg [.int .i64 x.1, .int .i64 x.2.1, .int .i64 x.2.2]
abbrev idsP (l : List Id3) : P := .d (.sl 3 (l.map ixD))
/-- A place: node, parent, name, is it a directory. -/
abbrev Pl := Id3 × Id3 × List UInt8 × Bool
def plD (p : Pl) : D := .agg [.int .i64 p.1.1, .int .i64 p.1.2.1, .int .i64 p.1.2.2, .int .i64 p.2.1.1, .int .i64 p.2.1.2.1, .int .i64 p.2.1.2.2, .str p.2.2.1, .bool p.2.2.2]
abbrev plsP (l : List Pl) : P := .d (.sl 8 (l.map plD))
/-- The nodes' maps. -/
abbrev nodR (f1 f2 f3 f4 : D → Option D) (c1 c2 c3 c4 : Int) : List (Nat × En) :=
  [(0, ⟨0, none, .box 61 [.mp 1 0, .mp 2 0, .mp 3 0, .mp 4 0]⟩), (1, ⟨0, none, .map 41 f1 c1 false⟩), (2, ⟨0, none, .map 41 f2 c2 false⟩), (3, ⟨0, none, .map 41 f3 c3 false⟩), (4, ⟨0, none, .map 41 f4 c4 false⟩)]
abbrev tk3 (l : List Pl) (live : List Id3) (k : Int) (f1 : D → Option D) (c1 : Int) : S :=
  ⟨68, [(1, idsP live), (5, .ref 0 0 0), (18, plsP l), (19, .d (.int .i64 (l.length : Int))), (20, .d (.int .i64 k))], nodR f1 (fun _ => none) (fun _ => none) (fun _ => none) c1 0 0 0⟩
abbrev tk10 (live : List Id3) (k : Int) (f1 f2 : D → Option D) (c1 c2 : Int) : S :=
  ⟨68, [(5, .ref 0 0 0), (54, idsP live), (55, .d (.int .i64 (live.length : Int))), (56, .d (.int .i64 k))], nodR f1 f2 (fun _ => none) (fun _ => none) c1 c2 0 0⟩
/-- A map of ids, as data. -/
def mpD {α : Type} (enc : α → D) (m : Id3 → Option α) : D → Option D
  | .agg [.int .i64 a, .int .i64 b, .int .i64 c] => (m (a, b, c)).map enc
  | _ => none
def okPl (p : Pl) : Bool := rightId p.1.1 p.1.2.1 p.1.2.2 && nameOk p.2.2.1
/-- The place of a node. -/
def atPl (T : List Pl) (x : Id3) : Option Pl := T.find? fun p => p.1 == x
def tkS (T : List Pl) (p : Pl) : List Pl := if (atPl T p.1).isSome then T else if okPl p then T ++ [p] else T
def tkL (l : List Pl) : List Pl := l.foldl tkS []
def lvS (V : List Id3) (x : Id3) : List Id3 := if x ∈ V then V else V ++ [x]
def lvL (l : List Id3) : List Id3 := l.foldl lvS []
abbrev plM (T : List Pl) : D → Option D := mpD plD (atPl T)
abbrev inM (V : List Id3) : D → Option D := mpD (fun _ => .agg []) (fun x => if x ∈ V then some () else none)
abbrev noM : D → Option D := fun _ => none
def gTk3 : S → K (PX × S) := fun s post => ∃ l live, s = tk3 l live 0 noM 0 ∧ l.length ≤ 1000000 ∧ post (.exit 0, ⟨68, [(1, idsP live), (5, .ref 0 0 0)], nodR (plM (tkL l)) noM noM noM ((tkL l).length : Int) 0 0 0⟩)
def gTk10 : S → K (PX × S) := fun s post => ∃ live f1 c1, s = tk10 live 0 f1 noM c1 0 ∧ live.length ≤ 1000000 ∧ post (.exit 2, ⟨68, [(5, .ref 0 0 0)], nodR f1 (inM (lvL live)) noM noM c1 ((lvL live).length : Int) 0 0⟩)
def vcTk_0  : P := P.ref 0 0 0
def vcTk_1  : Nat × P := (5, vcTk_0)
def vcTk_2  : List (Nat × P) := [(20, P.d (D.int IntKind.i64 (0 : Int)))]
def vcTk_3  : Nat × En := (0, En.mk 0 none (Obj.box (61 : TypeId) [P.mp 1 0, P.mp 2 0, P.mp 3 0, P.mp 4 0]))
def vcTk_4  : En := En.mk 0 none (Obj.map 41 (fun (_ : D) => none) (0 : Int) false)
def vcTk_5  : List (Nat × En) := [(3, vcTk_4), (4, vcTk_4)]
def vcTk_6  : List (Nat × En) := (2, vcTk_4) :: vcTk_5
def vcTk_7  : List (Nat × En) := vcTk_3 :: (1, vcTk_4) :: vcTk_6
def vcTk_8 (v1 : List Id3) : P := P.d (D.sl 3 (List.map ixD v1))
def vcTk_9  : List (Nat × P) := [(56, P.d (D.int IntKind.i64 (0 : Int)))]
def vcTk_10 (v5 : D → Option D) (v6 : Int) : Nat × En := (1, En.mk 0 none (Obj.map 41 v5 v6 false))
theorem vcTk (l : List Pl) (live : List Id3) (post : P × List (Nat × En) → Prop) : (∃ (l_1 : List Pl), ∃ (live_1 : List Id3), S.mk 68 ((1, P.d (D.sl 3 (List.map ixD live))) :: vcTk_1 :: (18, P.d (D.sl 8 (List.map plD l))) :: (19, P.d (D.int IntKind.i64 (↑(List.length (List.map plD l)) : Int))) :: vcTk_2) vcTk_7 = S.mk 68 ((1, vcTk_8 live_1) :: vcTk_1 :: (18, P.d (D.sl 8 (List.map plD l_1))) :: (19, P.d (D.int IntKind.i64 (↑(List.length l_1) : Int))) :: vcTk_2) vcTk_7 ∧ List.length l_1 ≤ 1000000 ∧ ∃ (live : List Id3), ∃ (f1 : D → Option D), ∃ (c1 : Int), S.mk 68 (vcTk_1 :: (54, vcTk_8 live_1) :: (55, P.d (D.int IntKind.i64 (↑(List.length (List.map ixD live_1)) : Int))) :: vcTk_9) (vcTk_3 :: (1, En.mk 0 none (Obj.map 41 (fun (x : D) => match x with | D.agg [D.int IntKind.i64 a, D.int IntKind.i64 b, D.int IntKind.i64 c] => Option.map plD (atPl (tkL l_1) (a, b, c)) | _ => none) (↑(List.length (tkL l_1)) : Int) false)) :: vcTk_6) = S.mk 68 (vcTk_1 :: (54, P.d (D.sl 3 (List.map ixD live))) :: (55, P.d (D.int IntKind.i64 (↑(List.length live) : Int))) :: vcTk_9) (vcTk_3 :: vcTk_10 f1 c1 :: vcTk_6) ∧ List.length live ≤ 1000000 ∧ post (vcTk_0, vcTk_3 :: vcTk_10 f1 c1 :: (2, En.mk 0 none (Obj.map 41 (fun (x : D) => match x with | D.agg [D.int IntKind.i64 a, D.int IntKind.i64 b, D.int IntKind.i64 c] => Option.map (fun (_ : Unit) => D.agg []) ((fun (x : Id3) => if x ∈ lvL live then some () else none) (a, b, c)) | _ => none) (↑(List.length (lvL live)) : Int) false)) :: vcTk_5)) = (bodyF [] [(3, loopHook (kpF 26 3) gTk3), (10, loopHook (kpF 26 10) gTk10)] 26 [plsP l, idsP live] []) post := by kernel_rfl
def hTaken : KF1 := fun ps R post => ∃ l live, ps = [plsP l, idsP live] ∧ R = [] ∧ (l.length ≤ 1000000 ∧ live.length ≤ 1000000) ∧ post (.ref 0 0 0, nodR (plM (tkL l)) (inM (lvL live)) noM noM ((tkL l).length : Int) ((lvL live).length : Int) 0 0)
def vcTk3_0 (l : List Pl) (k : Int) : D := D.nth (List.map plD l) (Int.toNat k)
def vcTk3_1 (l : List Pl) (k : Int) : D := D.int IntKind.i64 (D.iVal (D.cAt (vcTk3_0 l k) 0))
def vcTk3_2 (l : List Pl) (k : Int) : D := D.agg [vcTk3_1 l k, D.int IntKind.i64 (D.iVal (D.cAt (vcTk3_0 l k) 1)), D.int IntKind.i64 (D.iVal (D.cAt (vcTk3_0 l k) 2))]
def vcTk3_3  : D := D.int IntKind.i64 (0 : Int)
def vcTk3_4 (k : Int) : Int := k + (1 : Int)
def vcTk3_5 (k : Int) : Bool := decide ((-9223372036854775808 : Int) ≤ vcTk3_4 k ∧ vcTk3_4 k ≤ (9223372036854775807 : Int))
def vcTk3_6 (live : List Id3) : Nat × P := (1, P.d (D.sl 3 (List.map ixD live)))
def vcTk3_7  : Nat × P := (5, P.ref 0 0 0)
def vcTk3_8 (l : List Pl) (live : List Id3) (k : Int) : List (Nat × P) := [vcTk3_6 live, vcTk3_7, (18, P.d (D.sl 8 (List.map plD l))), (19, P.d (D.int IntKind.i64 (↑(List.length l) : Int))), (20, P.d (D.int IntKind.i64 (vcTk3_4 k)))]
def vcTk3_9  : Nat × En := (0, En.mk 0 none (Obj.box (61 : TypeId) [P.mp 1 0, P.mp 2 0, P.mp 3 0, P.mp 4 0]))
def vcTk3_10  : Nat := 0 + 1
def vcTk3_11  : Nat := vcTk3_10 + 1
def vcTk3_12  : Nat := vcTk3_11 + 1
def vcTk3_13  : Nat := vcTk3_12 + 1
def vcTk3_14  : Nat := vcTk3_13 + 1
def vcTk3_15  : Nat := vcTk3_14 + 1
def vcTk3_16  : En := En.mk 0 none (Obj.map 41 (fun (_ : D) => none) (0 : Int) false)
def vcTk3_17  : List (Nat × En) := [(2, vcTk3_16), (3, vcTk3_16), (4, vcTk3_16)]
def vcTk3_18 (f1 : D → Option D) (c1 : Int) : List (Nat × En) := vcTk3_9 :: (1, En.mk 0 none (Obj.map 41 f1 c1 false)) :: vcTk3_17
theorem vcTk3 (l : List Pl) (live : List Id3) (k : Int) (f1 : D → Option D) (c1 : Int) (post : PX × S → Prop) : (bif decide (k < (↑(List.length l) : Int)) then bif decide ((0 : Int) ≤ k ∧ k < (↑(List.length (List.map plD l)) : Int)) then bif isD PR (47 : TypeId) (vcTk3_0 l k) then bif isD PR (47 : TypeId) (getO (f1 (vcTk3_2 l k)) (D.agg [vcTk3_3, vcTk3_3, vcTk3_3, vcTk3_3, vcTk3_3, vcTk3_3, D.str [], D.bool false])) then bif !Option.isSome (f1 (vcTk3_2 l k)) then ∃ (t : Int), ∃ (r : Int), ∃ (i : Int), [P.d (vcTk3_2 l k)] = [P.d (D.agg [D.int IntKind.i64 t, D.int IntKind.i64 r, D.int IntKind.i64 i])] ∧ EqR [] [] ∧ bif rightId t r i then ∃ (s : List UInt8), [P.d (D.str (D.sVal (D.cAt (vcTk3_0 l k) 6)))] = [P.d (D.str s)] ∧ EqR [] [] ∧ bif nameOk s then bif vcTk3_5 k then post (PX.normal, S.mk 68 (vcTk3_8 l live k) (vcTk3_9 :: (1, En.mk 0 none (Obj.map 41 (fun (k' : D) => bif D.eqB (D.agg [vcTk3_1 l k, D.int IntKind.i64 (D.iVal (D.cAt (vcTk3_0 l k) vcTk3_10)), D.int IntKind.i64 (D.iVal (D.cAt (vcTk3_0 l k) vcTk3_11))]) k' then some (D.agg [vcTk3_1 l k, D.int IntKind.i64 (D.iVal (D.cAt (vcTk3_0 l k) vcTk3_10)), D.int IntKind.i64 (D.iVal (D.cAt (vcTk3_0 l k) vcTk3_11)), D.int IntKind.i64 (D.iVal (D.cAt (vcTk3_0 l k) vcTk3_12)), D.int IntKind.i64 (D.iVal (D.cAt (vcTk3_0 l k) vcTk3_13)), D.int IntKind.i64 (D.iVal (D.cAt (vcTk3_0 l k) vcTk3_14)), D.str (D.sVal (D.cAt (vcTk3_0 l k) vcTk3_15)), D.bool (D.bVal (D.cAt (vcTk3_0 l k) (vcTk3_15 + 1)))]) else f1 k') (bif Option.isSome (f1 (vcTk3_2 l k)) then c1 else c1 + (1 : Int)) false)) :: vcTk3_17)) else False else bif vcTk3_5 k then post (PX.normal, S.mk 68 (vcTk3_8 l live k) (vcTk3_18 f1 c1)) else False else bif vcTk3_5 k then post (PX.normal, S.mk 68 (vcTk3_8 l live k) (vcTk3_18 f1 c1)) else False else bif vcTk3_5 k then post (PX.normal, S.mk 68 (vcTk3_8 l live k) (vcTk3_18 f1 c1)) else False else False else False else False else post (PX.exit 0, S.mk 68 [vcTk3_6 live, vcTk3_7] (vcTk3_18 f1 c1))) = (roundL [(47, hRightId), (48, hName)] [] 26 3 (tk3 l live k f1 c1)) post := by kernel_rfl
theorem vcTk10 (live : List Id3) (k : Int) (f1 f2 : D → Option D) (c1 c2 : Int) (post : PX × S → Prop) : (bif decide (k < (↑(List.length live) : Int)) then bif decide ((0 : Int) ≤ k ∧ k < (↑(List.length (List.map ixD live)) : Int)) then bif isD PR 41 (D.nth (List.map ixD live) (Int.toNat k)) then bif decide ((-9223372036854775808 : Int) ≤ k + (1 : Int) ∧ k + (1 : Int) ≤ (9223372036854775807 : Int)) then post (PX.normal, S.mk 68 [(5, P.ref 0 0 0), (54, P.d (D.sl 3 (List.map ixD live))), (55, P.d (D.int IntKind.i64 (↑(List.length live) : Int))), (56, P.d (D.int IntKind.i64 (k + (1 : Int))))] [(0, En.mk 0 none (Obj.box 61 [P.mp 1 0, P.mp 2 0, P.mp 3 0, P.mp 4 0])), (1, En.mk 0 none (Obj.map 41 f1 c1 false)), (2, En.mk 0 none (Obj.map 41 (fun (k' : D) => bif D.eqB (D.agg [D.int IntKind.i64 (D.iVal (D.cAt (D.nth (List.map ixD live) (Int.toNat k)) 0)), D.int IntKind.i64 (D.iVal (D.cAt (D.nth (List.map ixD live) (Int.toNat k)) (0 + 1))), D.int IntKind.i64 (D.iVal (D.cAt (D.nth (List.map ixD live) (Int.toNat k)) (0 + 1 + 1)))]) k' then some (D.agg []) else f2 k') (bif Option.isSome (f2 (D.agg [D.int IntKind.i64 (D.iVal (D.cAt (D.nth (List.map ixD live) (Int.toNat k)) 0)), D.int IntKind.i64 (D.iVal (D.cAt (D.nth (List.map ixD live) (Int.toNat k)) 1)), D.int IntKind.i64 (D.iVal (D.cAt (D.nth (List.map ixD live) (Int.toNat k)) 2))])) then c2 else c2 + (1 : Int)) false)), (3, En.mk 0 none (Obj.map 41 (fun (_ : D) => none) (0 : Int) false)), (4, En.mk 0 none (Obj.map 41 (fun (_ : D) => none) (0 : Int) false))]) else False else False else False else post (PX.exit 2, S.mk 68 [(5, P.ref 0 0 0)] [(0, En.mk 0 none (Obj.box 61 [P.mp 1 0, P.mp 2 0, P.mp 3 0, P.mp 4 0])), (1, En.mk 0 none (Obj.map 41 f1 c1 false)), (2, En.mk 0 none (Obj.map 41 f2 c2 false)), (3, En.mk 0 none (Obj.map 41 (fun (_ : D) => none) (0 : Int) false)), (4, En.mk 0 none (Obj.map 41 (fun (_ : D) => none) (0 : Int) false))])) = (roundL [] [] 26 10 (tk10 live k f1 f2 c1 c2)) post := by kernel_rfl
end Pi

/- Tree: taken. -/
namespace Pi
open Go Go.Proofs
set_option maxRecDepth 100000
theorem mpD_id {α : Type} (enc : α → D) (m : Id3 → Option α) (x : Id3) : mpD enc m (ixD x) = (m x).map enc := rfl
theorem mpD_upd {α : Type} (enc : α → D) (m m' : Id3 → Option α) (x : Id3) (v : α) (h1 : m' x = some v) (h2 : ∀ y, y ≠ x → m' y = m y) : updD (ixD x) (enc v) (mpD enc m) = mpD enc m' := by
  funext d
  unfold updD
  cases hd : D.eqB (ixD x) d with
  | true =>
    have := (D.eqB_iff _ _).1 hd
    subst this
    rw [mpD_id enc m' x, h1]
    rfl
  | false =>
    have hne : ixD x ≠ d := fun e => by rw [(D.eqB_iff _ _).2 e] at hd; cases hd
    simp only [cond_false]
    unfold mpD
    split
    · rename_i a b c
      rw [h2 (a, b, c) (fun e => hne (by rw [← e]; rfl))]
    · rfl
theorem atPl_add {T : List Pl} {p : Pl} (h : (atPl T p.1).isSome = false) : updD (ixD p.1) (plD p) (plM T) = plM (T ++ [p]) := by
  have hn : T.find? (fun q => q.1 == p.1) = none := by
    unfold atPl at h
    cases e : T.find? (fun q => q.1 == p.1) with
    | none => rfl
    | some q => rw [e] at h; cases h
  refine mpD_upd _ _ _ _ _ ?_ fun y hy => ?_
  · unfold atPl
    rw [List.find?_append, hn]
    simp
  · unfold atPl
    rw [List.find?_append]
    have : ([p] : List Pl).find? (fun q => q.1 == y) = none := by simp; intro e; exact hy (by rw [← e])
    rw [this, Option.or_none]
theorem inM_add {V : List Id3} {x : Id3} : updD (ixD x) (.agg []) (inM V) = inM (lvS V x) := by
  refine mpD_upd (fun _ => .agg []) _ _ x () ?_ fun y hy => ?_
  · unfold lvS
    split <;> simp_all
  · unfold lvS
    split
    · rfl
    · simp [hy]
theorem inM_id (V : List Id3) (x : Id3) : inM V (ixD x) = (if x ∈ V then some () else none).map (fun _ => .agg []) := rfl
theorem inM_len (V : List Id3) (x : Id3) : (bif (inM V (ixD x)).isSome then (V.length : Int) else (V.length : Int) + 1) = ((lvS V x).length : Int) := by
  rw [inM_id]
  unfold lvS
  by_cases h : x ∈ V <;> simp [h]
theorem plM_id (T : List Pl) (x : Id3) : plM T (ixD x) = (atPl T x).map plD := rfl
theorem isPl (p : Pl) : isD PR 47 (plD p) = true := by
  obtain ⟨⟨a, b, c⟩, ⟨d, e, f⟩, g, h⟩ := p
  kernel_rfl
theorem isIx (x : Id3) : isD PR 41 (ixD x) = true := by
  obtain ⟨a, b, c⟩ := x
  kernel_rfl
def pl0 : Pl := ((0, 0, 0), (0, 0, 0), [], false)
theorem pl_nth {l : List Pl} {i : Nat} (h : i < l.length) : D.nth (l.map plD) i = plD (l.getD i pl0) := by
  rw [nth_map plD l i h]
  simp [List.getD_eq_getElem?_getD, h]
theorem ix_nth {l : List Id3} {i : Nat} (h : i < l.length) : D.nth (l.map ixD) i = ixD (l.getD i (0, 0, 0)) := by
  rw [nth_map ixD l i h]
  simp [List.getD_eq_getElem?_getD, h]
theorem foldl_take {α β : Type} (f : β → α → β) (b : β) (l : List α) (d : α) (k : Nat) (h : k < l.length) : (l.take (k + 1)).foldl f b = f ((l.take k).foldl f b) (l.getD k d) := by
  rw [List.take_add_one, List.getElem?_eq_getElem h, List.foldl_append]
  simp [List.getD_eq_getElem?_getD, h]
section
variable {X : XF}
theorem loopTk10 : LD X 26 10 (loopHook (kpF 26 10) gTk10) := LD.par (H := []) (hk := []) (by kernel_rfl) (by kernel_rfl) .nil .nil
  (A := List Id3 × (D → Option D) × Int) (B := Int) (fun a k => tk10 a.1 k a.2.1 (inM (lvL (a.1.take k.toNat))) a.2.2 (lvL (a.1.take k.toNat)).length)
  (fun a k => a.1.length ≤ 1000000 ∧ 0 ≤ k ∧ k.toNat ≤ a.1.length)
  (fun a k => (a.1.length - k).toNat)
  (fun a x => x = (.exit 2, ⟨68, [(5, .ref 0 0 0)], nodR a.2.1 (inM (lvL a.1)) noM noM a.2.2 (lvL a.1).length 0 0⟩))
  (by
    rintro ⟨l, f1, c1⟩ k ⟨hm, h0, h1⟩
    dsimp only at *
    rw [← vcTk10]
    simp only [List.length_map]
    refine condP (fun h => ?_) fun h => ?_
    · have hk : k.toNat < l.length := by omega
      rw [ix_nth hk]
      refine oblP ⟨h0, by omega⟩ (oblI (isIx _) (oblI (incI (by omega) (by omega)) ⟨_, ?_, k + 1, ?_, ⟨hm, by omega, by omega⟩, rfl⟩))
      · omega
      · have e : lvL (l.take (k + 1).toNat) = lvS (lvL (l.take k.toNat)) (l.getD k.toNat (0, 0, 0)) := by
          rw [show (k + 1).toNat = k.toNat + 1 by omega]
          exact foldl_take lvS [] l _ k.toNat hk
        rw [e, ← inM_add, ← inM_len]
        rfl
    · rw [List.take_of_length_le (by omega)]; rfl)
  (by
    rintro s post ⟨l, f1, c1, rfl, hm, hp⟩
    refine ⟨(l, f1, c1), 0, ?_, ⟨hm, by decide, by simp⟩, ?_⟩
    · have : inM (lvL []) = noM := by
        funext d
        show mpD _ _ d = none
        unfold mpD
        split <;> rfl
      show _ = tk10 l 0 f1 (inM (lvL [])) c1 0
      rw [this]
    · rintro x rfl
      exact hp)
theorem loopTk3 : LD X 26 3 (loopHook (kpF 26 3) gTk3) := LD.par (H := [(47, hRightId), (48, hName)]) (hk := []) (by kernel_rfl) (by kernel_rfl) (.cons okRightId (.cons okName .nil)) .nil
  (A := List Pl × List Id3) (B := Int) (fun a k => tk3 a.1 a.2 k (plM (tkL (a.1.take k.toNat))) (tkL (a.1.take k.toNat)).length)
  (fun a k => a.1.length ≤ 1000000 ∧ 0 ≤ k ∧ k.toNat ≤ a.1.length)
  (fun a k => (a.1.length - k).toNat)
  (fun a x => x = (.exit 0, ⟨68, [(1, idsP a.2), (5, .ref 0 0 0)], nodR (plM (tkL a.1)) noM noM noM (tkL a.1).length 0 0 0⟩))
  (by
    rintro ⟨l, live⟩ k ⟨hm, h0, h1⟩
    dsimp only at *
    (rw [← vcTk3]; delta vcTk3_0 vcTk3_1 vcTk3_2 vcTk3_3 vcTk3_4 vcTk3_5 vcTk3_6 vcTk3_7 vcTk3_8 vcTk3_9 vcTk3_10 vcTk3_11 vcTk3_12 vcTk3_13 vcTk3_14 vcTk3_15 vcTk3_16 vcTk3_17 vcTk3_18)
    simp only [List.length_map]
    refine condP (fun h => ?_) fun h => ?_
    · have hk : k.toNat < l.length := by omega
      rw [pl_nth hk]
      have e : tkL (l.take (k + 1).toNat) = tkS (tkL (l.take k.toNat)) (l.getD k.toNat pl0) := by
        rw [show (k + 1).toNat = k.toNat + 1 by omega]
        exact foldl_take tkS [] l _ k.toNat hk
      generalize l.getD k.toNat pl0 = p at e
      generalize tkL (l.take k.toNat) = T at e
      have go : ∀ T', tkS T p = T' → ∃ m, m < ((l.length : Int) - k).toNat ∧ ∃ b, (⟨68, [(1, idsP live), (5, .ref 0 0 0), (18, plsP l), (19, .d (.int .i64 (l.length : Int))), (20, .d (.int .i64 (k + 1)))], nodR (plM T') noM noM noM T'.length 0 0 0⟩ : S) = tk3 l live b (plM (tkL (l.take b.toNat))) (tkL (l.take b.toNat)).length ∧ (l.length ≤ 1000000 ∧ 0 ≤ b ∧ b.toNat ≤ l.length) ∧ m = ((l.length : Int) - b).toNat := fun T' hT => ⟨((l.length : Int) - (k + 1)).toNat, by omega, k + 1, by rw [e, hT], ⟨hm, by omega, by omega⟩, rfl⟩
      refine oblP ⟨h0, by omega⟩ (oblI (isPl _) (oblI ?_ (condI (fun hh => ?_) fun hh => oblI (incI (by omega) (by omega)) ?_)))
      · show isD PR 47 (getO (plM T (ixD p.1)) _) = true
        rw [plM_id]
        cases atPl T p.1 with
        | none => kernel_rfl
        | some q => exact isPl q
      · have hno : (atPl T p.1).isSome = false := by
          have hh' : (!(plM T (ixD p.1)).isSome) = true := hh
          have : (plM T (ixD p.1)).isSome = false := by simpa using hh'
          rw [plM_id, Option.isSome_map] at this
          exact this
        refine ⟨p.1.1, p.1.2.1, p.1.2.2, rfl, rfl, condI (fun h3 => ⟨p.2.2.1, rfl, rfl, condI (fun h4 => oblI (incI (by omega) (by omega)) ?_) fun h4 => oblI (incI (by omega) (by omega)) ?_⟩) fun h3 => oblI (incI (by omega) (by omega)) ?_⟩
        · have := go (T ++ [p]) (by unfold tkS; simp [hno, okPl, h3, h4])
          rw [← atPl_add hno] at this
          have el : ((T ++ [p]).length : Int) = (bif Option.isSome (plM T (ixD p.1)) then (T.length : Int) else (T.length : Int) + 1) := by
            rw [plM_id]; simp [hno]
          rw [el] at this
          exact this
        · exact go T (by unfold tkS; simp [hno, okPl, h4])
        · exact go T (by unfold tkS; simp [hno, okPl, h3])
      · have hyes : (atPl T p.1).isSome = true := by
          have hh' : (!(plM T (ixD p.1)).isSome) = false := hh
          have : (plM T (ixD p.1)).isSome = true := by simpa using hh'
          rw [plM_id, Option.isSome_map] at this
          exact this
        exact go T (by unfold tkS; simp [hyes])
    · rw [List.take_of_length_le (by omega)]; rfl)
  (by
    rintro s post ⟨l, live, rfl, hm, hp⟩
    refine ⟨(l, live), 0, ?_, ⟨hm, by decide, by simp⟩, ?_⟩
    · have : plM (tkL []) = noM := by
        funext d
        show mpD _ _ d = none
        unfold mpD
        split <;> rfl
      show _ = tk3 l live 0 (plM (tkL [])) 0
      rw [this]
    · rintro x rfl
      exact hp)
theorem okTaken : FD X 26 hTaken := FD.mk (H := []) (hk := [(3, loopHook (kpF 26 3) gTk3), (10, loopHook (kpF 26 10) gTk10)]) (by kernel_rfl) .nil (.cons loopTk3 (.cons loopTk10 .nil)) (by
  intro ps R post hh
  obtain ⟨l, live, rfl, rfl, ⟨h1, h2⟩, hp⟩ := hh
  (rw [← vcTk]; delta vcTk_0 vcTk_1 vcTk_2 vcTk_3 vcTk_4 vcTk_5 vcTk_6 vcTk_7 vcTk_8 vcTk_9 vcTk_10)
  simp only [List.length_map]
  exact ⟨l, live, rfl, h1, live, _, _, rfl, h2, hp⟩)
end
end Pi

/- Tree: way: what its runs ask. -/
namespace Pi
open Go Go.Proofs
set_option maxRecDepth 100000
set_option maxHeartbeats 0
/-- The nodes' maps, lent. -/
abbrev nodT (f1 f2 f3 f4 : D → Option D) (c1 c2 c3 c4 : Int) (z2 z3 : Bool) : List (Nat × En) :=
  [(0, ⟨0, some 0, .box 61 [.mp 1 0, .mp 2 0, .mp 3 0, .mp 4 0]⟩), (1, ⟨0, some 1, .map 41 f1 c1 false⟩), (2, ⟨0, some 2, .map 41 f2 c2 z2⟩), (3, ⟨0, some 3, .map 41 f3 c3 z3⟩), (4, ⟨0, some 4, .map 41 f4 c4 false⟩)]
abbrev wyR (x : Id3) (out : List Id3) (f1 f2 f3 f4 : D → Option D) (c1 c2 c3 c4 : Int) (z2 z3 : Bool) : List (Nat × En) :=
  nodT f1 f2 f3 f4 c1 c2 c3 c4 z2 z3 ++ [(5, ⟨0, none, .box 41 [.d (.int .i64 x.1), .d (.int .i64 x.2.1), .d (.int .i64 x.2.2)]⟩), (6, ⟨0, none, .arr 41 false (out.map ixD)⟩)]
abbrev wyH (x : Id3) (out : List Id3) (m k : Int) (f1 f2 f3 f4 : D → Option D) (c1 c2 c3 c4 : Int) (z2 z3 : Bool) : S :=
  ⟨50, [(0, .ref 0 0 0), (3, .ref 5 0 0), (6, .sl 6 0 out.length), (15, .d (.int .i64 m)), (16, .d (.int .i64 k))], wyR x out f1 f2 f3 f4 c1 c2 c3 c4 z2 z3⟩
def vcWyN_0 (x : Id3) : D := D.agg [D.int IntKind.i64 (Prod.fst x), D.int IntKind.i64 (Prod.fst (Prod.snd x)), D.int IntKind.i64 (Prod.snd (Prod.snd x))]
def vcWyN_1  : D := D.int IntKind.i64 (0 : Int)
def vcWyN_2 (x : Id3) (f1 : D → Option D) : D := getO (f1 (vcWyN_0 x)) (D.agg [vcWyN_1, vcWyN_1, vcWyN_1, vcWyN_1, vcWyN_1, vcWyN_1, D.str [], D.bool false])
def vcWyN_3  : Nat × P := (0, P.ref 0 0 0)
def vcWyN_4  : Nat × En := (0, En.mk 0 (some 0) (Obj.box (61 : TypeId) [P.mp 1 0, P.mp 2 0, P.mp 3 0, P.mp 4 0]))
def vcWyN_5 (f1 : D → Option D) (c1 : Int) : Nat × En := (1, En.mk 0 (some 1) (Obj.map 41 f1 c1 false))
def vcWyN_6 (f2 : D → Option D) (c2 : Int) (z2 : Bool) : Nat × En := (2, En.mk 0 (some 2) (Obj.map 41 f2 c2 z2))
def vcWyN_7 (f3 : D → Option D) (c3 : Int) (z3 : Bool) : Nat × En := (3, En.mk 0 (some 3) (Obj.map 41 f3 c3 z3))
def vcWyN_8 (f4 : D → Option D) (c4 : Int) : Nat × En := (4, En.mk 0 (some 4) (Obj.map 41 f4 c4 false))
def vcWyN_9 (x : Id3) (out : List Id3) : Nat := List.length out + List.length [vcWyN_0 x]
def vcWyN_10 (x : Id3) (out : List Id3) : En := En.mk 0 none (Obj.arr (41 : TypeId) false (List.take (List.length out) (List.map ixD out) ++ [vcWyN_0 x]))
def vcWyN_11 (k : Int) : Int := k + (1 : Int)
theorem vcWyN (x : Id3) (out : List Id3) (m k : Int) (f1 f2 f3 f4 : D → Option D) (c1 c2 c3 c4 : Int) (z2 z3 : Bool) (post : PX × S → Prop) : (bif decide (k < m) then bif isD PR (47 : TypeId) (vcWyN_2 x f1) then bif !Option.isSome (f1 (vcWyN_0 x)) then post (PX.ret, S.mk 50 [vcWyN_3, (4, P.sl 5 0 0), (5, P.d (D.bool false))] [vcWyN_4, vcWyN_5 f1 c1, vcWyN_6 f2 c2 z2, vcWyN_7 f3 c3 z3, vcWyN_8 f4 c4, (5, En.mk 0 none (Obj.arr (41 : TypeId) false []))]) else bif decide ((↑(List.length out) : Int) > (0 : Int)) then bif !D.bVal (D.cAt (vcWyN_2 x f1) 7) then post (PX.ret, S.mk 50 [vcWyN_3, (4, P.sl 5 0 0), (5, P.d (D.bool false))] [vcWyN_4, vcWyN_5 f1 c1, vcWyN_6 f2 c2 z2, vcWyN_7 f3 c3 z3, vcWyN_8 f4 c4, (5, En.mk 0 none (Obj.arr (41 : TypeId) false []))]) else bif Nat.ble (List.length out) (List.length (List.map ixD out)) && roomOk (vcWyN_9 x out) 24 then bif D.iVal (D.cAt (vcWyN_2 x f1) 3) == (0 : Int) && (D.iVal (D.cAt (vcWyN_2 x f1) 4) == (0 : Int) && true) && (D.iVal (D.cAt (vcWyN_2 x f1) 5) == (0 : Int) && true) then post (PX.ret, S.mk 50 [vcWyN_3, (4, P.sl 5 0 (vcWyN_9 x out)), (5, P.d (D.bool true))] [vcWyN_4, vcWyN_5 f1 c1, vcWyN_6 f2 c2 z2, vcWyN_7 f3 c3 z3, vcWyN_8 f4 c4, (5, vcWyN_10 x out)]) else bif decide ((-9223372036854775808 : Int) ≤ vcWyN_11 k ∧ vcWyN_11 k ≤ (9223372036854775807 : Int)) then post (PX.normal, S.mk 50 [vcWyN_3, (3, P.ref 5 0 0), (6, P.sl 6 0 (vcWyN_9 x out)), (15, P.d (D.int IntKind.i64 m)), (16, P.d (D.int IntKind.i64 (vcWyN_11 k)))] [vcWyN_4, vcWyN_5 f1 c1, vcWyN_6 f2 c2 z2, vcWyN_7 f3 c3 z3, vcWyN_8 f4 c4, (5, En.mk 0 none (Obj.box (41 : TypeId) [P.d (D.int IntKind.i64 (D.iVal (D.cAt (vcWyN_2 x f1) 3))), P.d (D.int IntKind.i64 (D.iVal (D.cAt (vcWyN_2 x f1) 4))), P.d (D.int IntKind.i64 (D.iVal (D.cAt (vcWyN_2 x f1) 5)))])), (6, vcWyN_10 x out)]) else False else False else bif Nat.ble (List.length out) (List.length (List.map ixD out)) && roomOk (vcWyN_9 x out) 24 then bif D.iVal (D.cAt (vcWyN_2 x f1) 3) == (0 : Int) && (D.iVal (D.cAt (vcWyN_2 x f1) 4) == (0 : Int) && true) && (D.iVal (D.cAt (vcWyN_2 x f1) 5) == (0 : Int) && true) then post (PX.ret, S.mk 50 [vcWyN_3, (4, P.sl 5 0 (vcWyN_9 x out)), (5, P.d (D.bool true))] [vcWyN_4, vcWyN_5 f1 c1, vcWyN_6 f2 c2 z2, vcWyN_7 f3 c3 z3, vcWyN_8 f4 c4, (5, vcWyN_10 x out)]) else bif decide ((-9223372036854775808 : Int) ≤ vcWyN_11 k ∧ vcWyN_11 k ≤ (9223372036854775807 : Int)) then post (PX.normal, S.mk 50 [vcWyN_3, (3, P.ref 5 0 0), (6, P.sl 6 0 (vcWyN_9 x out)), (15, P.d (D.int IntKind.i64 m)), (16, P.d (D.int IntKind.i64 (vcWyN_11 k)))] [vcWyN_4, vcWyN_5 f1 c1, vcWyN_6 f2 c2 z2, vcWyN_7 f3 c3 z3, vcWyN_8 f4 c4, (5, En.mk 0 none (Obj.box (41 : TypeId) [P.d (D.int IntKind.i64 (D.iVal (D.cAt (vcWyN_2 x f1) 3))), P.d (D.int IntKind.i64 (D.iVal (D.cAt (vcWyN_2 x f1) 4))), P.d (D.int IntKind.i64 (D.iVal (D.cAt (vcWyN_2 x f1) 5)))])), (6, vcWyN_10 x out)]) else False else False else False else post (PX.exit 0, S.mk 50 [vcWyN_3] [vcWyN_4, vcWyN_5 f1 c1, vcWyN_6 f2 c2 z2, vcWyN_7 f3 c3 z3, vcWyN_8 f4 c4])) = (roundL [] [] 49 3 (wyH x out m k f1 f2 f3 f4 c1 c2 c3 c4 z2 z3)) post := by kernel_rfl
/-- A node and all above it. -/
def wyF (T : List Pl) : Nat → Id3 → List Id3 → Option (List Id3)
  | 0, _, _ => none
  | n + 1, x, out => match atPl T x with
    | none => none
    | some p => if 0 < out.length ∧ p.2.2.2 = false then none else if p.2.1 = (0, 0, 0) then some (out ++ [x]) else wyF T n p.2.1 (out ++ [x])
def wy (T : List Pl) (x : Id3) : Option (List Id3) := wyF T (T.length + 1) x []
abbrev wyO (l : List Id3) (b : Bool) (f1 f2 f3 f4 : D → Option D) (c1 c2 c3 c4 : Int) (z2 z3 : Bool) : S :=
  ⟨50, [(0, .ref 0 0 0), (4, .sl 5 0 l.length), (5, .d (.bool b))], nodT f1 f2 f3 f4 c1 c2 c3 c4 z2 z3 ++ [(5, ⟨0, none, .arr 41 false (l.map ixD)⟩)]⟩
def gWy : S → K (PX × S) := fun s post => ∃ T x f2 f3 f4 c2 c3 c4 z2 z3, s = wyH x [] ((T.length : Int) + 1) 0 (plM T) f2 f3 f4 T.length c2 c3 c4 z2 z3 ∧ T.length ≤ 1000000 ∧
  (∀ l, wy T x = some l → post (.ret, wyO l true (plM T) f2 f3 f4 T.length c2 c3 c4 z2 z3)) ∧ (wy T x = none → post (.ret, wyO [] false (plM T) f2 f3 f4 T.length c2 c3 c4 z2 z3) ∧ post (.exit 0, ⟨50, [(0, .ref 0 0 0)], nodT (plM T) f2 f3 f4 T.length c2 c3 c4 z2 z3⟩))
def vcWy_0 (c1 : Int) : Int := c1 + (1 : Int)
def vcWy_1  : Nat × P := (0, P.ref 0 0 0)
def vcWy_2  : Nat × P := (3, P.ref 5 0 0)
def vcWy_3  : Nat × P := (6, P.sl 6 0 0)
def vcWy_4  : List (Nat × P) := [(16, P.d (D.int IntKind.i64 (0 : Int)))]
def vcWy_5  : Nat × En := (0, En.mk 0 (some 0) (Obj.box (61 : TypeId) [P.mp 1 0, P.mp 2 0, P.mp 3 0, P.mp 4 0]))
def vcWy_6  : En := En.mk 0 none (Obj.arr (41 : TypeId) false [])
def vcWy_7  : List (Nat × En) := [(6, vcWy_6)]
def vcWy_8 (v0 : List Pl) : Nat × En := (1, En.mk 0 (some 1) (Obj.map 41 (fun (x : D) => match x with | D.agg [D.int IntKind.i64 a, D.int IntKind.i64 b, D.int IntKind.i64 c] => Option.map plD (atPl v0 (a, b, c)) | _ => none) (↑(List.length v0) : Int) false))
def vcWy_9 (v3 : D → Option D) (v6 : Int) (v9 : Bool) : Nat × En := (2, En.mk 0 (some 2) (Obj.map 41 v3 v6 v9))
def vcWy_10 (v4 : D → Option D) (v7 : Int) (v10 : Bool) : Nat × En := (3, En.mk 0 (some 3) (Obj.map 41 v4 v7 v10))
def vcWy_11 (v5 : D → Option D) (v8 : Int) : Nat × En := (4, En.mk 0 (some 4) (Obj.map 41 v5 v8 false))
theorem vcWy (T : List Pl) (x : Id3) (f2 f3 f4 : D → Option D) (c1 c2 c3 c4 : Int) (z2 z3 : Bool) (post : P × List (Nat × En) → Prop) : (bif decide ((-9223372036854775808 : Int) ≤ vcWy_0 c1 ∧ vcWy_0 c1 ≤ (9223372036854775807 : Int)) then ∃ (T_1 : List Pl), ∃ (x_1 : Id3), ∃ (f2_1 : D → Option D), ∃ (f3_1 : D → Option D), ∃ (f4_1 : D → Option D), ∃ (c2_1 : Int), ∃ (c3_1 : Int), ∃ (c4_1 : Int), ∃ (z2_1 : Bool), ∃ (z3_1 : Bool), S.mk 50 (vcWy_1 :: vcWy_2 :: vcWy_3 :: (15, P.d (D.int IntKind.i64 (vcWy_0 c1))) :: vcWy_4) (vcWy_5 :: (1, En.mk 0 (some 1) (Obj.map 41 (fun (x : D) => match x with | D.agg [D.int IntKind.i64 a, D.int IntKind.i64 b, D.int IntKind.i64 c] => Option.map plD (atPl T (a, b, c)) | _ => none) c1 false)) :: (2, En.mk 0 (some 2) (Obj.map 41 f2 c2 z2)) :: (3, En.mk 0 (some 3) (Obj.map 41 f3 c3 z3)) :: (4, En.mk 0 (some 4) (Obj.map 41 f4 c4 false)) :: (5, En.mk 0 none (Obj.box (41 : TypeId) [P.d (D.int IntKind.i64 (Prod.fst x)), P.d (D.int IntKind.i64 (Prod.fst (Prod.snd x))), P.d (D.int IntKind.i64 (Prod.snd (Prod.snd x)))])) :: vcWy_7) = S.mk 50 (vcWy_1 :: vcWy_2 :: vcWy_3 :: (15, P.d (D.int IntKind.i64 ((↑(List.length T_1) : Int) + (1 : Int)))) :: vcWy_4) (vcWy_5 :: vcWy_8 T_1 :: vcWy_9 f2_1 c2_1 z2_1 :: vcWy_10 f3_1 c3_1 z3_1 :: vcWy_11 f4_1 c4_1 :: (5, En.mk 0 none (Obj.box (41 : TypeId) [P.d (D.int IntKind.i64 (Prod.fst x_1)), P.d (D.int IntKind.i64 (Prod.fst (Prod.snd x_1))), P.d (D.int IntKind.i64 (Prod.snd (Prod.snd x_1)))])) :: vcWy_7) ∧ List.length T_1 ≤ 1000000 ∧ (∀ (l : List Id3), wy T_1 x_1 = some l → post (P.tup [P.sl 5 0 (List.length l), P.d (D.bool true)], [vcWy_5, vcWy_8 T_1, vcWy_9 f2_1 c2_1 z2_1, vcWy_10 f3_1 c3_1 z3_1, vcWy_11 f4_1 c4_1, (5, En.mk 0 none (Obj.arr (41 : TypeId) false (List.map ixD l)))])) ∧ (wy T_1 x_1 = none → post (P.tup [P.sl 5 0 0, P.d (D.bool false)], [vcWy_5, vcWy_8 T_1, vcWy_9 f2_1 c2_1 z2_1, vcWy_10 f3_1 c3_1 z3_1, vcWy_11 f4_1 c4_1, (5, vcWy_6)]) ∧ post (P.tup [P.sl 5 0 0, P.d (D.bool false)], [vcWy_5, vcWy_8 T_1, vcWy_9 f2_1 c2_1 z2_1, vcWy_10 f3_1 c3_1 z3_1, vcWy_11 f4_1 c4_1, (5, vcWy_6)])) else False) = (bodyF [] [(3, loopHook (kpF 49 3) gWy)] 49 [.ref 0 0 0, .d (ixD x)] (nodT (plM T) f2 f3 f4 c1 c2 c3 c4 z2 z3)) post := by kernel_rfl
def hWay : KF1 := fun ps R post => ∃ T x f2 f3 f4 c2 c3 c4 z2 z3, ps = [.ref 0 0 0, .d (ixD x)] ∧ R = nodT (plM T) f2 f3 f4 T.length c2 c3 c4 z2 z3 ∧ T.length ≤ 1000000 ∧
  (∀ l, wy T x = some l → post (.tup [.sl 5 0 l.length, .d (.bool true)], nodT (plM T) f2 f3 f4 T.length c2 c3 c4 z2 z3 ++ [(5, ⟨0, none, .arr 41 false (l.map ixD)⟩)])) ∧
  (wy T x = none → post (.tup [.sl 5 0 0, .d (.bool false)], nodT (plM T) f2 f3 f4 T.length c2 c3 c4 z2 z3 ++ [(5, ⟨0, none, .arr 41 false []⟩)]))
end Pi

/- Tree: way. -/
namespace Pi
open Go Go.Proofs
set_option maxRecDepth 100000
theorem take_ix (l : List Id3) : (l.map ixD).take l.length = l.map ixD := List.take_of_length_le (by simp)
section
variable {X : XF}
abbrev WyA := List Pl × Id3 × (D → Option D) × (D → Option D) × (D → Option D) × Int × Int × Int × Bool × Bool
theorem loopWy : LD X 49 3 (loopHook (kpF 49 3) gWy) := LD.par (H := []) (hk := []) (by kernel_rfl) (by kernel_rfl) .nil .nil
  (A := WyA) (B := Id3 × List Id3 × Int) (fun a b => wyH b.1 b.2.1 ((a.1.length : Int) + 1) b.2.2 (plM a.1) a.2.2.1 a.2.2.2.1 a.2.2.2.2.1 a.1.length a.2.2.2.2.2.1 a.2.2.2.2.2.2.1 a.2.2.2.2.2.2.2.1 a.2.2.2.2.2.2.2.2.1 a.2.2.2.2.2.2.2.2.2)
  (fun a b => a.1.length ≤ 1000000 ∧ b.2.2 = (b.2.1.length : Int) ∧ b.2.1.length ≤ a.1.length + 1 ∧ wyF a.1 (a.1.length + 1 - b.2.1.length) b.1 b.2.1 = wy a.1 a.2.1)
  (fun a b => a.1.length + 1 - b.2.1.length)
  (fun a x => (∃ l, wy a.1 a.2.1 = some l ∧ x = (.ret, wyO l true (plM a.1) a.2.2.1 a.2.2.2.1 a.2.2.2.2.1 a.1.length a.2.2.2.2.2.1 a.2.2.2.2.2.2.1 a.2.2.2.2.2.2.2.1 a.2.2.2.2.2.2.2.2.1 a.2.2.2.2.2.2.2.2.2)) ∨
    (wy a.1 a.2.1 = none ∧ (x = (.ret, wyO [] false (plM a.1) a.2.2.1 a.2.2.2.1 a.2.2.2.2.1 a.1.length a.2.2.2.2.2.1 a.2.2.2.2.2.2.1 a.2.2.2.2.2.2.2.1 a.2.2.2.2.2.2.2.2.1 a.2.2.2.2.2.2.2.2.2) ∨
      x = (.exit 0, ⟨50, [(0, .ref 0 0 0)], nodT (plM a.1) a.2.2.1 a.2.2.2.1 a.2.2.2.2.1 a.1.length a.2.2.2.2.2.1 a.2.2.2.2.2.2.1 a.2.2.2.2.2.2.2.1 a.2.2.2.2.2.2.2.2.1 a.2.2.2.2.2.2.2.2.2⟩))))
  (by
    rintro ⟨T, x0, f2, f3, f4, c2, c3, c4, z2, z3⟩ ⟨x, out, k⟩ ⟨hm, hk0, hle, hw⟩
    dsimp only at *
    (rw [← vcWyN]; delta vcWyN_0 vcWyN_1 vcWyN_2 vcWyN_3 vcWyN_4 vcWyN_5 vcWyN_6 vcWyN_7 vcWyN_8 vcWyN_9 vcWyN_10 vcWyN_11)
    refine condP (fun h => ?_) fun h => ?_
    · have hn : T.length + 1 - out.length = (T.length - out.length) + 1 := by omega
      rw [hn] at hw
      simp only [wyF] at hw
      have hf : plM T (D.agg [D.int IntKind.i64 (Prod.fst x), D.int IntKind.i64 (Prod.fst (Prod.snd x)), D.int IntKind.i64 (Prod.snd (Prod.snd x))]) = (atPl T x).map plD := rfl
      simp only [hf]
      cases hp : atPl T x with
      | none =>
        rw [hp] at hw
        exact oblI (by kernel_rfl) (condT rfl (.inr ⟨hw.symm, .inl rfl⟩))
      | some p =>
        rw [hp] at hw
        simp only at hw
        refine oblI (isPl p) (condF rfl ?_)
        have fit : decide ((-9223372036854775808 : Int) ≤ k + (1 : Int) ∧ k + (1 : Int) ≤ (9223372036854775807 : Int)) = true := incI (by omega) (by omega)
        have room : (Nat.ble (List.length out) (List.length (List.map ixD out)) && roomOk (List.length out + List.length [D.agg [D.int IntKind.i64 (Prod.fst x), D.int IntKind.i64 (Prod.fst (Prod.snd x)), D.int IntKind.i64 (Prod.snd (Prod.snd x))]]) 24) = true := by
          rw [List.length_map]
          simp [roomOk]
          omega
        have e1 : (out ++ [x]).length = out.length + List.length [D.agg [D.int IntKind.i64 (Prod.fst x), D.int IntKind.i64 (Prod.fst (Prod.snd x)), D.int IntKind.i64 (Prod.snd (Prod.snd x))]] := by simp
        have e2 : (out ++ [x]).map ixD = List.take out.length (out.map ixD) ++ [D.agg [D.int IntKind.i64 (Prod.fst x), D.int IntKind.i64 (Prod.fst (Prod.snd x)), D.int IntKind.i64 (Prod.snd (Prod.snd x))]] := by rw [take_ix]; simp [ixD]
        have pz : ∀ b : Bool, (p.2.1.1 == 0 && (p.2.1.2.1 == 0 && true) && (p.2.1.2.2 == 0 && true)) = b → (if p.2.1 = (0, 0, 0) then true else false) = b := fun b hb => by
          subst hb
          by_cases h3 : p.2.1 = (0, 0, 0)
          · rw [h3]; rfl
          · rw [if_neg h3]
            cases hb : (p.2.1.1 == 0 && (p.2.1.2.1 == 0 && true) && (p.2.1.2.2 == 0 && true)) with
            | false => rfl
            | true =>
              simp at hb
              exact absurd (Prod.ext hb.1.1 (Prod.ext hb.1.2 hb.2)) h3
        have f1 : ¬ (0 < out.length ∧ p.2.2.2 = false) → (p.2.1.1 == 0 && (p.2.1.2.1 == 0 && true) && (p.2.1.2.2 == 0 && true)) = true → wy T x0 = some (out ++ [x]) := fun hg hz => by
          have h3 : p.2.1 = (0, 0, 0) := by
            have := pz _ hz
            by_cases h3 : p.2.1 = (0, 0, 0)
            · exact h3
            · rw [if_neg h3] at this; cases this
          rw [if_neg hg, if_pos h3] at hw
          exact hw.symm
        have f2' : ¬ (0 < out.length ∧ p.2.2.2 = false) → (p.2.1.1 == 0 && (p.2.1.2.1 == 0 && true) && (p.2.1.2.2 == 0 && true)) = false → wyF T (T.length + 1 - (out ++ [x]).length) p.2.1 (out ++ [x]) = wy T x0 := fun hg hz => by
          have h3 : ¬ p.2.1 = (0, 0, 0) := fun h3 => by
            have := pz _ hz
            rw [if_pos h3] at this; cases this
          rw [if_neg hg, if_neg h3] at hw
          have en : T.length + 1 - (out ++ [x]).length = T.length - out.length := by rw [List.length_append, List.length_singleton]; omega
          rw [en]
          exact hw
        refine condP (fun hpos => condI (fun hd => .inr ⟨?_, .inl rfl⟩) fun hd => oblI room (condI (fun hz => .inl ⟨out ++ [x], ?_, ?_⟩) fun hz => oblI fit ⟨T.length + 1 - (out ++ [x]).length, ?_, (p.2.1, out ++ [x], k + 1), ?_, ⟨hm, ?_, ?_, ?_⟩, ?_⟩))
          fun hpos => oblI room (condI (fun hz => .inl ⟨out ++ [x], ?_, ?_⟩) fun hz => oblI fit ⟨T.length + 1 - (out ++ [x]).length, ?_, (p.2.1, out ++ [x], k + 1), ?_, ⟨hm, ?_, ?_, ?_⟩, ?_⟩)
        · have hd' : (!p.2.2.2) = true := hd
          have hd2 : p.2.2.2 = false := by simpa using hd'
          rw [if_pos ⟨by omega, hd2⟩] at hw
          exact hw.symm
        · exact f1 (fun hg => by have hd' : (!p.2.2.2) = false := hd; rw [hg.2] at hd'; cases hd') hz
        · simp only [wyO, e1, e2]; rfl
        · simp; omega
        · simp only [wyH, wyR, e1, e2]; rfl
        · show k + 1 = ((out ++ [x]).length : Int)
          rw [hk0, List.length_append, List.length_singleton]
          omega
        · simp; omega
        · exact f2' (fun hg => by have hd' : (!p.2.2.2) = false := hd; rw [hg.2] at hd'; cases hd') hz
        · rfl
        · exact f1 (fun hg => hpos (by have := hg.1; omega)) hz
        · simp only [wyO, e1, e2]; rfl
        · simp; omega
        · simp only [wyH, wyR, e1, e2]; rfl
        · show k + 1 = ((out ++ [x]).length : Int)
          rw [hk0, List.length_append, List.length_singleton]
          omega
        · simp; omega
        · exact f2' (fun hg => hpos (by have := hg.1; omega)) hz
        · rfl
    · have : T.length + 1 - out.length = 0 := by omega
      rw [this] at hw
      exact .inr ⟨hw.symm, .inr rfl⟩)
  (by
    rintro s post ⟨T, x, f2, f3, f4, c2, c3, c4, z2, z3, rfl, hm, h1, h2⟩
    refine ⟨(T, x, f2, f3, f4, c2, c3, c4, z2, z3), (x, [], 0), rfl, ⟨hm, rfl, by simp, rfl⟩, ?_⟩
    rintro y (⟨l, h3, rfl⟩ | ⟨h3, rfl | rfl⟩)
    · exact h1 l h3
    · exact (h2 h3).1
    · exact (h2 h3).2)
theorem okWay : FD X 49 hWay := FD.mk (H := []) (hk := [(3, loopHook (kpF 49 3) gWy)]) (by kernel_rfl) .nil (.cons loopWy .nil) (by
  intro ps R post hh
  obtain ⟨T, x, f2, f3, f4, c2, c3, c4, z2, z3, h01, h02, hm, h1, h2⟩ := hh
  subst h01
  have key : ∀ c1 : Int, c1 = (T.length : Int) → bodyF [] [(3, loopHook (kpF 49 3) gWy)] 49 [.ref 0 0 0, .d (ixD x)] (nodT (plM T) f2 f3 f4 c1 c2 c3 c4 z2 z3) post := by
    intro c1 hc
    (rw [← vcWy]; delta vcWy_0 vcWy_1 vcWy_2 vcWy_3 vcWy_4 vcWy_5 vcWy_6 vcWy_7 vcWy_8 vcWy_9 vcWy_10 vcWy_11)
    refine oblI (incI (by omega) (by omega)) ⟨T, x, f2, f3, f4, c2, c3, c4, z2, z3, ?_, hm, fun l hl => h1 l hl, fun h => ⟨h2 h, h2 h⟩⟩
    rw [hc]
  rw [h02]
  clear h1 h2 h02
  generalize hc : (T.length : Int) = c1
  exact key c1 hc.symm)
end
end Pi

/- Tree: the order of ids and texts; sorting as it is done one by one. -/
namespace Pi
open Go
/-! ### orders -/
def ltX (x y : Id3) : Bool := decide (x.1 < y.1 ∨ x.1 = y.1 ∧ (x.2.1 < y.2.1 ∨ x.2.1 = y.2.1 ∧ x.2.2 < y.2.2))
theorem cmpX_lt (x y : Id3) : cmpId x.1 x.2.1 x.2.2 y.1 y.2.1 y.2.2 < 0 ↔ ltX x y = true := by
  unfold ltX
  simp only [decide_eq_true_eq, cmpId, cmpS, orI, cmpI]
  (repeat' split) <;> omega
/-- A strict order, all in all. -/
structure Lin {α : Type} (lt : α → α → Bool) : Prop where
  irr : ∀ x, lt x x = false
  tr : ∀ x y z, lt x y = true → lt y z = true → lt x z = true
  tot : ∀ x y, lt x y = false → lt y x = false → x = y
theorem lin_X : Lin ltX where
  irr x := by simp [ltX]
  tr x y z := by simp only [ltX, decide_eq_true_eq]; omega
  tot x y := by
    simp only [ltX, decide_eq_false_iff_not]
    intro h1 h2
    obtain ⟨a, b, c⟩ := x
    obtain ⟨d, e, f⟩ := y
    simp only at h1 h2
    have : a = d := by omega
    have : b = e := by omega
    have : c = f := by omega
    subst_vars
    rfl
theorem Lin.asymm {α : Type} {lt : α → α → Bool} (h : Lin lt) {x y : α} (h1 : lt x y = true) : lt y x = false := by
  cases h2 : lt y x with
  | false => rfl
  | true => have := h.tr _ _ _ h1 h2; rw [h.irr] at this; cases this
theorem Lin.ntr {α : Type} {lt : α → α → Bool} (h : Lin lt) {x y z : α} (h1 : lt x y = false) (h2 : lt y z = false) : lt x z = false := by
  cases h3 : lt x z with
  | false => rfl
  | true =>
    cases h4 : lt y x with
    | true => rw [h.tr _ _ _ h4 h3] at h2; cases h2
    | false =>
      have := h.tot _ _ h1 h4
      subst this
      rw [h3] at h2
      cases h2
theorem bytesLess_nil : ∀ x, Op.bytesLess x [] = false
  | [] => rfl
  | _ :: _ => rfl
theorem bytesLess_cons (a b : UInt8) (r s : List UInt8) : Op.bytesLess (a :: r) (b :: s) = (decide (a < b) || a == b && Op.bytesLess r s) := rfl
theorem bytesLess_irr : ∀ x, Op.bytesLess x x = false
  | [] => rfl
  | a :: r => by rw [bytesLess_cons, bytesLess_irr r]; simp [UInt8.lt_irrefl]
theorem bytesLess_tot : ∀ x y, Op.bytesLess x y = false → Op.bytesLess y x = false → x = y
  | [], [], _, _ => rfl
  | [], _ :: _, h, _ => by cases h
  | _ :: _, [], _, h => by cases h
  | a :: r, b :: s, h1, h2 => by
    rw [bytesLess_cons] at h1 h2
    simp only [Bool.or_eq_false_iff, decide_eq_false_iff_not, Bool.and_eq_false_imp, beq_iff_eq] at h1 h2
    have : a = b := UInt8.le_antisymm (UInt8.not_lt.1 h2.1) (UInt8.not_lt.1 h1.1)
    subst this
    rw [bytesLess_tot r s (h1.2 rfl) (h2.2 rfl)]
theorem bytesLess_tr : ∀ x y z, Op.bytesLess x y = true → Op.bytesLess y z = true → Op.bytesLess x z = true
  | _, y, [], _, h => by rw [bytesLess_nil] at h; cases h
  | x, [], _ :: _, h, _ => by rw [bytesLess_nil] at h; cases h
  | [], _ :: _, _ :: _, _, _ => rfl
  | a :: r, b :: s, c :: t, h1, h2 => by
    rw [bytesLess_cons] at h1 h2 ⊢
    simp only [Bool.or_eq_true, decide_eq_true_eq, Bool.and_eq_true, beq_iff_eq] at h1 h2 ⊢
    rcases h1 with h1 | ⟨rfl, h1⟩
    · rcases h2 with h2 | ⟨rfl, h2⟩
      · exact .inl (UInt8.lt_trans h1 h2)
      · exact .inl h1
    · rcases h2 with h2 | ⟨rfl, h2⟩
      · exact .inl h2
      · exact .inr ⟨rfl, bytesLess_tr r s t h1 h2⟩
theorem lin_B : Lin Op.bytesLess := ⟨bytesLess_irr, bytesLess_tr, bytesLess_tot⟩
theorem cmpB_lt (x y : List UInt8) : cmpB x y < 0 ↔ Op.bytesLess x y = true := by
  unfold cmpB
  split
  · simp_all
  · split <;> simp_all
/-! ### sorting, one by one -/
section
variable {α : Type} (lt : α → α → Bool)
/-- Into a row that falls. -/
def insE (a : α) : List α → List α
  | [] => [a]
  | b :: r => if lt a b then b :: insE a r else a :: b :: r
/-- Put in at its end, and moved down. -/
def insR (o : List α) (a : α) : List α := (insE lt a o.reverse).reverse
def sortI (l : List α) : List α := l.foldl (insR lt) []
variable {lt}
theorem insE_perm (a : α) : ∀ l, (insE lt a l).Perm (a :: l)
  | [] => .refl _
  | b :: r => by
    unfold insE
    split
    · exact ((insE_perm a r).cons b).trans (.swap a b r)
    · exact .refl _
theorem insR_perm (o : List α) (a : α) : (insR lt o a).Perm (o ++ [a]) := by
  unfold insR
  refine (List.reverse_perm _).trans ((insE_perm a _).trans ?_)
  exact ((List.reverse_perm o).cons a).trans (List.perm_append_comm (l₁ := [a]) (l₂ := o))
theorem foldI_perm : ∀ (l o : List α), (l.foldl (insR lt) o).Perm (o ++ l)
  | [], o => by simp
  | a :: r, o => by
    refine (foldI_perm r _).trans ?_
    exact ((insR_perm o a).append_right r).trans (by simp)
theorem sortI_perm (l : List α) : (sortI lt l).Perm l := by simpa [sortI] using foldI_perm (lt := lt) l []
theorem insE_pw (h : Lin lt) (a : α) : ∀ l, l.Pairwise (fun x y => lt x y = false) → (insE lt a l).Pairwise (fun x y => lt x y = false)
  | [], _ => by simp [insE]
  | b :: r, hp => by
    unfold insE
    have hp' := List.pairwise_cons.1 hp
    split
    · rename_i hl
      refine List.pairwise_cons.2 ⟨fun y hy => ?_, insE_pw h a r hp'.2⟩
      rcases List.mem_cons.1 ((insE_perm a r).mem_iff.1 hy) with rfl | hy
      · exact h.asymm hl
      · exact hp'.1 _ hy
    · rename_i hl
      have hl : lt a b = false := by simpa using hl
      refine List.pairwise_cons.2 ⟨fun y hy => ?_, hp⟩
      rcases List.mem_cons.1 hy with rfl | hy
      · exact hl
      · exact h.ntr hl (hp'.1 _ hy)
theorem insR_pw (h : Lin lt) {o : List α} (a : α) (hp : o.Pairwise (fun x y => lt y x = false)) : (insR lt o a).Pairwise (fun x y => lt y x = false) := by
  unfold insR
  rw [List.pairwise_reverse]
  exact insE_pw h a _ (by rw [List.pairwise_reverse]; exact hp)
theorem foldI_pw (h : Lin lt) : ∀ (l o : List α), o.Pairwise (fun x y => lt y x = false) → (l.foldl (insR lt) o).Pairwise (fun x y => lt y x = false)
  | [], _, hp => hp
  | a :: r, _, hp => foldI_pw h r _ (insR_pw h a hp)
theorem sortI_pw (h : Lin lt) (l : List α) : (sortI lt l).Pairwise (fun x y => lt y x = false) := foldI_pw h l [] .nil
/-- There is one sorted row. -/
theorem sorted_one (h : Lin lt) {a b : List α} (hp : a.Perm b) (ha : a.Pairwise (fun x y => lt y x = false)) (hb : b.Pairwise (fun x y => lt y x = false)) : a = b :=
  List.Perm.eq_of_pairwise (fun _ _ _ _ h1 h2 => h.tot _ _ h2 h1) ha hb hp
theorem sortI_of (h : Lin lt) {a b : List α} (hp : a.Perm b) (ha : a.Pairwise (fun x y => lt y x = false)) : a = sortI lt b :=
  sorted_one h (hp.trans (sortI_perm b).symm) ha (sortI_pw h b)
end
/-- Sorted by keys that are unlike. -/
theorem sorted_key {α β : Type} {lt : β → β → Bool} (h : Lin lt) (key : α → β) {a b : List α} (hk : ∀ x ∈ a, ∀ y ∈ a, key x = key y → x = y) (hp : a.Perm b)
    (ha : a.Pairwise (fun x y => lt (key y) (key x) = false)) (hb : b.Pairwise (fun x y => lt (key y) (key x) = false)) : a = b :=
  List.Perm.eq_of_pairwise (le := fun x y => lt (key y) (key x) = false) (fun x y hx hy h1 h2 => hk x hx y (hp.mem_iff.2 hy) (h.tot _ _ h2 h1)) ha hb hp
theorem insE_key {α β : Type} {lt : β → β → Bool} (key : α → β) (a : α) : ∀ l : List α, (insE (fun x y => lt (key x) (key y)) a l).map key = insE lt (key a) (l.map key)
  | [] => rfl
  | b :: r => by
    simp only [insE, List.map_cons]
    split
    · simp [insE_key key a r]
    · simp
theorem insR_key {α β : Type} {lt : β → β → Bool} (key : α → β) (o : List α) (a : α) : (insR (fun x y => lt (key x) (key y)) o a).map key = insR lt (o.map key) (key a) := by
  unfold insR
  rw [List.map_reverse, insE_key, List.map_reverse]
theorem foldI_key {α β : Type} {lt : β → β → Bool} (key : α → β) : ∀ l o : List α, (l.foldl (insR (fun x y => lt (key x) (key y))) o).map key = (l.map key).foldl (insR lt) (o.map key)
  | [], _ => rfl
  | a :: r, o => by
    simp only [List.foldl_cons, List.map_cons]
    rw [foldI_key key r, insR_key]
theorem sortI_key {α β : Type} {lt : β → β → Bool} (h : Lin lt) (key : α → β) (l : List α) : (sortI (fun x y => lt (key x) (key y)) l).Pairwise (fun x y => lt (key y) (key x) = false) := by
  have e : (sortI (fun x y => lt (key x) (key y)) l).map key = sortI lt (l.map key) := foldI_key key l []
  have := sortI_pw h (l.map key)
  rw [← e, List.pairwise_map] at this
  exact this
end Pi

/- Tree: ways up to the root. -/
namespace Pi
open Go
abbrev rootId : Id3 := (0, 0, 0)
/-- A node and all above it, by directories. -/
inductive Up (T : List Pl) : Id3 → List Id3 → Prop
  | top {x : Id3} {p : Pl} (h : atPl T x = some p) (h0 : p.2.1 = rootId) : Up T x [x]
  | step {x : Id3} {p q : Pl} {w : List Id3} (h : atPl T x = some p) (h0 : p.2.1 ≠ rootId) (hq : atPl T p.2.1 = some q) (hd : q.2.2.2 = true) (hw : Up T p.2.1 w) : Up T x (x :: w)
section
variable {T : List Pl}
theorem atPl_mem {x : Id3} {p : Pl} (h : atPl T x = some p) : p ∈ T ∧ p.1 = x := by
  unfold atPl at h
  exact ⟨List.mem_of_find?_eq_some h, by simpa using List.find?_some h⟩
theorem Up.one {x : Id3} {w : List Id3} (h : Up T x w) : ∀ {w'}, Up T x w' → w = w' := by
  induction h with
  | top h h0 =>
    intro w' h'
    cases h' with
    | top => rfl
    | step h1 h2 => rw [h] at h1; cases h1; exact absurd h0 h2
  | step h h0 hq hd hw ih =>
    intro w' h'
    cases h' with
    | top h1 h2 => rw [h] at h1; cases h1; exact absurd h2 h0
    | step h1 h2 _ _ h5 => rw [h] at h1; cases h1; rw [ih h5]
theorem Up.hd {x : Id3} {w : List Id3} (h : Up T x w) : ∃ r, w = x :: r := by
  cases h with
  | top => exact ⟨_, rfl⟩
  | step => exact ⟨_, rfl⟩
theorem Up.at {x : Id3} {w : List Id3} (h : Up T x w) : ∃ p, atPl T x = some p := by
  cases h with
  | top h => exact ⟨_, h⟩
  | step h => exact ⟨_, h⟩
theorem Up.sub {x : Id3} {w : List Id3} (h : Up T x w) : ∀ u ∈ w, ∃ w', Up T u w' ∧ w'.length ≤ w.length ∧ ∃ v, w = v ++ w' := by
  induction h with
  | top h h0 =>
    intro u hu
    simp at hu
    subst hu
    exact ⟨_, .top h h0, by simp, [], rfl⟩
  | @step x p q w h h0 hq hd hw ih =>
    intro u hu
    rcases List.mem_cons.1 hu with rfl | hu
    · exact ⟨_, .step h h0 hq hd hw, Nat.le_refl _, [], rfl⟩
    · obtain ⟨w', h1, h2, v, h3⟩ := ih u hu
      exact ⟨w', h1, by simp; omega, x :: v, by rw [h3]; rfl⟩
theorem Up.nodup {x : Id3} {w : List Id3} (h : Up T x w) : w.Nodup := by
  induction h with
  | top => simp
  | @step x p q w h h0 hq hd hw ih =>
    refine List.nodup_cons.2 ⟨fun hx => ?_, ih⟩
    obtain ⟨w', h1, h2, _⟩ := hw.sub x hx
    have := h1.one (.step h h0 hq hd hw)
    rw [this] at h2
    simp at h2
    omega
theorem Up.len {x : Id3} {w : List Id3} (h : Up T x w) : w.length ≤ T.length := by
  have : w ⊆ T.map (·.1) := fun u hu => by
    obtain ⟨w', h1, _⟩ := h.sub u hu
    obtain ⟨p, hp⟩ := h1.at
    obtain ⟨h2, h3⟩ := atPl_mem hp
    exact List.mem_map.2 ⟨p, h2, h3⟩
  simpa using h.nodup.length_le_of_subset this
theorem wyF_up : ∀ (n : Nat) (x : Id3) (out l : List Id3), wyF T n x out = some l → (∀ p, 0 < out.length → atPl T x = some p → p.2.2.2 = true) → ∃ w, l = out ++ w ∧ Up T x w
  | 0, _, _, _, h, _ => by cases h
  | n + 1, x, out, l, h, hd => by
    unfold wyF at h
    cases hp : atPl T x with
    | none => rw [hp] at h; cases h
    | some p =>
      rw [hp] at h
      simp only at h
      split at h
      · cases h
      · split at h
        · cases h
          exact ⟨[x], rfl, .top hp (by assumption)⟩
        · rename_i h0 h1
          cases hq : atPl T p.2.1 with
          | none =>
            cases n with
            | zero => cases h
            | succ n => unfold wyF at h; rw [hq] at h; cases h
          | some q =>
            have hdir : q.2.2.2 = true := by
              cases n with
              | zero => cases h
              | succ n =>
                unfold wyF at h
                rw [hq] at h
                simp only at h
                split at h
                · cases h
                · rename_i hh
                  cases hqd : q.2.2.2 with
                  | true => rfl
                  | false => exact absurd ⟨by simp, hqd⟩ hh
            obtain ⟨w, e, hw⟩ := wyF_up n p.2.1 (out ++ [x]) l h fun p' _ hp' => by rw [hq] at hp'; cases hp'; exact hdir
            exact ⟨x :: w, by rw [e]; simp, .step hp h1 hq hdir hw⟩
theorem up_wyF {x : Id3} {w : List Id3} (h : Up T x w) : ∀ (n : Nat) (out : List Id3), w.length ≤ n → (∀ p, 0 < out.length → atPl T x = some p → p.2.2.2 = true) → wyF T n x out = some (out ++ w) := by
  induction h with
  | @top x p h h0 =>
    intro n out hn hd
    cases n with
    | zero => simp at hn
    | succ n =>
      unfold wyF
      simp only [h]
      rw [if_neg (fun hh => by have := hd p hh.1 h; rw [hh.2] at this; cases this), if_pos h0]
  | @step x p q w h h0 hq hd' hw ih =>
    intro n out hn hd
    cases n with
    | zero => simp at hn
    | succ n =>
      unfold wyF
      simp only [h]
      rw [if_neg (fun hh => by have := hd p hh.1 h; rw [hh.2] at this; cases this), if_neg h0]
      rw [ih n (out ++ [x]) (by simp at hn; omega) fun p' _ hp' => by rw [hq] at hp'; cases hp'; exact hd']
      simp
theorem wy_iff {x : Id3} {w : List Id3} : wy T x = some w ↔ Up T x w := by
  constructor
  · intro h
    obtain ⟨w', e, hw⟩ := wyF_up _ _ _ _ h (fun _ h => by simp at h)
    rw [e]
    exact hw
  · intro h
    have := up_wyF h (T.length + 1) [] (by have := h.len; omega) (fun _ h => by simp at h)
    rw [List.nil_append] at this
    exact this
/-- Is a node another one, or above it? -/
def withinF (T : List Pl) : Nat → Id3 → Id3 → Bool
  | 0, _, _ => true
  | n + 1, x, up => if x = up then true else match atPl T x with
    | none => false
    | some p => withinF T n p.2.1 up
def within (T : List Pl) (x up : Id3) : Bool := withinF T (T.length + 1) x up
/-! ### who is seen -/
theorem lvS_nodup {V : List Id3} {x : Id3} (h : V.Nodup) : (lvS V x).Nodup := by
  unfold lvS
  split
  · exact h
  · rename_i hx
    rw [List.nodup_append]
    exact ⟨h, by simp, fun a ha b hb => by simp at hb; subst hb; exact fun e => hx (e ▸ ha)⟩
theorem lvS_mem {V : List Id3} {x z : Id3} : z ∈ lvS V x ↔ z ∈ V ∨ z = x := by
  unfold lvS
  split
  · rename_i hx
    exact ⟨.inl, fun h => h.elim id fun e => e ▸ hx⟩
  · simp
theorem lvF_mem : ∀ (l V : List Id3) (z : Id3), z ∈ l.foldl lvS V ↔ z ∈ V ∨ z ∈ l
  | [], V, z => by simp
  | x :: r, V, z => by
    rw [List.foldl_cons, lvF_mem r, lvS_mem, List.mem_cons, or_assoc]
theorem lvF_nodup : ∀ (l V : List Id3), V.Nodup → (l.foldl lvS V).Nodup
  | [], _, h => h
  | _ :: r, _, h => lvF_nodup r _ (lvS_nodup h)
theorem lvL_mem {l : List Id3} {z : Id3} : z ∈ lvL l ↔ z ∈ l := by simp [lvL, lvF_mem]
theorem lvL_nodup (l : List Id3) : (lvL l).Nodup := lvF_nodup l [] (by simp)
/-- Is a node seen? -/
def marked (T : List Pl) (live : List Id3) (z : Id3) : Bool := live.any fun x => match wy T x with | some w => w.contains z | none => false
theorem marked_iff {live : List Id3} {z : Id3} : marked T live z = true ↔ ∃ x ∈ live, ∃ w, Up T x w ∧ z ∈ w := by
  unfold marked
  rw [List.any_eq_true]
  constructor
  · rintro ⟨x, hx, h⟩
    cases hw : wy T x with
    | none => rw [hw] at h; cases h
    | some w => rw [hw] at h; exact ⟨x, hx, w, wy_iff.1 hw, by simpa using h⟩
  · rintro ⟨x, hx, w, hw, hz⟩
    exact ⟨x, hx, by rw [wy_iff.2 hw]; simpa using hz⟩
def seenL (T : List Pl) (live : List Id3) : List Pl := T.filter fun p => marked T live p.1
theorem marked_up {live : List Id3} {z : Id3} (h : marked T live z = true) : ∃ w, Up T z w ∧ ∀ u ∈ w, marked T live u = true := by
  obtain ⟨x, hx, w, hw, hz⟩ := marked_iff.1 h
  obtain ⟨w', h1, _, v, h3⟩ := hw.sub z hz
  exact ⟨w', h1, fun u hu => marked_iff.2 ⟨x, hx, w, hw, by rw [h3]; exact List.mem_append_right _ hu⟩⟩
theorem marked_at {live : List Id3} {z : Id3} (h : marked T live z = true) : ∃ p, atPl T z = some p := by
  obtain ⟨w, hw, _⟩ := marked_up h
  exact hw.at
/-- Who is marked by one that is live. -/
def mkF (S : List Id3) : List Id3 → List Id3
  | [] => S
  | u :: r => if u ∈ S then S else mkF (S ++ [u]) r
/-- Of any who are marked, all above are. -/
def UpC (T : List Pl) (S : List Id3) : Prop := ∀ z ∈ S, ∃ w, Up T z w ∧ ∀ u ∈ w, u ∈ S
theorem mkF_mem {x : Id3} {w : List Id3} (h : Up T x w) : ∀ {S : List Id3}, (∀ u ∈ w, u ∈ S → ∀ w', Up T u w' → ∀ z ∈ w', z ∈ S) → ∀ z, z ∈ mkF S w ↔ z ∈ S ∨ z ∈ w := by
  induction h with
  | @top x p h h0 =>
    intro S hC z
    unfold mkF
    split
    · rename_i hx
      exact ⟨.inl, fun h => h.elim id fun hz => by simp at hz; exact hz ▸ hx⟩
    · simp [mkF]
  | @step x p q w h h0 hq hd hw ih =>
    intro S hC z
    unfold mkF
    split
    · rename_i hx
      exact ⟨.inl, fun hz => hz.elim id fun hz => hC x (by simp) hx _ (.step h h0 hq hd hw) z hz⟩
    · rename_i hx
      have hn := (Up.step h h0 hq hd hw).nodup
      have hxw : x ∉ w := (List.nodup_cons.1 hn).1
      rw [ih (fun u hu hS w' hw' z hz => by
        have hS' : u ∈ S := by
          rcases List.mem_append.1 hS with h | h
          · exact h
          · simp at h; subst h; exact absurd hu hxw
        exact List.mem_append_left _ (hC u (by simp [hu]) hS' w' hw' z hz))]
      simp [or_assoc]
theorem mkF_nodup : ∀ (w : List Id3) {S : List Id3}, S.Nodup → (mkF S w).Nodup
  | [], _, h => h
  | u :: r, S, h => by
    unfold mkF
    split
    · exact h
    · rename_i hu
      refine mkF_nodup r ?_
      rw [List.nodup_append]
      exact ⟨h, by simp, fun a ha b hb => by simp at hb; subst hb; exact fun e => hu (e ▸ ha)⟩
theorem UpC.in {S : List Id3} (h : UpC T S) {z : Id3} (hz : z ∈ S) {w : List Id3} (hw : Up T z w) : ∀ u ∈ w, u ∈ S := by
  obtain ⟨w', h1, h2⟩ := h z hz
  rw [hw.one h1]
  exact h2
theorem UpC.mk {x : Id3} {w : List Id3} (h : Up T x w) {S : List Id3} (hS : UpC T S) : UpC T (mkF S w) ∧ ∀ z, z ∈ mkF S w ↔ z ∈ S ∨ z ∈ w := by
  have hm := mkF_mem h (S := S) fun u _ hu w' hw' => hS.in hu hw'
  refine ⟨fun z hz => ?_, hm⟩
  rcases (hm z).1 hz with hz | hz
  · obtain ⟨w', h1, h2⟩ := hS z hz
    exact ⟨w', h1, fun u hu => (hm u).2 (.inl (h2 u hu))⟩
  · obtain ⟨w', h1, _, v, h3⟩ := h.sub z hz
    exact ⟨w', h1, fun u hu => (hm u).2 (.inr (by rw [h3]; exact List.mem_append_right _ hu))⟩
def markR (T : List Pl) (S : List Id3) (x : Id3) : List Id3 := match wy T x with | some w => mkF S w | none => S
theorem markR_ok {S : List Id3} (x : Id3) (h : UpC T S) (hn : S.Nodup) : UpC T (markR T S x) ∧ (markR T S x).Nodup ∧ ∀ z, z ∈ markR T S x ↔ z ∈ S ∨ ∃ w, Up T x w ∧ z ∈ w := by
  unfold markR
  cases hw : wy T x with
  | none => exact ⟨h, hn, fun z => ⟨.inl, fun h => h.elim id fun ⟨w, h1, _⟩ => by rw [wy_iff.2 h1] at hw; cases hw⟩⟩
  | some w =>
    have hw := wy_iff.1 hw
    obtain ⟨h1, h2⟩ := h.mk hw
    exact ⟨h1, mkF_nodup w hn, fun z => by rw [h2]; exact or_congr Iff.rfl ⟨fun h => ⟨w, hw, h⟩, fun ⟨w', h3, h4⟩ => by rw [hw.one h3]; exact h4⟩⟩
/-- The ids of the seen ones. -/
def seenI (T : List Pl) (live : List Id3) : List Id3 := (seenL T live).map (·.1)
/-- Each node stands once. -/
def Uq (T : List Pl) : Prop := (T.map (·.1)).Nodup
theorem atPl_of (hu : Uq T) {p : Pl} (hp : p ∈ T) : atPl T p.1 = some p := by
  unfold atPl
  unfold Uq at hu
  induction T with
  | nil => cases hp
  | cons a r ih =>
    rw [List.map_cons, List.nodup_cons] at hu
    rw [List.find?_cons]
    rcases List.mem_cons.1 hp with rfl | hp
    · simp
    · have : (a.1 == p.1) = false := by
        simp only [beq_eq_false_iff_ne, ne_eq]
        exact fun e => hu.1 (e ▸ List.mem_map_of_mem hp)
      rw [this]
      exact ih hu.2 hp
theorem seenI_mem {live : List Id3} {z : Id3} : z ∈ seenI T live ↔ marked T live z = true := by
  unfold seenI seenL
  constructor
  · intro h
    obtain ⟨p, hp, rfl⟩ := List.mem_map.1 h
    exact (List.mem_filter.1 hp).2
  · intro h
    obtain ⟨p, hp⟩ := marked_at h
    obtain ⟨h1, h2⟩ := atPl_mem hp
    exact List.mem_map.2 ⟨p, List.mem_filter.2 ⟨h1, by rw [h2]; exact h⟩, h2⟩
theorem seenI_nodup (hu : Uq T) (live : List Id3) : (seenI T live).Nodup :=
  List.Nodup.sublist (List.filter_sublist.map _) hu
theorem seen_perm (hu : Uq T) {live S : List Id3} (hn : S.Nodup) (h : ∀ z, z ∈ S ↔ marked T live z = true) : S.Perm (seenI T live) :=
  (List.perm_ext_iff_of_nodup hn (seenI_nodup hu live)).2 fun z => by rw [h, seenI_mem]
theorem marked_ext {live live' : List Id3} (h : ∀ z, z ∈ live ↔ z ∈ live') (z : Id3) : marked T live z = marked T live' z := by
  rw [Bool.eq_iff_iff, marked_iff, marked_iff]
  exact ⟨fun ⟨x, hx, h'⟩ => ⟨x, (h x).1 hx, h'⟩, fun ⟨x, hx, h'⟩ => ⟨x, (h x).2 hx, h'⟩⟩
end
end Pi

/- Tree: names, paths, items. -/
namespace Pi
open Go
theorem name_seen {s : List UInt8} (h : nameOk s = true) : seenOk s = true := by
  have h1 := name_no h (c := 126) rfl
  simp [seenOk, pre_all h1, h, h1]
/-- All are right, each node stands once. -/
def Rt (T : List Pl) : Prop := Uq T ∧ ∀ p ∈ T, okPl p = true
theorem tkS_rt {T : List Pl} (h : Rt T) (p : Pl) : Rt (tkS T p) := by
  unfold tkS
  split
  · exact h
  · rename_i h0
    split
    · rename_i hp
      refine ⟨?_, fun q hq => ?_⟩
      · unfold Uq
        rw [List.map_append, List.nodup_append]
        refine ⟨h.1, by simp, fun a ha b hb => ?_⟩
        simp at hb
        subst hb
        intro e
        obtain ⟨q, hq, hqa⟩ := List.mem_map.1 ha
        apply h0
        unfold atPl
        rw [List.find?_isSome]
        exact ⟨q, hq, by simp [hqa, e]⟩
      · rcases List.mem_append.1 hq with hq | hq
        · exact h.2 q hq
        · simp at hq; subst hq; exact hp
    · exact h
theorem tkF_rt : ∀ (l T : List Pl), Rt T → Rt (l.foldl tkS T)
  | [], _, h => h
  | p :: r, _, h => tkF_rt r _ (tkS_rt h p)
theorem tkL_rt (l : List Pl) : Rt (tkL l) := tkF_rt l [] ⟨by simp [Uq], by simp⟩
theorem tkS_len (T : List Pl) (p : Pl) : (tkS T p).length ≤ T.length + 1 := by
  unfold tkS
  split
  · omega
  · split
    · simp
    · omega
theorem tkF_len : ∀ (l T : List Pl), (l.foldl tkS T).length ≤ T.length + l.length
  | [], _ => by simp
  | p :: r, T => by
    have := tkF_len r (tkS T p)
    have := tkS_len T p
    simp only [List.foldl_cons, List.length_cons]
    omega
theorem tkL_len (l : List Pl) : (tkL l).length ≤ l.length := by simpa [tkL] using tkF_len l []
/-- Those that are right and of unlike nodes all count. -/
theorem tkF_all : ∀ (l T : List Pl), (∀ p ∈ l, okPl p = true) → (T ++ l |>.map (·.1)).Nodup → l.foldl tkS T = T ++ l
  | [], T, _, _ => by simp
  | p :: r, T, h, hn => by
    have h0 : (atPl T p.1).isSome = false := by
      cases h1 : (atPl T p.1).isSome with
      | false => rfl
      | true =>
        obtain ⟨q, hq⟩ := Option.isSome_iff_exists.1 h1
        obtain ⟨h2, h3⟩ := atPl_mem hq
        rw [List.map_append, List.nodup_append] at hn
        exact absurd h3 (hn.2.2 q.1 (List.mem_map_of_mem h2) p.1 (by simp))
    have e : tkS T p = T ++ [p] := by unfold tkS; rw [h0]; simp [h p (by simp)]
    rw [List.foldl_cons, e, tkF_all r (T ++ [p]) (fun q hq => h q (by simp [hq])) (by simpa using hn)]
    simp
theorem tkL_all {l : List Pl} (h : ∀ p ∈ l, okPl p = true) (hn : (l.map (·.1)).Nodup) : tkL l = l := by
  unfold tkL
  rw [tkF_all l [] h (by simpa using hn)]
  rfl
/-- What a node is seen as, of those that are seen. -/
def nmP (L : List Pl) (p : Pl) : List UInt8 := if L.any (fun q => decide (q.2.1 = p.2.1) && (q.2.2.1 == p.2.2.1) && ltX q.1 p.1) then (clashP p.2.2.1 p.1.1 p.1.2.1 p.1.2.2).1 else p.2.2.1
def nmX (T : List Pl) (live : List Id3) (x : Id3) : List UInt8 := match atPl T x with | some p => nmP (seenL T live) p | none => []
def namesX (T : List Pl) (live : List Id3) (x : Id3) : List (List UInt8) := match wy T x with | some w => w.reverse.map (nmX T live) | none => []
def pathX (T : List Pl) (live : List Id3) (x : Id3) : List UInt8 := joinR (namesX T live x)
abbrev It := Id3 × List UInt8 × Bool × Bool
def itemX (T : List Pl) (live : List Id3) (p : Pl) : It := (p.1, pathX T live p.1, p.2.2.2, !decide (p.1 ∈ live))
abbrev ltP (a b : It) : Bool := Op.bytesLess a.2.1 b.2.1
def itemsX (T : List Pl) (live : List Id3) : List It := sortI ltP ((seenL T live).map (itemX T live))
section
variable {T : List Pl} {live : List Id3}
theorem clashR {p : Pl} (h : okPl p = true) : (clashP p.2.2.1 p.1.1 p.1.2.1 p.1.2.2).1 = p.2.2.1 ++ 126 :: textS p.1.1 p.1.2.1 p.1.2.2 := by
  simp only [okPl, Bool.and_eq_true] at h
  rw [clashP, if_pos h.2, if_pos h.1]
theorem nmP_seen {L : List Pl} {p : Pl} (h : okPl p = true) : seenOk (nmP L p) = true := by
  have h' := h
  simp only [okPl, Bool.and_eq_true] at h'
  unfold nmP
  split
  · rw [clashR h]; exact clash_seen h'.2 h'.1
  · exact name_seen h'.2
theorem nmP_inj {L : List Pl} {p q : Pl} (hp : p ∈ L) (hq : q ∈ L) (op : okPl p = true) (oq : okPl q = true) (hpar : p.2.1 = q.2.1) (h : nmP L p = nmP L q) : p.1 = q.1 := by
  have op' := op
  have oq' := oq
  simp only [okPl, Bool.and_eq_true] at op' oq'
  unfold nmP at h
  split at h
  · rename_i c1
    split at h
    · rename_i c2
      rw [clashR op, clashR oq] at h
      obtain ⟨_, h1, h2, h3⟩ := clash_inj op'.2 op'.1 oq'.2 oq'.1 h
      exact Prod.ext h1 (Prod.ext h2 h3)
    · rw [clashR op] at h
      rw [← h] at oq'
      rw [clash_name] at oq'
      cases oq'.2
  · rename_i c1
    split at h
    · rw [clashR oq] at h
      rw [h] at op'
      rw [clash_name] at op'
      cases op'.2
    · rename_i c2
      refine lin_X.tot _ _ ?_ ?_
      · cases hl : ltX p.1 q.1 with
        | false => rfl
        | true => exact absurd (List.any_eq_true.2 ⟨p, hp, by simp [hpar, h, hl]⟩) c2
      · cases hl : ltX q.1 p.1 with
        | false => rfl
        | true => exact absurd (List.any_eq_true.2 ⟨q, hq, by simp [hpar, h, hl]⟩) c1
theorem joinR_inj : ∀ {a b : List (List UInt8)}, (∀ x ∈ a, (47 : UInt8) ∉ x) → (∀ x ∈ b, (47 : UInt8) ∉ x) → joinR a = joinR b → a = b
  | [], [], _, _, _ => rfl
  | [], _ :: _, _, _, h => by simp [joinR] at h
  | _ :: _, [], _, _, h => by simp [joinR] at h
  | x :: a, y :: b, ha, hb, h => by
    have h' : x ++ joinR a = y ++ joinR b := by simpa [joinR] using h
    have key : ∀ (x y : List UInt8) (u v : List (List UInt8)), (47 : UInt8) ∉ x → (47 : UInt8) ∉ y → x ++ joinR u = y ++ joinR v → x = y := by
      intro x
      induction x with
      | nil =>
        intro y u v _ hy h
        cases y with
        | nil => rfl
        | cons c y =>
          cases u with
          | nil => simp [joinR] at h
          | cons z u => simp [joinR] at h; exact absurd (by simp [h.1]) hy
      | cons c x ih =>
        intro y u v hx hy h
        cases y with
        | nil =>
          cases v with
          | nil => simp [joinR] at h
          | cons z v => simp [joinR] at h; exact absurd (by simp [h.1]) hx
        | cons d y =>
          simp only [List.cons_append, List.cons.injEq] at h
          rw [h.1, ih y u v (fun m => hx (by simp [m])) (fun m => hy (by simp [m])) h.2]
    have e := key x y a b (ha x (by simp)) (hb y (by simp)) h'
    subst e
    rw [joinR_inj (fun z hz => ha z (by simp [hz])) (fun z hz => hb z (by simp [hz])) (List.append_cancel_left h')]
theorem namesX_seen (hT : Rt T) (x : Id3) : ∀ s ∈ namesX T live x, seenOk s = true := by
  intro s hs
  unfold namesX at hs
  cases hw : wy T x with
  | none => rw [hw] at hs; cases hs
  | some w =>
    rw [hw] at hs
    obtain ⟨u, hu, rfl⟩ := List.mem_map.1 hs
    obtain ⟨w', h1, _⟩ := (wy_iff.1 hw).sub u (by simpa using hu)
    obtain ⟨p, hp⟩ := h1.at
    unfold nmX
    rw [hp]
    exact nmP_seen (hT.2 p (atPl_mem hp).1)
theorem seen_mem {x : Id3} {p : Pl} (h : marked T live x = true) (hp : atPl T x = some p) : p ∈ seenL T live := by
  obtain ⟨h1, h2⟩ := atPl_mem hp
  exact List.mem_filter.2 ⟨h1, by rw [h2]; exact h⟩
theorem up_inj (hT : Rt T) {x : Id3} {w : List Id3} (h : Up T x w) : ∀ {y v}, Up T y v → (∀ u ∈ w, marked T live u = true) → (∀ u ∈ v, marked T live u = true) → w.map (nmX T live) = v.map (nmX T live) → x = y := by
  have hd : ∀ {a b : Id3} {p q : Pl}, atPl T a = some p → atPl T b = some q → marked T live a = true → marked T live b = true → p.2.1 = q.2.1 → nmX T live a = nmX T live b → a = b := by
    intro a b p q ha hb ma mb hpar h
    unfold nmX at h
    rw [ha, hb] at h
    have := nmP_inj (seen_mem ma ha) (seen_mem mb hb) (hT.2 p (atPl_mem ha).1) (hT.2 q (atPl_mem hb).1) hpar h
    rw [← (atPl_mem ha).2, ← (atPl_mem hb).2, this]
  induction h with
  | @top x p h h0 =>
    intro y v hv mw mv e
    cases hv with
    | top h' h0' =>
      simp only [List.map_cons, List.map_nil, List.cons.injEq, and_true] at e
      exact hd h h' (mw _ (by simp)) (mv _ (by simp)) (by rw [h0, h0']) e
    | step _ _ _ _ hw =>
      obtain ⟨r, rfl⟩ := hw.hd
      simp at e
  | @step x p q w h h0 hq hdir hw ih =>
    intro y v hv mw mv e
    cases hv with
    | top =>
      obtain ⟨r, rfl⟩ := hw.hd
      simp at e
    | @step y p' q' v h' h0' _ _ hv =>
      simp only [List.map_cons, List.cons.injEq] at e
      have := ih hv (fun u hu => mw u (by simp [hu])) (fun u hu => mv u (by simp [hu])) e.2
      exact hd h h' (mw _ (by simp)) (mv _ (by simp)) this e.1
theorem pathX_up {x : Id3} {w : List Id3} (h : Up T x w) : namesX T live x = w.reverse.map (nmX T live) := by
  unfold namesX
  rw [wy_iff.2 h]
/-- No two that are seen have one path. -/
theorem pathX_inj (hT : Rt T) {x y : Id3} (hx : marked T live x = true) (hy : marked T live y = true) (h : pathX T live x = pathX T live y) : x = y := by
  obtain ⟨w, hw, mw⟩ := marked_up hx
  obtain ⟨v, hv, mv⟩ := marked_up hy
  have := joinR_inj (fun s hs => seen_no (namesX_seen hT x s hs)) (fun s hs => seen_no (namesX_seen hT y s hs)) h
  rw [pathX_up hw, pathX_up hv, List.map_reverse, List.map_reverse, List.reverse_inj] at this
  exact up_inj hT hw hv mw mv this
theorem seen_pl {p : Pl} (h : p ∈ seenL T live) : p ∈ T ∧ marked T live p.1 = true := by
  unfold seenL at h
  rw [List.mem_filter] at h
  exact h
theorem items_key (hT : Rt T) : ∀ a ∈ (seenL T live).map (itemX T live), ∀ b ∈ (seenL T live).map (itemX T live), a.2.1 = b.2.1 → a = b := by
  intro a ha b hb h
  obtain ⟨p, hp, rfl⟩ := List.mem_map.1 ha
  obtain ⟨q, hq, rfl⟩ := List.mem_map.1 hb
  obtain ⟨p1, p2⟩ := seen_pl hp
  obtain ⟨q1, q2⟩ := seen_pl hq
  have e := pathX_inj hT p2 q2 h
  have e1 := atPl_of hT.1 p1
  have e2 := atPl_of hT.1 q1
  rw [e, e2] at e1
  cases e1
  rfl
theorem itemsX_perm : (itemsX T live).Perm ((seenL T live).map (itemX T live)) := sortI_perm _
theorem itemsX_pw : (itemsX T live).Pairwise fun a b => Op.bytesLess b.2.1 a.2.1 = false := sortI_key lin_B (fun a : It => a.2.1) _
/-- However they are sorted, there is one order. -/
theorem itemsX_of (hT : Rt T) {a : List It} (hp : a.Perm ((seenL T live).map (itemX T live))) (ha : a.Pairwise fun x y => Op.bytesLess y.2.1 x.2.1 = false) : a = itemsX T live :=
  sorted_key lin_B (fun a : It => a.2.1) (fun x hx y hy h => items_key hT x (hp.mem_iff.1 hx) y (hp.mem_iff.1 hy) h) (hp.trans itemsX_perm.symm) ha itemsX_pw
end
end Pi

/- The seat's runs whose order is open. -/
namespace Pi
open Go Go.Proofs
set_option maxRecDepth 100000
/-- A round of a loop, in whatever order. -/
noncomputable def roundLN (H HN : List (FuncId × KF1)) (hk : List (Nat × (S → K (PX × S)))) (f id : Nat) (s : S) : K (PX × S) :=
  roundK (pexecN PR (runK PR kp0 dcT H 60 60) HN (kpF f) hk (dcT f) (loopOf PR f id)) (kpF f id) s
/-- A function's body, in whatever order. -/
noncomputable def bodyFN (H HN : List (FuncId × KF1)) (hk : List (Nat × (S → K (PX × S)))) (f : Nat) (ps : List P) (R : List (Nat × En)) : K (P × List (Nat × En)) :=
  bodyN PR (runK PR kp0 dcT H 60 60) HN kp0 hk dcT f ps R
def ND (w0 : World) (f : Nat) (h : KF1) : Prop := NOK PR w0 f h
def LN (w0 : World) (f id : Nat) (g : S → K (PX × S)) : Prop := ∀ (val : Nat → Value) s post, g s post → TW PR ⟨val, w0⟩ (.loop (loopOf PR f id)) s post
inductive NDs (w0 : World) : List (FuncId × KF1) → Prop
  | nil : NDs w0 []
  | cons {f : Nat} {h : KF1} {r : List (FuncId × KF1)} (hf : ND w0 f h) (hr : NDs w0 r) : NDs w0 ((f, h) :: r)
theorem NDs.get {w0 : World} {HN : List (FuncId × KF1)} (h : NDs w0 HN) : ∀ f g, lk HN f = some g → NOK PR w0 f g := by
  induction h with
  | nil => intro f g h; cases h
  | @cons f' h' r hf hr ih =>
    intro f g h
    unfold lk at h
    split at h
    · rename_i he
      cases h
      rw [← Nat.eq_of_beq_eq_true he]
      exact hf
    · exact ih f g h
inductive LNs (w0 : World) (f : Nat) : List (Nat × (S → K (PX × S))) → Prop
  | nil : LNs w0 f []
  | cons {id : Nat} {g : S → K (PX × S)} {r : List (Nat × (S → K (PX × S)))} (h : LN w0 f id g) (hr : LNs w0 f r) : LNs w0 f ((id, g) :: r)
theorem LNs.get {w0 : World} {f : Nat} {hk : List (Nat × (S → K (PX × S)))} (h : LNs w0 f hk) : ∀ id g, lk hk id = some g → LN w0 f id g := by
  induction h with
  | nil => intro f g h; cases h
  | @cons f' h' r hf hr ih =>
    intro f g h
    unfold lk at h
    split at h
    · rename_i he
      cases h
      rw [← Nat.eq_of_beq_eq_true he]
      exact hf
    · exact ih f g h
theorem kf_ok {X : XF} {H : List (FuncId × KF1)} (hH : HD X H) : KFOK (runK PR kp0 dcT H 60 60) (runF PR (kpT X)) := by
  have := runK_ok (lf := 60) (clsAll_ok dcOK) hH 60
  rw [runK_X PR kpF xsT X.cf (fun _ _ _ => none) dcT H 60 60] at this
  exact this
theorem ND.mk {X : XF} {w0 : World} (hX : CFOK PR w0 X.cf) {H HN : List (FuncId × KF1)} {hk : List (Nat × (S → K (PX × S)))} {f : Nat} {h : KF1} (hdr : PR.follows .mixedOrders = true) (hu : uniq PR f = true) (hH : HD X H) (hHN : NDs w0 HN) (hl : LNs w0 f hk)
    (hb : ∀ ps R post, h ps R post → bodyFN H HN hk f ps R post) : ND w0 f h :=
  NOK.mk (kp := kpT X) hHN.get (kf_ok hH) hX hdr dcOK hu hl.get (fun ps R post hp => hb ps R post hp)
/-- By parameters: a head, what is asked, what comes out. -/
theorem LN.par {X : XF} {w0 : World} (hX : CFOK PR w0 X.cf) {H HN : List (FuncId × KF1)} {hk : List (Nat × (S → K (PX × S)))} {f id : Nat} {g : S → K (PX × S)} (hdr : PR.follows .mixedOrders = true) (hu : uniq PR f = true) (hc : clsOK (dcT f) (loopOf PR f id) = true) (hH : HD X H) (hHN : NDs w0 HN) (hl : LNs w0 f hk)
    {A B : Type} (hd : A → B → S) (Inv : A → B → Prop) (mu : A → B → Nat) (Out : A → PX × S → Prop)
    (hr : ∀ a b, Inv a b → roundLN H HN hk f id (hd a b) (roundPost (mu a b) (fun m s => ∃ b', s = hd a b' ∧ Inv a b' ∧ m = mu a b') (Out a)))
    (hg : ∀ s post, g s post → ∃ a b, s = hd a b ∧ Inv a b ∧ ∀ x, Out a x → post x) : LN w0 f id (loopHook (kpF f id) g) := by
  intro val s post hp
  unfold loopHook at hp
  cases hh : headOf (kpF f id) s with
  | none => simp only [hh] at hp
  | some s0 =>
    simp only [hh] at hp
    obtain ⟨a, b, rfl, h1, h2⟩ := hg s0 post hp
    refine TW.mono (TW.loop (keep := kpF f id) (I := fun m s => ∃ b', s = hd a b' ∧ Inv a b' ∧ m = mu a b') (O := Out a) (fun n s hs => ?_) hh ⟨b, rfl, h1, rfl⟩) h2
    obtain ⟨b', rfl, h3, rfl⟩ := hs
    have := hr a b' h3
    unfold roundLN at this
    refine TW.mono (pexecN_ok (kp := kpT X) (T := ⟨val, w0⟩) hHN.get (kf_ok hH) hX hdr (kp1 := kpF f) (loopOf PR f id) hc (fun d hd h hh s post hp => by
      have := hl.get _ _ hh val s post hp
      rwa [loopOf_in hu hd] at this) _ _ this) ?_
    rintro ⟨e, s1⟩ hx
    cases e with
    | normal =>
      obtain ⟨s2, h4, m, h5, h6⟩ := KW.ofO (p := fun s2 => headOf (kpF f id) s1 = some s2) (fun _ h => h) _ hx
      exact ⟨s2, h4, m, h5, h6⟩
    | exit i =>
      obtain ⟨s2, h4, h5⟩ := KW.ofO (p := fun s2 => behindOf (kpF f id) s1 = some s2) (fun _ h => h) _ hx
      exact ⟨s2, h4, h5⟩
    | ret =>
      obtain ⟨s2, h4, h5⟩ := KW.ofO (p := fun s2 => behindOf (kpF f id) s1 = some s2) (fun _ h => h) _ hx
      exact ⟨s2, h4, h5⟩
/-- slices.SortFunc, of one row that is lent. -/
def hSortA (g : FuncId) (cf : D → D → Int) (ty : TypeId) : KF1 := fun ps R post => ∃ es, ps = [.sl 0 0 es.length, .fn g []] ∧ R = [(0, ⟨0, some 0, .arr ty false es⟩)] ∧ CmpOn PR kp0 g es cf ∧
  ∀ es' : List D, es'.Perm es → es'.Pairwise (fun a b => ¬ cf b a < 0) → post (.tup [], [(0, ⟨0, some 0, .arr ty false es'⟩)])
theorem hSortA_hSort {g : FuncId} {cf : D → D → Int} {ty : TypeId} {ps : List P} {R : List (Nat × En)} {post : P × List (Nat × En) → Prop} (h : hSortA g cf ty ps R post) : hSort PR kp0 ty ps R post := by
  obtain ⟨es, rfl, rfl, hc, hp⟩ := h
  exact ⟨0, g, ⟨0, some 0, .arr ty false es⟩, es, cf, rfl, rfl, rfl, hc, fun es' h1 h2 => hp es' h1 h2⟩
end Pi

/- Tree: mark, rising, name, path: what their runs ask. -/
namespace Pi
open Go Go.Proofs
set_option maxRecDepth 100000
set_option maxHeartbeats 0
/-! mark -/
abbrev itE (n : Nat) (g : D → Option D) (e : Option (D × D)) : List (Nat × En) := [(n, ⟨0, none, .iter 41 62 g e⟩)]
abbrev mk1 (T : List Pl) (f2 f3 f4 : D → Option D) (g : D → Option D) (e : Option (D × D)) (c1 c2 c3 c4 : Int) : S :=
  ⟨49, [(0, .ref 0 0 0), (13, .ref 5 0 0)], nodT (plM T) f2 f3 f4 c1 c2 c3 c4 true false ++ itE 5 g e⟩
abbrev mk6 (T : List Pl) (f2 f3 f4 : D → Option D) (g : D → Option D) (e : Option (D × D)) (w : List Id3) (n : Nat) (k : Int) (c1 c2 c3 c4 : Int) : S :=
  ⟨49, [(0, .ref 0 0 0), (13, .ref 5 0 0), (26, .sl 6 0 n), (27, iD n), (28, iD k)], nodT (plM T) f2 f3 f4 c1 c2 c3 c4 true false ++ itE 5 g e ++ [(6, ⟨0, none, .arr 41 false (w.map ixD)⟩)]⟩
def gMk6 : S → K (PX × S) := fun s post => ∃ T f2 f4 g e S w c2 c4, s = mk6 T f2 (inM S) f4 g e w w.length 0 (T.length : Int) c2 (S.length : Int) c4 ∧ (w.length ≤ 1000000 ∧ S.length ≤ 1000000) ∧
  post (.exit 1, mk1 T f2 (inM (mkF S w)) f4 g e (T.length : Int) c2 ((mkF S w).length : Int) c4) ∧ post (.exit 2, mk1 T f2 (inM (mkF S w)) f4 g e (T.length : Int) c2 ((mkF S w).length : Int) c4)
def vcMk6_0 (w : List Id3) (k : Int) : D := D.nth (List.map ixD w) (Int.toNat k)
def vcMk6_1 (w : List Id3) (k : Int) : D := D.int IntKind.i64 (D.iVal (D.cAt (vcMk6_0 w k) 0))
def vcMk6_2 (V : List Id3) (w : List Id3) (k : Int) : Bool := Option.isSome (inM V (D.agg [vcMk6_1 w k, D.int IntKind.i64 (D.iVal (D.cAt (vcMk6_0 w k) 1)), D.int IntKind.i64 (D.iVal (D.cAt (vcMk6_0 w k) 2))]))
def vcMk6_3  : Nat × P := (0, P.ref 0 0 0)
def vcMk6_4  : Nat × P := (13, P.ref 5 0 0)
def vcMk6_5  : Nat × En := (0, En.mk 0 (some 0) (Obj.box (61 : TypeId) [P.mp 1 0, P.mp 2 0, P.mp 3 0, P.mp 4 0]))
def vcMk6_6 (T : List Pl) (c1 : Int) : Nat × En := (1, En.mk 0 (some 1) (Obj.map 41 (fun (x : D) => match x with | D.agg [D.int IntKind.i64 a, D.int IntKind.i64 b, D.int IntKind.i64 c] => Option.map plD (atPl T (a, b, c)) | _ => none) c1 false))
def vcMk6_7 (f2 : D → Option D) (c2 : Int) : Nat × En := (2, En.mk 0 (some 2) (Obj.map 41 f2 c2 true))
def vcMk6_8 (f4 : D → Option D) (c4 : Int) : Nat × En := (4, En.mk 0 (some 4) (Obj.map 41 f4 c4 false))
def vcMk6_9 (g : D → Option D) (e : Option (D × D)) : Nat × En := (5, En.mk 0 none (Obj.iter 41 62 g e))
def vcMk6_10 (k : Int) : Int := k + (1 : Int)
def vcMk6_11  : Nat := 0 + 1
theorem vcMk6 (T : List Pl) (f2 f4 g : D → Option D) (e : Option (D × D)) (V : List Id3) (w : List Id3) (n : Nat) (k c1 c2 c3 c4 : Int) (post : PX × S → Prop) : (bif decide (k < (↑n : Int)) then bif decide ((0 : Int) ≤ k ∧ k < (↑n : Int)) then bif decide (Int.toNat k < List.length (List.map ixD w)) then bif isD PR (41 : TypeId) (vcMk6_0 w k) then bif isD PR (62 : TypeId) (getO (inM V (D.agg [vcMk6_1 w k, D.int IntKind.i64 (D.iVal (D.cAt (vcMk6_0 w k) 1)), D.int IntKind.i64 (D.iVal (D.cAt (vcMk6_0 w k) 2))])) (D.agg [])) then bif vcMk6_2 V w k then post (PX.exit 1, S.mk 49 [vcMk6_3, vcMk6_4] [vcMk6_5, vcMk6_6 T c1, vcMk6_7 f2 c2, (3, En.mk 0 (some 3) (Obj.map 41 (fun (x : D) => match x with | D.agg [D.int IntKind.i64 a, D.int IntKind.i64 b, D.int IntKind.i64 c] => Option.map (fun (_ : Unit) => D.agg []) ((fun (x : Id3) => if x ∈ V then some () else none) (a, b, c)) | _ => none) c3 false)), vcMk6_8 f4 c4, vcMk6_9 g e]) else bif decide ((-9223372036854775808 : Int) ≤ vcMk6_10 k ∧ vcMk6_10 k ≤ (9223372036854775807 : Int)) then post (PX.normal, S.mk 49 [vcMk6_3, vcMk6_4, (26, P.sl 6 0 n), (27, P.d (D.int IntKind.i64 (↑n : Int))), (28, P.d (D.int IntKind.i64 (vcMk6_10 k)))] [vcMk6_5, vcMk6_6 T c1, vcMk6_7 f2 c2, (3, En.mk 0 (some 3) (Obj.map 41 (fun (k' : D) => bif D.eqB (D.agg [vcMk6_1 w k, D.int IntKind.i64 (D.iVal (D.cAt (vcMk6_0 w k) vcMk6_11)), D.int IntKind.i64 (D.iVal (D.cAt (vcMk6_0 w k) (vcMk6_11 + 1)))]) k' then some (D.agg []) else inM V k') (bif vcMk6_2 V w k then c3 else c3 + (1 : Int)) false)), vcMk6_8 f4 c4, vcMk6_9 g e, (6, En.mk 0 none (Obj.arr (41 : TypeId) false (List.map ixD w)))]) else False else False else False else False else False else post (PX.exit 2, S.mk 49 [vcMk6_3, vcMk6_4] [vcMk6_5, vcMk6_6 T c1, vcMk6_7 f2 c2, (3, En.mk 0 (some 3) (Obj.map 41 (fun (x : D) => match x with | D.agg [D.int IntKind.i64 a, D.int IntKind.i64 b, D.int IntKind.i64 c] => Option.map (fun (_ : Unit) => D.agg []) ((fun (x : Id3) => if x ∈ V then some () else none) (a, b, c)) | _ => none) c3 false)), vcMk6_8 f4 c4, vcMk6_9 g e])) = (roundLN [] [] [] 27 6 (mk6 T f2 (inM V) f4 g e w n k c1 c2 c3 c4)) post := by kernel_rfl
def vcMk1_0  : P := P.ref 0 0 0
def vcMk1_1 (v0 : D) : D := D.agg [D.int IntKind.i64 (D.iVal (D.cAt v0 0)), D.int IntKind.i64 (D.iVal (D.cAt v0 1)), D.int IntKind.i64 (D.iVal (D.cAt v0 2))]
def vcMk1_2  : Nat × En := (0, En.mk 0 (some 0) (Obj.box (61 : TypeId) [P.mp 1 0, P.mp 2 0, P.mp 3 0, P.mp 4 0]))
def vcMk1_3 (T : List Pl) (f2 : D → Option D) (f3 : D → Option D) (f4 : D → Option D) (c1 : Int) (c2 : Int) (c3 : Int) (c4 : Int) : List (Nat × En) := [vcMk1_2, (1, En.mk 0 (some 1) (Obj.map 41 (fun (x : D) => match x with | D.agg [D.int IntKind.i64 a, D.int IntKind.i64 b, D.int IntKind.i64 c] => Option.map plD (atPl T (a, b, c)) | _ => none) c1 false)), (2, En.mk 0 (some 2) (Obj.map 41 f2 c2 true)), (3, En.mk 0 (some 3) (Obj.map 41 f3 c3 false)), (4, En.mk 0 (some 4) (Obj.map 41 f4 c4 false))]
def vcMk1_4 (v3 : List Pl) : Nat × En := (1, En.mk 0 (some 1) (Obj.map 41 (fun (x : D) => match x with | D.agg [D.int IntKind.i64 a, D.int IntKind.i64 b, D.int IntKind.i64 c] => Option.map plD (atPl v3 (a, b, c)) | _ => none) (↑(List.length v3) : Int) false))
def vcMk1_5 (v6 : D → Option D) (v9 : Int) (v12 : Bool) : Nat × En := (2, En.mk 0 (some 2) (Obj.map 41 v6 v9 v12))
def vcMk1_6 (v7 : D → Option D) (v10 : Int) (v13 : Bool) : Nat × En := (3, En.mk 0 (some 3) (Obj.map 41 v7 v10 v13))
def vcMk1_7 (v8 : D → Option D) (v11 : Int) : Nat × En := (4, En.mk 0 (some 4) (Obj.map 41 v8 v11 false))
def vcMk1_8  : Nat × P := (0, vcMk1_0)
def vcMk1_9  : Nat × P := (13, P.ref 5 0 0)
def vcMk1_10  : List (Nat × P) := [(28, P.d (D.int IntKind.i64 (0 : Int)))]
def vcMk1_11  : Nat := 0 + 1
def vcMk1_12 (g : D → Option D) (v0 : D) : Nat × En := (5, En.mk 0 none (Obj.iter 41 62 (fun (k' : D) => bif D.eqB (D.agg [D.int IntKind.i64 (D.iVal (D.cAt v0 0)), D.int IntKind.i64 (D.iVal (D.cAt v0 vcMk1_11)), D.int IntKind.i64 (D.iVal (D.cAt v0 (vcMk1_11 + 1)))]) k' then none else g k') (some (vcMk1_1 v0, D.agg []))))
def vcMk1_13 (v26 : List Pl) : Nat × En := (1, En.mk 0 (some 1) (Obj.map 41 (fun (x : D) => match x with | D.agg [D.int IntKind.i64 a, D.int IntKind.i64 b, D.int IntKind.i64 c] => Option.map plD (atPl v26 (a, b, c)) | _ => none) (↑(List.length v26) : Int) false))
def vcMk1_14 (v27 : D → Option D) (v33 : Int) : Nat × En := (2, En.mk 0 (some 2) (Obj.map 41 v27 v33 true))
def vcMk1_15 (v28 : D → Option D) (v34 : Int) : Nat × En := (4, En.mk 0 (some 4) (Obj.map 41 v28 v34 false))
def vcMk1_16 (v29 : D → Option D) (v30 : Option (D × D)) : Nat × En := (5, En.mk 0 none (Obj.iter 41 62 v29 v30))
def vcMk1_17  : List (Nat × P) := [vcMk1_8, vcMk1_9]
theorem vcMk1 (T : List Pl) (f2 f3 f4 g : D → Option D) (e : Option (D × D)) (c1 c2 c3 c4 : Int) (post : PX × S → Prop) : ((∀ (k x : D), g k = some x → bif isD PR (41 : TypeId) k then bif isD PR (62 : TypeId) x then ∃ (T_1 : List Pl), ∃ (x : Id3), ∃ (f2_1 : D → Option D), ∃ (f3_1 : D → Option D), ∃ (f4_1 : D → Option D), ∃ (c2_1 : Int), ∃ (c3_1 : Int), ∃ (c4_1 : Int), ∃ (z2 : Bool), ∃ (z3 : Bool), [vcMk1_0, P.d (vcMk1_1 k)] = [vcMk1_0, P.d (D.agg [D.int IntKind.i64 (Prod.fst x), D.int IntKind.i64 (Prod.fst (Prod.snd x)), D.int IntKind.i64 (Prod.snd (Prod.snd x))])] ∧ vcMk1_3 T f2 f3 f4 c1 c2 c3 c4 = [vcMk1_2, vcMk1_4 T_1, vcMk1_5 f2_1 c2_1 z2, vcMk1_6 f3_1 c3_1 z3, vcMk1_7 f4_1 c4_1] ∧ List.length T_1 ≤ 1000000 ∧ (∀ (l : List Id3), wy T_1 x = some l → ∃ (T : List Pl), ∃ (f2 : D → Option D), ∃ (f4 : D → Option D), ∃ (g_1 : D → Option D), ∃ (e : Option (D × D)), ∃ (S : List Id3), ∃ (w : List Id3), ∃ (c2 : Int), ∃ (c4 : Int), Pi.S.mk 49 (vcMk1_8 :: vcMk1_9 :: (26, P.sl 6 0 (List.length l)) :: (27, P.d (D.int IntKind.i64 (↑(List.length l) : Int))) :: vcMk1_10) [vcMk1_2, vcMk1_4 T_1, vcMk1_5 f2_1 c2_1 z2, vcMk1_6 f3_1 c3_1 z3, vcMk1_7 f4_1 c4_1, vcMk1_12 g k, (6, En.mk 0 none (Obj.arr (41 : TypeId) false (List.map ixD l)))] = Pi.S.mk 49 (vcMk1_8 :: vcMk1_9 :: (26, P.sl 6 0 (List.length w)) :: (27, P.d (D.int IntKind.i64 (↑(List.length w) : Int))) :: vcMk1_10) [vcMk1_2, vcMk1_13 T, vcMk1_14 f2 c2, (3, En.mk 0 (some 3) (Obj.map 41 (fun (x : D) => match x with | D.agg [D.int IntKind.i64 a, D.int IntKind.i64 b, D.int IntKind.i64 c] => Option.map (fun (_ : Unit) => D.agg []) ((fun (x : Id3) => if x ∈ S then some () else none) (a, b, c)) | _ => none) (↑(List.length S) : Int) false)), vcMk1_15 f4 c4, vcMk1_16 g_1 e, (6, En.mk 0 none (Obj.arr (41 : TypeId) false (List.map ixD w)))] ∧ (List.length w ≤ 1000000 ∧ List.length S ≤ 1000000) ∧ post (PX.normal, Pi.S.mk 49 vcMk1_17 [vcMk1_2, vcMk1_13 T, vcMk1_14 f2 c2, (3, En.mk 0 (some 3) (Obj.map 41 (fun (x : D) => match x with | D.agg [D.int IntKind.i64 a, D.int IntKind.i64 b, D.int IntKind.i64 c] => Option.map (fun (_ : Unit) => D.agg []) ((fun (x : Id3) => if x ∈ mkF S w then some () else none) (a, b, c)) | _ => none) (↑(List.length (mkF S w)) : Int) false)), vcMk1_15 f4 c4, vcMk1_16 g_1 e]) ∧ post (PX.normal, Pi.S.mk 49 vcMk1_17 [vcMk1_2, vcMk1_13 T, vcMk1_14 f2 c2, (3, En.mk 0 (some 3) (Obj.map 41 (fun (x : D) => match x with | D.agg [D.int IntKind.i64 a, D.int IntKind.i64 b, D.int IntKind.i64 c] => Option.map (fun (_ : Unit) => D.agg []) ((fun (x : Id3) => if x ∈ mkF S w then some () else none) (a, b, c)) | _ => none) (↑(List.length (mkF S w)) : Int) false)), vcMk1_15 f4 c4, vcMk1_16 g_1 e])) ∧ (wy T_1 x = none → post (PX.normal, S.mk 49 vcMk1_17 [vcMk1_2, vcMk1_4 T_1, vcMk1_5 f2_1 c2_1 z2, vcMk1_6 f3_1 c3_1 z3, vcMk1_7 f4_1 c4_1, vcMk1_12 g k])) else False else False) ∧ ((∀ (k : D), g k = none) → post (PX.exit 0, S.mk 49 [vcMk1_8] (vcMk1_3 T f2 f3 f4 c1 c2 c3 c4)))) = (roundLN [(49, hWay)] [] [(6, loopHook (kpF 27 6) gMk6)] 27 1 (mk1 T f2 f3 f4 g e c1 c2 c3 c4)) post := by kernel_rfl
def gMk1 : S → K (PX × S) := fun s post => ∃ T V f4 c4, s = mk1 T (inM V) noM f4 (inM V) none (T.length : Int) (V.length : Int) 0 c4 ∧ (T.length ≤ 1000000 ∧ Uq T ∧ V.Nodup) ∧
  post (.exit 0, ⟨49, [(0, .ref 0 0 0)], nodT (plM T) (inM V) (inM (seenI T V)) f4 (T.length : Int) (V.length : Int) ((seenI T V).length : Int) c4 true false⟩)
def vcMark_0  : List (Nat × P) := [(0, P.ref 0 0 0), (13, P.ref 5 0 0)]
def vcMark_1  : Nat × En := (0, En.mk 0 (some 0) (Obj.box (61 : TypeId) [P.mp 1 0, P.mp 2 0, P.mp 3 0, P.mp 4 0]))
def vcMark_2 (v0 : List Pl) : Nat × En := (1, En.mk 0 (some 1) (Obj.map 41 (fun (x : D) => match x with | D.agg [D.int IntKind.i64 a, D.int IntKind.i64 b, D.int IntKind.i64 c] => Option.map plD (atPl v0 (a, b, c)) | _ => none) (↑(List.length v0) : Int) false))
def vcMark_3 (v1 : List Id3) : Nat × En := (2, En.mk 0 (some 2) (Obj.map 41 (fun (x : D) => match x with | D.agg [D.int IntKind.i64 a, D.int IntKind.i64 b, D.int IntKind.i64 c] => Option.map (fun (_ : Unit) => D.agg []) ((fun (x : Id3) => if x ∈ v1 then some () else none) (a, b, c)) | _ => none) (↑(List.length v1) : Int) true))
def vcMark_4 (v3 : D → Option D) (v4 : Int) : Nat × En := (4, En.mk 0 (some 4) (Obj.map 41 v3 v4 false))
theorem vcMark (T : List Pl) (f2 f3 f4 : D → Option D) (c1 c2 c3 c4 : Int) (z2 : Bool) (post : P × List (Nat × En) → Prop) : (∃ (T_1 : List Pl), ∃ (V : List Id3), ∃ (f4_1 : D → Option D), ∃ (c4_1 : Int), S.mk 49 vcMark_0 [vcMark_1, (1, En.mk 0 (some 1) (Obj.map 41 (fun (x : D) => match x with | D.agg [D.int IntKind.i64 a, D.int IntKind.i64 b, D.int IntKind.i64 c] => Option.map plD (atPl T (a, b, c)) | _ => none) c1 false)), (2, En.mk 0 (some 2) (Obj.map 41 f2 c2 true)), (3, En.mk 0 (some 3) (Obj.map 41 f3 c3 false)), (4, En.mk 0 (some 4) (Obj.map 41 f4 c4 false)), (5, En.mk 0 none (Obj.iter 41 62 f2 none))] = S.mk 49 vcMark_0 [vcMark_1, vcMark_2 T_1, vcMark_3 V, (3, En.mk 0 (some 3) (Obj.map 41 (fun (_ : D) => none) (0 : Int) false)), vcMark_4 f4_1 c4_1, (5, En.mk 0 none (Obj.iter 41 62 (fun (x : D) => match x with | D.agg [D.int IntKind.i64 a, D.int IntKind.i64 b, D.int IntKind.i64 c] => Option.map (fun (_ : Unit) => D.agg []) ((fun (x : Id3) => if x ∈ V then some () else none) (a, b, c)) | _ => none) none))] ∧ (List.length T_1 ≤ 1000000 ∧ Uq T_1 ∧ List.Nodup V) ∧ post (P.tup [], [vcMark_1, vcMark_2 T_1, vcMark_3 V, (3, En.mk 0 (some 3) (Obj.map 41 (fun (x : D) => match x with | D.agg [D.int IntKind.i64 a, D.int IntKind.i64 b, D.int IntKind.i64 c] => Option.map (fun (_ : Unit) => D.agg []) ((fun (x : Id3) => if x ∈ seenI T_1 V then some () else none) (a, b, c)) | _ => none) (↑(List.length (seenI T_1 V)) : Int) false)), vcMark_4 f4_1 c4_1])) = (bodyFN [] [] [(1, loopHook (kpF 27 1) gMk1)] 27 [.ref 0 0 0] (nodT (plM T) f2 f3 f4 c1 c2 c3 c4 z2 false)) post := by kernel_rfl
def hMark : KF1 := fun ps R post => ∃ T V f4 c4 z2, ps = [.ref 0 0 0] ∧ R = nodT (plM T) (inM V) noM f4 (T.length : Int) (V.length : Int) 0 c4 z2 false ∧ (T.length ≤ 1000000 ∧ Uq T ∧ V.Nodup) ∧
  post (.tup [], nodT (plM T) (inM V) (inM (seenI T V)) f4 (T.length : Int) (V.length : Int) ((seenI T V).length : Int) c4 true false)
/-! rising -/
/-- How two ids, as data, stand to one another. -/
def cfX : D → D → Int
  | .agg [.int .i64 a, .int .i64 b, .int .i64 c], .agg [.int .i64 a', .int .i64 b', .int .i64 c'] => cmpId a b c a' b' c'
  | _, _ => 0
abbrev rs3 (T : List Pl) (f2 f3 f4 g : D → Option D) (e : Option (D × D)) (out : List Id3) (n : Nat) (c1 c2 c3 c4 : Int) (z2 : Bool) : S :=
  ⟨27, [(0, .ref 0 0 0), (3, .sl 5 0 n), (15, .ref 6 0 0)], nodT (plM T) f2 f3 f4 c1 c2 c3 c4 z2 true ++ [(5, ⟨0, none, .arr 41 false (out.map ixD)⟩)] ++ itE 6 g e⟩
def gRs3 : S → K (PX × S) := fun s post => ∃ T V f2 f4 c1 c2 c4 z2, s = rs3 T f2 (inM V) f4 (inM V) none [] 0 c1 c2 (V.length : Int) c4 z2 ∧ (V.length ≤ 1000000 ∧ V.Nodup) ∧
  ∀ out : List Id3, out.Perm V → post (.exit 0, ⟨27, [(0, .ref 0 0 0), (3, .sl 5 0 out.length)], nodT (plM T) f2 (inM V) f4 c1 c2 (V.length : Int) c4 z2 true ++ [(5, ⟨0, none, .arr 41 false (out.map ixD)⟩)]⟩)
def vcRs3_0 (v0 : D) : D := D.agg [D.int IntKind.i64 (D.iVal (D.cAt v0 0)), D.int IntKind.i64 (D.iVal (D.cAt v0 1)), D.int IntKind.i64 (D.iVal (D.cAt v0 2))]
def vcRs3_1 (n : Nat) (v0 : D) : Nat := n + List.length [vcRs3_0 v0]
def vcRs3_2  : Nat × P := (0, P.ref 0 0 0)
def vcRs3_3  : Nat × En := (0, En.mk 0 (some 0) (Obj.box (61 : TypeId) [P.mp 1 0, P.mp 2 0, P.mp 3 0, P.mp 4 0]))
def vcRs3_4 (T : List Pl) (c1 : Int) : Nat × En := (1, En.mk 0 (some 1) (Obj.map 41 (fun (x : D) => match x with | D.agg [D.int IntKind.i64 a, D.int IntKind.i64 b, D.int IntKind.i64 c] => Option.map plD (atPl T (a, b, c)) | _ => none) c1 false))
def vcRs3_5 (f2 : D → Option D) (c2 : Int) (z2 : Bool) : Nat × En := (2, En.mk 0 (some 2) (Obj.map 41 f2 c2 z2))
def vcRs3_6 (f3 : D → Option D) (c3 : Int) : Nat × En := (3, En.mk 0 (some 3) (Obj.map 41 f3 c3 true))
def vcRs3_7 (f4 : D → Option D) (c4 : Int) : Nat × En := (4, En.mk 0 (some 4) (Obj.map 41 f4 c4 false))
def vcRs3_8  : Nat := 0 + 1
theorem vcRs3 (T : List Pl) (f2 f3 f4 g : D → Option D) (e : Option (D × D)) (out : List Id3) (n : Nat) (c1 c2 c3 c4 : Int) (z2 : Bool) (post : PX × S → Prop) : ((∀ (k x : D), g k = some x → bif isD PR (41 : TypeId) k then bif isD PR (62 : TypeId) x then bif Nat.ble n (List.length (List.map ixD out)) && roomOk (vcRs3_1 n k) 24 then post (PX.normal, S.mk 27 [vcRs3_2, (3, P.sl 5 0 (vcRs3_1 n k)), (15, P.ref 6 0 0)] [vcRs3_3, vcRs3_4 T c1, vcRs3_5 f2 c2 z2, vcRs3_6 f3 c3, vcRs3_7 f4 c4, (5, En.mk 0 none (Obj.arr (41 : TypeId) false (List.take n (List.map ixD out) ++ [vcRs3_0 k]))), (6, En.mk 0 none (Obj.iter 41 62 (fun (k' : D) => bif D.eqB (D.agg [D.int IntKind.i64 (D.iVal (D.cAt k 0)), D.int IntKind.i64 (D.iVal (D.cAt k vcRs3_8)), D.int IntKind.i64 (D.iVal (D.cAt k (vcRs3_8 + 1)))]) k' then none else g k') (some (vcRs3_0 k, D.agg []))))]) else False else False else False) ∧ ((∀ (k : D), g k = none) → post (PX.exit 0, S.mk 27 [vcRs3_2, (3, P.sl 5 0 n)] [vcRs3_3, vcRs3_4 T c1, vcRs3_5 f2 c2 z2, vcRs3_6 f3 c3, vcRs3_7 f4 c4, (5, En.mk 0 none (Obj.arr (41 : TypeId) false (List.map ixD out)))]))) = (roundLN [] [] [] 50 3 (rs3 T f2 f3 f4 g e out n c1 c2 c3 c4 z2)) post := by kernel_rfl
def vcRs_0 (c3 : Int) : Int := (24 : Int) * c3
def vcRs_1  : List (Nat × P) := [(0, P.ref 0 0 0), (3, P.sl 5 0 0), (15, P.ref 6 0 0)]
def vcRs_2  : Nat × En := (0, En.mk 0 (some 0) (Obj.box (61 : TypeId) [P.mp 1 0, P.mp 2 0, P.mp 3 0, P.mp 4 0]))
def vcRs_3  : Nat × En := (5, En.mk 0 none (Obj.arr (41 : TypeId) false []))
def vcRs_4 (v0 : List Pl) (v5 : Int) : Nat × En := (1, En.mk 0 (some 1) (Obj.map 41 (fun (x : D) => match x with | D.agg [D.int IntKind.i64 a, D.int IntKind.i64 b, D.int IntKind.i64 c] => Option.map plD (atPl v0 (a, b, c)) | _ => none) v5 false))
def vcRs_5 (v3 : D → Option D) (v6 : Int) (v8 : Bool) : Nat × En := (2, En.mk 0 (some 2) (Obj.map 41 v3 v6 v8))
def vcRs_6 (v1 : List Id3) : Nat × En := (3, En.mk 0 (some 3) (Obj.map 41 (fun (x : D) => match x with | D.agg [D.int IntKind.i64 a, D.int IntKind.i64 b, D.int IntKind.i64 c] => Option.map (fun (_ : Unit) => D.agg []) ((fun (x : Id3) => if x ∈ v1 then some () else none) (a, b, c)) | _ => none) (↑(List.length v1) : Int) true))
def vcRs_7 (v4 : D → Option D) (v7 : Int) : Nat × En := (4, En.mk 0 (some 4) (Obj.map 41 v4 v7 false))
def vcRs_8  : List P := [P.fn (68 : FuncId) []]
theorem vcRs (T : List Pl) (f2 f3 f4 : D → Option D) (c1 c2 c3 c4 : Int) (z2 z3 : Bool) (post : P × List (Nat × En) → Prop) : (bif decide ((0 : Int) ≤ (0 : Int) ∧ (0 : Int) ≤ c3 ∧ c3 ≤ (9223372036854775807 : Int) ∧ vcRs_0 c3 ≤ (281474976710656 : Int)) then ∃ (T_1 : List Pl), ∃ (V : List Id3), ∃ (f2_1 : D → Option D), ∃ (f4_1 : D → Option D), ∃ (c1_1 : Int), ∃ (c2_1 : Int), ∃ (c4_1 : Int), ∃ (z2_1 : Bool), S.mk 27 vcRs_1 [vcRs_2, (1, En.mk 0 (some 1) (Obj.map 41 (fun (x : D) => match x with | D.agg [D.int IntKind.i64 a, D.int IntKind.i64 b, D.int IntKind.i64 c] => Option.map plD (atPl T (a, b, c)) | _ => none) c1 false)), (2, En.mk 0 (some 2) (Obj.map 41 f2 c2 z2)), (3, En.mk 0 (some 3) (Obj.map 41 f3 c3 true)), (4, En.mk 0 (some 4) (Obj.map 41 f4 c4 false)), vcRs_3, (6, En.mk 0 none (Obj.iter 41 62 f3 none))] = S.mk 27 vcRs_1 [vcRs_2, vcRs_4 T_1 c1_1, vcRs_5 f2_1 c2_1 z2_1, vcRs_6 V, vcRs_7 f4_1 c4_1, vcRs_3, (6, En.mk 0 none (Obj.iter 41 62 (fun (x : D) => match x with | D.agg [D.int IntKind.i64 a, D.int IntKind.i64 b, D.int IntKind.i64 c] => Option.map (fun (_ : Unit) => D.agg []) ((fun (x : Id3) => if x ∈ V then some () else none) (a, b, c)) | _ => none) none))] ∧ (List.length V ≤ 1000000 ∧ List.Nodup V) ∧ ∀ (out : List Id3), List.Perm out V → ∃ (es : List D), P.sl 0 0 (List.length out) :: vcRs_8 = P.sl 0 0 (List.length es) :: vcRs_8 ∧ [(0, En.mk 0 (some 0) (Obj.arr (41 : TypeId) false (List.map ixD out)))] = [(0, En.mk 0 (some 0) (Obj.arr (41 : TypeId) false es))] ∧ CmpOn PR kp0 (68 : FuncId) es cfX ∧ ∀ (es' : List D), List.Perm es' es → List.Pairwise (fun (a b : D) => ¬cfX b a < (0 : Int)) es' → post (P.sl 5 0 (List.length out), [vcRs_2, vcRs_4 T_1 c1_1, vcRs_5 f2_1 c2_1 z2_1, vcRs_6 V, vcRs_7 f4_1 c4_1, (5, En.mk 0 none (Obj.arr (41 : TypeId) false es'))]) else False) = (bodyFN [(67, hSortA 68 cfX 41)] [] [(3, loopHook (kpF 50 3) gRs3)] 50 [.ref 0 0 0] (nodT (plM T) f2 f3 f4 c1 c2 c3 c4 z2 z3)) post := by kernel_rfl
def hRising : KF1 := fun ps R post => ∃ T V f2 f4 c1 c2 c4 z2 z3, ps = [.ref 0 0 0] ∧ R = nodT (plM T) f2 (inM V) f4 c1 c2 (V.length : Int) c4 z2 z3 ∧ (V.length ≤ 1000000 ∧ V.Nodup) ∧
  post (.sl 5 0 V.length, nodT (plM T) f2 (inM V) f4 c1 c2 (V.length : Int) c4 z2 true ++ [(5, ⟨0, none, .arr 41 false ((sortI ltX V).map ixD)⟩)])
end Pi

/- Tree: mark, rising. -/
namespace Pi
open Go Go.Proofs
set_option maxRecDepth 100000
theorem inM_some {L : List Id3} {k v : D} (h : inM L k = some v) : ∃ x ∈ L, k = ixD x ∧ v = .agg [] := by
  unfold inM mpD at h
  split at h
  · rename_i a b c
    by_cases hx : (a, b, c) ∈ L
    · simp only [if_pos hx, Option.map_some, Option.some.injEq] at h
      exact ⟨_, hx, rfl, h.symm⟩
    · simp only [if_neg hx, Option.map_none] at h
      cases h
  · cases h
theorem inM_none {L : List Id3} (h : ∀ k, inM L k = none) : L = [] := by
  cases L with
  | nil => rfl
  | cons x r =>
    have := h (ixD x)
    rw [inM_id] at this
    simp at this
theorem inM_ext {a b : List Id3} (h : ∀ z, z ∈ a ↔ z ∈ b) : inM a = inM b := by
  have : (fun x => if x ∈ a then some () else none) = (fun x : Id3 => if x ∈ b then some () else none) := by
    funext x
    by_cases hx : x ∈ a
    · rw [if_pos hx, if_pos ((h x).1 hx)]
    · rw [if_neg hx, if_neg (fun hb => hx ((h x).2 hb))]
  unfold inM
  rw [this]
theorem inM_del {L : List Id3} (hn : L.Nodup) (x : Id3) : delD (ixD x) (inM L) = inM (L.erase x) := by
  funext d
  cases hd : D.eqB (ixD x) d with
  | true =>
    have := (D.eqB_iff _ _).1 hd
    subst this
    rw [delD_same, inM_id, if_neg (fun h => (hn.mem_erase_iff.1 h).1 rfl)]
    rfl
  | false =>
    have hne : ixD x ≠ d := fun e => by rw [(D.eqB_iff _ _).2 e] at hd; cases hd
    rw [delD_ne _ hne]
    unfold inM mpD
    split
    · rename_i a b c
      have hx : (a, b, c) ≠ x := fun e => hne (by rw [← e]; rfl)
      simp only [hn.mem_erase_iff]
      by_cases h : (a, b, c) ∈ L
      · simp [h, hx]
      · simp [h]
    · rfl
theorem inM_nil : inM [] = noM := by
  funext d
  show mpD _ _ d = none
  unfold mpD
  split <;> rfl
theorem isNo : isD PR 62 (.agg []) = true := by kernel_rfl
theorem drop_cons {α : Type} {l : List α} {k : Nat} (h : k < l.length) (d : α) : l.drop k = l.getD k d :: l.drop (k + 1) := by
  rw [List.drop_eq_getElem_cons h, List.getD_eq_getElem?_getD, List.getElem?_eq_getElem h]
  rfl
theorem drM : PR.follows .mixedOrders = true := by kernel_rfl
section
variable {X : XF} {w0 : World} (hX : CFOK PR w0 X.cf)
include hX
theorem lnMk6 : LN w0 27 6 (loopHook (kpF 27 6) gMk6) := LN.par hX (H := []) (HN := []) (hk := []) drM (by kernel_rfl) (by kernel_rfl) .nil .nil .nil
  (A := List Pl × (D → Option D) × (D → Option D) × (D → Option D) × Option (D × D) × List Id3 × List Id3 × Int × Int) (B := List Id3 × Int)
  (fun ⟨T, f2, f4, g, e, _, w, c2, c4⟩ b => mk6 T f2 (inM b.1) f4 g e w w.length b.2 (T.length : Int) c2 (b.1.length : Int) c4)
  (fun ⟨_, _, _, _, _, V, w, _, _⟩ b => w.length ≤ 1000000 ∧ 0 ≤ b.2 ∧ b.2 ≤ w.length ∧ mkF b.1 (w.drop b.2.toNat) = mkF V w)
  (fun ⟨_, _, _, _, _, _, w, _, _⟩ b => (w.length - b.2).toNat)
  (fun ⟨T, f2, f4, g, e, V, w, c2, c4⟩ x => x = (.exit 1, mk1 T f2 (inM (mkF V w)) f4 g e (T.length : Int) c2 ((mkF V w).length : Int) c4) ∨ x = (.exit 2, mk1 T f2 (inM (mkF V w)) f4 g e (T.length : Int) c2 ((mkF V w).length : Int) c4))
  (by
    rintro ⟨T, f2, f4, g, e, V, w, c2, c4⟩ ⟨V', k⟩ ⟨hm, h0, hk, hv⟩
    dsimp only at *
    (rw [← vcMk6]; delta vcMk6_0 vcMk6_1 vcMk6_2 vcMk6_3 vcMk6_4 vcMk6_5 vcMk6_6 vcMk6_7 vcMk6_8 vcMk6_9 vcMk6_10 vcMk6_11)
    simp only [List.length_map]
    refine condP (fun h => ?_) fun h => ?_
    · have hk' : k.toNat < w.length := by omega
      rw [ix_nth hk']
      rw [drop_cons hk' (0, 0, 0)] at hv
      generalize w.getD k.toNat (0, 0, 0) = u at hv
      refine oblP ⟨h0, by omega⟩ (oblI (by simpa using hk') (oblI (isIx u) (oblI ?_ (condI (fun hs => ?_) fun hs => oblI (incI (by omega) (by omega)) ?_))))
      · show isD PR 62 (getO (inM V' (ixD u)) _) = true
        rw [inM_id]
        by_cases hu : u ∈ V' <;> simp only [hu, if_true, if_false, Option.map_some, Option.map_none] <;> exact isNo
      · have hu : u ∈ V' := by
          have : (inM V' (ixD u)).isSome = true := hs
          rw [inM_id] at this
          by_cases hu : u ∈ V'
          · exact hu
          · simp [hu] at this
        left
        rw [← hv, mkF, if_pos hu]
        rfl
      · have hu : u ∉ V' := fun hu => by
          have : (inM V' (ixD u)).isSome = false := hs
          rw [inM_id] at this
          simp [hu] at this
        rw [mkF, if_neg hu] at hv
        have e1 : lvS V' u = V' ++ [u] := by unfold lvS; rw [if_neg hu]
        refine ⟨((w.length : Int) - (k + 1)).toNat, by omega, (V' ++ [u], k + 1), ?_, ⟨hm, by simp only; omega, by simp only; omega, ?_⟩, rfl⟩
        · have a1 := inM_add (V := V') (x := u)
          have a2 := inM_len V' u
          rw [e1] at a1 a2
          show _ = mk6 T f2 (inM (V' ++ [u])) f4 g e w w.length (k + 1) (T.length : Int) c2 ((V' ++ [u]).length : Int) c4
          rw [← a1, ← a2]
          rfl
        · simp only
          rw [show (k + 1).toNat = k.toNat + 1 by omega]
          exact hv
    · have : k.toNat = w.length := by omega
      rw [this, List.drop_length, mkF] at hv
      subst hv
      right
      rfl)
  (by
    rintro s post ⟨T, f2, f4, g, e, V, w, c2, c4, rfl, ⟨hm, _⟩, h1, h2⟩
    refine ⟨(T, f2, f4, g, e, V, w, c2, c4), (V, 0), rfl, ⟨hm, by simp, by simp, by simp⟩, ?_⟩
    rintro x (rfl | rfl)
    · exact h1
    · exact h2)
theorem lnMk1 : LN w0 27 1 (loopHook (kpF 27 1) gMk1) := LN.par hX (H := [(49, hWay)]) (HN := []) (hk := [(6, loopHook (kpF 27 6) gMk6)]) drM (by kernel_rfl) (by kernel_rfl) (.cons okWay .nil) .nil (.cons (lnMk6 hX) .nil)
  (A := List Pl × List Id3 × (D → Option D) × Int) (B := List Id3 × List Id3 × List Id3 × Option (D × D))
  (fun ⟨T, V, f4, c4⟩ ⟨S, L, _, e⟩ => mk1 T (inM V) (inM S) f4 (inM L) e (T.length : Int) (V.length : Int) (S.length : Int) c4)
  (fun ⟨T, V, _, _⟩ ⟨S, L, Dn, _⟩ => T.length ≤ 1000000 ∧ Uq T ∧ L.Nodup ∧ (∀ z, z ∈ V ↔ z ∈ Dn ∨ z ∈ L) ∧ UpC T S ∧ S.Nodup ∧ ∀ z, z ∈ S ↔ marked T Dn z = true)
  (fun _ b => b.2.1.length)
  (fun ⟨T, V, f4, c4⟩ x => x = (.exit 0, ⟨49, [(0, .ref 0 0 0)], nodT (plM T) (inM V) (inM (seenI T V)) f4 (T.length : Int) (V.length : Int) ((seenI T V).length : Int) c4 true false⟩))
  (by
    rintro ⟨T, V, f4, c4⟩ ⟨S, L, Dn, e⟩ ⟨hm, hu, hn, hV, hS, hSn, hSm⟩
    dsimp only at *
    (rw [← vcMk1]; delta vcMk1_0 vcMk1_1 vcMk1_2 vcMk1_3 vcMk1_4 vcMk1_5 vcMk1_6 vcMk1_7 vcMk1_8 vcMk1_9 vcMk1_10 vcMk1_11 vcMk1_12 vcMk1_13 vcMk1_14 vcMk1_15 vcMk1_16 vcMk1_17)
    have hSl : S.length ≤ T.length := by
      have : S ⊆ T.map (·.1) := fun z hz => by
        obtain ⟨p, hp⟩ := marked_at ((hSm z).1 hz)
        obtain ⟨h2, h3⟩ := atPl_mem hp
        exact List.mem_map.2 ⟨p, h2, h3⟩
      simpa using hSn.length_le_of_subset this
    refine ⟨fun k v hk => ?_, fun hno => ?_⟩
    · obtain ⟨x, hx, rfl, rfl⟩ := inM_some hk
      have hdel := inM_del hn x
      have hlen : (L.erase x).length < L.length := by
        rw [List.length_erase_of_mem hx]
        have : 0 < L.length := List.length_pos_of_mem hx
        omega
      have hV' : ∀ z, z ∈ V ↔ z ∈ Dn ++ [x] ∨ z ∈ L.erase x := fun z => by
        rw [hV z, List.mem_append, List.mem_singleton, hn.mem_erase_iff]
        constructor
        · rintro (h | h)
          · exact .inl (.inl h)
          · by_cases hz : z = x
            · exact .inl (.inr hz)
            · exact .inr ⟨hz, h⟩
        · rintro ((h | h) | h)
          · exact .inl h
          · exact .inr (h ▸ hx)
          · exact .inr h.2
      have hmk : ∀ z, marked T (Dn ++ [x]) z = true ↔ marked T Dn z = true ∨ ∃ w, Up T x w ∧ z ∈ w := fun z => by
        rw [marked_iff, marked_iff]
        constructor
        · rintro ⟨y, hy, h⟩
          rcases List.mem_append.1 hy with hy | hy
          · exact .inl ⟨y, hy, h⟩
          · rw [List.mem_singleton] at hy; subst hy; exact .inr h
        · rintro (⟨y, hy, h⟩ | h)
          · exact ⟨y, List.mem_append_left _ hy, h⟩
          · exact ⟨x, by simp, h⟩
      have next : ∀ S' : List Id3, S' = markR T S x → ∃ m, m < L.length ∧ ∃ b' : List Id3 × List Id3 × List Id3 × Option (D × D), (mk1 T (inM V) (inM S') f4 (delD (ixD x) (inM L)) (some (ixD x, .agg [])) (T.length : Int) (V.length : Int) (S'.length : Int) c4 : Pi.S) = mk1 T (inM V) (inM b'.1) f4 (inM b'.2.1) b'.2.2.2 (T.length : Int) (V.length : Int) (b'.1.length : Int) c4 ∧
          (T.length ≤ 1000000 ∧ Uq T ∧ b'.2.1.Nodup ∧ (∀ z, z ∈ V ↔ z ∈ b'.2.2.1 ∨ z ∈ b'.2.1) ∧ UpC T b'.1 ∧ b'.1.Nodup ∧ ∀ z, z ∈ b'.1 ↔ marked T b'.2.2.1 z = true) ∧ m = b'.2.1.length := fun S' hS' => by
        obtain ⟨g1, g2, g3⟩ := markR_ok x hS hSn
        rw [← hS'] at g1 g2 g3
        refine ⟨_, hlen, (S', L.erase x, Dn ++ [x], some (ixD x, .agg [])), by rw [hdel], ⟨hm, hu, hn.erase _, hV', g1, g2, fun z => ?_⟩, rfl⟩
        rw [g3, hmk, hSm]
      refine oblI (isIx x) (oblI isNo ⟨T, x, inM V, inM S, f4, _, _, c4, true, false, rfl, rfl, hm, fun w hw => ?_, fun hw => ?_⟩)
      · have hup := wy_iff.1 hw
        have := next (mkF S w) (by unfold markR; rw [hw])
        exact ⟨T, inM V, f4, _, _, S, w, _, c4, rfl, ⟨by have := hup.len; omega, by omega⟩, this, this⟩
      · exact next S (by unfold markR; rw [hw])
    · have := inM_none hno
      subst this
      have hVD : ∀ z, z ∈ V ↔ z ∈ Dn := fun z => by rw [hV z]; simp
      have hp := seen_perm hu hSn (live := V) fun z => by rw [hSm, marked_ext hVD]
      show _ = _
      rw [← inM_ext (a := S) (b := seenI T V) fun z => hp.mem_iff, ← hp.length_eq]
      rfl)
  (by
    rintro s post ⟨T, V, f4, c4, rfl, ⟨hm, hu, hn⟩, hp⟩
    refine ⟨(T, V, f4, c4), ([], V, [], none), ?_, ⟨hm, hu, hn, fun z => by simp, fun z hz => by simp at hz, by simp, fun z => by simp [marked]⟩, ?_⟩
    · show _ = mk1 T (inM V) (inM []) f4 (inM V) none _ _ _ c4
      rw [inM_nil]
      rfl
    · rintro x rfl
      exact hp)
theorem ndMark : ND w0 27 hMark := ND.mk hX (H := []) (HN := []) (hk := [(1, loopHook (kpF 27 1) gMk1)]) drM (by kernel_rfl) .nil .nil (.cons (lnMk1 hX) .nil) (by
  intro ps R post hh
  obtain ⟨T, V, f4, c4, z2, rfl, rfl, hc, hp⟩ := hh
  (rw [← vcMark]; delta vcMark_0 vcMark_1 vcMark_2 vcMark_3 vcMark_4)
  exact ⟨T, V, f4, c4, rfl, hc, hp⟩)
theorem lnRs3 : LN w0 50 3 (loopHook (kpF 50 3) gRs3) := LN.par hX (H := []) (HN := []) (hk := []) drM (by kernel_rfl) (by kernel_rfl) .nil .nil .nil
  (A := List Pl × List Id3 × (D → Option D) × (D → Option D) × Int × Int × Int × Bool) (B := List Id3 × List Id3 × Option (D × D))
  (fun ⟨T, V, f2, f4, c1, c2, c4, z2⟩ ⟨out, L, e⟩ => rs3 T f2 (inM V) f4 (inM L) e out out.length c1 c2 (V.length : Int) c4 z2)
  (fun ⟨_, V, _⟩ ⟨out, L, _⟩ => V.length ≤ 1000000 ∧ L.Nodup ∧ (out ++ L).Perm V)
  (fun _ b => b.2.1.length)
  (fun ⟨T, V, f2, f4, c1, c2, c4, z2⟩ x => ∃ out : List Id3, out.Perm V ∧ x = (.exit 0, ⟨27, [(0, .ref 0 0 0), (3, .sl 5 0 out.length)], nodT (plM T) f2 (inM V) f4 c1 c2 (V.length : Int) c4 z2 true ++ [(5, ⟨0, none, .arr 41 false (out.map ixD)⟩)]⟩))
  (by
    rintro ⟨T, V, f2, f4, c1, c2, c4, z2⟩ ⟨out, L, e⟩ ⟨hm, hn, hp⟩
    dsimp only at *
    (rw [← vcRs3]; delta vcRs3_0 vcRs3_1 vcRs3_2 vcRs3_3 vcRs3_4 vcRs3_5 vcRs3_6 vcRs3_7 vcRs3_8)
    have hl := hp.length_eq
    rw [List.length_append] at hl
    refine ⟨fun k v hk => ?_, fun hno => ?_⟩
    · obtain ⟨x, hx, rfl, rfl⟩ := inM_some hk
      have hdel := inM_del hn x
      have h0 : 0 < L.length := List.length_pos_of_mem hx
      have hlen : (L.erase x).length < L.length := by
        rw [List.length_erase_of_mem hx]
        omega
      refine oblI (isIx x) (oblI isNo (oblI ?_ ⟨_, hlen, (out ++ [x], L.erase x, some (ixD x, .agg [])), ?_, ⟨hm, hn.erase _, ?_⟩, rfl⟩))
      · rw [List.length_map]
        simp [roomOk]
        omega
      · show _ = rs3 T f2 (inM V) f4 (inM (L.erase x)) (some (ixD x, .agg [])) (out ++ [x]) (out ++ [x]).length c1 c2 (V.length : Int) c4 z2
        rw [take_ix, ← hdel]
        simp only [rs3, List.map_append, List.length_append, List.map_cons, List.map_nil]
        rfl
      · simp only
        refine List.Perm.trans ?_ hp
        rw [List.append_assoc]
        exact (List.perm_cons_erase hx).symm.append_left out
    · have := inM_none hno
      subst this
      exact ⟨out, by simpa using hp, rfl⟩)
  (by
    rintro s post ⟨T, V, f2, f4, c1, c2, c4, z2, rfl, ⟨hm, hn⟩, hp⟩
    refine ⟨(T, V, f2, f4, c1, c2, c4, z2), ([], V, none), rfl, ⟨hm, hn, by simp⟩, ?_⟩
    rintro x ⟨out, h1, rfl⟩
    exact hp out h1)
omit hX in
theorem cfX_lt (x y : Id3) : cfX (ixD x) (ixD y) < 0 ↔ ltX x y = true := cmpX_lt x y
omit hX in
theorem cmpOnX (l : List Id3) (hl : l.length ≤ 1000000) : CmpOn PR kp0 68 (l.map ixD) cfX where
  fn := ⟨_, Tryz.func68, by kernel_rfl, by kernel_rfl⟩
  ag := fun d hd => by
    obtain ⟨x, _, rfl⟩ := List.mem_map.1 hd
    exact ⟨_, rfl⟩
  len := by simp; omega
  run := fun a ha b hb => by
    obtain ⟨x, _, rfl⟩ := List.mem_map.1 ha
    obtain ⟨y, _, rfl⟩ := List.mem_map.1 hb
    exact FC.cmps fcCmpId ⟨_, _, _, _, _, _, rfl, rfl, rfl⟩
  irr := fun a ha => by
    obtain ⟨x, _, rfl⟩ := List.mem_map.1 ha
    rw [cfX_lt, lin_X.irr]
    simp
  tr := fun a ha b hb c hc => by
    obtain ⟨x, _, rfl⟩ := List.mem_map.1 ha
    obtain ⟨y, _, rfl⟩ := List.mem_map.1 hb
    obtain ⟨z, _, rfl⟩ := List.mem_map.1 hc
    rw [cfX_lt, cfX_lt, cfX_lt]
    exact lin_X.tr x y z
  ntr := fun a ha b hb c hc => by
    obtain ⟨x, _, rfl⟩ := List.mem_map.1 ha
    obtain ⟨y, _, rfl⟩ := List.mem_map.1 hb
    obtain ⟨z, _, rfl⟩ := List.mem_map.1 hc
    rw [cfX_lt, cfX_lt, cfX_lt]
    intro h1 h2
    simpa using lin_X.ntr (by simpa using h1) (by simpa using h2)
omit hX in
theorem okSortId : FD X 67 (hSortA 68 cfX 41) := FD.ofX Tryz.func67 (by kernel_rfl) (by kernel_rfl) fun ps R post h => hSort_told (hSortA_hSort h)
omit hX in
theorem unmap {α β : Type} (f : α → β) (g : β → α) (hg : ∀ x, g (f x) = x) {l : List α} {l' : List β} (h : l'.Perm (l.map f)) : ∃ l2 : List α, l' = l2.map f ∧ l2.Perm l := by
  refine ⟨l'.map g, ?_, ?_⟩
  · rw [List.map_map]
    refine (List.map_id l').symm.trans (List.map_congr_left fun b hb => ?_)
    obtain ⟨a, _, rfl⟩ := List.mem_map.1 (h.mem_iff.1 hb)
    simp [hg]
  · have := h.map g
    rw [List.map_map] at this
    rwa [show (g ∘ f) = id from funext hg, List.map_id] at this
/-- An id of its data. -/
def unIx : D → Id3
  | .agg [.int .i64 a, .int .i64 b, .int .i64 c] => (a, b, c)
  | _ => (0, 0, 0)
theorem ndRising : ND w0 50 hRising := ND.mk hX (H := [(67, hSortA 68 cfX 41)]) (HN := []) (hk := [(3, loopHook (kpF 50 3) gRs3)]) drM (by kernel_rfl) (.cons okSortId .nil) .nil (.cons (lnRs3 hX) .nil) (by
  intro ps R post hh
  obtain ⟨T, V, f2, f4, c1, c2, c4, z2, z3, rfl, rfl, ⟨hm, hn⟩, hp⟩ := hh
  (rw [← vcRs]; delta vcRs_0 vcRs_1 vcRs_2 vcRs_3 vcRs_4 vcRs_5 vcRs_6 vcRs_7 vcRs_8)
  refine oblI (decT ⟨by omega, by omega, by omega, by omega⟩) ⟨T, V, f2, f4, c1, c2, c4, z2, rfl, ⟨hm, hn⟩, fun out ho => ⟨out.map ixD, by rw [List.length_map], rfl, cmpOnX out (by rw [ho.length_eq]; exact hm), fun es' h1 h2 => ?_⟩⟩
  obtain ⟨l2, rfl, h3⟩ := unmap ixD unIx (fun _ => rfl) h1
  rw [List.pairwise_map] at h2
  have e := sortI_of lin_X (h3.trans ho) (h2.imp fun {a b} h => by rw [cfX_lt] at h; simpa using h)
  rw [e, ho.length_eq]
  exact hp)
end
end Pi

/- Tree: name, path: what their runs ask. -/
namespace Pi
open Go Go.Proofs
set_option maxRecDepth 100000
set_option maxHeartbeats 0
/-! name -/
abbrev nm2 (L : List Id3) (n : Nat) (k : Int) (h : D → Option D) (c : Int) (T : List Pl) (f2 f3 f4 : D → Option D) (c1 c2 c3 c4 : Int) (z2 : Bool) : S :=
  ⟨56, [(0, .ref 0 0 0), (2, .mp 5 0), (9, .sl 6 0 n), (10, iD n), (11, iD k)], nodT (plM T) f2 f3 f4 c1 c2 c3 c4 z2 true ++ [(5, ⟨0, none, .map 86 h c false⟩), (6, ⟨0, none, .arr 41 false (L.map ixD)⟩)]⟩
/-- What the nodes are seen as, as data. -/
abbrev asM (T : List Pl) (V L : List Id3) : D → Option D := mpD D.str (fun x => if x ∈ L then some (nmX T V x) else none)
def gNm2 : S → K (PX × S) := fun s post => ∃ T V f2 f3 c1 c2 c3 z2, s = nm2 (sortI ltX (seenI T V)) (seenI T V).length 0 noM 0 T f2 f3 noM c1 c2 c3 0 z2 ∧ (T.length ≤ 1000000 ∧ Rt T) ∧
  post (.exit 0, ⟨56, [(0, .ref 0 0 0)], nodT (plM T) f2 f3 (asM T V (seenI T V)) c1 c2 c3 ((seenI T V).length : Int) z2 true⟩)
def vcNm2_0 (L : List Id3) (k : Int) : D := D.nth (List.map ixD L) (Int.toNat k)
def vcNm2_1 (L : List Id3) (k : Int) : D := D.int IntKind.i64 (D.iVal (D.cAt (vcNm2_0 L k) 0))
def vcNm2_2 (L : List Id3) (k : Int) : D := D.agg [vcNm2_1 L k, D.int IntKind.i64 (D.iVal (D.cAt (vcNm2_0 L k) 1)), D.int IntKind.i64 (D.iVal (D.cAt (vcNm2_0 L k) 2))]
def vcNm2_3  : D := D.int IntKind.i64 (0 : Int)
def vcNm2_4 (L : List Id3) (k : Int) (T : List Pl) : D := getO (plM T (vcNm2_2 L k)) (D.agg [vcNm2_3, vcNm2_3, vcNm2_3, vcNm2_3, vcNm2_3, vcNm2_3, D.str [], D.bool false])
def vcNm2_5 (L : List Id3) (k : Int) (T : List Pl) : D := D.str (D.sVal (D.cAt (vcNm2_4 L k T) 6))
def vcNm2_6 (L : List Id3) (k : Int) (T : List Pl) : D := D.agg [D.int IntKind.i64 (D.iVal (D.cAt (vcNm2_4 L k T) 3)), D.int IntKind.i64 (D.iVal (D.cAt (vcNm2_4 L k T) 4)), D.int IntKind.i64 (D.iVal (D.cAt (vcNm2_4 L k T) 5)), vcNm2_5 L k T]
def vcNm2_7  : Int := (-9223372036854775808 : Int)
def vcNm2_8 (L : List Id3) (k : Int) (h : D → Option D) (T : List Pl) : Int := D.iVal (getO (h (vcNm2_6 L k T)) vcNm2_3) + (1 : Int)
def vcNm2_9 (L : List Id3) (k : Int) (h : D → Option D) (T : List Pl) : D := getO (updD (vcNm2_6 L k T) (D.int IntKind.i64 (vcNm2_8 L k h T)) (updD (vcNm2_6 L k T) (getO (h (vcNm2_6 L k T)) vcNm2_3) h) (vcNm2_6 L k T)) vcNm2_3
def vcNm2_10 (k : Int) : Int := k + (1 : Int)
def vcNm2_11 (k : Int) : Bool := decide (vcNm2_7 ≤ vcNm2_10 k ∧ vcNm2_10 k ≤ (9223372036854775807 : Int))
def vcNm2_12  : Nat × P := (0, P.ref 0 0 0)
def vcNm2_13 (n : Nat) (k : Int) : List (Nat × P) := [vcNm2_12, (2, P.mp 5 0), (9, P.sl 6 0 n), (10, P.d (D.int IntKind.i64 (↑n : Int))), (11, P.d (D.int IntKind.i64 (vcNm2_10 k)))]
def vcNm2_14  : Nat × En := (0, En.mk 0 (some 0) (Obj.box (61 : TypeId) [P.mp 1 0, P.mp 2 0, P.mp 3 0, P.mp 4 0]))
def vcNm2_15 (T : List Pl) (c1 : Int) : Nat × En := (1, En.mk 0 (some 1) (Obj.map 41 (fun (x : D) => match x with | D.agg [D.int IntKind.i64 a, D.int IntKind.i64 b, D.int IntKind.i64 c] => Option.map plD (atPl T (a, b, c)) | _ => none) c1 false))
def vcNm2_16 (f2 : D → Option D) (c2 : Int) (z2 : Bool) : Nat × En := (2, En.mk 0 (some 2) (Obj.map 41 f2 c2 z2))
def vcNm2_17 (f3 : D → Option D) (c3 : Int) : Nat × En := (3, En.mk 0 (some 3) (Obj.map 41 f3 c3 true))
def vcNm2_18  : Nat := 0 + 1
def vcNm2_19  : Nat := vcNm2_18 + 1
def vcNm2_20 (L : List Id3) (k : Int) : D := D.agg [vcNm2_1 L k, D.int IntKind.i64 (D.iVal (D.cAt (vcNm2_0 L k) vcNm2_18)), D.int IntKind.i64 (D.iVal (D.cAt (vcNm2_0 L k) vcNm2_19))]
def vcNm2_21 (L : List Id3) (k : Int) (T : List Pl) : D := getO (plM T (vcNm2_20 L k)) (D.agg [vcNm2_3, vcNm2_3, vcNm2_3, vcNm2_3, vcNm2_3, vcNm2_3, D.str (Array.toList (ByteArray.data (ByteArray.mk #[]))), D.bool false])
def vcNm2_22  : Nat := vcNm2_19 + 1
def vcNm2_23  : Nat := vcNm2_22 + 1
def vcNm2_24  : Nat := vcNm2_23 + 1
def vcNm2_25 (L : List Id3) (k : Int) (T : List Pl) : List UInt8 := D.sVal (D.cAt (vcNm2_21 L k T) (vcNm2_24 + 1))
def vcNm2_26 (L : List Id3) (k : Int) (f4 : D → Option D) (c4 : Int) : Int := bif Option.isSome (f4 (vcNm2_2 L k)) then c4 else c4 + (1 : Int)
def vcNm2_27 (L : List Id3) (k : Int) (T : List Pl) : D := D.agg [D.int IntKind.i64 (D.iVal (D.cAt (vcNm2_21 L k T) vcNm2_22)), D.int IntKind.i64 (D.iVal (D.cAt (vcNm2_21 L k T) vcNm2_23)), D.int IntKind.i64 (D.iVal (D.cAt (vcNm2_21 L k T) vcNm2_24)), D.str (Array.toList (ByteArray.data (ByteArray.mk (Array.mk (vcNm2_25 L k T)))))]
def vcNm2_28 (L : List Id3) (k : Int) (h : D → Option D) (c : Int) (T : List Pl) : List (Nat × En) := [(5, En.mk 0 none (Obj.map 86 (fun (k' : D) => bif D.eqB (vcNm2_27 L k T) k' then some (D.int IntKind.i64 (D.iVal (getO (h (vcNm2_27 L k T)) vcNm2_3) + (1 : Int))) else updD (vcNm2_27 L k T) (getO (h (vcNm2_27 L k T)) vcNm2_3) h k') (bif Option.isSome (h (vcNm2_6 L k T)) then c else c + (1 : Int)) false)), (6, En.mk 0 none (Obj.arr (41 : TypeId) false (List.map ixD L)))]
theorem vcNm2 (L : List Id3) (n : Nat) (k : Int) (h : D → Option D) (c : Int) (T : List Pl) (f2 f3 f4 : D → Option D) (c1 c2 c3 c4 : Int) (z2 : Bool) (post : PX × S → Prop) : (bif decide (k < (↑n : Int)) then bif decide ((0 : Int) ≤ k ∧ k < (↑n : Int)) then bif decide (Int.toNat k < List.length (List.map ixD L)) then bif isD PR (41 : TypeId) (vcNm2_0 L k) then bif isD PR (47 : TypeId) (vcNm2_4 L k T) then bif isD PR (3 : TypeId) (getO (h (vcNm2_6 L k T)) vcNm2_3) then bif decide (vcNm2_7 ≤ vcNm2_8 L k h T ∧ vcNm2_8 L k h T ≤ (9223372036854775807 : Int)) then bif isD PR (3 : TypeId) (vcNm2_9 L k h T) then bif decide (D.iVal (vcNm2_9 L k h T) > (1 : Int)) then ∃ (s : List UInt8), ∃ (t : Int), ∃ (r : Int), ∃ (i : Int), [P.d (vcNm2_5 L k T), P.d (vcNm2_2 L k)] = [P.d (D.str s), P.d (D.agg [D.int IntKind.i64 t, D.int IntKind.i64 r, D.int IntKind.i64 i])] ∧ EqR [] [] ∧ bif vcNm2_11 k then post (PX.normal, S.mk 56 (vcNm2_13 n k) (vcNm2_14 :: vcNm2_15 T c1 :: vcNm2_16 f2 c2 z2 :: vcNm2_17 f3 c3 :: (4, En.mk 0 (some 4) (Obj.map 41 (fun (k' : D) => bif D.eqB (vcNm2_20 L k) k' then some (D.str (Prod.fst (clashP s t r i))) else updD (vcNm2_20 L k) (D.str (vcNm2_25 L k T)) f4 k') (bif Option.isSome (updD (vcNm2_2 L k) (vcNm2_5 L k T) f4 (vcNm2_2 L k)) then vcNm2_26 L k f4 c4 else vcNm2_26 L k f4 c4 + (1 : Int)) false)) :: vcNm2_28 L k h c T)) else False else bif vcNm2_11 k then post (PX.normal, S.mk 56 (vcNm2_13 n k) (vcNm2_14 :: vcNm2_15 T c1 :: vcNm2_16 f2 c2 z2 :: vcNm2_17 f3 c3 :: (4, En.mk 0 (some 4) (Obj.map 41 (fun (k' : D) => bif D.eqB (vcNm2_20 L k) k' then some (D.str (vcNm2_25 L k T)) else f4 k') (vcNm2_26 L k f4 c4) false)) :: vcNm2_28 L k h c T)) else False else False else False else False else False else False else False else False else post (PX.exit 0, S.mk 56 [vcNm2_12] [vcNm2_14, vcNm2_15 T c1, vcNm2_16 f2 c2 z2, vcNm2_17 f3 c3, (4, En.mk 0 (some 4) (Obj.map 41 f4 c4 false))])) = (roundLN [(51, hClash)] [] [] 28 2 (nm2 L n k h c T f2 f3 f4 c1 c2 c3 c4 z2)) post := by kernel_rfl
def vcNmB_0  : P := P.ref 0 0 0
def vcNmB_1  : Nat × En := (0, En.mk 0 (some 0) (Obj.box (61 : TypeId) [P.mp 1 0, P.mp 2 0, P.mp 3 0, P.mp 4 0]))
def vcNmB_2 (v0 : List Pl) (v5 : Int) : Nat × En := (1, En.mk 0 (some 1) (Obj.map 41 (fun (x : D) => match x with | D.agg [D.int IntKind.i64 a, D.int IntKind.i64 b, D.int IntKind.i64 c] => Option.map plD (atPl v0 (a, b, c)) | _ => none) v5 false))
def vcNmB_3 (v3 : D → Option D) (v6 : Int) (v8 : Bool) : Nat × En := (2, En.mk 0 (some 2) (Obj.map 41 v3 v6 v8))
def vcNmB_4 (v4 : D → Option D) (v7 : Int) : Nat × En := (4, En.mk 0 (some 4) (Obj.map 41 v4 v7 false))
def vcNmB_5  : Nat × P := (2, P.mp 5 0)
def vcNmB_6  : List (Nat × P) := [(11, P.d (D.int IntKind.i64 (0 : Int)))]
def vcNmB_7  : Nat × En := (5, En.mk 0 none (Obj.map 86 (fun (_ : D) => none) (0 : Int) false))
def vcNmB_8 (v25 : List Pl) (v29 : Int) : Nat × En := (1, En.mk 0 (some 1) (Obj.map 41 (fun (x : D) => match x with | D.agg [D.int IntKind.i64 a, D.int IntKind.i64 b, D.int IntKind.i64 c] => Option.map plD (atPl v25 (a, b, c)) | _ => none) v29 false))
def vcNmB_9 (v27 : D → Option D) (v30 : Int) (v32 : Bool) : Nat × En := (2, En.mk 0 (some 2) (Obj.map 41 v27 v30 v32))
def vcNmB_10 (v28 : D → Option D) (v31 : Int) : Nat × En := (3, En.mk 0 (some 3) (Obj.map 41 v28 v31 true))
theorem vcNmB (T : List Pl) (f2 f3 f4 : D → Option D) (c1 c2 c3 c4 : Int) (z2 z3 : Bool) (post : P × List (Nat × En) → Prop) : (∃ (T_1 : List Pl), ∃ (V : List Id3), ∃ (f2_1 : D → Option D), ∃ (f4_1 : D → Option D), ∃ (c1_1 : Int), ∃ (c2_1 : Int), ∃ (c4_1 : Int), ∃ (z2_1 : Bool), ∃ (z3_1 : Bool), [vcNmB_0] = [vcNmB_0] ∧ [vcNmB_1, (1, En.mk 0 (some 1) (Obj.map 41 (fun (x : D) => match x with | D.agg [D.int IntKind.i64 a, D.int IntKind.i64 b, D.int IntKind.i64 c] => Option.map plD (atPl T (a, b, c)) | _ => none) c1 false)), (2, En.mk 0 (some 2) (Obj.map 41 f2 c2 z2)), (3, En.mk 0 (some 3) (Obj.map 41 f3 c3 z3)), (4, En.mk 0 (some 4) (Obj.map 41 f4 c4 false))] = [vcNmB_1, vcNmB_2 T_1 c1_1, vcNmB_3 f2_1 c2_1 z2_1, (3, En.mk 0 (some 3) (Obj.map 41 (fun (x : D) => match x with | D.agg [D.int IntKind.i64 a, D.int IntKind.i64 b, D.int IntKind.i64 c] => Option.map (fun (_ : Unit) => D.agg []) ((fun (x : Id3) => if x ∈ V then some () else none) (a, b, c)) | _ => none) (↑(List.length V) : Int) z3_1)), vcNmB_4 f4_1 c4_1] ∧ (List.length V ≤ 1000000 ∧ List.Nodup V) ∧ ∃ (T : List Pl), ∃ (V_1 : List Id3), ∃ (f2 : D → Option D), ∃ (f3 : D → Option D), ∃ (c1 : Int), ∃ (c2 : Int), ∃ (c3 : Int), ∃ (z2 : Bool), S.mk 56 ((0, vcNmB_0) :: vcNmB_5 :: (9, P.sl 6 0 (List.length V)) :: (10, P.d (D.int IntKind.i64 (↑(List.length V) : Int))) :: vcNmB_6) [vcNmB_1, vcNmB_2 T_1 c1_1, vcNmB_3 f2_1 c2_1 z2_1, (3, En.mk 0 (some 3) (Obj.map 41 (fun (x : D) => match x with | D.agg [D.int IntKind.i64 a, D.int IntKind.i64 b, D.int IntKind.i64 c] => Option.map (fun (_ : Unit) => D.agg []) ((fun (x : Id3) => if x ∈ V then some () else none) (a, b, c)) | _ => none) (↑(List.length V) : Int) true)), vcNmB_4 f4_1 c4_1, vcNmB_7, (6, En.mk 0 none (Obj.arr (41 : TypeId) false (List.map ixD (sortI ltX V))))] = S.mk 56 ((0, vcNmB_0) :: vcNmB_5 :: (9, P.sl 6 0 (List.length (seenI T V_1))) :: (10, P.d (D.int IntKind.i64 (↑(List.length (seenI T V_1)) : Int))) :: vcNmB_6) [vcNmB_1, vcNmB_8 T c1, vcNmB_9 f2 c2 z2, vcNmB_10 f3 c3, (4, En.mk 0 (some 4) (Obj.map 41 (fun (_ : D) => none) (0 : Int) false)), vcNmB_7, (6, En.mk 0 none (Obj.arr (41 : TypeId) false (List.map ixD (sortI ltX (seenI T V_1)))))] ∧ (List.length T ≤ 1000000 ∧ Rt T) ∧ post (P.tup [], [vcNmB_1, vcNmB_8 T c1, vcNmB_9 f2 c2 z2, vcNmB_10 f3 c3, (4, En.mk 0 (some 4) (Obj.map 41 (fun (x : D) => match x with | D.agg [D.int IntKind.i64 a, D.int IntKind.i64 b, D.int IntKind.i64 c] => Option.map D.str ((fun (x : Id3) => if x ∈ seenI T V_1 then some (nmX T V_1 x) else none) (a, b, c)) | _ => none) (↑(List.length (seenI T V_1)) : Int) false))])) = (bodyFN [] [(50, hRising)] [(2, loopHook (kpF 28 2) gNm2)] 28 [.ref 0 0 0] (nodT (plM T) f2 f3 f4 c1 c2 c3 c4 z2 z3)) post := by kernel_rfl
def hNames : KF1 := fun ps R post => ∃ T V f2 c1 c2 z2 z3, ps = [.ref 0 0 0] ∧ R = nodT (plM T) f2 (inM (seenI T V)) noM c1 c2 ((seenI T V).length : Int) 0 z2 z3 ∧ (T.length ≤ 1000000 ∧ Rt T) ∧
  post (.tup [], nodT (plM T) f2 (inM (seenI T V)) (asM T V (seenI T V)) c1 c2 ((seenI T V).length : Int) ((seenI T V).length : Int) z2 true)
/-! path -/
abbrev pt4 (w : List Id3) (n : Nat) (k : Int) (o : List D) (f1 f2 f3 f4 : D → Option D) (c1 c2 c3 c4 : Int) (z2 z3 : Bool) : S :=
  ⟨42, [(0, .ref 0 0 0), (5, .sl 5 0 n), (7, .sl 6 0 n), (19, .sl 5 0 n), (20, iD n), (21, iD k)], nodT f1 f2 f3 f4 c1 c2 c3 c4 z2 z3 ++ [(5, ⟨0, none, .arr 41 false (w.map ixD)⟩), (6, ⟨0, none, .arr 9 false o⟩)]⟩
def gPt4 : S → K (PX × S) := fun s post => ∃ w nm f1 f2 f3 f4 c1 c2 c3 c4 z2 z3, s = pt4 w w.length 0 (List.replicate w.length (.str [])) f1 f2 f3 f4 c1 c2 c3 c4 z2 z3 ∧ (w.length ≤ 1000000 ∧ ∀ u ∈ w, f4 (ixD u) = some (.str (nm u))) ∧
  post (.exit 0, ⟨42, [(0, .ref 0 0 0), (7, .sl 5 0 w.length)], nodT f1 f2 f3 f4 c1 c2 c3 c4 z2 z3 ++ [(5, ⟨0, none, .arr 9 false ((w.reverse.map nm).map D.str)⟩)]⟩)
theorem vcPt4 (w : List Id3) (n : Nat) (k : Int) (o : List D) (f1 f2 f3 f4 : D → Option D) (c1 c2 c3 c4 : Int) (z2 z3 : Bool) (post : PX × S → Prop) : (bif decide (k < (↑n : Int)) then bif decide ((0 : Int) ≤ k ∧ k < (↑n : Int)) then bif decide (Int.toNat k < List.length (List.map ixD w)) then bif isD PR (41 : TypeId) (D.nth (List.map ixD w) (Int.toNat k)) then bif decide ((-9223372036854775808 : Int) ≤ (↑n : Int) - (1 : Int) ∧ (↑n : Int) - (1 : Int) ≤ (9223372036854775807 : Int)) then bif decide ((-9223372036854775808 : Int) ≤ (↑n : Int) - (1 : Int) - k ∧ (↑n : Int) - (1 : Int) - k ≤ (9223372036854775807 : Int)) then bif isD PR 9 (getO (f4 (D.agg [D.int IntKind.i64 (D.iVal (D.cAt (D.nth (List.map ixD w) (Int.toNat k)) 0)), D.int IntKind.i64 (D.iVal (D.cAt (D.nth (List.map ixD w) (Int.toNat k)) 1)), D.int IntKind.i64 (D.iVal (D.cAt (D.nth (List.map ixD w) (Int.toNat k)) 2))])) (D.str [])) then bif decide ((0 : Int) ≤ (↑n : Int) - (1 : Int) - k ∧ (↑n : Int) - (1 : Int) - k < (↑n : Int)) then bif decide (Int.toNat ((↑n : Int) - (1 : Int) - k) < List.length o) then bif isD PR (9 : TypeId) (D.nth o (Int.toNat ((↑n : Int) - (1 : Int) - k))) then bif decide ((-9223372036854775808 : Int) ≤ k + (1 : Int) ∧ k + (1 : Int) ≤ (9223372036854775807 : Int)) then post (PX.normal, S.mk 42 [(0, P.ref 0 0 0), (5, P.sl 5 0 n), (7, P.sl 6 0 n), (19, P.sl 5 0 n), (20, P.d (D.int IntKind.i64 (↑n : Int))), (21, P.d (D.int IntKind.i64 (k + (1 : Int))))] [(0, En.mk 0 (some 0) (Obj.box 61 [P.mp 1 0, P.mp 2 0, P.mp 3 0, P.mp 4 0])), (1, En.mk 0 (some 1) (Obj.map 41 f1 c1 false)), (2, En.mk 0 (some 2) (Obj.map 41 f2 c2 z2)), (3, En.mk 0 (some 3) (Obj.map 41 f3 c3 z3)), (4, En.mk 0 (some 4) (Obj.map 41 f4 c4 false)), (5, En.mk 0 none (Obj.arr 41 false (List.map ixD w))), (6, En.mk 0 none (Obj.arr 9 false (List.set o (Int.toNat ((↑n : Int) - (1 : Int) - k)) (D.withCells (D.str (D.sVal (D.nth o (Int.toNat ((↑n : Int) - (1 : Int) - k))))) [D.str (D.sVal (getO (f4 (D.agg [D.int IntKind.i64 (D.iVal (D.cAt (D.nth (List.map ixD w) (Int.toNat k)) 0)), D.int IntKind.i64 (D.iVal (D.cAt (D.nth (List.map ixD w) (Int.toNat k)) 1)), D.int IntKind.i64 (D.iVal (D.cAt (D.nth (List.map ixD w) (Int.toNat k)) 2))])) (D.str [])))]))))]) else False else False else False else False else False else False else False else False else False else False else post (PX.exit 0, S.mk 42 [(0, P.ref 0 0 0), (7, P.sl 5 0 n)] [(0, En.mk 0 (some 0) (Obj.box 61 [P.mp 1 0, P.mp 2 0, P.mp 3 0, P.mp 4 0])), (1, En.mk 0 (some 1) (Obj.map 41 f1 c1 false)), (2, En.mk 0 (some 2) (Obj.map 41 f2 c2 z2)), (3, En.mk 0 (some 3) (Obj.map 41 f3 c3 z3)), (4, En.mk 0 (some 4) (Obj.map 41 f4 c4 false)), (5, En.mk 0 none (Obj.arr 9 false o))])) = (roundL [] [] 29 4 (pt4 w n k o f1 f2 f3 f4 c1 c2 c3 c4 z2 z3)) post := by kernel_rfl
def vcPt_0  : P := P.ref 0 0 0
def vcPt_1  : Nat × En := (0, En.mk 0 (some 0) (Obj.box (61 : TypeId) [P.mp 1 0, P.mp 2 0, P.mp 3 0, P.mp 4 0]))
def vcPt_2 (v0 : List Pl) : Nat × En := (1, En.mk 0 (some 1) (Obj.map 41 (fun (x : D) => match x with | D.agg [D.int IntKind.i64 a, D.int IntKind.i64 b, D.int IntKind.i64 c] => Option.map plD (atPl v0 (a, b, c)) | _ => none) (↑(List.length v0) : Int) false))
def vcPt_3 (v3 : D → Option D) (v6 : Int) (v9 : Bool) : Nat × En := (2, En.mk 0 (some 2) (Obj.map 41 v3 v6 v9))
def vcPt_4 (v4 : D → Option D) (v7 : Int) (v10 : Bool) : Nat × En := (3, En.mk 0 (some 3) (Obj.map 41 v4 v7 v10))
def vcPt_5 (v5 : D → Option D) (v8 : Int) : Nat × En := (4, En.mk 0 (some 4) (Obj.map 41 v5 v8 false))
def vcPt_6 (v21 : List Id3) : Int := (16 : Int) * (↑(List.length v21) : Int)
def vcPt_7  : Nat × P := (0, vcPt_0)
def vcPt_8 (v21 : List Id3) : P := P.sl 5 0 (List.length v21)
def vcPt_9  : List (Nat × P) := [(21, P.d (D.int IntKind.i64 (0 : Int)))]
def vcPt_10 (v23 : List Id3) : P := P.sl 5 0 (List.length v23)
def vcPt_11 (v26 : D → Option D) (v30 : Int) : Nat × En := (1, En.mk 0 (some 1) (Obj.map 41 v26 v30 false))
def vcPt_12 (v27 : D → Option D) (v31 : Int) (v34 : Bool) : Nat × En := (2, En.mk 0 (some 2) (Obj.map 41 v27 v31 v34))
def vcPt_13 (v28 : D → Option D) (v32 : Int) (v35 : Bool) : Nat × En := (3, En.mk 0 (some 3) (Obj.map 41 v28 v32 v35))
def vcPt_14 (v29 : D → Option D) (v33 : Int) : Nat × En := (4, En.mk 0 (some 4) (Obj.map 41 v29 v33 false))
def vcPt_15  : P := P.sl 5 0 0
def vcPt_16 (v40 : List Id3) : P := P.sl 5 0 (List.length v40)
def vcPt_17 (v42 : D → Option D) (v46 : Int) : Nat × En := (1, En.mk 0 (some 1) (Obj.map 41 v42 v46 false))
def vcPt_18 (v43 : D → Option D) (v47 : Int) (v50 : Bool) : Nat × En := (2, En.mk 0 (some 2) (Obj.map 41 v43 v47 v50))
def vcPt_19 (v44 : D → Option D) (v48 : Int) (v51 : Bool) : Nat × En := (3, En.mk 0 (some 3) (Obj.map 41 v44 v48 v51))
def vcPt_20 (v45 : D → Option D) (v49 : Int) : Nat × En := (4, En.mk 0 (some 4) (Obj.map 41 v45 v49 false))
theorem vcPt (T : List Pl) (x : Id3) (f2 f3 f4 : D → Option D) (c1 c2 c3 c4 : Int) (z2 z3 : Bool) (post : P × List (Nat × En) → Prop) : (∃ (T_1 : List Pl), ∃ (x_1 : Id3), ∃ (f2_1 : D → Option D), ∃ (f3_1 : D → Option D), ∃ (f4_1 : D → Option D), ∃ (c2_1 : Int), ∃ (c3_1 : Int), ∃ (c4_1 : Int), ∃ (z2_1 : Bool), ∃ (z3_1 : Bool), [vcPt_0, P.d (D.agg [D.int IntKind.i64 (Prod.fst x), D.int IntKind.i64 (Prod.fst (Prod.snd x)), D.int IntKind.i64 (Prod.snd (Prod.snd x))])] = [vcPt_0, P.d (D.agg [D.int IntKind.i64 (Prod.fst x_1), D.int IntKind.i64 (Prod.fst (Prod.snd x_1)), D.int IntKind.i64 (Prod.snd (Prod.snd x_1))])] ∧ [vcPt_1, (1, En.mk 0 (some 1) (Obj.map 41 (fun (x : D) => match x with | D.agg [D.int IntKind.i64 a, D.int IntKind.i64 b, D.int IntKind.i64 c] => Option.map plD (atPl T (a, b, c)) | _ => none) c1 false)), (2, En.mk 0 (some 2) (Obj.map 41 f2 c2 z2)), (3, En.mk 0 (some 3) (Obj.map 41 f3 c3 z3)), (4, En.mk 0 (some 4) (Obj.map 41 f4 c4 false))] = [vcPt_1, vcPt_2 T_1, vcPt_3 f2_1 c2_1 z2_1, vcPt_4 f3_1 c3_1 z3_1, vcPt_5 f4_1 c4_1] ∧ List.length T_1 ≤ 1000000 ∧ (∀ (l : List Id3), wy T_1 x_1 = some l → bif decide ((0 : Int) ≤ (↑(List.length l) : Int) ∧ (↑(List.length l) : Int) ≤ (↑(List.length l) : Int) ∧ (↑(List.length l) : Int) ≤ (9223372036854775807 : Int) ∧ vcPt_6 l ≤ (281474976710656 : Int)) then ∃ (w : List Id3), ∃ (nm : Id3 → List UInt8), ∃ (f1 : D → Option D), ∃ (f2 : D → Option D), ∃ (f3 : D → Option D), ∃ (f4 : D → Option D), ∃ (c1 : Int), ∃ (c2 : Int), ∃ (c3 : Int), ∃ (c4 : Int), ∃ (z2 : Bool), ∃ (z3 : Bool), S.mk 42 (vcPt_7 :: (5, vcPt_8 l) :: (7, P.sl 6 0 (List.length l)) :: (19, vcPt_8 l) :: (20, P.d (D.int IntKind.i64 (↑(List.length l) : Int))) :: vcPt_9) [vcPt_1, vcPt_2 T_1, vcPt_3 f2_1 c2_1 z2_1, vcPt_4 f3_1 c3_1 z3_1, vcPt_5 f4_1 c4_1, (5, En.mk 0 none (Obj.arr (41 : TypeId) false (List.map ixD l))), (6, En.mk 0 none (Obj.arr (9 : TypeId) false (List.replicate (List.length l) (D.str []))))] = S.mk 42 (vcPt_7 :: (5, vcPt_10 w) :: (7, P.sl 6 0 (List.length w)) :: (19, vcPt_10 w) :: (20, P.d (D.int IntKind.i64 (↑(List.length w) : Int))) :: vcPt_9) [vcPt_1, vcPt_11 f1 c1, vcPt_12 f2 c2 z2, vcPt_13 f3 c3 z3, vcPt_14 f4 c4, (5, En.mk 0 none (Obj.arr (41 : TypeId) false (List.map ixD w))), (6, En.mk 0 none (Obj.arr (9 : TypeId) false (List.replicate (List.length w) (D.str []))))] ∧ (List.length w ≤ 1000000 ∧ ∀ (u : Id3), u ∈ w → f4 (ixD u) = some (D.str (nm u))) ∧ ∃ (l : List (List UInt8)), [P.d (D.sl 1 (List.take (List.length w) (List.map D.str (List.map nm (List.reverse w)))))] = [P.d (D.sl 1 (List.map D.str l))] ∧ EqR [] [] ∧ sumL l ≤ 2000000 ∧ post (P.d (D.str (joinP l)), [vcPt_1, vcPt_11 f1 c1, vcPt_12 f2 c2 z2, vcPt_13 f3 c3 z3, vcPt_14 f4 c4]) else False) ∧ (wy T_1 x_1 = none → ∃ (w : List Id3), ∃ (nm : Id3 → List UInt8), ∃ (f1 : D → Option D), ∃ (f2 : D → Option D), ∃ (f3 : D → Option D), ∃ (f4 : D → Option D), ∃ (c1 : Int), ∃ (c2 : Int), ∃ (c3 : Int), ∃ (c4 : Int), ∃ (z2 : Bool), ∃ (z3 : Bool), S.mk 42 (vcPt_7 :: (5, vcPt_15) :: (7, P.sl 6 0 0) :: (19, vcPt_15) :: (20, P.d (D.int IntKind.i64 (0 : Int))) :: vcPt_9) [vcPt_1, vcPt_2 T_1, vcPt_3 f2_1 c2_1 z2_1, vcPt_4 f3_1 c3_1 z3_1, vcPt_5 f4_1 c4_1, (5, En.mk 0 none (Obj.arr (41 : TypeId) false [])), (6, En.mk 0 none (Obj.arr (9 : TypeId) false []))] = S.mk 42 (vcPt_7 :: (5, vcPt_16 w) :: (7, P.sl 6 0 (List.length w)) :: (19, vcPt_16 w) :: (20, P.d (D.int IntKind.i64 (↑(List.length w) : Int))) :: vcPt_9) [vcPt_1, vcPt_17 f1 c1, vcPt_18 f2 c2 z2, vcPt_19 f3 c3 z3, vcPt_20 f4 c4, (5, En.mk 0 none (Obj.arr (41 : TypeId) false (List.map ixD w))), (6, En.mk 0 none (Obj.arr (9 : TypeId) false (List.replicate (List.length w) (D.str []))))] ∧ (List.length w ≤ 1000000 ∧ ∀ (u : Id3), u ∈ w → f4 (ixD u) = some (D.str (nm u))) ∧ ∃ (l : List (List UInt8)), [P.d (D.sl 1 (List.take (List.length w) (List.map D.str (List.map nm (List.reverse w)))))] = [P.d (D.sl 1 (List.map D.str l))] ∧ EqR [] [] ∧ sumL l ≤ 2000000 ∧ post (P.d (D.str (joinP l)), [vcPt_1, vcPt_17 f1 c1, vcPt_18 f2 c2 z2, vcPt_19 f3 c3 z3, vcPt_20 f4 c4]))) = (bodyF [(49, hWay), (52, hJoinP)] [(4, loopHook (kpF 29 4) gPt4)] 29 [.ref 0 0 0, .d (ixD x)] (nodT (plM T) f2 f3 f4 c1 c2 c3 c4 z2 z3)) post := by kernel_rfl
def hPath : KF1 := fun ps R post => ∃ T x w nm f2 f3 f4 c2 c3 c4 z2 z3, ps = [.ref 0 0 0, .d (ixD x)] ∧ R = nodT (plM T) f2 f3 f4 (T.length : Int) c2 c3 c4 z2 z3 ∧ (T.length ≤ 1000000 ∧ Up T x w ∧ (∀ u ∈ w, f4 (ixD u) = some (.str (nm u))) ∧ sumL (w.reverse.map nm) ≤ 2000000) ∧
  post (sD (joinR (w.reverse.map nm)), nodT (plM T) f2 f3 f4 (T.length : Int) c2 c3 c4 z2 z3)
end Pi

/- Tree: name, path. -/
namespace Pi
open Go Go.Proofs
set_option maxRecDepth 100000
theorem joinR_P' {l : List (List UInt8)} (h : l ≠ []) : joinP l = joinR l := (joinR_P l h).symm
theorem set_mid (m : Nat) (a b : List (List UInt8)) (v : List UInt8) (h : a.length = m) (x : List UInt8) : ((a ++ x :: b).map D.str).set m (.str v) = (a ++ v :: b).map D.str := by
  subst h
  simp
section
variable {X : XF}
theorem loopPt4 : LD X 29 4 (loopHook (kpF 29 4) gPt4) := LD.par (H := []) (hk := []) (by kernel_rfl) (by kernel_rfl) .nil .nil
  (A := List Id3 × (Id3 → List UInt8) × (D → Option D) × (D → Option D) × (D → Option D) × (D → Option D) × Int × Int × Int × Int × Bool × Bool) (B := Int)
  (fun ⟨w, nm, f1, f2, f3, f4, c1, c2, c3, c4, z2, z3⟩ k => pt4 w w.length k ((List.replicate (w.length - k.toNat) [] ++ (w.take k.toNat).reverse.map nm).map D.str) f1 f2 f3 f4 c1 c2 c3 c4 z2 z3)
  (fun ⟨w, nm, _, _, _, f4, _⟩ k => w.length ≤ 1000000 ∧ 0 ≤ k ∧ k ≤ w.length ∧ ∀ u ∈ w, f4 (ixD u) = some (.str (nm u)))
  (fun ⟨w, _⟩ k => (w.length - k).toNat)
  (fun ⟨w, nm, f1, f2, f3, f4, c1, c2, c3, c4, z2, z3⟩ x => x = (.exit 0, ⟨42, [(0, .ref 0 0 0), (7, .sl 5 0 w.length)], nodT f1 f2 f3 f4 c1 c2 c3 c4 z2 z3 ++ [(5, ⟨0, none, .arr 9 false ((w.reverse.map nm).map D.str)⟩)]⟩))
  (by
    rintro ⟨w, nm, f1, f2, f3, f4, c1, c2, c3, c4, z2, z3⟩ k ⟨hm, h0, hk, hf⟩
    dsimp only at *
    rw [← vcPt4]
    refine condP (fun h => ?_) fun h => ?_
    · have hk' : k.toNat < w.length := by omega
      rw [ix_nth hk']
      have hu : w.getD k.toNat (0, 0, 0) ∈ w := by
        rw [List.getD_eq_getElem?_getD, List.getElem?_eq_getElem hk']
        exact List.getElem_mem hk'
      have hf' := hf _ hu
      generalize hge : w.getD k.toNat (0, 0, 0) = u at hf' hu
      have hf2 : f4 (D.agg [D.int IntKind.i64 (D.iVal (D.cAt (ixD u) 0)), D.int IntKind.i64 (D.iVal (D.cAt (ixD u) 1)), D.int IntKind.i64 (D.iVal (D.cAt (ixD u) 2))]) = some (.str (nm u)) := hf'
      simp only [hf2]
      have em : ((w.length : Int) - 1 - k).toNat = w.length - 1 - k.toNat := by omega
      rw [em]
      have er : w.length - k.toNat = (w.length - 1 - k.toNat) + 1 := by omega
      have eo : (List.replicate (w.length - k.toNat) [] ++ (w.take k.toNat).reverse.map nm) = List.replicate (w.length - 1 - k.toNat) [] ++ [] :: (w.take k.toNat).reverse.map nm := by
        rw [er, List.replicate_succ']
        simp
      rw [eo]
      refine oblP ⟨h0, h⟩ (oblI (decT (by simpa using hk')) (oblI (isIx u) (oblP ⟨by omega, by omega⟩ (oblP ⟨by omega, by omega⟩ (oblI (isDs _) (oblP ⟨by omega, by omega⟩ (oblI (decT (by simp <;> omega)) (oblI ?_ (oblI (incI (by omega) (by omega)) ?_)))))))))
      · rw [tx_nth (by simp <;> omega)]
        exact isDs _
      · refine ⟨((w.length : Int) - (k + 1)).toNat, by omega, k + 1, ?_, ⟨hm, by omega, by omega, hf⟩, rfl⟩
        have et : List.replicate (w.length - (k + 1).toNat) [] ++ (w.take (k + 1).toNat).reverse.map nm = List.replicate (w.length - 1 - k.toNat) [] ++ nm u :: (w.take k.toNat).reverse.map nm := by
          have e1 : (k + 1).toNat = k.toNat + 1 := by omega
          rw [e1, List.take_add_one, List.getElem?_eq_getElem hk']
          have : w[k.toNat] = u := by
            rw [← hge, List.getD_eq_getElem?_getD, List.getElem?_eq_getElem hk']
            rfl
          rw [this]
          simp
          omega
        have := set_mid (w.length - 1 - k.toNat) (List.replicate (w.length - 1 - k.toNat) []) ((w.take k.toNat).reverse.map nm) (nm u) (by simp) []
        show _ = pt4 w w.length (k + 1) _ f1 f2 f3 f4 c1 c2 c3 c4 z2 z3
        rw [et, ← this, tx_nth (by simp <;> omega)]
        rfl
    · have : k.toNat = w.length := by omega
      rw [this]
      simp only [Nat.sub_self, List.replicate_zero, List.nil_append, List.take_length]
      rfl)
  (by
    rintro s post ⟨w, nm, f1, f2, f3, f4, c1, c2, c3, c4, z2, z3, rfl, ⟨hm, hf⟩, hp⟩
    refine ⟨(w, nm, f1, f2, f3, f4, c1, c2, c3, c4, z2, z3), 0, ?_, ⟨hm, by simp, by simp, hf⟩, ?_⟩
    · simp
    · rintro x rfl
      exact hp)
theorem okPath : FD X 29 hPath := FD.mk (H := [(49, hWay), (52, hJoinP)]) (hk := [(4, loopHook (kpF 29 4) gPt4)]) (by kernel_rfl) (.cons okWay (.cons okJoin .nil)) (.cons loopPt4 .nil) (by
  intro ps R post hh
  obtain ⟨T, x, w, nm, f2, f3, f4, c2, c3, c4, z2, z3, h01, h02, ⟨hm, hw, hf, hs⟩, hp⟩ := hh
  subst h01
  have key : ∀ c1 : Int, c1 = (T.length : Int) → bodyF [(49, hWay), (52, hJoinP)] [(4, loopHook (kpF 29 4) gPt4)] 29 [.ref 0 0 0, .d (ixD x)] (nodT (plM T) f2 f3 f4 c1 c2 c3 c4 z2 z3) post := by
    intro c1 hc
    (rw [← vcPt]; delta vcPt_0 vcPt_1 vcPt_2 vcPt_3 vcPt_4 vcPt_5 vcPt_6 vcPt_7 vcPt_8 vcPt_9 vcPt_10 vcPt_11 vcPt_12 vcPt_13 vcPt_14 vcPt_15 vcPt_16 vcPt_17 vcPt_18 vcPt_19 vcPt_20)
    have hl := hw.len
    refine ⟨T, x, f2, f3, f4, c2, c3, c4, z2, z3, rfl, by rw [hc], hm, fun l hl' => ?_, fun h => by rw [wy_iff.2 hw] at h; cases h⟩
    rw [wy_iff.2 hw] at hl'
    cases hl'
    refine oblP ⟨by omega, by omega, by omega, by omega⟩ ⟨w, nm, plM T, f2, f3, f4, _, c2, c3, c4, z2, z3, rfl, ⟨by omega, hf⟩, w.reverse.map nm, ?_, rfl, hs, ?_⟩
    · rw [List.take_of_length_le (by simp)]
    · rw [joinR_P' (by obtain ⟨r, rfl⟩ := hw.hd; simp)]
      exact hp
  rw [h02]
  clear hp h02
  generalize hc : (T.length : Int) = c1
  exact key c1 hc.symm)
end
end Pi

/- Tree: who is ahead of whom. -/
namespace Pi
open Go
section
variable {T : List Pl} {live : List Id3}
/-- The seen ones, rising. -/
def riseX (T : List Pl) (live : List Id3) : List Id3 := sortI ltX (seenI T live)
theorem rise_mem {x : Id3} : x ∈ riseX T live ↔ marked T live x = true := by
  unfold riseX
  rw [(sortI_perm _).mem_iff, seenI_mem]
theorem rise_len : (riseX T live).length = (seenI T live).length := (sortI_perm _).length_eq
theorem rise_nodup (hu : Uq T) : (riseX T live).Nodup := by
  unfold riseX
  rw [(sortI_perm _).nodup_iff]
  exact seenI_nodup hu live
theorem rise_lt (hu : Uq T) : (riseX T live).Pairwise fun x y => ltX x y = true := by
  refine ((sortI_pw lin_X (seenI T live)).and (rise_nodup (live := live) hu)).imp ?_
  intro x y h
  cases hl : ltX x y with
  | true => rfl
  | false => exact absurd (lin_X.tot _ _ hl h.1) h.2
/-- Places that have one's spot. -/
def spotB (p q : Pl) : Bool := decide (q.2.1 = p.2.1) && q.2.2.1 == p.2.2.1
def cntP (l : List Pl) (p : Pl) : Nat := l.countP (spotB p)
def plX (T : List Pl) (x : Id3) : Pl := (atPl T x).getD ((0, 0, 0), (0, 0, 0), [], false)
theorem plX_at {x : Id3} (h : marked T live x = true) : atPl T x = some (plX T x) := by
  obtain ⟨p, hp⟩ := marked_at h
  unfold plX
  rw [hp]
  rfl
theorem cnt_pos (hT : Rt T) {k : Nat} {x : Id3} (hx : (riseX T live)[k]? = some x) : 0 < cntP (((riseX T live).take k).map (plX T)) (plX T x) ↔ (seenL T live).any (fun q => decide (q.2.1 = (plX T x).2.1) && (q.2.2.1 == (plX T x).2.2.1) && ltX q.1 (plX T x).1) = true := by
  have hk : k < (riseX T live).length := (List.getElem?_eq_some_iff.1 hx).1
  have hxk : (riseX T live)[k] = x := (List.getElem?_eq_some_iff.1 hx).2
  have hmx : marked T live x = true := rise_mem.1 (List.mem_of_getElem? hx)
  have hpx : (plX T x).1 = x := (atPl_mem (plX_at hmx)).2
  have hlt := List.pairwise_iff_getElem.1 (rise_lt (live := live) hT.1)
  unfold cntP
  rw [List.countP_pos_iff, List.any_eq_true]
  constructor
  · rintro ⟨q, hq, hs⟩
    obtain ⟨y, hy, rfl⟩ := List.mem_map.1 hq
    obtain ⟨j, hj, hjy⟩ := List.getElem_of_mem hy
    rw [List.getElem_take] at hjy
    rw [List.length_take] at hj
    have hmy : marked T live y = true := rise_mem.1 (List.mem_of_mem_take hy)
    have hpy : (plX T y).1 = y := (atPl_mem (plX_at hmy)).2
    refine ⟨plX T y, seen_mem hmy (plX_at hmy), ?_⟩
    have := hlt j k (by omega) hk (by omega)
    rw [hjy, hxk] at this
    rw [hpx, hpy, this, Bool.and_true]
    exact hs
  · rintro ⟨q, hq, hs⟩
    simp only [Bool.and_eq_true] at hs
    obtain ⟨hqT, hqm⟩ := seen_pl hq
    have hqa : plX T q.1 = q := by
      unfold plX
      rw [atPl_of hT.1 hqT]
      rfl
    obtain ⟨j, hj, hjq⟩ := List.getElem_of_mem (rise_mem.2 hqm)
    have hjk : j < k := by
      rw [hpx, ← hxk, ← hjq] at hs
      rcases Nat.lt_trichotomy j k with h | h | h
      · exact h
      · subst h; rw [lin_X.irr] at hs; cases hs.2
      · have := lin_X.asymm (hlt k j hk hj h); rw [hs.2] at this; cases this
    refine ⟨q, List.mem_map.2 ⟨q.1, ?_, hqa⟩, ?_⟩
    · rw [← hjq]
      exact List.mem_take_iff_getElem.2 ⟨j, by omega, rfl⟩
    · unfold spotB
      rw [Bool.and_eq_true]
      exact hs.1
theorem nmX_cnt (hT : Rt T) {k : Nat} {x : Id3} (hx : (riseX T live)[k]? = some x) : nmX T live x = if 0 < cntP (((riseX T live).take k).map (plX T)) (plX T x) then (clashP (plX T x).2.2.1 (plX T x).1.1 (plX T x).1.2.1 (plX T x).1.2.2).1 else (plX T x).2.2.1 := by
  have hmx : marked T live x = true := rise_mem.1 (List.mem_of_getElem? hx)
  unfold nmX
  rw [plX_at hmx]
  simp only [nmP]
  by_cases h : 0 < cntP (((riseX T live).take k).map (plX T)) (plX T x)
  · rw [if_pos h, if_pos ((cnt_pos hT hx).1 h)]
  · rw [if_neg h, if_neg (fun h' => h ((cnt_pos hT hx).2 h'))]
/-! counts, as data -/
def hadM (l : List Pl) : D → Option D
  | .agg [.int .i64 a, .int .i64 b, .int .i64 c, .str s] => if 0 < cntP l ((0, 0, 0), (a, b, c), s, false) then some (.int .i64 (cntP l ((0, 0, 0), (a, b, c), s, false) : Int)) else none
  | _ => none
def spD (p : Pl) : D := .agg [.int .i64 p.2.1.1, .int .i64 p.2.1.2.1, .int .i64 p.2.1.2.2, .str p.2.2.1]
theorem hadM_sp (l : List Pl) (p : Pl) : hadM l (spD p) = if 0 < cntP l p then some (.int .i64 (cntP l p : Int)) else none := rfl
theorem hadM_get (l : List Pl) (p : Pl) : (hadM l (spD p)).getD (.int .i64 0) = .int .i64 (cntP l p : Int) := by
  rw [hadM_sp]
  split
  · rfl
  · have : cntP l p = 0 := by omega
    rw [this]
    rfl
theorem cntP_add (l : List Pl) (p q : Pl) : cntP (l ++ [p]) q = cntP l q + if spotB q p = true then 1 else 0 := by
  unfold cntP
  rw [List.countP_append]
  simp [List.countP_cons]
end
end Pi

/- Tree: name. -/
namespace Pi
open Go Go.Proofs
set_option maxRecDepth 100000
theorem upd_upd (k v u : D) (g : D → Option D) : updD k v (updD k u g) = updD k v g := by
  funext d
  unfold updD
  cases D.eqB k d <;> rfl
theorem upd_at (k v : D) (g : D → Option D) : updD k v g k = some v := by
  unfold updD
  rw [(D.eqB_iff k k).2 rfl]
  rfl
theorem hadM_upd (l : List Pl) (p : Pl) : updD (spD p) (.int .i64 ((cntP l p : Int) + 1)) (hadM l) = hadM (l ++ [p]) := by
  funext d
  cases hd : D.eqB (spD p) d with
  | true =>
    have := (D.eqB_iff _ _).1 hd
    subst this
    rw [upd_at, hadM_sp, cntP_add, if_pos (show spotB p p = true by simp [spotB]), if_pos (by omega)]
    simp
  | false =>
    have hne : spD p ≠ d := fun e => by rw [(D.eqB_iff _ _).2 e] at hd; cases hd
    have e0 : updD (spD p) (.int .i64 ((cntP l p : Int) + 1)) (hadM l) d = hadM l d := by unfold updD; rw [hd]; rfl
    rw [e0]
    unfold hadM
    split
    · rename_i a b c s
      have : cntP (l ++ [p]) ((0, 0, 0), (a, b, c), s, false) = cntP l ((0, 0, 0), (a, b, c), s, false) := by
        rw [cntP_add, if_neg]
        · rfl
        · intro h
          simp only [spotB, Bool.and_eq_true, decide_eq_true_eq, beq_iff_eq] at h
          refine hne ?_
          unfold spD
          rw [h.1, h.2]
      rw [this]
    · rfl
theorem asM_upd {T : List Pl} {V L : List Id3} (x : Id3) : updD (ixD x) (.str (nmX T V x)) (asM T V L) = asM T V (L ++ [x]) := by
  refine mpD_upd D.str _ _ x (nmX T V x) (by simp) fun y hy => ?_
  simp [hy]
theorem asM_id (T : List Pl) (V L : List Id3) (x : Id3) : asM T V L (ixD x) = (if x ∈ L then some (nmX T V x) else none).map D.str := rfl
theorem isInt (n : Int) : isD PR 3 (.int .i64 n) = true := by kernel_rfl
section
variable {X : XF} {w0 : World} (hX : CFOK PR w0 X.cf)
include hX
theorem lnNm2 : LN w0 28 2 (loopHook (kpF 28 2) gNm2) := LN.par hX (H := [(51, hClash)]) (HN := []) (hk := []) drM (by kernel_rfl) (by kernel_rfl) (.cons okClash .nil) .nil .nil
  (A := List Pl × List Id3 × (D → Option D) × (D → Option D) × Int × Int × Int × Bool) (B := Int × Int)
  (fun ⟨T, V, f2, f3, c1, c2, c3, z2⟩ b => nm2 (riseX T V) (seenI T V).length b.1 (hadM (((riseX T V).take b.1.toNat).map (plX T))) b.2 T f2 f3 (asM T V ((riseX T V).take b.1.toNat)) c1 c2 c3 b.1 z2)
  (fun ⟨T, V, _⟩ b => T.length ≤ 1000000 ∧ Rt T ∧ 0 ≤ b.1 ∧ b.1 ≤ (riseX T V).length)
  (fun ⟨T, V, _⟩ b => ((riseX T V).length - b.1).toNat)
  (fun ⟨T, V, f2, f3, c1, c2, c3, z2⟩ x => x = (.exit 0, ⟨56, [(0, .ref 0 0 0)], nodT (plM T) f2 f3 (asM T V (seenI T V)) c1 c2 c3 ((seenI T V).length : Int) z2 true⟩))
  (by
    rintro ⟨T, V, f2, f3, c1, c2, c3, z2⟩ ⟨k, c⟩ ⟨hm, hT, h0, hk⟩
    dsimp only at *
    (rw [← vcNm2]; delta vcNm2_0 vcNm2_1 vcNm2_2 vcNm2_3 vcNm2_4 vcNm2_5 vcNm2_6 vcNm2_7 vcNm2_8 vcNm2_9 vcNm2_10 vcNm2_11 vcNm2_12 vcNm2_13 vcNm2_14 vcNm2_15 vcNm2_16 vcNm2_17 vcNm2_18 vcNm2_19 vcNm2_20 vcNm2_21 vcNm2_22 vcNm2_23 vcNm2_24 vcNm2_25 vcNm2_26 vcNm2_27 vcNm2_28)
    have hrl := rise_len (T := T) (live := V)
    have hsl : (seenI T V).length ≤ T.length := by
      unfold seenI seenL
      rw [List.length_map]
      exact List.length_filter_le _ _
    simp only [List.length_map]
    refine condP (fun h => ?_) fun h => ?_
    · have hk' : k.toNat < (riseX T V).length := by omega
      rw [ix_nth hk']
      have hx : (riseX T V)[k.toNat]? = some ((riseX T V).getD k.toNat (0, 0, 0)) := by
        rw [List.getD_eq_getElem?_getD, List.getElem?_eq_getElem hk']
        rfl
      generalize (riseX T V).getD k.toNat (0, 0, 0) = x at hx
      have hmx : marked T V x = true := rise_mem.1 (List.mem_of_getElem? hx)
      have hpx := plX_at hmx
      have hnm := nmX_cnt hT hx
      have hok := hT.2 _ (atPl_mem hpx).1
      have hx1 : (plX T x).1 = x := (atPl_mem hpx).2
      have htk : (riseX T V).take (k + 1).toNat = (riseX T V).take k.toNat ++ [x] := by
        rw [show (k + 1).toNat = k.toNat + 1 by omega, List.take_add_one, hx]
        rfl
      have hno : asM T V ((riseX T V).take k.toNat) (ixD x) = none := by
        rw [asM_id, if_neg]
        · rfl
        · intro hmem
          obtain ⟨j, hj, hjx⟩ := List.getElem_of_mem hmem
          rw [List.getElem_take] at hjx
          rw [List.length_take] at hj
          have hxk : (riseX T V)[k.toNat] = x := (List.getElem?_eq_some_iff.1 hx).2
          have := List.pairwise_iff_getElem.1 (rise_nodup (live := V) hT.1) j k.toNat (by omega) hk' (by omega)
          exact this (by rw [hjx, hxk])
      have hasu := asM_upd (T := T) (V := V) (L := (riseX T V).take k.toNat) x
      have hadu := hadM_upd (((riseX T V).take k.toNat).map (plX T)) (plX T x)
      have hadg := hadM_get (((riseX T V).take k.toNat).map (plX T)) (plX T x)
      have hcl : cntP (((riseX T V).take k.toNat).map (plX T)) (plX T x) ≤ 1000000 := by
        have h1 : cntP (((riseX T V).take k.toNat).map (plX T)) (plX T x) ≤ (((riseX T V).take k.toNat).map (plX T)).length := List.countP_le_length
        rw [List.length_map, List.length_take] at h1
        omega
      rw [show (((riseX T V).take k.toNat).map (plX T)) ++ [plX T x] = ((riseX T V).take (k + 1).toNat).map (plX T) by rw [htk]; simp] at hadu
      rw [← htk] at hasu
      generalize asM T V ((riseX T V).take k.toNat) = f4 at hno hasu
      generalize (((riseX T V).take k.toNat).map (plX T)) = l at hadu hadg hcl hnm
      generalize plX T x = p at *
      have hf : plM T (D.agg [D.int IntKind.i64 (D.iVal (D.cAt (ixD x) 0)), D.int IntKind.i64 (D.iVal (D.cAt (ixD x) 1)), D.int IntKind.i64 (D.iVal (D.cAt (ixD x) 2))]) = some (plD p) := by
        show plM T (ixD x) = _
        rw [plM_id, hpx]
        rfl
      simp only [Nat.zero_add, Nat.reduceAdd, hf]
      have hgo : getO (hadM l (spD p)) (.int .i64 0) = .int .i64 (cntP l p : Int) := hadg
      have hgt : getO (updD (spD p) (.int .i64 (D.iVal (getO (hadM l (spD p)) (.int .i64 0)) + 1)) (updD (spD p) (getO (hadM l (spD p)) (.int .i64 0)) (hadM l)) (spD p)) (.int .i64 0) = .int .i64 ((cntP l p : Int) + 1) := by
        rw [upd_at, hgo]
        rfl
      have hfun : updD (spD p) (.int .i64 (D.iVal (getO (hadM l (spD p)) (.int .i64 0)) + 1)) (updD (spD p) (getO (hadM l (spD p)) (.int .i64 0)) (hadM l)) = hadM (((riseX T V).take (k + 1).toNat).map (plX T)) := by
        rw [upd_upd, hgo]
        exact hadu
      refine oblP ⟨h0, by omega⟩ (oblI (decT hk') (oblI (isIx x) (oblI (isPl p) (oblI ?_ (oblI ?_ (oblI ?_ (condI (fun hc => ?_) fun hc => ?_)))))))
      · show isD PR 3 (getO (hadM l (spD p)) (.int .i64 0)) = true
        rw [hgo]
        exact isInt _
      · show decide ((-9223372036854775808 : Int) ≤ D.iVal (getO (hadM l (spD p)) (.int .i64 0)) + 1 ∧ D.iVal (getO (hadM l (spD p)) (.int .i64 0)) + 1 ≤ 9223372036854775807) = true
        rw [hgo]
        exact decT (show (-9223372036854775808 : Int) ≤ (cntP l p : Int) + 1 ∧ (cntP l p : Int) + 1 ≤ 9223372036854775807 from ⟨by omega, by omega⟩)
      · show isD PR 3 (getO (updD (spD p) (.int .i64 (D.iVal (getO (hadM l (spD p)) (.int .i64 0)) + 1)) (updD (spD p) (getO (hadM l (spD p)) (.int .i64 0)) (hadM l)) (spD p)) (.int .i64 0)) = true
        rw [hgt]
        exact isInt _
      · have hc' : decide (D.iVal (getO (updD (spD p) (.int .i64 (D.iVal (getO (hadM l (spD p)) (.int .i64 0)) + 1)) (updD (spD p) (getO (hadM l (spD p)) (.int .i64 0)) (hadM l)) (spD p)) (.int .i64 0)) > 1) = true := hc
        rw [hgt] at hc'
        have hc2 : (cntP l p : Int) + 1 > 1 := of_decide_eq_true hc'
        rw [if_pos (by omega)] at hnm
        refine ⟨p.2.2.1, x.1, x.2.1, x.2.2, rfl, rfl, oblI (incI (by omega) (by omega)) ⟨((riseX T V).length - (k + 1)).toNat, by omega, (k + 1, bif (hadM l (spD p)).isSome then c else c + 1), ?_, ⟨hm, hT, by simp only; omega, by simp only; omega⟩, rfl⟩⟩
        simp only
        rw [hx1] at hnm
        have hcnt : (k + 1 : Int) = bif (updD (ixD x) (.str p.2.2.1) f4 (ixD x)).isSome then (bif (f4 (ixD x)).isSome then k else k + 1) else (bif (f4 (ixD x)).isSome then k else k + 1) + 1 := by
          rw [upd_at, hno]
          rfl
        have goal : ∀ c4' : Int, c4' = k + 1 → nm2 (riseX T V) (seenI T V).length (k + 1) (updD (spD p) (.int .i64 (D.iVal (getO (hadM l (spD p)) (.int .i64 0)) + 1)) (updD (spD p) (getO (hadM l (spD p)) (.int .i64 0)) (hadM l))) (bif (hadM l (spD p)).isSome then c else c + 1) T f2 f3 (updD (ixD x) (.str (clashP p.2.2.1 x.1 x.2.1 x.2.2).1) (updD (ixD x) (.str p.2.2.1) f4)) c1 c2 c3 c4' z2 = nm2 (riseX T V) (seenI T V).length (k + 1) (updD (spD p) (.int .i64 (D.iVal (getO (hadM l (spD p)) (.int .i64 0)) + 1)) (updD (spD p) (getO (hadM l (spD p)) (.int .i64 0)) (hadM l))) (bif (hadM l (spD p)).isSome then c else c + 1) T f2 f3 (updD (ixD x) (.str (clashP p.2.2.1 x.1 x.2.1 x.2.2).1) (updD (ixD x) (.str p.2.2.1) f4)) c1 c2 c3 (k + 1) z2 := fun c4' h => by rw [h]
        exact (goal _ hcnt.symm).trans (by rw [hfun, upd_upd, ← hnm, hasu])
      · have hc' : decide (D.iVal (getO (updD (spD p) (.int .i64 (D.iVal (getO (hadM l (spD p)) (.int .i64 0)) + 1)) (updD (spD p) (getO (hadM l (spD p)) (.int .i64 0)) (hadM l)) (spD p)) (.int .i64 0)) > 1) = false := hc
        rw [hgt] at hc'
        have hc2 : ¬ (cntP l p : Int) + 1 > 1 := of_decide_eq_false hc'
        rw [if_neg (by omega)] at hnm
        refine oblI (incI (by omega) (by omega)) ⟨((riseX T V).length - (k + 1)).toNat, by omega, (k + 1, bif (hadM l (spD p)).isSome then c else c + 1), ?_, ⟨hm, hT, by simp only; omega, by simp only; omega⟩, rfl⟩
        simp only
        have hcnt : (bif (f4 (ixD x)).isSome then k else k + 1 : Int) = k + 1 := by rw [hno]; rfl
        have goal : ∀ c4' : Int, c4' = k + 1 → nm2 (riseX T V) (seenI T V).length (k + 1) (updD (spD p) (.int .i64 (D.iVal (getO (hadM l (spD p)) (.int .i64 0)) + 1)) (updD (spD p) (getO (hadM l (spD p)) (.int .i64 0)) (hadM l))) (bif (hadM l (spD p)).isSome then c else c + 1) T f2 f3 (updD (ixD x) (.str p.2.2.1) f4) c1 c2 c3 c4' z2 = nm2 (riseX T V) (seenI T V).length (k + 1) (updD (spD p) (.int .i64 (D.iVal (getO (hadM l (spD p)) (.int .i64 0)) + 1)) (updD (spD p) (getO (hadM l (spD p)) (.int .i64 0)) (hadM l))) (bif (hadM l (spD p)).isSome then c else c + 1) T f2 f3 (updD (ixD x) (.str p.2.2.1) f4) c1 c2 c3 (k + 1) z2 := fun c4' h => by rw [h]
        exact (goal _ hcnt).trans (by rw [hfun, ← hnm, hasu])
    · have e1 : (riseX T V).take k.toNat = riseX T V := List.take_of_length_le (by omega)
      rw [e1]
      have e2 : asM T V (riseX T V) = asM T V (seenI T V) := by
        unfold asM
        congr 1
        funext z
        simp only [rise_mem, seenI_mem]
      have e3 : k = ((seenI T V).length : Int) := by omega
      rw [e2, e3]
      rfl)
  (by
    rintro s post ⟨T, V, f2, f3, c1, c2, c3, z2, rfl, ⟨hm, hT⟩, hp⟩
    refine ⟨(T, V, f2, f3, c1, c2, c3, z2), (0, 0), ?_, ⟨hm, hT, by simp, by simp⟩, ?_⟩
    · have e1 : hadM [] = noM := by
        funext d
        unfold hadM
        split <;> rfl
      have e2 : asM T V [] = noM := by
        funext d
        show mpD _ _ d = none
        unfold mpD
        split <;> rfl
      show _ = nm2 (riseX T V) (seenI T V).length 0 (hadM []) 0 T f2 f3 (asM T V []) c1 c2 c3 0 z2
      rw [e1, e2]
      rfl
    · rintro x rfl
      exact hp)
theorem ndNames : ND w0 28 hNames := ND.mk hX (H := []) (HN := [(50, hRising)]) (hk := [(2, loopHook (kpF 28 2) gNm2)]) drM (by kernel_rfl) .nil (.cons (ndRising hX) .nil) (.cons (lnNm2 hX) .nil) (by
  intro ps R post hh
  obtain ⟨T, V, f2, c1, c2, z2, z3, rfl, rfl, ⟨hm, hT⟩, hp⟩ := hh
  (rw [← vcNmB]; delta vcNmB_0 vcNmB_1 vcNmB_2 vcNmB_3 vcNmB_4 vcNmB_5 vcNmB_6 vcNmB_7 vcNmB_8 vcNmB_9 vcNmB_10)
  have hsl : (seenI T V).length ≤ T.length := by
    unfold seenI seenL
    rw [List.length_map]
    exact List.length_filter_le _ _
  refine ⟨T, seenI T V, f2, noM, c1, c2, 0, z2, z3, rfl, rfl, ⟨by omega, seenI_nodup hT.1 V⟩, T, V, f2, inM (seenI T V), c1, c2, _, z2, ?_, ⟨hm, hT⟩, hp⟩
  rfl)
end
end Pi

