/- The texts X3Shelf XBld X3. -/
import Derived.Test.YthaoefcijckofaaGreatDoorPiTold
import Derived.Shelf.LaysM
import Derived.Shelf.LaysC
import Derived.Shelf.Strings.OnBuilder
import Derived.Shelf.Strings.SlTrimAscii
import Derived.Shelf.Small.Wraps
import Derived.Shelf.Strconv.AtoiAll
import Derived.Shelf.Strconv.Itoa3
import Derived.Shelf.Strings.Cut
import Derived.Shelf.Strings.Split
import Derived.Shelf.Strings.LastIndexAll
import Derived.Shelf.Unicode.ValidAny
import Derived.Shelf.Utf8.RuneCount
import Derived.Test.YthaoefcijckofaaGreatDoorProg
import Derived.KernelRfl
/- The library's contracts that are used: the print of the kit's lay-shelf and lay-plain, cut down. -/
namespace Go.Proofs
open Go.Shelf
def Tryz.lays169_ren : Go.Shelf.Ren := ⟨fun | 169 => 18 | n => n, fun | 70 => 35 | 9 => 9 | 0 => 0 | 72 => 38 | 37 => 36 | 127 => 66 | 3 => 3 | 5 => 5 | n => n, fun | n => n⟩
theorem Tryz.lays169 : Go.Proofs.Lays.n169 Tryz.prog Tryz.lays169_ren := {
  mixed := by kernel_rfl
  f169 := Tryz.func18.trans (congrArg some (by kernel_rfl))
  t0 := Tryz.underlying0
  a0 := Tryz.isAgg0
  z0 := Tryz.sizeOf0
  v0 := Tryz.zeroValue0
  t3 := Tryz.underlying3
  a3 := Tryz.isAgg3
  z3 := Tryz.sizeOf3
  v3 := Tryz.zeroValue3
  t9 := Tryz.underlying9
  a9 := Tryz.isAgg9
  z9 := Tryz.sizeOf9
  v9 := Tryz.zeroValue9
  t37 := Tryz.underlying36
  a37 := Tryz.isAgg36
  z37 := Tryz.sizeOf36
  v37 := Tryz.zeroValue36
  t70 := Tryz.underlying35
  a70 := Tryz.isAgg35
  z70 := Tryz.sizeOf35
  v70 := Tryz.zeroValue35
  t72 := Tryz.underlying38
  a72 := Tryz.isAgg38
  z72 := Tryz.sizeOf38
  v72 := Tryz.zeroValue38
  t127 := Tryz.underlying66
  a127 := Tryz.isAgg66
  z127 := Tryz.sizeOf66
  v127 := Tryz.zeroValue66 }
theorem Tryz.Builder_Extra_169 : Builder.Extra Tryz.prog Tryz.lays169_ren := {
  sizeBuilder := by kernel_rfl
  liesBuilder := by kernel_rfl
  t5 := Tryz.underlying5
  a5 := Tryz.isAgg5
  z5 := Tryz.sizeOf5
  v5 := Tryz.zeroValue5
  infoByte := by kernel_rfl
  cellsByte := by kernel_rfl
  sizeByte := by kernel_rfl
  neB5 := by decide }
open Go.RowKit in
/-- (*strings.Builder).String: "String returns the accumulated string.": OF A BUILDER THAT HOLDS AT LEAST ONE BYTE. ✋ THE MODEL FREEZES THOSE BYTES IN THE BUFFER (unsafe.String): a later write INTO them ends the model's run without an answer; a later append BEHIND them goes on. The statement's order of evaluation is drawn: one draw. (LAID: no walk: one application.) -/
theorem Tryz.Builder_String (B b : Nat) (l : List UInt8) (w : World) (h : Lib.IsBuilder 38 5 B b (Lib.byteCells l) w) (h0 : l ≠ []) :
    Calls Tryz.prog 18 #[.pointer (some ⟨b, 0, none⟩)] w fun e w' => e = .returned (.string ⟨l.toArray⟩) ∧ Below B w w' := Any.Builder_String Tryz.lays169 Tryz.Builder_Extra_169 B b l w h h0
def Tryz.lays160_ren : Go.Shelf.Ren := ⟨fun | 160 => 64 | 232 => 75 | 231 => 74 | 227 => 76 | 234 => 78 | 233 => 77 | 236 => 80 | 235 => 79 | 228 => 93 | 271 => 95 | 151 => 94 | 197 => 67 | 120 => 103 | 152 => 102 | 260 => 82 | 137 => 110 | 119 => 111 | 224 => 85 | 225 => 84 | 217 => 83 | 266 => 96 | n => n, fun | 9 => 9 | 4 => 4 | 3 => 3 | 5 => 5 | 117 => 111 | 116 => 110 | 0 => 0 | 124 => 114 | 21 => 21 | 105 => 103 | 46 => 72 | 119 => 85 | 139 => 88 | 138 => 87 | n => n, fun | 3 => 0 | 4 => 1 | n => n⟩
theorem Tryz.lays160 : Go.Proofs.Lays.n160 Tryz.prog Tryz.lays160_ren := {
  mixed := by kernel_rfl
  f119 := Tryz.func111.trans (congrArg some (by kernel_rfl))
  f120 := Tryz.func103.trans (congrArg some (by kernel_rfl))
  f137 := Tryz.func110.trans (congrArg some (by kernel_rfl))
  f151 := Tryz.func94.trans (congrArg some (by kernel_rfl))
  f152 := Tryz.func102.trans (congrArg some (by kernel_rfl))
  f160 := Tryz.func64.trans (congrArg some (by kernel_rfl))
  f197 := Tryz.func67.trans (congrArg some (by kernel_rfl))
  f217 := Tryz.func83.trans (congrArg some (by kernel_rfl))
  f224 := Tryz.func85.trans (congrArg some (by kernel_rfl))
  f225 := Tryz.func84.trans (congrArg some (by kernel_rfl))
  f227 := Tryz.func76.trans (congrArg some (by kernel_rfl))
  f228 := Tryz.func93.trans (congrArg some (by kernel_rfl))
  f231 := Tryz.func74.trans (congrArg some (by kernel_rfl))
  f232 := Tryz.func75.trans (congrArg some (by kernel_rfl))
  f233 := Tryz.func77.trans (congrArg some (by kernel_rfl))
  f234 := Tryz.func78.trans (congrArg some (by kernel_rfl))
  f235 := Tryz.func79.trans (congrArg some (by kernel_rfl))
  f236 := Tryz.func80.trans (congrArg some (by kernel_rfl))
  f260 := Tryz.func82.trans (congrArg some (by kernel_rfl))
  f266 := Tryz.func96.trans (congrArg some (by kernel_rfl))
  f271 := Tryz.func95.trans (congrArg some (by kernel_rfl))
  t0 := Tryz.underlying0
  a0 := Tryz.isAgg0
  z0 := Tryz.sizeOf0
  v0 := Tryz.zeroValue0
  t3 := Tryz.underlying3
  a3 := Tryz.isAgg3
  z3 := Tryz.sizeOf3
  v3 := Tryz.zeroValue3
  t4 := Tryz.underlying4
  a4 := Tryz.isAgg4
  z4 := Tryz.sizeOf4
  v4 := Tryz.zeroValue4
  t5 := Tryz.underlying5
  a5 := Tryz.isAgg5
  z5 := Tryz.sizeOf5
  v5 := Tryz.zeroValue5
  t9 := Tryz.underlying9
  a9 := Tryz.isAgg9
  z9 := Tryz.sizeOf9
  v9 := Tryz.zeroValue9
  t21 := Tryz.underlying21
  a21 := Tryz.isAgg21
  z21 := Tryz.sizeOf21
  v21 := Tryz.zeroValue21
  t46 := Tryz.underlying72
  a46 := Tryz.isAgg72
  z46 := Tryz.sizeOf72
  v46 := Tryz.zeroValue72
  t105 := Tryz.underlying103
  a105 := Tryz.isAgg103
  z105 := Tryz.sizeOf103
  v105 := Tryz.zeroValue103
  t116 := Tryz.underlying110
  a116 := Tryz.isAgg110
  z116 := Tryz.sizeOf110
  t117 := Tryz.underlying111
  a117 := Tryz.isAgg111
  z117 := Tryz.sizeOf111
  v117 := Tryz.zeroValue111
  t119 := Tryz.underlying85
  a119 := Tryz.isAgg85
  z119 := Tryz.sizeOf85
  t124 := Tryz.underlying114
  a124 := Tryz.isAgg114
  z124 := Tryz.sizeOf114
  v124 := Tryz.zeroValue114
  t138 := Tryz.underlying87
  a138 := Tryz.isAgg87
  z138 := Tryz.sizeOf87
  v138 := Tryz.zeroValue87
  t139 := Tryz.underlying88
  a139 := Tryz.isAgg88
  z139 := Tryz.sizeOf88
  v139 := Tryz.zeroValue88
  g3 := by kernel_rfl
  g4 := by kernel_rfl }
open Go.RowKit in
/-- strings.Trim: "Trim returns a slice of the string s with all leading and trailing Unicode code points contained in cutset removed.": AT A cutset OF ONE ASCII BYTE. THE WORLD BEHIND IT: as it was, or (where s is not empty) with ONE DRAW MORE off the tape: the statement 'return trimLeftByte(trimRightByte(s, c), c)' draws its order of evaluation. (LAID: no walk: one application.) -/
theorem Tryz.strings_Trim_one (s : ByteArray) (c : UInt8) (hc : c.toNat < 128) (w : World) (hs : s.size ≤ 9223372036854775807) :
    Calls Tryz.prog 64 #[.string s, .string ⟨#[c]⟩] w fun e w' => e = .returned (.string ⟨(Lib.trimB s.data.toList c).toArray⟩) ∧ (w' = w ∨ w' = w.drew) := Any.strings_Trim_one Tryz.lays160 s c hc w hs
def Tryz.lays103_ren : Go.Shelf.Ren := ⟨fun | 103 => 35 | 210 => 46 | 206 => 56 | n => n, fun | 9 => 9 | 4 => 4 | 24 => 67 | 3 => 3 | n => n, fun | n => n⟩
theorem Tryz.lays103 : Go.Proofs.Lays.n103 Tryz.prog Tryz.lays103_ren := {
  mixed := by kernel_rfl
  f103 := Tryz.func35.trans (congrArg some (by kernel_rfl))
  f206 := Tryz.func56.trans (congrArg some (by kernel_rfl))
  f210 := Tryz.func46.trans (congrArg some (by kernel_rfl))
  t3 := Tryz.underlying3
  a3 := Tryz.isAgg3
  z3 := Tryz.sizeOf3
  v3 := Tryz.zeroValue3
  t4 := Tryz.underlying4
  a4 := Tryz.isAgg4
  z4 := Tryz.sizeOf4
  v4 := Tryz.zeroValue4
  t9 := Tryz.underlying9
  a9 := Tryz.isAgg9
  z9 := Tryz.sizeOf9
  v9 := Tryz.zeroValue9
  t24 := Tryz.underlying67
  a24 := Tryz.isAgg67
  z24 := Tryz.sizeOf67
  v24 := Tryz.zeroValue67 }
open Go.RowKit in
/-- strings.CutPrefix: "CutPrefix returns s without the provided leading prefix string and reports whether it found the prefix. If s doesn't start with prefix, CutPrefix returns s, false. If prefix is the empty string, CutPrefix returns s, true.": IT RETURNS '(Lib.trimPrefix s p, Lib.hasPrefix s p)'; the world is as it was. (LAID: no walk: one application.) -/
theorem Tryz.strings_CutPrefix (s p : ByteArray) (w : World) :
    Calls Tryz.prog 35 #[.string s, .string p] w fun e w' => e = .returned (.tuple #[.string ⟨(Lib.trimPrefix s.data.toList p.data.toList).toArray⟩, .bool (Lib.hasPrefix s.data.toList p.data.toList)]) ∧ w' = w := Any.strings_CutPrefix Tryz.lays103 s p w
def Tryz.lays195_ren : Go.Shelf.Ren := ⟨fun | 195 => 39 | n => n, fun | 9 => 9 | 3 => 3 | 0 => 0 | 4 => 4 | n => n, fun | n => n⟩
theorem Tryz.lays195 : Go.Proofs.Lays.n195 Tryz.prog Tryz.lays195_ren := {
  mixed := by kernel_rfl
  f195 := Tryz.func39.trans (congrArg some (by kernel_rfl))
  t0 := Tryz.underlying0
  a0 := Tryz.isAgg0
  z0 := Tryz.sizeOf0
  v0 := Tryz.zeroValue0
  t3 := Tryz.underlying3
  a3 := Tryz.isAgg3
  z3 := Tryz.sizeOf3
  v3 := Tryz.zeroValue3
  t4 := Tryz.underlying4
  a4 := Tryz.isAgg4
  z4 := Tryz.sizeOf4
  v4 := Tryz.zeroValue4
  t9 := Tryz.underlying9
  a9 := Tryz.isAgg9
  z9 := Tryz.sizeOf9
  v9 := Tryz.zeroValue9 }
open Go.RowKit in
/-- unicode/utf8.RuneCountInString: "RuneCountInString is like RuneCount but its input is a string." ("RuneCount returns the number of runes in p. Erroneous and short encodings are treated as single runes of width 1 byte."): EVERY STRING, valid UTF-8 or not: 'Lib.runeCount s' (plain Lean over the model's own 'Utf8.decode'; 'Lib.runeCount_le': at most len(s); 'Lib.runeCount_ascii': on ASCII: len(s)). THE ONE CONDITION: len(s) below 2^63 - 1 (the counter does not wrap): the form's reach pays it. THE WORLD BEHIND THE CALL: ONE BLOCK MORE: the model's iterator over s, at its end: all else as it was. (LAID: no walk: one application.) -/
theorem Tryz.utf8_RuneCountInString (s : ByteArray) (w : World) (hs : s.size < 9223372036854775807) :
    Calls Tryz.prog 39 #[.string s] w fun e w' => e = .returned (.int .i64 (Lib.runeCount s)) ∧ ∃ pos, w' = w.iter s pos := Any.utf8_RuneCountInString Tryz.lays195 s w hs
def Tryz.laysM171_ren : Go.Shelf.Ren := ⟨fun | 171 => 73 | 243 => 92 | 246 => 101 | 283 => 106 | 284 => 107 | 285 => 108 | 286 => 109 | 129 => 113 | 317 => 112 | 318 => 114 | 319 => 115 | 320 => 116 | 337 => 117 | 338 => 118 | n => n, fun | 3 => 3 | 9 => 9 | 2 => 2 | 4 => 4 | 171 => 135 | 0 => 0 | 53 => 65 | 37 => 36 | 5 => 5 | 173 => 138 | 212 => 142 | 51 => 89 | 20 => 20 | 213 => 143 | 46 => 72 | 232 => 147 | 233 => 148 | n => n, fun | 17 => 5 | 18 => 6 | 19 => 7 | n => n⟩
theorem Tryz.laysM171 : Go.Proofs.LaysM.n171 Tryz.prog Tryz.laysM171_ren := {
  mixed := by kernel_rfl
  f129 := Tryz.func113.trans (congrArg some (by kernel_rfl))
  f171 := Tryz.func73.trans (congrArg some (by kernel_rfl))
  f243 := Tryz.func92.trans (congrArg some (by kernel_rfl))
  f246 := Tryz.func101.trans (congrArg some (by kernel_rfl))
  f283 := Tryz.func106.trans (congrArg some (by kernel_rfl))
  f284 := Tryz.func107.trans (congrArg some (by kernel_rfl))
  f285 := Tryz.func108.trans (congrArg some (by kernel_rfl))
  f286 := Tryz.func109.trans (congrArg some (by kernel_rfl))
  f317 := Tryz.func112.trans (congrArg some (by kernel_rfl))
  f318 := Tryz.func114.trans (congrArg some (by kernel_rfl))
  f319 := Tryz.func115.trans (congrArg some (by kernel_rfl))
  f320 := Tryz.func116.trans (congrArg some (by kernel_rfl))
  f337 := Tryz.func117.trans (congrArg some (by kernel_rfl))
  f338 := Tryz.func118.trans (congrArg some (by kernel_rfl))
  t0 := Tryz.underlying0
  a0 := Tryz.isAgg0
  z0 := Tryz.sizeOf0
  v0 := Tryz.zeroValue0
  t2 := Tryz.underlying2
  a2 := Tryz.isAgg2
  z2 := Tryz.sizeOf2
  v2 := Tryz.zeroValue2
  t3 := Tryz.underlying3
  a3 := Tryz.isAgg3
  z3 := Tryz.sizeOf3
  v3 := Tryz.zeroValue3
  t4 := Tryz.underlying4
  a4 := Tryz.isAgg4
  z4 := Tryz.sizeOf4
  v4 := Tryz.zeroValue4
  t5 := Tryz.underlying5
  a5 := Tryz.isAgg5
  z5 := Tryz.sizeOf5
  v5 := Tryz.zeroValue5
  t9 := Tryz.underlying9
  a9 := Tryz.isAgg9
  z9 := Tryz.sizeOf9
  v9 := Tryz.zeroValue9
  t20 := Tryz.underlying20
  a20 := Tryz.isAgg20
  z20 := Tryz.sizeOf20
  v20 := Tryz.zeroValue20
  t37 := Tryz.underlying36
  a37 := Tryz.isAgg36
  z37 := Tryz.sizeOf36
  v37 := Tryz.zeroValue36
  t46 := Tryz.underlying72
  a46 := Tryz.isAgg72
  z46 := Tryz.sizeOf72
  v46 := Tryz.zeroValue72
  t51 := Tryz.underlying89
  a51 := Tryz.isAgg89
  z51 := Tryz.sizeOf89
  v51 := Tryz.zeroValue89
  t53 := Tryz.underlying65
  a53 := Tryz.isAgg65
  z53 := Tryz.sizeOf65
  v53 := Tryz.zeroValue65
  t171 := Tryz.underlying135
  a171 := Tryz.isAgg135
  z171 := Tryz.sizeOf135
  v171 := Tryz.zeroValue135
  t173 := Tryz.underlying138
  a173 := Tryz.isAgg138
  z173 := Tryz.sizeOf138
  v173 := Tryz.zeroValue138
  t212 := Tryz.underlying142
  a212 := Tryz.isAgg142
  z212 := Tryz.sizeOf142
  v212 := Tryz.zeroValue142
  t213 := Tryz.underlying143
  a213 := Tryz.isAgg143
  z213 := Tryz.sizeOf143
  t232 := Tryz.underlying147
  a232 := Tryz.isAgg147
  z232 := Tryz.sizeOf147
  v232 := Tryz.zeroValue147
  t233 := Tryz.underlying148
  a233 := Tryz.isAgg148
  z233 := Tryz.sizeOf148
  v233 := Tryz.zeroValue148
  g17 := by kernel_rfl
  g18 := by kernel_rfl
  g19 := by kernel_rfl
  i0 := by kernel_rfl
  i2 := by kernel_rfl
  i3 := by kernel_rfl
  i4 := by kernel_rfl
  i5 := by kernel_rfl
  i9 := by kernel_rfl
  i20 := by kernel_rfl
  i37 := by kernel_rfl
  i46 := by kernel_rfl
  i51 := by kernel_rfl
  i53 := by kernel_rfl
  i171 := by kernel_rfl
  i173 := by kernel_rfl
  i212 := by kernel_rfl
  i232 := by kernel_rfl
  i233 := by kernel_rfl
  m17 := by kernel_rfl
  m18 := by kernel_rfl
  m19 := by kernel_rfl }
open Go.RowKit Go.Sort Go.Lib in
/-- strconv.Itoa: "Itoa is equivalent to FormatInt(int64(i), 10).": i's DECIMAL NUMERAL ('Lib.itoa': a '-' where i is negative, then the digits), FOR EVERY int. The world behind the call: the world before it, new blocks behind the heap (the library's 'var a [24]byte'), draws. (LAID: no walk: one application.) -/
theorem Tryz.strconv_Itoa (n : Int) (h0 : -9223372036854775808 ≤ n) (h1 : n ≤ 9223372036854775807) (w : World) (htab : Lib.TabIs Tryz.prog w "internal/strconv.uint64pow10" .u64 Lib.pow10Tab) :
    Calls Tryz.prog 73 #[.int .i64 n] w fun e w' => e = .returned (.string ⟨(Lib.itoa n).toArray⟩) ∧ ∃ k os, w' = grow (w.drewN k) os := Any.strconv_Itoa Tryz.laysM171 n h0 h1 w htab
def Tryz.laysC172_ren : Go.Shelf.Ren := ⟨fun | 172 => 61 | 244 => 70 | 245 => 71 | 247 => 87 | 279 => 88 | 280 => 89 | 281 => 90 | 282 => 91 | 287 => 98 | 316 => 99 | 171 => 73 | 205 => 100 | 321 => 104 | 322 => 105 | 243 => 92 | 246 => 101 | 283 => 106 | 284 => 107 | 285 => 108 | 286 => 109 | 129 => 113 | 317 => 112 | 318 => 114 | 319 => 115 | 320 => 116 | 337 => 117 | 338 => 118 | n => n, fun | 9 => 9 | 3 => 3 | 75 => 41 | 76 => 42 | 4 => 4 | 5 => 5 | 167 => 116 | 37 => 36 | 0 => 0 | 85 => 117 | 2 => 2 | 168 => 119 | 53 => 65 | 175 => 124 | 46 => 72 | 210 => 127 | 127 => 66 | 145 => 134 | 143 => 132 | 21 => 21 | 171 => 135 | 173 => 138 | 212 => 142 | 51 => 89 | 20 => 20 | 213 => 143 | 232 => 147 | 233 => 148 | 80 => 46 | n => n, fun | 15 => 3 | 16 => 4 | 17 => 5 | 18 => 6 | 19 => 7 | n => n⟩
theorem Tryz.laysC172 : Go.Proofs.LaysC.n172 Tryz.prog Tryz.laysC172_ren := {
  mixed := by kernel_rfl
  f129 := Tryz.func113.trans (congrArg some (by kernel_rfl))
  f171 := Tryz.func73.trans (congrArg some (by kernel_rfl))
  f172 := Tryz.func61.trans (congrArg some (by kernel_rfl))
  f205 := Tryz.func100.trans (congrArg some (by kernel_rfl))
  f243 := Tryz.func92.trans (congrArg some (by kernel_rfl))
  f244 := Tryz.func70.trans (congrArg some (by kernel_rfl))
  f245 := Tryz.func71.trans (congrArg some (by kernel_rfl))
  f246 := Tryz.func101.trans (congrArg some (by kernel_rfl))
  f247 := Tryz.func87.trans (congrArg some (by kernel_rfl))
  f279 := Tryz.func88.trans (congrArg some (by kernel_rfl))
  f280 := Tryz.func89.trans (congrArg some (by kernel_rfl))
  f281 := Tryz.func90.trans (congrArg some (by kernel_rfl))
  f282 := Tryz.func91.trans (congrArg some (by kernel_rfl))
  f283 := Tryz.func106.trans (congrArg some (by kernel_rfl))
  f284 := Tryz.func107.trans (congrArg some (by kernel_rfl))
  f285 := Tryz.func108.trans (congrArg some (by kernel_rfl))
  f286 := Tryz.func109.trans (congrArg some (by kernel_rfl))
  f287 := Tryz.func98.trans (congrArg some (by kernel_rfl))
  f316 := Tryz.func99.trans (congrArg some (by kernel_rfl))
  f317 := Tryz.func112.trans (congrArg some (by kernel_rfl))
  f318 := Tryz.func114.trans (congrArg some (by kernel_rfl))
  f319 := Tryz.func115.trans (congrArg some (by kernel_rfl))
  f320 := Tryz.func116.trans (congrArg some (by kernel_rfl))
  f321 := Tryz.func104.trans (congrArg some (by kernel_rfl))
  f322 := Tryz.func105.trans (congrArg some (by kernel_rfl))
  f337 := Tryz.func117.trans (congrArg some (by kernel_rfl))
  f338 := Tryz.func118.trans (congrArg some (by kernel_rfl))
  t0 := Tryz.underlying0
  a0 := Tryz.isAgg0
  z0 := Tryz.sizeOf0
  v0 := Tryz.zeroValue0
  t2 := Tryz.underlying2
  a2 := Tryz.isAgg2
  z2 := Tryz.sizeOf2
  v2 := Tryz.zeroValue2
  t3 := Tryz.underlying3
  a3 := Tryz.isAgg3
  z3 := Tryz.sizeOf3
  v3 := Tryz.zeroValue3
  t4 := Tryz.underlying4
  a4 := Tryz.isAgg4
  z4 := Tryz.sizeOf4
  v4 := Tryz.zeroValue4
  t5 := Tryz.underlying5
  a5 := Tryz.isAgg5
  z5 := Tryz.sizeOf5
  v5 := Tryz.zeroValue5
  t9 := Tryz.underlying9
  a9 := Tryz.isAgg9
  z9 := Tryz.sizeOf9
  v9 := Tryz.zeroValue9
  t20 := Tryz.underlying20
  a20 := Tryz.isAgg20
  z20 := Tryz.sizeOf20
  v20 := Tryz.zeroValue20
  t21 := Tryz.underlying21
  a21 := Tryz.isAgg21
  z21 := Tryz.sizeOf21
  v21 := Tryz.zeroValue21
  t37 := Tryz.underlying36
  a37 := Tryz.isAgg36
  z37 := Tryz.sizeOf36
  v37 := Tryz.zeroValue36
  t46 := Tryz.underlying72
  a46 := Tryz.isAgg72
  z46 := Tryz.sizeOf72
  v46 := Tryz.zeroValue72
  t51 := Tryz.underlying89
  a51 := Tryz.isAgg89
  z51 := Tryz.sizeOf89
  v51 := Tryz.zeroValue89
  t53 := Tryz.underlying65
  a53 := Tryz.isAgg65
  z53 := Tryz.sizeOf65
  v53 := Tryz.zeroValue65
  t75 := Tryz.underlying41
  a75 := Tryz.isAgg41
  z75 := Tryz.sizeOf41
  v75 := Tryz.zeroValue41
  t76 := Tryz.underlying42
  a76 := Tryz.isAgg42
  z76 := Tryz.sizeOf42
  v76 := Tryz.zeroValue42
  t85 := Tryz.underlying117
  a85 := Tryz.isAgg117
  z85 := Tryz.sizeOf117
  v85 := Tryz.zeroValue117
  t127 := Tryz.underlying66
  a127 := Tryz.isAgg66
  z127 := Tryz.sizeOf66
  v127 := Tryz.zeroValue66
  t143 := Tryz.underlying132
  a143 := Tryz.isAgg132
  z143 := Tryz.sizeOf132
  v143 := Tryz.zeroValue132
  t145 := Tryz.underlying134
  a145 := Tryz.isAgg134
  z145 := Tryz.sizeOf134
  v145 := Tryz.zeroValue134
  t167 := Tryz.underlying116
  a167 := Tryz.isAgg116
  z167 := Tryz.sizeOf116
  v167 := Tryz.zeroValue116
  t168 := Tryz.underlying119
  a168 := Tryz.isAgg119
  z168 := Tryz.sizeOf119
  v168 := Tryz.zeroValue119
  t171 := Tryz.underlying135
  a171 := Tryz.isAgg135
  z171 := Tryz.sizeOf135
  v171 := Tryz.zeroValue135
  t173 := Tryz.underlying138
  a173 := Tryz.isAgg138
  z173 := Tryz.sizeOf138
  v173 := Tryz.zeroValue138
  t175 := Tryz.underlying124
  a175 := Tryz.isAgg124
  z175 := Tryz.sizeOf124
  v175 := Tryz.zeroValue124
  t210 := Tryz.underlying127
  a210 := Tryz.isAgg127
  z210 := Tryz.sizeOf127
  v210 := Tryz.zeroValue127
  t212 := Tryz.underlying142
  a212 := Tryz.isAgg142
  z212 := Tryz.sizeOf142
  v212 := Tryz.zeroValue142
  t213 := Tryz.underlying143
  a213 := Tryz.isAgg143
  z213 := Tryz.sizeOf143
  t232 := Tryz.underlying147
  a232 := Tryz.isAgg147
  z232 := Tryz.sizeOf147
  v232 := Tryz.zeroValue147
  t233 := Tryz.underlying148
  a233 := Tryz.isAgg148
  z233 := Tryz.sizeOf148
  v233 := Tryz.zeroValue148
  g15 := by kernel_rfl
  g16 := by kernel_rfl
  g17 := by kernel_rfl
  g18 := by kernel_rfl
  g19 := by kernel_rfl
  t80 := Tryz.underlying46
  a80 := Tryz.isAgg46
  z80 := Tryz.sizeOf46
  v80 := Tryz.zeroValue46
  i0 := by kernel_rfl
  i2 := by kernel_rfl
  i3 := by kernel_rfl
  i4 := by kernel_rfl
  i5 := by kernel_rfl
  i9 := by kernel_rfl
  i20 := by kernel_rfl
  i21 := by kernel_rfl
  i37 := by kernel_rfl
  i46 := by kernel_rfl
  i51 := by kernel_rfl
  i53 := by kernel_rfl
  i75 := by kernel_rfl
  i76 := by kernel_rfl
  i80 := by kernel_rfl
  i85 := by kernel_rfl
  i127 := by kernel_rfl
  i143 := by kernel_rfl
  i145 := by kernel_rfl
  i167 := by kernel_rfl
  i168 := by kernel_rfl
  i171 := by kernel_rfl
  i173 := by kernel_rfl
  i175 := by kernel_rfl
  i210 := by kernel_rfl
  i212 := by kernel_rfl
  i232 := by kernel_rfl
  i233 := by kernel_rfl
  m15 := by kernel_rfl
  m16 := by kernel_rfl
  m17 := by kernel_rfl
  m18 := by kernel_rfl
  m19 := by kernel_rfl
  c0 := by kernel_rfl
  c2 := by kernel_rfl
  c3 := by kernel_rfl
  c4 := by kernel_rfl
  c5 := by kernel_rfl
  c9 := by kernel_rfl
  c20 := by kernel_rfl
  c21 := by kernel_rfl
  c37 := by kernel_rfl
  c46 := by kernel_rfl
  c51 := by kernel_rfl
  c53 := by kernel_rfl
  c75 := by kernel_rfl
  c76 := by kernel_rfl
  c80 := by kernel_rfl
  c85 := by kernel_rfl
  c127 := by kernel_rfl
  c143 := by kernel_rfl
  c145 := by kernel_rfl
  c167 := by kernel_rfl
  c168 := by kernel_rfl
  c171 := by kernel_rfl
  c173 := by kernel_rfl
  c175 := by kernel_rfl
  c210 := by kernel_rfl
  c212 := by kernel_rfl
  c213 := by kernel_rfl
  c232 := by kernel_rfl
  c233 := by kernel_rfl }
open Go.RowKit in
/-- strconv.Atoi, AT EVERY STRING THAT SPELLS AN int ('Lib.atoiAll .. = .ok v'; of whatever length: leading zeros count): v, AND NO ERROR. The world: as it was, or with the one new row that '[]byte(..)' lays. (LAID: no walk: one application.) -/
theorem Tryz.strconv_Atoi_ok (s : ByteArray) (hmax : s.size ≤ 9223372036854775806) (v : Int) (h : Lib.atoiAll s.data.toList = .ok v) (w : World) :
    Calls Tryz.prog 61 #[.string s] w fun e w' => e = .returned (.tuple #[.int .i64 v, .nilIface]) ∧ (w' = w ∨ ∃ t, w' = Lib.bytesWorld w 5 t) := Any.strconv_Atoi_ok Tryz.laysC172 s hmax v h w
open Go.RowKit in
/-- strconv.Atoi, AT EVERY STRING THAT IS NO DECIMAL NUMERAL ('.syntax'): 0, AND AN ERROR THAT IS NOT nil: a *NumError in a new block N: {Func: "Atoi", Num: s's bytes, Err: what the variable ErrSyntax holds}. Of what was there nothing has turned. (LAID: no walk: one application.) -/
theorem Tryz.strconv_Atoi_syntax (s : ByteArray) (hlim : s.size ≤ 281474976710656) (h : (∀ v, Lib.atoiAll s.data.toList ≠ .ok v) ∧ Lib.atoiAll s.data.toList ≠ .range) (ev : Value) (w : World) (hv : w.cell? ⟨3, 0, none⟩ = some ev) (hev : ev = .nilIface ∨ ∃ te pe, ev = .iface te pe) :
    Calls Tryz.prog 61 #[.string s] w fun e w' => ∃ N, e = .returned (.tuple #[.int .i64 (0), .iface 119 (.pointer (some ⟨N, 0, none⟩))]) ∧ w.heap.size ≤ N ∧ w'.heap[N]? = some (.cells #[.string ⟨#[65, 116, 111, 105]⟩, .string s, ev] 127 (0, 0)) ∧ Below w.heap.size w w' := Any.strconv_Atoi_syntax Tryz.laysC172 s hlim (by cases e : Lib.atoiAll s.data.toList with | ok v => exact absurd e (h.1 v) | range => exact absurd e h.2 | _ => rfl) ev w hv hev
open Go.RowKit in
/-- strconv.Atoi, AT EVERY NUMERAL THAT NO int HOLDS ('.range'): THE GREATEST OR THE LEAST int, BY THE SIGN ('Lib.atoiSat'), AND AN ERROR THAT IS NOT nil: a *NumError in a new block N: {Func: "Atoi", Num: s's bytes, Err: what the variable ErrRange holds}. Of what was there nothing has turned. (LAID: no walk: one application.) -/
theorem Tryz.strconv_Atoi_range (s : ByteArray) (hlim : s.size ≤ 281474976710656) (h : Lib.atoiAll s.data.toList = .range) (ev : Value) (w : World) (hv : w.cell? ⟨4, 0, none⟩ = some ev) (hev : ev = .nilIface ∨ ∃ te pe, ev = .iface te pe) :
    Calls Tryz.prog 61 #[.string s] w fun e w' => ∃ N, e = .returned (.tuple #[.int .i64 (Lib.atoiSat s.data.toList), .iface 119 (.pointer (some ⟨N, 0, none⟩))]) ∧ w.heap.size ≤ N ∧ w'.heap[N]? = some (.cells #[.string ⟨#[65, 116, 111, 105]⟩, .string s, ev] 127 (0, 0)) ∧ Below w.heap.size w w' := Any.strconv_Atoi_range Tryz.laysC172 s hlim h ev w hv hev
def Tryz.lays145_ren : Go.Shelf.Ren := ⟨fun | 145 => 48 | 220 => 60 | 219 => 69 | 217 => 83 | 225 => 84 | 224 => 85 | 267 => 86 | 266 => 96 | 314 => 97 | n => n, fun | 9 => 9 | 4 => 4 | 59 => 76 | 3 => 3 | 5 => 5 | 46 => 72 | 146 => 90 | 51 => 89 | n => n, fun | 1 => 2 | n => n⟩
theorem Tryz.lays145 : Go.Proofs.Lays.n145 Tryz.prog Tryz.lays145_ren := {
  mixed := by kernel_rfl
  f145 := Tryz.func48.trans (congrArg some (by kernel_rfl))
  f217 := Tryz.func83.trans (congrArg some (by kernel_rfl))
  f219 := Tryz.func69.trans (congrArg some (by kernel_rfl))
  f220 := Tryz.func60.trans (congrArg some (by kernel_rfl))
  f224 := Tryz.func85.trans (congrArg some (by kernel_rfl))
  f225 := Tryz.func84.trans (congrArg some (by kernel_rfl))
  f266 := Tryz.func96.trans (congrArg some (by kernel_rfl))
  f267 := Tryz.func86.trans (congrArg some (by kernel_rfl))
  f314 := Tryz.func97.trans (congrArg some (by kernel_rfl))
  t3 := Tryz.underlying3
  a3 := Tryz.isAgg3
  z3 := Tryz.sizeOf3
  v3 := Tryz.zeroValue3
  t4 := Tryz.underlying4
  a4 := Tryz.isAgg4
  z4 := Tryz.sizeOf4
  v4 := Tryz.zeroValue4
  t5 := Tryz.underlying5
  a5 := Tryz.isAgg5
  z5 := Tryz.sizeOf5
  v5 := Tryz.zeroValue5
  t9 := Tryz.underlying9
  a9 := Tryz.isAgg9
  z9 := Tryz.sizeOf9
  v9 := Tryz.zeroValue9
  t46 := Tryz.underlying72
  a46 := Tryz.isAgg72
  z46 := Tryz.sizeOf72
  v46 := Tryz.zeroValue72
  t51 := Tryz.underlying89
  a51 := Tryz.isAgg89
  z51 := Tryz.sizeOf89
  v51 := Tryz.zeroValue89
  t59 := Tryz.underlying76
  a59 := Tryz.isAgg76
  z59 := Tryz.sizeOf76
  v59 := Tryz.zeroValue76
  t146 := Tryz.underlying90
  a146 := Tryz.isAgg90
  z146 := Tryz.sizeOf90
  v146 := Tryz.zeroValue90
  g1 := by kernel_rfl }
open Go.RowKit Go.Lib in
/-- strings.Cut: "Cut slices s around the first instance of sep, returning the text before and after sep. The found result reports whether sep appears in s. If sep does not appear in s, cut returns s, "", false.": IT RETURNS 'Lib.cut s sep'; the world is as it was but for the count of draws. (LAID: no walk: one application.) -/
theorem Tryz.strings_Cut (s sep : ByteArray) (m : Int) (w : World) (hs : s.size < 4294967281) (hm : w.cell? ⟨2, 0, none⟩ = some (.int .i64 m)) :
    Calls Tryz.prog 48 #[.string s, .string sep] w fun e w' => e = .returned (.tuple #[.string ⟨(Lib.cut s.data.toList sep.data.toList).1.toArray⟩, .string ⟨(Lib.cut s.data.toList sep.data.toList).2.1.toArray⟩, .bool (Lib.cut s.data.toList sep.data.toList).2.2]) ∧ ∃ n, w' = w.drewN n := Any.strings_Cut Tryz.lays145 s sep m w hs hm
def Tryz.lays148_ren : Go.Shelf.Ren := ⟨fun | 148 => 22 | 222 => 40 | 223 => 41 | 269 => 52 | n => n, fun | 9 => 9 | 3 => 3 | 4 => 4 | 5 => 5 | 146 => 90 | 51 => 89 | 46 => 72 | n => n, fun | n => n⟩
theorem Tryz.lays148 : Go.Proofs.Lays.n148 Tryz.prog Tryz.lays148_ren := {
  mixed := by kernel_rfl
  f148 := Tryz.func22.trans (congrArg some (by kernel_rfl))
  f222 := Tryz.func40.trans (congrArg some (by kernel_rfl))
  f223 := Tryz.func41.trans (congrArg some (by kernel_rfl))
  f269 := Tryz.func52.trans (congrArg some (by kernel_rfl))
  t3 := Tryz.underlying3
  a3 := Tryz.isAgg3
  z3 := Tryz.sizeOf3
  v3 := Tryz.zeroValue3
  t4 := Tryz.underlying4
  a4 := Tryz.isAgg4
  z4 := Tryz.sizeOf4
  v4 := Tryz.zeroValue4
  t5 := Tryz.underlying5
  a5 := Tryz.isAgg5
  z5 := Tryz.sizeOf5
  v5 := Tryz.zeroValue5
  t9 := Tryz.underlying9
  a9 := Tryz.isAgg9
  z9 := Tryz.sizeOf9
  v9 := Tryz.zeroValue9
  t46 := Tryz.underlying72
  a46 := Tryz.isAgg72
  z46 := Tryz.sizeOf72
  v46 := Tryz.zeroValue72
  t51 := Tryz.underlying89
  a51 := Tryz.isAgg89
  z51 := Tryz.sizeOf89
  v51 := Tryz.zeroValue89
  t146 := Tryz.underlying90
  a146 := Tryz.isAgg90
  z146 := Tryz.sizeOf90
  v146 := Tryz.zeroValue90 }
open Go.RowKit Go.Lib in
/-- strings.LastIndex: "LastIndex returns the index of the last instance of substr in s, or -1 if substr is not present in s.": AT A substr OF WHATEVER LENGTH. (LAID: no walk: one application.) -/
theorem Tryz.strings_LastIndex (s sub : ByteArray) (hs : s.size < 4611686018427387904) (w : World) :
    Calls Tryz.prog 22 #[.string s, .string sub] w fun e w' => e = .returned (.int .i64 (Lib.lastIndex s.data.toList sub.data.toList)) ∧ w' = w := Any.strings_LastIndex Tryz.lays148 s sub hs w
def Tryz.lays146_ren : Go.Shelf.Ren := ⟨fun | 146 => 36 | 221 => 47 | 268 => 57 | 138 => 58 | 143 => 59 | 195 => 39 | 197 => 67 | 218 => 68 | 219 => 69 | 260 => 82 | 217 => 83 | 225 => 84 | 224 => 85 | 267 => 86 | 266 => 96 | 314 => 97 | n => n, fun | 9 => 9 | 31 => 50 | 3 => 3 | 4 => 4 | 0 => 0 | 105 => 103 | 21 => 21 | 5 => 5 | 46 => 72 | 119 => 85 | 139 => 88 | 138 => 87 | 146 => 90 | 51 => 89 | n => n, fun | 1 => 2 | 3 => 0 | 4 => 1 | n => n⟩
theorem Tryz.lays146 : Go.Proofs.Lays.n146 Tryz.prog Tryz.lays146_ren := {
  mixed := by kernel_rfl
  f138 := Tryz.func58.trans (congrArg some (by kernel_rfl))
  f143 := Tryz.func59.trans (congrArg some (by kernel_rfl))
  f146 := Tryz.func36.trans (congrArg some (by kernel_rfl))
  f195 := Tryz.func39.trans (congrArg some (by kernel_rfl))
  f197 := Tryz.func67.trans (congrArg some (by kernel_rfl))
  f217 := Tryz.func83.trans (congrArg some (by kernel_rfl))
  f218 := Tryz.func68.trans (congrArg some (by kernel_rfl))
  f219 := Tryz.func69.trans (congrArg some (by kernel_rfl))
  f221 := Tryz.func47.trans (congrArg some (by kernel_rfl))
  f224 := Tryz.func85.trans (congrArg some (by kernel_rfl))
  f225 := Tryz.func84.trans (congrArg some (by kernel_rfl))
  f260 := Tryz.func82.trans (congrArg some (by kernel_rfl))
  f266 := Tryz.func96.trans (congrArg some (by kernel_rfl))
  f267 := Tryz.func86.trans (congrArg some (by kernel_rfl))
  f268 := Tryz.func57.trans (congrArg some (by kernel_rfl))
  f314 := Tryz.func97.trans (congrArg some (by kernel_rfl))
  t0 := Tryz.underlying0
  a0 := Tryz.isAgg0
  z0 := Tryz.sizeOf0
  v0 := Tryz.zeroValue0
  t3 := Tryz.underlying3
  a3 := Tryz.isAgg3
  z3 := Tryz.sizeOf3
  v3 := Tryz.zeroValue3
  t4 := Tryz.underlying4
  a4 := Tryz.isAgg4
  z4 := Tryz.sizeOf4
  v4 := Tryz.zeroValue4
  t5 := Tryz.underlying5
  a5 := Tryz.isAgg5
  z5 := Tryz.sizeOf5
  v5 := Tryz.zeroValue5
  t9 := Tryz.underlying9
  a9 := Tryz.isAgg9
  z9 := Tryz.sizeOf9
  v9 := Tryz.zeroValue9
  t21 := Tryz.underlying21
  a21 := Tryz.isAgg21
  z21 := Tryz.sizeOf21
  v21 := Tryz.zeroValue21
  t31 := Tryz.underlying50
  a31 := Tryz.isAgg50
  z31 := Tryz.sizeOf50
  v31 := Tryz.zeroValue50
  t46 := Tryz.underlying72
  a46 := Tryz.isAgg72
  z46 := Tryz.sizeOf72
  v46 := Tryz.zeroValue72
  t51 := Tryz.underlying89
  a51 := Tryz.isAgg89
  z51 := Tryz.sizeOf89
  v51 := Tryz.zeroValue89
  t105 := Tryz.underlying103
  a105 := Tryz.isAgg103
  z105 := Tryz.sizeOf103
  v105 := Tryz.zeroValue103
  t119 := Tryz.underlying85
  a119 := Tryz.isAgg85
  z119 := Tryz.sizeOf85
  t138 := Tryz.underlying87
  a138 := Tryz.isAgg87
  z138 := Tryz.sizeOf87
  v138 := Tryz.zeroValue87
  t139 := Tryz.underlying88
  a139 := Tryz.isAgg88
  z139 := Tryz.sizeOf88
  v139 := Tryz.zeroValue88
  t146 := Tryz.underlying90
  a146 := Tryz.isAgg90
  z146 := Tryz.sizeOf90
  v146 := Tryz.zeroValue90
  g1 := by kernel_rfl
  g3 := by kernel_rfl
  g4 := by kernel_rfl }
open Go.RowKit Go.Lib in
/-- strings.Split. (LAID: no walk: one application.) -/
theorem Tryz.strings_Split (s sep : ByteArray) (m : Int) (w : World) (hs : s.size < 4294967281) (hm : w.cell? ⟨2, 0, none⟩ = some (.int .i64 m)) (h1 : 1 ≤ sep.size) :
    Calls Tryz.prog 36 #[.string s, .string sep] w fun e w' =>
      e = .returned (.slice (some ⟨w.heap.size, 0, none⟩) (Lib.countB s sep + 1) (Lib.countB s sep + 1)) ∧ w' = w.alloc (.cells ((Lib.splitB sep 0 (Lib.countB s sep) s).map Value.string).toArray 9) := Any.strings_Split Tryz.lays146 (by kernel_rfl) s sep m w hs hm h1
def Tryz.lays196_ren : Go.Shelf.Ren := ⟨fun | 196 => 38 | 259 => 51 | n => n, fun | 9 => 9 | 4 => 4 | 3 => 3 | 5 => 5 | 12 => 12 | 119 => 85 | 0 => 0 | 46 => 72 | 139 => 88 | 138 => 87 | 53 => 65 | n => n, fun | 3 => 0 | 4 => 1 | n => n⟩
theorem Tryz.lays196 : Go.Proofs.Lays.n196 Tryz.prog Tryz.lays196_ren := {
  mixed := by kernel_rfl
  f196 := Tryz.func38.trans (congrArg some (by kernel_rfl))
  f259 := Tryz.func51.trans (congrArg some (by kernel_rfl))
  t0 := Tryz.underlying0
  a0 := Tryz.isAgg0
  z0 := Tryz.sizeOf0
  v0 := Tryz.zeroValue0
  t3 := Tryz.underlying3
  a3 := Tryz.isAgg3
  z3 := Tryz.sizeOf3
  v3 := Tryz.zeroValue3
  t4 := Tryz.underlying4
  a4 := Tryz.isAgg4
  z4 := Tryz.sizeOf4
  v4 := Tryz.zeroValue4
  t5 := Tryz.underlying5
  a5 := Tryz.isAgg5
  z5 := Tryz.sizeOf5
  v5 := Tryz.zeroValue5
  t9 := Tryz.underlying9
  a9 := Tryz.isAgg9
  z9 := Tryz.sizeOf9
  v9 := Tryz.zeroValue9
  t12 := Tryz.underlying12
  a12 := Tryz.isAgg12
  z12 := Tryz.sizeOf12
  v12 := Tryz.zeroValue12
  t46 := Tryz.underlying72
  a46 := Tryz.isAgg72
  z46 := Tryz.sizeOf72
  v46 := Tryz.zeroValue72
  t53 := Tryz.underlying65
  a53 := Tryz.isAgg65
  z53 := Tryz.sizeOf65
  v53 := Tryz.zeroValue65
  t119 := Tryz.underlying85
  a119 := Tryz.isAgg85
  z119 := Tryz.sizeOf85
  t138 := Tryz.underlying87
  a138 := Tryz.isAgg87
  z138 := Tryz.sizeOf87
  v138 := Tryz.zeroValue87
  t139 := Tryz.underlying88
  a139 := Tryz.isAgg88
  z139 := Tryz.sizeOf88
  v139 := Tryz.zeroValue88
  g3 := by kernel_rfl
  g4 := by kernel_rfl }
open Go.RowKit in
/-- unicode/utf8.ValidString. -/
theorem Tryz.utf8_ValidString (s : ByteArray) (w : World) (hs : s.size ≤ 9223372036854775807) (hT : Lib.Utf8Tabs 0 1 w) :
    Calls Tryz.prog 38 #[.string s] w fun e w' => e = .returned (.bool (Lib.validD s.data.toList)) ∧ Below w.heap.size w w' := Any.utf8_ValidString Tryz.lays196 s w hs hT
end Go.Proofs

/- Told: the functions of strings.Builder that the interpreter cannot run. -/
namespace Pi
open Go Go.Proofs Go.RowKit Go.Shelf

def u8s : List D → Option (List UInt8)
  | [] => some []
  | .int .u8 n :: r => if 0 ≤ n ∧ n < 256 then (match u8s r with | some l => some (UInt8.ofNat n.toNat :: l) | none => none) else none
  | _ => none
theorem u8s_map : ∀ l : List UInt8, u8s (l.map fun b => D.int .u8 (b.toNat : Int)) = some l
  | [] => rfl
  | b :: l => by
    have hb := b.toNat_lt
    simp only [List.map_cons, u8s, u8s_map l]
    rw [if_pos ⟨by omega, by omega⟩]
    simp
theorem u8s_spec : ∀ (es : List D) (l : List UInt8), u8s es = some l → es = l.map fun b => D.int .u8 (b.toNat : Int)
  | [], l, h => by simp [u8s] at h; subst h; rfl
  | x :: r, l, h => by
    unfold u8s at h
    split at h
    · rename_i heq; cases heq
    · rename_i n r' heq
      simp only [List.cons.injEq] at heq
      obtain ⟨rfl, rfl⟩ := heq
      split at h
      · rename_i hn
        split at h
        · rename_i l' hl
          simp at h
          subst h
          rw [u8s_spec r l' hl]
          simp only [List.map_cons, List.cons.injEq, and_true]
          congr 1
          simp only [UInt8.toNat_ofNat']
          omega
        · cases h
      · cases h
    · cases h

def xCheck : TF
  | [.ref 0 v 0], R => match lk R 0 with
    | some e => if Nat.beq e.ver v then (match e.obj with
      | .box 38 [.d .nilp, x] => some (.tup [], ins 0 ⟨e.ver, e.tag, .box 38 [.ref 0 v 0, x]⟩ R)
      | .box 38 [.ref 0 v' 0, _] => if Nat.beq v' v then some (.tup [], R) else none
      | _ => none) else none
    | none => none
  | _, _ => none
def xStr : TF
  | [.ref 0 v 0], R => match lk R 0 with
    | some e => if Nat.beq e.ver v then (match e.obj with
      | .box 38 [_, .d .nils] => some (.d (.str []), R)
      | .box 38 [_, .sl m vm len] => (match lk R m with
        | some em => if Nat.beq em.ver vm then (match em.obj with
          | .arr 5 false es => (match u8s (es.take len) with
            | some l => if Nat.beq l.length len && Nat.blt 0 len then some (.d (.str l), ins m ⟨em.ver, em.tag, .gone⟩ R) else none
            | none => none)
          | _ => none) else none
        | none => none)
      | _ => none) else none
    | none => none
  | _, _ => none
section
variable {w0 : World}
theorem tup_nil {F : Nat → Prop} {w : World} {G : Nat → Value} {R : List (Nat × En)} : PRep F w G R (.tuple #[]) (.tup []) := .tup [] [] rfl (fun i v c hv => by simp at hv)

theorem cell_of_cells {w : World} {b : Nat} {cs : Array Value} {T : TypeId} {fr : Nat × Nat} (h : w.heap[b]? = some (.cells cs T fr)) (i : Nat) : w.cell? ⟨b, i, none⟩ = cs[i]? := by
  simp [World.cell?, h]

theorem setCell_heap {w : World} {b : Nat} {cs : Array Value} {T : TypeId} {fr : Nat × Nat} (h : w.heap[b]? = some (.cells cs T fr)) (i : Nat) (v : Value) : (w.setCell ⟨b, i, none⟩ v).heap[b]? = some (.cells (cs.setIfInBounds i v) T fr) := by
  simp [World.setCell, Array.getElem?_modify, h]
theorem setCell_other {w : World} {b c i : Nat} (h : c ≠ b) (v : Value) : (w.setCell ⟨b, i, none⟩ v).heap[c]? = w.heap[c]? := by
  simp [World.setCell, Array.getElem?_modify, Ne.symm h]

theorem get_getD {cs : Array Value} {i : Nat} (h : i < cs.size) : cs[i]? = some (cs.getD i undef) := by
  simp [Array.getD_eq_getD_getElem?, h]
set_option maxHeartbeats 1000000 in
set_option maxRecDepth 100000 in
/-- copyCheck of a builder that was used. -/
theorem ccUsed (b : Nat) (w : World) (h0 : w.cell? ⟨b, 0, none⟩ = some (.pointer (some ⟨b, 0, none⟩))) :
    Calls Tryz.prog 32 #[.pointer (some ⟨b, 0, none⟩)] w fun e w' => e = .returned (.tuple #[]) ∧ w' = w := by
  obtain ⟨j, hj, _⟩ := Option.map_eq_some_iff.1 (show (Tryz.prog.info? 38).map (·.size) = some 2 by kernel_rfl)
  have a72 := Tryz.isAgg38; have z72 := Tryz.sizeOf38; have v72 := Tryz.zeroValue38; have u72 := run_underlying Tryz.underlying38
  have a70 := Tryz.isAgg35; have z70 := Tryz.sizeOf35; have v70 := Tryz.zeroValue35; have u70 := run_underlying Tryz.underlying35
  have a4 := Tryz.isAgg4; have z4 := Tryz.sizeOf4; have v4 := Tryz.zeroValue4; have u4 := run_underlying Tryz.underlying4
  have u164 := run_underlying Tryz.underlying73
  have mixed : Tryz.prog.follows .mixedOrders = true := by kernel_rfl
  go_enter Tryz.func32, Tryz.ntmps32
  go_wp2
  rw [Lib.run_neq_ptr_same w _ Tryz.underlying35 hj]
  go_wp2
  go_end0
  exact ⟨rfl, rfl⟩
set_option maxHeartbeats 1000000 in
set_option maxRecDepth 100000 in
/-- copyCheck of a new builder. -/
theorem ccFresh (b : Nat) (w : World) (h0 : w.cell? ⟨b, 0, none⟩ = some (.pointer none)) (hsh : w.shape? b = some (38, 2)) (hfz : w.frozen? ⟨b, 0, none⟩ = false) :
    Calls Tryz.prog 32 #[.pointer (some ⟨b, 0, none⟩)] w fun e w' => e = .returned (.tuple #[]) ∧ w' = w.setCell ⟨b, 0, none⟩ (.pointer (some ⟨b, 0, none⟩)) := by
  obtain ⟨j, hj, hjs⟩ := Option.map_eq_some_iff.1 (show (Tryz.prog.info? 38).map (·.size) = some 2 by kernel_rfl)
  have hlb : liesAt Tryz.prog Tryz.prog.depth 38 (2 / Tryz.prog.cellsOf 38) 0 38 1 = true := by kernel_rfl
  have a72 := Tryz.isAgg38; have z72 := Tryz.sizeOf38; have v72 := Tryz.zeroValue38; have u72 := run_underlying Tryz.underlying38
  have a70 := Tryz.isAgg35; have z70 := Tryz.sizeOf35; have v70 := Tryz.zeroValue35; have u70 := run_underlying Tryz.underlying35
  have a4 := Tryz.isAgg4; have z4 := Tryz.sizeOf4; have v4 := Tryz.zeroValue4; have u4 := run_underlying Tryz.underlying4
  have u164 := run_underlying Tryz.underlying73
  have mixed : Tryz.prog.follows .mixedOrders = true := by kernel_rfl
  go_enter Tryz.func32, Tryz.ntmps32
  go_wp2
  rw [Lib.run_to_unsafe w ⟨b, 0, none⟩ Tryz.underlying35 Tryz.underlying73 hj (by rw [hjs]; decide) hsh (Nat.zero_lt_succ 1)]
  simp only [Result.andThen]
  rw [Oper.upon_value]
  go_wp2
  rw [run_callFunc_extern Tryz.func45 (by kernel_rfl) (by kernel_rfl) (by kernel_rfl) (e := Extern.AbiNoEscape.same) (by kernel_rfl)]
  rw [Lib.run_noEscape]
  simp only [Result.andThen]
  rw [Oper.upon_value]
  go_wp2
  rw [Lib.run_from_unsafe w ⟨b, 0, none⟩ Tryz.underlying73 Tryz.underlying35 hj hsh hlb]
  simp only [Result.andThen]
  rw [Oper.upon_value]
  go_wp2
  go_end0
  exact ⟨rfl, rfl⟩
theorem xCheck_ok : XOK Tryz.prog w0 32 xCheck := by
  intro ps R p R1 h F G w vs hH hl hv
  unfold xCheck at h
  split at h
  · rename_i v
    match vs, hl, hv with
    | [u], _, hv =>
      have hp := hv 0 u _ rfl rfl
      split at h
      · rename_i e he
        split at h
        · rename_i hver
          have hver := Nat.eq_of_beq_eq_true hver
          have hO := hH.rg 0 e he
          cases hp with
          | ref _ _ _ _ hr h1 =>
            split at h
            · rename_i x heo
              rw [heo] at hO
              obtain ⟨b, hG, rfl⟩ := hr.at he hver (by rw [heo]; rfl)
              obtain ⟨b', cs, hG', hh, hsz, hone, hps⟩ := hO
              rw [hG] at hG'
              simp at hG'
              subst hG'
              simp only [Option.some.injEq, Prod.mk.injEq] at h
              obtain ⟨rfl, rfl⟩ := h
              have c0 : cs[0]? = some (.pointer none) := by
                have hs0 : 0 < cs.size := by rw [hsz]; simp
                have := hps 0 _ rfl
                rw [get_getD hs0]
                generalize cs.getD 0 undef = c at this
                cases this with
                | d hd => exact congrArg some (hd.toVc rfl)
              have hblt : b < w.heap.size := (Array.getElem?_eq_some_iff.1 hh).1
              have hcall := ccFresh b w (by rw [cell_of_cells hh]; exact c0) (by simp [World.shape?, hh, hsz]) (by simp [World.frozen?, hh])
              refine .inl ⟨enters Tryz.func32 (by kernel_rfl) (by kernel_rfl) _ w, hcall.mono fun e' w' ⟨he', hw'⟩ => ⟨_, he', F, G, ?_⟩⟩
              subst hw'
              have hnew : NewAt G R 0 ⟨e.ver, e.tag, .box 38 [.ref 0 v 0, x]⟩ (G 0) := fun e1 he1 => by rw [he] at he1; cases he1; exact .inr ⟨rfl, fun _ => ⟨by rw [heo]; rfl, rfl⟩⟩
              have hnames := names_upd hnew
              rw [upd_self] at hnames
              have hnF : ¬ F b := hH.fre 0 e b he (by rw [heo]; simp [ownB, hG, blockOf])
              have hF : ∀ c, F c → (w.setCell ⟨b, 0, none⟩ (.pointer (some ⟨b, 0, none⟩))).heap[c]? = w.heap[c]? := fun c hc => setCell_other (fun e => hnF (by rw [← e]; exact hc)) _
              obtain ⟨d1, d2⟩ := SRel.upd hH (e1 := ⟨e.ver, e.tag, .box 38 [.ref 0 v 0, x]⟩) (g1 := G 0) (w' := w.setCell ⟨b, 0, none⟩ (.pointer (some ⟨b, 0, none⟩))) hnew
                (fun c hc hno => setCell_other (fun e' => hno ⟨e, he, by rw [e', heo]; simp [ownB, hG, blockOf]⟩) _) (by simp [World.setCell]) rfl rfl rfl
                (fun c hc => .inr ⟨e, he, by rw [heo]; exact hc⟩)
                (by
                  rw [upd_self]
                  refine ⟨b, _, hG, setCell_heap hh 0 _, by simpa using hsz, ?_, ?_⟩
                  · intro c hc
                    obtain ⟨i, hi⟩ := List.mem_iff_getElem?.1 hc
                    rw [Array.getElem?_toList, Array.getElem?_setIfInBounds] at hi
                    split at hi
                    · simp at hi; obtain ⟨_, rfl⟩ := hi; rfl
                    · exact hone c (List.mem_iff_getElem?.2 ⟨i, by rw [Array.getElem?_toList]; exact hi⟩)
                  · intro i p hp
                    match i with
                    | 0 =>
                      simp at hp
                      subst hp
                      have e0 : (cs.setIfInBounds 0 (.pointer (some ⟨b, 0, none⟩))).getD 0 undef = .pointer (some ⟨b, 0, none⟩) := by
                        have hs0 : 0 < cs.size := by rw [hsz]; simp
                        simp [Array.getD_eq_getD_getElem?, hs0]
                      rw [e0]
                      exact .ref 0 v 0 _ ⟨_, lk_ins_same _ _ _, by rw [hver]; exact Nat.le_refl _, fun _ _ => ⟨b, hG, rfl⟩⟩ rfl
                    | 1 =>
                      simp at hp
                      subst hp
                      have e1 : (cs.setIfInBounds 0 (.pointer (some ⟨b, 0, none⟩))).getD 1 undef = cs.getD 1 undef := by
                        simp [Array.getD_eq_getD_getElem?]
                      rw [e1]
                      exact (hps 1 x rfl).mono (fun _ h => h) hF hnames
                    | i + 2 => simp at hp)
                (fun i hi hl => hH.tag 0 e i he hi (by rw [heo]; rfl))
              rw [upd_self] at d1 d2
              exact ⟨d1, tup_nil, d2⟩
            · rename_i v' x heo
              split at h
              · rename_i hv'
                have hv' := Nat.eq_of_beq_eq_true hv'
                subst hv'
                rw [heo] at hO
                obtain ⟨b, hG, rfl⟩ := hr.at he hver (by rw [heo]; rfl)
                obtain ⟨b', cs, hG', hh, hsz, hone, hps⟩ := hO
                rw [hG] at hG'
                simp at hG'
                subst hG'
                simp only [Option.some.injEq, Prod.mk.injEq] at h
                obtain ⟨rfl, rfl⟩ := h
                have c0 : cs[0]? = some (.pointer (some ⟨b, 0, none⟩)) := by
                  have hs0 : 0 < cs.size := by rw [hsz]; simp
                  have := hps 0 _ rfl
                  rw [get_getD hs0]
                  generalize cs.getD 0 undef = c at this
                  cases this with
                  | ref _ _ _ _ hr2 _ =>
                    obtain ⟨b2, hG2, rfl⟩ := hr2.at he hver (by rw [heo]; rfl)
                    rw [hG] at hG2
                    simp at hG2
                    subst hG2
                    rfl
                have hcall := ccUsed b w (by rw [cell_of_cells hh]; exact c0)
                refine .inl ⟨enters Tryz.func32 (by kernel_rfl) (by kernel_rfl) _ w, hcall.mono fun e' w' ⟨he', hw'⟩ => ⟨_, he', F, G, ?_⟩⟩
                subst hw'
                exact ⟨hH, tup_nil, Ext.refl _ _ _⟩
              · cases h
            · cases h
        · cases h
      · cases h
  · cases h

theorem freeze_heap {w : World} {g c n : Nat} (h : c ≠ g) : (w.freeze ⟨g, 0, none⟩ n).heap[c]? = w.heap[c]? := by
  unfold World.freeze
  split
  · rfl
  · simp [Array.getElem?_modify, Ne.symm h]
theorem freeze_size {w : World} {g n : Nat} : (w.freeze ⟨g, 0, none⟩ n).heap.size = w.heap.size := by
  unfold World.freeze
  split
  · rfl
  · simp

set_option maxHeartbeats 2000000 in
set_option maxRecDepth 100000 in
/-- String of a builder that holds a byte at least; the world behind it. -/
theorem str_row (b g cap len : Nat) (p : Value) (cur : Array Value) (l : List UInt8) (w : World) (hbk : w.heap[b]? = some (.cells #[p, .slice (some ⟨g, 0, none⟩) len cap] 38 (0, 0))) (hg : w.heap[g]? = some (.cells cur 5 (0, 0)))
    (h0 : l ≠ []) (hlen : l.length = len) (hcap : len ≤ cap) (hcm : cap ≤ maxLen) (hcs : cap ≤ cur.size) (hb : ∀ (j : Nat) (x : UInt8), l[j]? = some x → cur[j]? = some (Value.int IntKind.u8 (x.toNat : Int))) :
    Calls Tryz.prog 18 #[.pointer (some ⟨b, 0, none⟩)] w fun e w' => e = .returned (.string ⟨l.toArray⟩) ∧ w' = w.drew.freeze ⟨g, 0, none⟩ l.length := by
  subst hlen
  have L := Tryz.lays169
  have X := Tryz.Builder_Extra_169
  have hl0 : l.length ≠ 0 := by simpa using h0
  have c1 : w.drew.cell? ⟨b, 1, none⟩ = some (.slice (some ⟨g, 0, none⟩) l.length cap) := by
    have : w.drew.heap[b]? = some (.cells #[p, .slice (some ⟨g, 0, none⟩) l.length cap] 38 (0, 0)) := hbk
    rw [Lib.cell_of_heap this]; rfl
  have hSD : (Builtin.unsafeSliceData_ #[(Tryz.lays169_ren.t 37)] (Tryz.lays169_ren.t 127) #[.slice (some ⟨g, 0, none⟩) l.length cap]).run Tryz.prog w.drew = .ok (.pointer (some ⟨g, 0, none⟩)) w.drew :=
    Lib.run_unsafeSliceData_row _ _ _ _ _ _ (by omega)
  have hUS : (Builtin.unsafeString_ #[(Tryz.lays169_ren.t 127), (Tryz.lays169_ren.t 3)] (Tryz.lays169_ren.t 9) #[.pointer (some ⟨g, 0, none⟩), .int .i64 l.length]).run Tryz.prog w.drew = .ok (.string ⟨l.toArray⟩) (w.drew.freeze ⟨g, 0, none⟩ l.length) := by
    refine Lib.run_unsafeString_row w.drew (Tryz.lays169_ren.t 127) (Tryz.lays169_ren.t 3) (Tryz.lays169_ren.t 9) (Tryz.lays169_ren.t 5) L.t127 X.cellsByte g cur.size (by have hg' : w.drew.heap[g]? = some (.cells cur (Tryz.lays169_ren.t 5) (0, 0)) := hg; simp [World.shape?, hg']) l h0 (by omega) (by unfold maxLen at hcm; omega) ?_
    intro j x hx
    have hg' : w.drew.heap[g]? = some (.cells cur 5 (0, 0)) := hg
    rw [show (⟨g, 0, none⟩ : Addr).add j = ⟨g, j, none⟩ by cases j <;> simp [Addr.add], cell_of_cells hg']
    exact hb j x hx
  have mixed := L.mixed
  have t72 := L.t72; have a72 := L.a72; have z72 := L.z72; have v72 := L.v72; have u72 := run_underlying L.t72
  have t70 := L.t70; have a70 := L.a70; have z70 := L.z70; have v70 := L.v70; have u70 := run_underlying L.t70
  have t37 := L.t37; have a37 := L.a37; have z37 := L.z37; have v37 := L.v37; have u37 := run_underlying L.t37
  have t127 := L.t127; have a127 := L.a127; have z127 := L.z127; have v127 := L.v127; have u127 := run_underlying L.t127
  have t3 := L.t3; have a3 := L.a3; have z3 := L.z3; have v3 := L.v3; have u3 := run_underlying L.t3
  have t9 := L.t9; have a9 := L.a9; have z9 := L.z9; have v9 := L.v9; have u9 := run_underlying L.t9
  have t5 := X.t5; have a5 := X.a5; have z5 := X.z5; have v5 := X.v5; have u5 := run_underlying X.t5
  go_enter L.f169, Body.n169_ntmps Tryz.lays169_ren
  go_wp2
  go_region_o
  all_goals (go_wp2; go_ret; exact ⟨rfl, rfl⟩)

set_option maxHeartbeats 2000000 in
set_option maxRecDepth 100000 in
theorem str_nil (b : Nat) (p : Value) (w : World) (hbk : w.heap[b]? = some (.cells #[p, .slice none 0 0] 38 (0, 0))) :
    Calls Tryz.prog 18 #[.pointer (some ⟨b, 0, none⟩)] w fun e w' => e = .returned (.string ⟨#[]⟩) ∧ w' = w.drew := by
  have L := Tryz.lays169
  have X := Tryz.Builder_Extra_169
  have hUS := fun W q => Lib.run_unsafeString_none (P := Tryz.prog) W (Tryz.lays169_ren.t 127) (Tryz.lays169_ren.t 3) (Tryz.lays169_ren.t 9) q
  have c1 : w.drew.cell? ⟨b, 1, none⟩ = some (.slice none 0 0) := by
    have : w.drew.heap[b]? = some (.cells #[p, .slice none 0 0] 38 (0, 0)) := hbk
    rw [Lib.cell_of_heap this]; rfl
  have hSD : (Builtin.unsafeSliceData_ #[(Tryz.lays169_ren.t 37)] (Tryz.lays169_ren.t 127) #[.slice none 0 0]).run Tryz.prog w.drew = .ok (.pointer none) w.drew := rfl
  have mixed := L.mixed
  have t72 := L.t72; have a72 := L.a72; have z72 := L.z72; have v72 := L.v72; have u72 := run_underlying L.t72
  have t70 := L.t70; have a70 := L.a70; have z70 := L.z70; have v70 := L.v70; have u70 := run_underlying L.t70
  have t37 := L.t37; have a37 := L.a37; have z37 := L.z37; have v37 := L.v37; have u37 := run_underlying L.t37
  have t127 := L.t127; have a127 := L.a127; have z127 := L.z127; have v127 := L.v127; have u127 := run_underlying L.t127
  have t3 := L.t3; have a3 := L.a3; have z3 := L.z3; have v3 := L.v3; have u3 := run_underlying L.t3
  have t9 := L.t9; have a9 := L.a9; have z9 := L.z9; have v9 := L.v9; have u9 := run_underlying L.t9
  have t5 := X.t5; have a5 := X.a5; have z5 := X.z5; have v5 := X.v5; have u5 := run_underlying X.t5
  go_enter L.f169, Body.n169_ntmps Tryz.lays169_ren
  go_wp2
  go_region_o
  all_goals (go_wp2; go_ret; exact ⟨rfl, rfl⟩)

theorem HRel.drew {T : Tg} {F : Nat → Prop} {G : Nat → Value} {w : World} {R : List (Nat × En)} (h : HRel Tryz.prog T F G w R) : HRel Tryz.prog T F G w.drew R := by
  have hn : Names G G R R := Names.refl G R
  exact ⟨h.nod, h.size, fun t p hp => by simp [lk] at hp, fun n e he => (h.rg n e he).mono (fun _ h => h) (fun _ _ => rfl) hn rfl (fun _ _ => rfl), h.own, h.fre, h.bnd, h.tag, h.z⟩

theorem two_cells {cs : Array Value} (h : cs.size = 2) : cs = #[cs.getD 0 undef, cs.getD 1 undef] := by
  apply Array.ext
  · simp [h]
  · intro i h1 h2
    have : i = 0 ∨ i = 1 := by simp at h2; omega
    rcases this with rfl | rfl <;> simp [Array.getD, h]

theorem xStr_ok : XOK Tryz.prog w0 18 xStr := by
  intro ps R p R1 h F G w vs hH hl hv
  unfold xStr at h
  split at h
  · rename_i v
    match vs, hl, hv with
    | [u], _, hv =>
      have hp := hv 0 u _ rfl rfl
      split at h
      · rename_i e he
        split at h
        · rename_i hver
          have hver := Nat.eq_of_beq_eq_true hver
          have hO := hH.rg 0 e he
          cases hp with
          | ref _ _ _ _ hr h1 =>
            have hce := enters Tryz.func18 (by kernel_rfl) (by kernel_rfl)
            split at h
            · rename_i x heo
              rw [heo] at hO
              obtain ⟨b, hG, rfl⟩ := hr.at he hver (by rw [heo]; rfl)
              obtain ⟨b', cs, hG', hh, hsz, hone, hps⟩ := hO
              rw [hG] at hG'
              simp at hG'
              subst hG'
              simp only [Option.some.injEq, Prod.mk.injEq] at h
              obtain ⟨rfl, rfl⟩ := h
              have e1 : cs.getD 1 undef = .slice none 0 0 := by
                have := hps 1 _ rfl
                generalize cs.getD 1 undef = c at this
                cases this with
                | d hd => exact hd.toVc rfl
              have h2 := two_cells (by simpa using hsz)
              rw [e1] at h2
              rw [h2] at hh
              refine .inl ⟨hce _ w, (str_nil b _ w hh).mono fun e' w' ⟨he', hw'⟩ => ⟨_, he', F, G, ?_, .d (.str []), ?_⟩⟩
              · subst hw'
                exact hH.drew
              · subst hw'
                exact ⟨fun _ h => h, fun _ h => .inl h, fun _ h => .inl h, fun _ _ _ => rfl, Nat.le_refl _, rfl, rfl, rfl⟩
            · rename_i x m vm len heo
              rw [heo] at hO
              obtain ⟨b, hG, rfl⟩ := hr.at he hver (by rw [heo]; rfl)
              obtain ⟨b', cs, hG', hh, hsz, hone, hps⟩ := hO
              rw [hG] at hG'
              simp at hG'
              subst hG'
              split at h
              · rename_i em hem
                split at h
                · rename_i hvm
                  have hvm := Nat.eq_of_beq_eq_true hvm
                  split at h
                  · rename_i es hoe
                    split at h
                    · rename_i l hl8
                      split at h
                      · rename_i hcond
                        simp only [Bool.and_eq_true, Nat.blt_eq] at hcond
                        have hll := Nat.eq_of_beq_eq_true hcond.1
                        simp only [Option.some.injEq, Prod.mk.injEq] at h
                        obtain ⟨rfl, rfl⟩ := h
                        have hp1 := hps 1 _ rfl
                        have hOm := hH.rg m em hem
                        rw [hoe] at hOm
                        have h2 := two_cells (by simpa using hsz)
                        generalize cs.getD 1 undef = c1 at hp1 h2
                        cases hp1 with
                        | sl _ _ _ _ _ hrm =>
                          obtain ⟨a, N, cap, hGm, rfl, hlN⟩ := hrm.at hem hvm (by rw [hoe]; rfl)
                          have hes := u8s_spec _ _ hl8
                          have hel : len ≤ es.length := by
                            have := congrArg List.length hes
                            simp at this
                            omega
                          rcases hOm with ⟨_, rfl⟩ | ⟨g, cap', cur, k, hGm', hg, hk, hk0, hle, hcm, hcs, _, hE⟩
                          · simp at hel; omega
                          · rw [hGm] at hGm'
                            simp only [Value.slice.injEq] at hGm'
                            obtain ⟨rfl, rfl, rfl⟩ := hGm'
                            have hk1 : k = 1 := by
                              have : sz Tryz.prog 5 = some 1 := by kernel_rfl
                              rw [this] at hk
                              exact (Option.some.inj hk).symm
                            subst hk1
                            rw [h2] at hh
                            have hne : l ≠ [] := fun e0 => by subst e0; simp at hll; omega
                            have hcell : ∀ (j : Nat) (x : UInt8), l[j]? = some x → cur[j]? = some (.int .u8 x.toNat) := fun j x hx => by
                              have hj : j < l.length := (List.getElem?_eq_some_iff.1 hx).1
                              have hej : es[j]? = some (.int .u8 x.toNat) := by
                                have : (es.take len)[j]? = some (D.int .u8 (x.toNat : Int)) := by rw [hes, List.getElem?_map, hx]; rfl
                                rw [List.getElem?_take] at this
                                split at this
                                · exact this
                                · cases this
                              obtain ⟨q1, q2, q3⟩ := hE j _ hej
                              have := q3 0 _ rfl
                              rw [get_getD (by omega)]
                              simp only [Nat.mul_one, Nat.add_zero] at this
                              rw [this.toVc rfl]
                            refine .inl ⟨hce _ w, (str_row b g cap len _ cur l w hh hg hne hll (by omega) hcm (by omega) hcell).mono fun e' w' ⟨he', hw'⟩ => ⟨_, he', F, G, ?_⟩⟩
                            subst hw'
                            have hnew : NewAt G R m ⟨em.ver, em.tag, .gone⟩ (G m) := fun e1 he1 => by rw [hem] at he1; cases he1; exact .inr ⟨rfl, fun hlv => by cases hlv⟩
                            obtain ⟨d1, d2⟩ := SRel.upd hH (e1 := ⟨em.ver, em.tag, .gone⟩) (g1 := G m) (w' := w.drew.freeze ⟨g, 0, none⟩ l.length) hnew
                              (fun c hc hno => freeze_heap (fun e' => hno ⟨em, hem, by rw [e', hoe]; simp [ownB, hGm, blockOf]⟩)) (by rw [freeze_size]; exact Nat.le_refl _) (by unfold World.freeze; split <;> rfl) (by unfold World.freeze; split <;> rfl) (by unfold World.freeze; split <;> rfl)
                              (fun c hc => by simp [ownB] at hc) trivial (fun i _ hlv => by cases hlv)
                            rw [upd_self] at d1 d2
                            exact ⟨d1, .d (.str l), d2⟩
                      · cases h
                    · cases h
                  · cases h
                · cases h
              · cases h
            · cases h
        · cases h
      · cases h
  · cases h
end
end Pi

/- The seat's told functions of the library. -/
namespace Pi
open Go Go.Proofs Go.RowKit

/-- What strconv.Atoi's number is. -/
def atoiV (l : List UInt8) : Int := match Lib.atoiAll l with | .ok v => v | .range => Lib.atoiSat l | _ => 0

def xSplit : TF
  | [.d (.str s), .d (.str sep)], [] => if s.length < 4294967281 ∧ 1 ≤ sep.length ∧ (Lib.split s sep).length = Lib.count s sep + 1 ∧ Lib.count s sep ≤ 4294967281 then some (.sl 0 0 (Lib.split s sep).length, [(0, ⟨0, none, .arr 9 false ((Lib.split s sep).map D.str)⟩)]) else none
  | _, _ => none
def xAtoi : TF
  | [.d (.str s)], [] => if s.length ≤ 281474976710656 then some (.tup [.d (.int .i64 (atoiV s)), .bad], []) else none
  | _, _ => none
def xItoa : TF
  | [.d (.int .i64 n)], [] => if -9223372036854775808 ≤ n ∧ n ≤ 9223372036854775807 then some (.d (.str (Lib.itoa n)), []) else none
  | _, _ => none
def xTrim : TF
  | [.d (.str s), .d (.str c)], [] => if s.length ≤ 9223372036854775807 ∧ c.length < 4294967281 ∧ c.all (fun b => decide (b.toNat < 128)) = true then some (.d (.str (Lib.trimS s c)), []) else none
  | _, _ => none
def xCut : TF
  | [.d (.str s), .d (.str c)], [] => if s.length < 4294967281 then some (.tup [.d (.str (Lib.cut s c).1), .d (.str (Lib.cut s c).2.1), .d (.bool (Lib.cut s c).2.2)], []) else none
  | _, _ => none
def xCutPrefix : TF
  | [.d (.str s), .d (.str c)], [] => some (.tup [.d (.str (Lib.trimPrefix s c)), .d (.bool (Lib.hasPrefix s c))], [])
  | _, _ => none
def strsOf : List D → Option (List (List UInt8))
  | [] => some []
  | .str s :: r => match strsOf r with | some l => some (s :: l) | none => none
  | _ => none
def xJoin : TF
  | [.d (.sl 1 es), .d (.str c)], [] => match strsOf es with
    | some l => if l.length ≤ 140737488355328 ∧ (Lib.join l c).length ≤ 140737488355328 then some (.d (.str (Lib.join l c)), []) else none
    | none => none
  | _, _ => none
def xLastIndex : TF
  | [.d (.str s), .d (.str c)], [] => if s.length < 4611686018427387904 then some (.d (.int .i64 (Lib.lastIndex s c)), []) else none
  | _, _ => none
def xValid : TF
  | [.d (.str s)], [] => if s.length ≤ 9223372036854775807 then some (.d (.bool (Lib.validD s)), []) else none
  | _, _ => none
def xCount : TF
  | [.d (.str s)], [] => if s.length < 9223372036854775807 then some (.d (.int .i64 (Lib.runeCount ⟨⟨s⟩⟩)), []) else none
  | _, _ => none
def xL : List (Nat × TF) := [(36, xSplit), (61, xAtoi), (73, xItoa), (64, xTrim), (48, xCut), (35, xCutPrefix), (32, xCheck), (18, xStr), (22, xLastIndex), (38, xValid), (39, xCount)]
def xsB : List Nat := [36, 61, 73, 64, 48, 35, 32, 18, 22, 38, 39]
def xsT : List Nat := xsB
/-- Functions whose nil slices stay nil. -/
def nilK : List Nat := [31]
def xB : CF := xOf xL

theorem cell_keep' {w0 w : World} {v : Value} {b o : Nat} (hz : ∀ b, b < w0.heap.size → w.heap[b]? = w0.heap[b]?) (h : w0.cell? ⟨b, o, none⟩ = some v) : w.cell? ⟨b, o, none⟩ = some v := by
  by_cases hb : b < w0.heap.size
  · unfold World.cell? at h ⊢
    rw [hz b hb]
    exact h
  · unfold World.cell? at h
    rw [show w0.heap[({ block := b, off := o, spot := none } : Addr).block]? = none from Array.getElem?_eq_none (by show w0.heap.size ≤ b; omega)] at h
    simp at h
/-- What is asked of the world in which all begins. -/
structure StW (w0 : World) : Prop where
  m : ∃ m, w0.cell? ⟨2, 0, none⟩ = some (.int .i64 m)
  e0 : ∃ ev, w0.cell? ⟨3, 0, none⟩ = some ev ∧ (ev = .nilIface ∨ ∃ te pe, ev = .iface te pe)
  e1 : ∃ ev, w0.cell? ⟨4, 0, none⟩ = some ev ∧ (ev = .nilIface ∨ ∃ te pe, ev = .iface te pe)
  tab : ∀ w : World, (∀ b, b < w0.heap.size → w.heap[b]? = w0.heap[b]?) → Lib.TabIs Tryz.prog w "internal/strconv.uint64pow10" .u64 Lib.pow10Tab
  u8 : Lib.Utf8Tabs 0 1 w0

theorem utf8_keep {w0 w : World} {a b : Nat} (hz : ∀ b, b < w0.heap.size → w.heap[b]? = w0.heap[b]?) (h : Lib.Utf8Tabs a b w0) : Lib.Utf8Tabs a b w :=
  ⟨fun c hc => cell_keep' hz (h.1 c hc), fun i hi => ⟨cell_keep' hz (h.2 i hi).1, cell_keep' hz (h.2 i hi).2⟩⟩

theorem below_grow (w : World) (k : Nat) (os : Array Go.Obj) : Below w.heap.size w (Go.Sort.grow (w.drewN k) os) :=
  ⟨rfl, rfl, rfl, by simp [Go.Sort.grow, World.drewN], fun b hb => by
    have hb' : b < (w.drewN k).heap.size := hb
    simp only [Go.Sort.grow]
    rw [Array.getElem?_append_left hb']
    rfl⟩
theorem below_drewN (w : World) (k : Nat) : Below w.heap.size w (w.drewN k) := ⟨rfl, rfl, rfl, by simp [World.drewN], fun b hb => by simp [World.drewN]⟩
theorem below_bytes (w : World) (e : TypeId) (t : ByteArray) : Below w.heap.size w (Lib.bytesWorld w e t) := by
  unfold Lib.bytesWorld
  have h1 : Below w.heap.size w (w.drew.alloc (.cells (Lib.bytesCells w e t) e)) := (Below.refl w.heap.size w).drew.alloc (by exact Nat.le_refl _) _
  refine h1.trans ⟨rfl, rfl, rfl, ?_, fun b hb => ?_⟩
  · simp [World.freeze]
  · simp only [World.freeze]
    rw [if_neg (by omega)]
    simp only [Array.getElem?_modify]
    rw [if_neg (by omega)]
section
variable {w0 : World}
theorem strArg {F : Nat → Prop} {w : World} {G : Nat → Value} {R : List (Nat × En)} {v : Value} {s : List UInt8} (h : PRep F w G R v (.d (.str s))) : v = .string ⟨⟨s⟩⟩ := PRep.toV (p := .d (.str s)) h rfl

theorem xSplit_ok (hw : StW w0) : XOK Tryz.prog w0 36 xSplit := by
  intro ps R p R1 h F G w vs hH hl hv
  have hz : ∀ b, b < w0.heap.size → w.heap[b]? = w0.heap[b]? := fun b hb => (hH.z b hb).2
  unfold xSplit at h
  split at h
  · rename_i s sep
    split at h
    · rename_i hc
      obtain ⟨h1, h2, h3, h4⟩ := hc
      simp only [Option.some.injEq, Prod.mk.injEq] at h
      obtain ⟨rfl, rfl⟩ := h
      match vs, hl, hv with
      | [v, u], _, hv =>
        have e1 : v = .string ⟨⟨s⟩⟩ := strArg (hv 0 v _ rfl rfl)
        have e2 : u = .string ⟨⟨sep⟩⟩ := strArg (hv 1 u _ rfl rfl)
        subst e1
        subst e2
        obtain ⟨m, hm⟩ := hw.m
        have hdata : (Lib.splitB ⟨⟨sep⟩⟩ 0 (Lib.countB ⟨⟨s⟩⟩ ⟨⟨sep⟩⟩) ⟨⟨s⟩⟩).map (·.data.toList) = Lib.split s sep := Lib.splitB_data _ _ _ _
        have hlen : (Lib.splitB ⟨⟨sep⟩⟩ 0 (Lib.countB ⟨⟨s⟩⟩ ⟨⟨sep⟩⟩) ⟨⟨s⟩⟩).length = (Lib.split s sep).length := by rw [← hdata, List.length_map]
        have hcnt : Lib.countB ⟨⟨s⟩⟩ ⟨⟨sep⟩⟩ = Lib.count s sep := rfl
        have := out_row (es := (Lib.split s sep).map D.str) (k := 0) (ty := 9) hH (enters Tryz.func36 (by kernel_rfl) (by kernel_rfl) _ w) (by kernel_rfl) (vs := [.string ⟨⟨s⟩⟩, .string ⟨⟨sep⟩⟩])
          ((Tryz.strings_Split ⟨⟨s⟩⟩ ⟨⟨sep⟩⟩ m w (by simpa [ByteArray.size] using h1) (cell_keep hz hm) (by simpa [ByteArray.size] using h2)).mono fun e w' ⟨he, hw'⟩ => by
            subst hw'
            refine ⟨(Below.refl _ _).alloc (Nat.le_refl _) _, w.heap.size, Lib.count s sep + 1, _, ?_, Nat.le_refl _, heap_alloc_new w _, ?_, ?_, ?_, fun F => ?_⟩
            · rw [he, hcnt, List.length_map, h3]
            · rw [List.length_map, h3]; exact Nat.le_refl _
            · simp only [maxLen]; omega
            · simp [hlen, h3]
            · intro i x hx
              rw [List.getElem?_map] at hx
              cases hi : (Lib.split s sep)[i]? with
              | none => rw [hi] at hx; cases hx
              | some l =>
                rw [hi] at hx
                cases hx
                refine ⟨rfl, by simp [D.cells, D.isCell], fun j c hc => ?_⟩
                cases j with
                | succ j => simp [D.cells] at hc
                | zero =>
                  simp [D.cells] at hc
                  subst hc
                  rw [← hdata, List.getElem?_map] at hi
                  cases hb : (Lib.splitB ⟨⟨sep⟩⟩ 0 (Lib.countB ⟨⟨s⟩⟩ ⟨⟨sep⟩⟩) ⟨⟨s⟩⟩)[i]? with
                  | none => rw [hb] at hi; cases hi
                  | some bb =>
                    rw [hb] at hi
                    simp at hi
                    subst hi
                    simp [Array.getD_eq_getD_getElem?, hb]
                    exact .str bb.data.toList)
        rw [List.length_map] at this
        exact this
    · cases h
  · cases h
theorem xAtoi_ok (hw : StW w0) : XOK Tryz.prog w0 61 xAtoi := by
  intro ps R p R1 h F G w vs hH hl hv
  have hz : ∀ b, b < w0.heap.size → w.heap[b]? = w0.heap[b]? := fun b hb => (hH.z b hb).2
  unfold xAtoi at h
  split at h
  · rename_i s
    split at h
    · rename_i hlen
      simp only [Option.some.injEq, Prod.mk.injEq] at h
      obtain ⟨rfl, rfl⟩ := h
      match vs, hl, hv with
      | [v], _, hv =>
        have e : v = .string ⟨⟨s⟩⟩ := strArg (hv 0 v _ rfl rfl)
        subst e
        refine out_plain hH (enters Tryz.func61 (by kernel_rfl) (by kernel_rfl) _ w) ?_
        have two : ∀ (n : Int) (u : Value) (F : Nat → Prop) (G : Nat → Value) (w' : World), PRep F w' G [] (.tuple #[.int .i64 n, u]) (.tup [.d (.int .i64 n), .bad]) := fun n u F G w' =>
          .tup [.int .i64 n, u] _ rfl (fun i v c hv hc => by
            match i with
            | 0 => simp at hv hc; subst hv; subst hc; exact .d (.int .i64 n)
            | 1 => simp at hv hc; subst hc; exact .bad _
            | i + 2 => simp at hv)
        cases ha : Lib.atoiAll s with
        | ok n =>
          have hav : atoiV s = n := by simp [atoiV, ha]
          refine (Tryz.strconv_Atoi_ok ⟨⟨s⟩⟩ (by simp [ByteArray.size]; omega) n ha w).mono fun e w' ⟨he, hw'⟩ => ⟨_, he, ?_, fun F G => by rw [hav]; exact two _ _ _ _ _⟩
          rcases hw' with rfl | ⟨t, rfl⟩
          · exact Below.refl _ _
          · exact below_bytes _ _ _
        | range =>
          have hav : atoiV s = Lib.atoiSat s := by simp [atoiV, ha]
          obtain ⟨ev, h1, h2⟩ := hw.e1
          exact (Tryz.strconv_Atoi_range ⟨⟨s⟩⟩ (by simpa [ByteArray.size] using hlen) ha ev w (cell_keep hz h1) h2).mono fun e w' ⟨N, he, _, _, hb⟩ => ⟨_, he, hb, fun F G => by rw [hav]; exact two _ _ _ _ _⟩
        | _ =>
          have hav : atoiV s = 0 := by simp [atoiV, ha]
          obtain ⟨ev, h1, h2⟩ := hw.e0
          exact (Tryz.strconv_Atoi_syntax ⟨⟨s⟩⟩ (by simpa [ByteArray.size] using hlen) ⟨fun v e => (by rw [ha] at e; cases e), fun e => (by rw [ha] at e; cases e)⟩ ev w (cell_keep hz h1) h2).mono fun e w' ⟨N, he, _, _, hb⟩ => ⟨_, he, hb, fun F G => by rw [hav]; exact two _ _ _ _ _⟩
    · cases h
  · cases h
theorem xItoa_ok (hw : StW w0) : XOK Tryz.prog w0 73 xItoa := by
  intro ps R p R1 h F G w vs hH hl hv
  have hz : ∀ b, b < w0.heap.size → w.heap[b]? = w0.heap[b]? := fun b hb => (hH.z b hb).2
  unfold xItoa at h
  split at h
  · rename_i n
    split at h
    · rename_i hn
      simp only [Option.some.injEq, Prod.mk.injEq] at h
      obtain ⟨rfl, rfl⟩ := h
      match vs, hl, hv with
      | [v], _, hv =>
        have hp := hv 0 v _ rfl rfl
        have e : v = .int .i64 n := PRep.toV (p := .d (.int .i64 n)) hp rfl
        subst e
        refine out_plain hH (enters Tryz.func73 (by kernel_rfl) (by kernel_rfl) _ w) ?_
        exact (Tryz.strconv_Itoa n hn.1 hn.2 w (hw.tab w hz)).mono fun e w' ⟨he, k, os, hw'⟩ => ⟨_, he, by rw [hw']; exact below_grow _ _ _, fun F G => .d (.str _)⟩
    · cases h
  · cases h
theorem xTrim_ok : XOK Tryz.prog w0 64 xTrim := by
  intro ps R p R1 h F G w vs hH hl hv
  unfold xTrim at h
  split at h
  · rename_i s c
    split at h
    · rename_i hc
      simp only [Option.some.injEq, Prod.mk.injEq] at h
      obtain ⟨rfl, rfl⟩ := h
      match vs, hl, hv with
      | [v, u], _, hv =>
        have e1 : v = .string ⟨⟨s⟩⟩ := strArg (hv 0 v _ rfl rfl)
        have e2 : u = .string ⟨⟨c⟩⟩ := strArg (hv 1 u _ rfl rfl)
        subst e1
        subst e2
        refine out_plain hH (enters Tryz.func64 (by kernel_rfl) (by kernel_rfl) _ w) ?_
        exact (Go.Proofs.Any.strings_Trim_laid Tryz.lays160 (by kernel_rfl) ⟨⟨s⟩⟩ ⟨⟨c⟩⟩ w (by simpa [ByteArray.size] using hc.1) (by simpa [ByteArray.size] using hc.2.1) (Go.Proofs.ascii_of_all hc.2.2)).mono fun e w' ⟨he, hb⟩ => ⟨_, he, hb, fun F G => .d (.str _)⟩
    · cases h
  · cases h
theorem xCut_ok (hw : StW w0) : XOK Tryz.prog w0 48 xCut := by
  intro ps R p R1 h F G w vs hH hl hv
  have hz : ∀ b, b < w0.heap.size → w.heap[b]? = w0.heap[b]? := fun b hb => (hH.z b hb).2
  unfold xCut at h
  split at h
  · rename_i s c
    split at h
    · rename_i hc
      simp only [Option.some.injEq, Prod.mk.injEq] at h
      obtain ⟨rfl, rfl⟩ := h
      match vs, hl, hv with
      | [v, u], _, hv =>
        have e1 : v = .string ⟨⟨s⟩⟩ := strArg (hv 0 v _ rfl rfl)
        have e2 : u = .string ⟨⟨c⟩⟩ := strArg (hv 1 u _ rfl rfl)
        subst e1
        subst e2
        obtain ⟨m, hm⟩ := hw.m
        refine out_plain hH (enters Tryz.func48 (by kernel_rfl) (by kernel_rfl) _ w) ?_
        exact (Tryz.strings_Cut ⟨⟨s⟩⟩ ⟨⟨c⟩⟩ m w (by simpa [ByteArray.size] using hc) (cell_keep hz hm)).mono fun e w' ⟨he, n, hb⟩ => ⟨_, he, by rw [hb]; exact below_drewN _ _, fun F G =>
          .tup [_, _, _] _ rfl (fun i v c hv hc => by
            match i with
            | 0 => simp at hv hc; subst hv; subst hc; exact .d (.str _)
            | 1 => simp at hv hc; subst hv; subst hc; exact .d (.str _)
            | 2 => simp at hv hc; subst hv; subst hc; exact .d (.bool _)
            | i + 3 => simp at hv)⟩
    · cases h
  · cases h
theorem xCutPrefix_ok : XOK Tryz.prog w0 35 xCutPrefix := by
  intro ps R p R1 h F G w vs hH hl hv
  unfold xCutPrefix at h
  split at h
  · rename_i s c
    simp only [Option.some.injEq, Prod.mk.injEq] at h
    obtain ⟨rfl, rfl⟩ := h
    match vs, hl, hv with
    | [v, u], _, hv =>
      have e1 : v = .string ⟨⟨s⟩⟩ := strArg (hv 0 v _ rfl rfl)
      have e2 : u = .string ⟨⟨c⟩⟩ := strArg (hv 1 u _ rfl rfl)
      subst e1
      subst e2
      refine out_plain hH (enters Tryz.func35 (by kernel_rfl) (by kernel_rfl) _ w) ?_
      exact (Tryz.strings_CutPrefix ⟨⟨s⟩⟩ ⟨⟨c⟩⟩ w).mono fun e w' ⟨he, hb⟩ => ⟨_, he, hb ▸ Below.refl _ _, fun F G =>
        .tup [_, _] _ rfl (fun i v c hv hc => by
          match i with
          | 0 => simp at hv hc; subst hv; subst hc; exact .d (.str _)
          | 1 => simp at hv hc; subst hv; subst hc; exact .d (.bool _)
          | i + 2 => simp at hv)⟩
  · cases h
theorem strsOf_spec : ∀ (es : List D) (l : List (List UInt8)), strsOf es = some l → es = l.map D.str
  | [], l, h => by simp [strsOf] at h; subst h; rfl
  | x :: es, l, h => by
    cases x <;> try (simp [strsOf] at h; done)
    rename_i s
    simp only [strsOf] at h
    split at h
    · rename_i l' hl
      simp at h
      subst h
      rw [strsOf_spec es l' hl]
      rfl
    · cases h
theorem xLastIndex_ok : XOK Tryz.prog w0 22 xLastIndex := by
  intro ps R p R1 h F G w vs hH hl hv
  unfold xLastIndex at h
  split at h
  · rename_i s c
    split at h
    · rename_i hc
      simp only [Option.some.injEq, Prod.mk.injEq] at h
      obtain ⟨rfl, rfl⟩ := h
      match vs, hl, hv with
      | [v, u], _, hv =>
        have e1 : v = .string ⟨⟨s⟩⟩ := strArg (hv 0 v _ rfl rfl)
        have e2 : u = .string ⟨⟨c⟩⟩ := strArg (hv 1 u _ rfl rfl)
        subst e1
        subst e2
        refine out_plain hH (enters Tryz.func22 (by kernel_rfl) (by kernel_rfl) _ w) ?_
        exact (Tryz.strings_LastIndex ⟨⟨s⟩⟩ ⟨⟨c⟩⟩ (by simpa [ByteArray.size] using hc) w).mono fun e w' ⟨he, hb⟩ => ⟨_, he, hb ▸ Below.refl _ _, fun F G => .d (.int _ _)⟩
    · cases h
  · cases h
theorem xValid_ok (hw : StW w0) : XOK Tryz.prog w0 38 xValid := by
  intro ps R p R1 h F G w vs hH hl hv
  have hz : ∀ b, b < w0.heap.size → w.heap[b]? = w0.heap[b]? := fun b hb => (hH.z b hb).2
  unfold xValid at h
  split at h
  · rename_i s
    split at h
    · rename_i hc
      simp only [Option.some.injEq, Prod.mk.injEq] at h
      obtain ⟨rfl, rfl⟩ := h
      match vs, hl, hv with
      | [v], _, hv =>
        have e1 : v = .string ⟨⟨s⟩⟩ := strArg (hv 0 v _ rfl rfl)
        subst e1
        refine out_plain hH (enters Tryz.func38 (by kernel_rfl) (by kernel_rfl) _ w) ?_
        exact (Tryz.utf8_ValidString ⟨⟨s⟩⟩ w (by simpa [ByteArray.size] using hc) (utf8_keep hz hw.u8)).mono fun e w' ⟨he, hb⟩ => ⟨_, he, hb, fun F G => .d (.bool _)⟩
    · cases h
  · cases h
theorem xCount_ok : XOK Tryz.prog w0 39 xCount := by
  intro ps R p R1 h F G w vs hH hl hv
  unfold xCount at h
  split at h
  · rename_i s
    split at h
    · rename_i hc
      simp only [Option.some.injEq, Prod.mk.injEq] at h
      obtain ⟨rfl, rfl⟩ := h
      match vs, hl, hv with
      | [v], _, hv =>
        have e1 : v = .string ⟨⟨s⟩⟩ := strArg (hv 0 v _ rfl rfl)
        subst e1
        refine out_plain hH (enters Tryz.func39 (by kernel_rfl) (by kernel_rfl) _ w) ?_
        exact (Tryz.utf8_RuneCountInString ⟨⟨s⟩⟩ w (by simpa [ByteArray.size] using hc)).mono fun e w' ⟨he, pos, hb⟩ => ⟨_, he, by rw [hb]; exact (Below.refl _ _).alloc (Nat.le_refl _) _, fun F G => .d (.int _ _)⟩
    · cases h
  · cases h
theorem xB_ok (hw : StW w0) : CFOK Tryz.prog w0 xB := XAll.ok (.cons (xSplit_ok hw) (.cons (xAtoi_ok hw) (.cons (xItoa_ok hw) (.cons xTrim_ok (.cons (xCut_ok hw) (.cons xCutPrefix_ok (.cons xCheck_ok (.cons xStr_ok (.cons xLastIndex_ok (.cons (xValid_ok hw) (.cons xCount_ok .nil)))))))))))
end
end Pi

