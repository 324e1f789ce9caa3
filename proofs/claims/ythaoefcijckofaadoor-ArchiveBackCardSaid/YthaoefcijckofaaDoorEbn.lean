/- The texts X3Shelf XBld X3. -/
import Derived.Test.YthaoefcijckofaaDoorPiTold
import Derived.Shelf.LaysM
import Derived.Shelf.LaysC
import Derived.Shelf.Strings.OnBuilder
import Derived.Shelf.Strings.SlTrimAscii
import Derived.Shelf.Small.Wraps
import Derived.Shelf.Strconv.AtoiAll
import Derived.Shelf.Strconv.Itoa3
import Derived.Shelf.Strings.Cut
import Derived.Shelf.Strings.Split
import Derived.Shelf.Strings.LastIndexAll
import Derived.Shelf.Unicode.ValidAny
import Derived.Shelf.Utf8.RuneCount
import Derived.Test.YthaoefcijckofaaDoorProg
import Derived.KernelRfl
/- The library's contracts that are used: the print of the kit's lay-shelf and lay-plain, cut down. -/
namespace Go.Proofs
open Go.Shelf
def Tryd.lays169_ren : Go.Shelf.Ren := ⟨fun | 169 => 73 | n => n, fun | 70 => 85 | 9 => 9 | 0 => 0 | 72 => 88 | 37 => 86 | 127 => 115 | 3 => 3 | 5 => 5 | n => n, fun | n => n⟩
theorem Tryd.lays169 : Go.Proofs.Lays.n169 Tryd.prog Tryd.lays169_ren := {
  mixed := by kernel_rfl
  f169 := Tryd.func73.trans (congrArg some (by kernel_rfl))
  t0 := Tryd.underlying0
  a0 := Tryd.isAgg0
  z0 := Tryd.sizeOf0
  v0 := Tryd.zeroValue0
  t3 := Tryd.underlying3
  a3 := Tryd.isAgg3
  z3 := Tryd.sizeOf3
  v3 := Tryd.zeroValue3
  t9 := Tryd.underlying9
  a9 := Tryd.isAgg9
  z9 := Tryd.sizeOf9
  v9 := Tryd.zeroValue9
  t37 := Tryd.underlying86
  a37 := Tryd.isAgg86
  z37 := Tryd.sizeOf86
  v37 := Tryd.zeroValue86
  t70 := Tryd.underlying85
  a70 := Tryd.isAgg85
  z70 := Tryd.sizeOf85
  v70 := Tryd.zeroValue85
  t72 := Tryd.underlying88
  a72 := Tryd.isAgg88
  z72 := Tryd.sizeOf88
  v72 := Tryd.zeroValue88
  t127 := Tryd.underlying115
  a127 := Tryd.isAgg115
  z127 := Tryd.sizeOf115
  v127 := Tryd.zeroValue115 }
theorem Tryd.Builder_Extra_169 : Builder.Extra Tryd.prog Tryd.lays169_ren := {
  sizeBuilder := by kernel_rfl
  liesBuilder := by kernel_rfl
  t5 := Tryd.underlying5
  a5 := Tryd.isAgg5
  z5 := Tryd.sizeOf5
  v5 := Tryd.zeroValue5
  infoByte := by kernel_rfl
  cellsByte := by kernel_rfl
  sizeByte := by kernel_rfl
  neB5 := by decide }
open Go.RowKit in
/-- (*strings.Builder).String: "String returns the accumulated string.": OF A BUILDER THAT HOLDS AT LEAST ONE BYTE. ✋ THE MODEL FREEZES THOSE BYTES IN THE BUFFER (unsafe.String): a later write INTO them ends the model's run without an answer; a later append BEHIND them goes on. The statement's order of evaluation is drawn: one draw. (LAID: no walk: one application.) -/
theorem Tryd.Builder_String (B b : Nat) (l : List UInt8) (w : World) (h : Lib.IsBuilder 88 5 B b (Lib.byteCells l) w) (h0 : l ≠ []) :
    Calls Tryd.prog 73 #[.pointer (some ⟨b, 0, none⟩)] w fun e w' => e = .returned (.string ⟨l.toArray⟩) ∧ Below B w w' := Any.Builder_String Tryd.lays169 Tryd.Builder_Extra_169 B b l w h h0
def Tryd.lays156_ren : Go.Shelf.Ren := ⟨fun | 156 => 66 | 165 => 89 | 166 => 70 | 169 => 73 | 240 => 93 | 241 => 110 | 276 => 115 | 277 => 131 | n => n, fun | 31 => 47 | 9 => 9 | 3 => 3 | 4 => 4 | 0 => 0 | 20 => 20 | 72 => 88 | 76 => 65 | 70 => 85 | 37 => 86 | 75 => 64 | 127 => 115 | 164 => 134 | 5 => 5 | 80 => 92 | n => n, fun | n => n⟩
theorem Tryd.lays156 : Go.Proofs.Lays.n156 Tryd.prog Tryd.lays156_ren := {
  mixed := by kernel_rfl
  f156 := Tryd.func66.trans (congrArg some (by kernel_rfl))
  f165 := Tryd.func89.trans (congrArg some (by kernel_rfl))
  f166 := Tryd.func70.trans (congrArg some (by kernel_rfl))
  f169 := Tryd.func73.trans (congrArg some (by kernel_rfl))
  f240 := Tryd.func93.trans (congrArg some (by kernel_rfl))
  f241 := Tryd.func110.trans (congrArg some (by kernel_rfl))
  f276 := Tryd.func115.trans (congrArg some (by kernel_rfl))
  f277 := Tryd.func131.trans (congrArg some (by kernel_rfl))
  t0 := Tryd.underlying0
  a0 := Tryd.isAgg0
  z0 := Tryd.sizeOf0
  v0 := Tryd.zeroValue0
  t3 := Tryd.underlying3
  a3 := Tryd.isAgg3
  z3 := Tryd.sizeOf3
  v3 := Tryd.zeroValue3
  t4 := Tryd.underlying4
  a4 := Tryd.isAgg4
  z4 := Tryd.sizeOf4
  v4 := Tryd.zeroValue4
  t9 := Tryd.underlying9
  a9 := Tryd.isAgg9
  z9 := Tryd.sizeOf9
  v9 := Tryd.zeroValue9
  t20 := Tryd.underlying20
  a20 := Tryd.isAgg20
  z20 := Tryd.sizeOf20
  v20 := Tryd.zeroValue20
  t31 := Tryd.underlying47
  a31 := Tryd.isAgg47
  z31 := Tryd.sizeOf47
  v31 := Tryd.zeroValue47
  t37 := Tryd.underlying86
  a37 := Tryd.isAgg86
  z37 := Tryd.sizeOf86
  v37 := Tryd.zeroValue86
  t70 := Tryd.underlying85
  a70 := Tryd.isAgg85
  z70 := Tryd.sizeOf85
  v70 := Tryd.zeroValue85
  t72 := Tryd.underlying88
  a72 := Tryd.isAgg88
  z72 := Tryd.sizeOf88
  v72 := Tryd.zeroValue88
  t75 := Tryd.underlying64
  a75 := Tryd.isAgg64
  z75 := Tryd.sizeOf64
  v75 := Tryd.zeroValue64
  t76 := Tryd.underlying65
  a76 := Tryd.isAgg65
  z76 := Tryd.sizeOf65
  v76 := Tryd.zeroValue65
  t127 := Tryd.underlying115
  a127 := Tryd.isAgg115
  z127 := Tryd.sizeOf115
  v127 := Tryd.zeroValue115
  t164 := Tryd.underlying134
  a164 := Tryd.isAgg134
  z164 := Tryd.sizeOf134
  v164 := Tryd.zeroValue134 }
theorem Tryd.Builder_Extra_156 : Builder.Extra Tryd.prog Tryd.lays156_ren := {
  sizeBuilder := by kernel_rfl
  liesBuilder := by kernel_rfl
  t5 := Tryd.underlying5
  a5 := Tryd.isAgg5
  z5 := Tryd.sizeOf5
  v5 := Tryd.zeroValue5
  infoByte := by kernel_rfl
  cellsByte := by kernel_rfl
  sizeByte := by kernel_rfl
  neB5 := by decide }
open Go.RowKit in
/-- No element: the empty string; the world is as it was. (Whatever the slice's address and capacity: a nil slice too.) (LAID: no walk: one application.) -/
theorem Tryd.strings_Join_none (a : Option Addr) (c : Nat) (sep : ByteArray) (w : World) :
    Calls Tryd.prog 66 #[.slice a 0 c, .string sep] w fun e w' => e = .returned (.string ⟨#[]⟩) ∧ w' = w := Any.strings_Join_none Tryd.lays156 Tryd.Builder_Extra_156 a c sep w
open Go.RowKit in
/-- strings.Join: "Join concatenates the elements of its first argument to create a single string. The separator string sep is placed between elements in the resulting string.": HOWEVER MANY ELEMENTS. Below the heap's end the world is as it was. (LAID: no walk: one application.) -/
theorem Tryd.strings_Join (bk o c : Nat) (xs : List ByteArray) (sep : ByteArray) (w : World) (hcells : ∀ (j : Nat) x, xs[j]? = some x → w.cell? ⟨bk, o + j, none⟩ = some (.string x)) (hbk : bk < w.heap.size) (hN : xs.length ≤ 140737488355328) (hcap : xs.length ≤ c) (hlen : (Lib.join (xs.map (·.data.toList)) sep.data.toList).length ≤ 140737488355328) :
    Calls Tryd.prog 66 #[.slice (some ⟨bk, o, none⟩) xs.length c, .string sep] w fun e w' => e = .returned (.string ⟨(Lib.join (xs.map (·.data.toList)) sep.data.toList).toArray⟩) ∧ Below w.heap.size w w' := Any.strings_Join Tryd.lays156 Tryd.Builder_Extra_156 bk o c xs sep w hcells hbk hN hcap hlen
def Tryd.lays160_ren : Go.Shelf.Ren := ⟨fun | 160 => 63 | 232 => 81 | 231 => 80 | 227 => 82 | 234 => 84 | 233 => 83 | 236 => 86 | 235 => 85 | 228 => 104 | 271 => 107 | 151 => 106 | 197 => 105 | 120 => 126 | 152 => 125 | 260 => 124 | 137 => 141 | 119 => 142 | 224 => 129 | 225 => 128 | 217 => 127 | 266 => 143 | n => n, fun | 9 => 9 | 4 => 4 | 3 => 3 | 5 => 5 | 117 => 102 | 116 => 101 | 0 => 0 | 124 => 105 | 21 => 21 | 105 => 127 | 46 => 133 | 119 => 149 | 139 => 152 | 138 => 151 | n => n, fun | 3 => 3 | 4 => 4 | n => n⟩
theorem Tryd.lays160 : Go.Proofs.Lays.n160 Tryd.prog Tryd.lays160_ren := {
  mixed := by kernel_rfl
  f119 := Tryd.func142.trans (congrArg some (by kernel_rfl))
  f120 := Tryd.func126.trans (congrArg some (by kernel_rfl))
  f137 := Tryd.func141.trans (congrArg some (by kernel_rfl))
  f151 := Tryd.func106.trans (congrArg some (by kernel_rfl))
  f152 := Tryd.func125.trans (congrArg some (by kernel_rfl))
  f160 := Tryd.func63.trans (congrArg some (by kernel_rfl))
  f197 := Tryd.func105.trans (congrArg some (by kernel_rfl))
  f217 := Tryd.func127.trans (congrArg some (by kernel_rfl))
  f224 := Tryd.func129.trans (congrArg some (by kernel_rfl))
  f225 := Tryd.func128.trans (congrArg some (by kernel_rfl))
  f227 := Tryd.func82.trans (congrArg some (by kernel_rfl))
  f228 := Tryd.func104.trans (congrArg some (by kernel_rfl))
  f231 := Tryd.func80.trans (congrArg some (by kernel_rfl))
  f232 := Tryd.func81.trans (congrArg some (by kernel_rfl))
  f233 := Tryd.func83.trans (congrArg some (by kernel_rfl))
  f234 := Tryd.func84.trans (congrArg some (by kernel_rfl))
  f235 := Tryd.func85.trans (congrArg some (by kernel_rfl))
  f236 := Tryd.func86.trans (congrArg some (by kernel_rfl))
  f260 := Tryd.func124.trans (congrArg some (by kernel_rfl))
  f266 := Tryd.func143.trans (congrArg some (by kernel_rfl))
  f271 := Tryd.func107.trans (congrArg some (by kernel_rfl))
  t0 := Tryd.underlying0
  a0 := Tryd.isAgg0
  z0 := Tryd.sizeOf0
  v0 := Tryd.zeroValue0
  t3 := Tryd.underlying3
  a3 := Tryd.isAgg3
  z3 := Tryd.sizeOf3
  v3 := Tryd.zeroValue3
  t4 := Tryd.underlying4
  a4 := Tryd.isAgg4
  z4 := Tryd.sizeOf4
  v4 := Tryd.zeroValue4
  t5 := Tryd.underlying5
  a5 := Tryd.isAgg5
  z5 := Tryd.sizeOf5
  v5 := Tryd.zeroValue5
  t9 := Tryd.underlying9
  a9 := Tryd.isAgg9
  z9 := Tryd.sizeOf9
  v9 := Tryd.zeroValue9
  t21 := Tryd.underlying21
  a21 := Tryd.isAgg21
  z21 := Tryd.sizeOf21
  v21 := Tryd.zeroValue21
  t46 := Tryd.underlying133
  a46 := Tryd.isAgg133
  z46 := Tryd.sizeOf133
  v46 := Tryd.zeroValue133
  t105 := Tryd.underlying127
  a105 := Tryd.isAgg127
  z105 := Tryd.sizeOf127
  v105 := Tryd.zeroValue127
  t116 := Tryd.underlying101
  a116 := Tryd.isAgg101
  z116 := Tryd.sizeOf101
  t117 := Tryd.underlying102
  a117 := Tryd.isAgg102
  z117 := Tryd.sizeOf102
  v117 := Tryd.zeroValue102
  t119 := Tryd.underlying149
  a119 := Tryd.isAgg149
  z119 := Tryd.sizeOf149
  t124 := Tryd.underlying105
  a124 := Tryd.isAgg105
  z124 := Tryd.sizeOf105
  v124 := Tryd.zeroValue105
  t138 := Tryd.underlying151
  a138 := Tryd.isAgg151
  z138 := Tryd.sizeOf151
  v138 := Tryd.zeroValue151
  t139 := Tryd.underlying152
  a139 := Tryd.isAgg152
  z139 := Tryd.sizeOf152
  v139 := Tryd.zeroValue152
  g3 := by kernel_rfl
  g4 := by kernel_rfl }
open Go.RowKit in
/-- strings.Trim: "Trim returns a slice of the string s with all leading and trailing Unicode code points contained in cutset removed.": AT A cutset OF ONE ASCII BYTE. THE WORLD BEHIND IT: as it was, or (where s is not empty) with ONE DRAW MORE off the tape: the statement 'return trimLeftByte(trimRightByte(s, c), c)' draws its order of evaluation. (LAID: no walk: one application.) -/
theorem Tryd.strings_Trim_one (s : ByteArray) (c : UInt8) (hc : c.toNat < 128) (w : World) (hs : s.size ≤ 9223372036854775807) :
    Calls Tryd.prog 63 #[.string s, .string ⟨#[c]⟩] w fun e w' => e = .returned (.string ⟨(Lib.trimB s.data.toList c).toArray⟩) ∧ (w' = w ∨ w' = w.drew) := Any.strings_Trim_one Tryd.lays160 s c hc w hs
def Tryd.lays103_ren : Go.Shelf.Ren := ⟨fun | 103 => 65 | 210 => 88 | 206 => 109 | n => n, fun | 9 => 9 | 4 => 4 | 24 => 79 | 3 => 3 | n => n, fun | n => n⟩
theorem Tryd.lays103 : Go.Proofs.Lays.n103 Tryd.prog Tryd.lays103_ren := {
  mixed := by kernel_rfl
  f103 := Tryd.func65.trans (congrArg some (by kernel_rfl))
  f206 := Tryd.func109.trans (congrArg some (by kernel_rfl))
  f210 := Tryd.func88.trans (congrArg some (by kernel_rfl))
  t3 := Tryd.underlying3
  a3 := Tryd.isAgg3
  z3 := Tryd.sizeOf3
  v3 := Tryd.zeroValue3
  t4 := Tryd.underlying4
  a4 := Tryd.isAgg4
  z4 := Tryd.sizeOf4
  v4 := Tryd.zeroValue4
  t9 := Tryd.underlying9
  a9 := Tryd.isAgg9
  z9 := Tryd.sizeOf9
  v9 := Tryd.zeroValue9
  t24 := Tryd.underlying79
  a24 := Tryd.isAgg79
  z24 := Tryd.sizeOf79
  v24 := Tryd.zeroValue79 }
open Go.RowKit in
/-- strings.CutPrefix: "CutPrefix returns s without the provided leading prefix string and reports whether it found the prefix. If s doesn't start with prefix, CutPrefix returns s, false. If prefix is the empty string, CutPrefix returns s, true.": IT RETURNS '(Lib.trimPrefix s p, Lib.hasPrefix s p)'; the world is as it was. (LAID: no walk: one application.) -/
theorem Tryd.strings_CutPrefix (s p : ByteArray) (w : World) :
    Calls Tryd.prog 65 #[.string s, .string p] w fun e w' => e = .returned (.tuple #[.string ⟨(Lib.trimPrefix s.data.toList p.data.toList).toArray⟩, .bool (Lib.hasPrefix s.data.toList p.data.toList)]) ∧ w' = w := Any.strings_CutPrefix Tryd.lays103 s p w
def Tryd.lays195_ren : Go.Shelf.Ren := ⟨fun | 195 => 112 | n => n, fun | 9 => 9 | 3 => 3 | 0 => 0 | 4 => 4 | n => n, fun | n => n⟩
theorem Tryd.lays195 : Go.Proofs.Lays.n195 Tryd.prog Tryd.lays195_ren := {
  mixed := by kernel_rfl
  f195 := Tryd.func112.trans (congrArg some (by kernel_rfl))
  t0 := Tryd.underlying0
  a0 := Tryd.isAgg0
  z0 := Tryd.sizeOf0
  v0 := Tryd.zeroValue0
  t3 := Tryd.underlying3
  a3 := Tryd.isAgg3
  z3 := Tryd.sizeOf3
  v3 := Tryd.zeroValue3
  t4 := Tryd.underlying4
  a4 := Tryd.isAgg4
  z4 := Tryd.sizeOf4
  v4 := Tryd.zeroValue4
  t9 := Tryd.underlying9
  a9 := Tryd.isAgg9
  z9 := Tryd.sizeOf9
  v9 := Tryd.zeroValue9 }
open Go.RowKit in
/-- unicode/utf8.RuneCountInString: "RuneCountInString is like RuneCount but its input is a string." ("RuneCount returns the number of runes in p. Erroneous and short encodings are treated as single runes of width 1 byte."): EVERY STRING, valid UTF-8 or not: 'Lib.runeCount s' (plain Lean over the model's own 'Utf8.decode'; 'Lib.runeCount_le': at most len(s); 'Lib.runeCount_ascii': on ASCII: len(s)). THE ONE CONDITION: len(s) below 2^63 - 1 (the counter does not wrap): the form's reach pays it. THE WORLD BEHIND THE CALL: ONE BLOCK MORE: the model's iterator over s, at its end: all else as it was. (LAID: no walk: one application.) -/
theorem Tryd.utf8_RuneCountInString (s : ByteArray) (w : World) (hs : s.size < 9223372036854775807) :
    Calls Tryd.prog 112 #[.string s] w fun e w' => e = .returned (.int .i64 (Lib.runeCount s)) ∧ ∃ pos, w' = w.iter s pos := Any.utf8_RuneCountInString Tryd.lays195 s w hs
def Tryd.laysM171_ren : Go.Shelf.Ren := ⟨fun | 171 => 55 | 243 => 79 | 246 => 103 | 283 => 120 | 284 => 121 | 285 => 122 | 286 => 123 | 129 => 137 | 317 => 136 | 318 => 138 | 319 => 139 | 320 => 140 | 337 => 145 | 338 => 146 | n => n, fun | 3 => 3 | 9 => 9 | 2 => 2 | 4 => 4 | 171 => 141 | 0 => 0 | 53 => 114 | 37 => 86 | 5 => 5 | 173 => 144 | 212 => 161 | 51 => 153 | 20 => 20 | 213 => 162 | 46 => 133 | 232 => 167 | 233 => 168 | n => n, fun | 17 => 5 | 18 => 6 | 19 => 7 | n => n⟩
theorem Tryd.laysM171 : Go.Proofs.LaysM.n171 Tryd.prog Tryd.laysM171_ren := {
  mixed := by kernel_rfl
  f129 := Tryd.func137.trans (congrArg some (by kernel_rfl))
  f171 := Tryd.func55.trans (congrArg some (by kernel_rfl))
  f243 := Tryd.func79.trans (congrArg some (by kernel_rfl))
  f246 := Tryd.func103.trans (congrArg some (by kernel_rfl))
  f283 := Tryd.func120.trans (congrArg some (by kernel_rfl))
  f284 := Tryd.func121.trans (congrArg some (by kernel_rfl))
  f285 := Tryd.func122.trans (congrArg some (by kernel_rfl))
  f286 := Tryd.func123.trans (congrArg some (by kernel_rfl))
  f317 := Tryd.func136.trans (congrArg some (by kernel_rfl))
  f318 := Tryd.func138.trans (congrArg some (by kernel_rfl))
  f319 := Tryd.func139.trans (congrArg some (by kernel_rfl))
  f320 := Tryd.func140.trans (congrArg some (by kernel_rfl))
  f337 := Tryd.func145.trans (congrArg some (by kernel_rfl))
  f338 := Tryd.func146.trans (congrArg some (by kernel_rfl))
  t0 := Tryd.underlying0
  a0 := Tryd.isAgg0
  z0 := Tryd.sizeOf0
  v0 := Tryd.zeroValue0
  t2 := Tryd.underlying2
  a2 := Tryd.isAgg2
  z2 := Tryd.sizeOf2
  v2 := Tryd.zeroValue2
  t3 := Tryd.underlying3
  a3 := Tryd.isAgg3
  z3 := Tryd.sizeOf3
  v3 := Tryd.zeroValue3
  t4 := Tryd.underlying4
  a4 := Tryd.isAgg4
  z4 := Tryd.sizeOf4
  v4 := Tryd.zeroValue4
  t5 := Tryd.underlying5
  a5 := Tryd.isAgg5
  z5 := Tryd.sizeOf5
  v5 := Tryd.zeroValue5
  t9 := Tryd.underlying9
  a9 := Tryd.isAgg9
  z9 := Tryd.sizeOf9
  v9 := Tryd.zeroValue9
  t20 := Tryd.underlying20
  a20 := Tryd.isAgg20
  z20 := Tryd.sizeOf20
  v20 := Tryd.zeroValue20
  t37 := Tryd.underlying86
  a37 := Tryd.isAgg86
  z37 := Tryd.sizeOf86
  v37 := Tryd.zeroValue86
  t46 := Tryd.underlying133
  a46 := Tryd.isAgg133
  z46 := Tryd.sizeOf133
  v46 := Tryd.zeroValue133
  t51 := Tryd.underlying153
  a51 := Tryd.isAgg153
  z51 := Tryd.sizeOf153
  v51 := Tryd.zeroValue153
  t53 := Tryd.underlying114
  a53 := Tryd.isAgg114
  z53 := Tryd.sizeOf114
  v53 := Tryd.zeroValue114
  t171 := Tryd.underlying141
  a171 := Tryd.isAgg141
  z171 := Tryd.sizeOf141
  v171 := Tryd.zeroValue141
  t173 := Tryd.underlying144
  a173 := Tryd.isAgg144
  z173 := Tryd.sizeOf144
  v173 := Tryd.zeroValue144
  t212 := Tryd.underlying161
  a212 := Tryd.isAgg161
  z212 := Tryd.sizeOf161
  v212 := Tryd.zeroValue161
  t213 := Tryd.underlying162
  a213 := Tryd.isAgg162
  z213 := Tryd.sizeOf162
  t232 := Tryd.underlying167
  a232 := Tryd.isAgg167
  z232 := Tryd.sizeOf167
  v232 := Tryd.zeroValue167
  t233 := Tryd.underlying168
  a233 := Tryd.isAgg168
  z233 := Tryd.sizeOf168
  v233 := Tryd.zeroValue168
  g17 := by kernel_rfl
  g18 := by kernel_rfl
  g19 := by kernel_rfl
  i0 := by kernel_rfl
  i2 := by kernel_rfl
  i3 := by kernel_rfl
  i4 := by kernel_rfl
  i5 := by kernel_rfl
  i9 := by kernel_rfl
  i20 := by kernel_rfl
  i37 := by kernel_rfl
  i46 := by kernel_rfl
  i51 := by kernel_rfl
  i53 := by kernel_rfl
  i171 := by kernel_rfl
  i173 := by kernel_rfl
  i212 := by kernel_rfl
  i232 := by kernel_rfl
  i233 := by kernel_rfl
  m17 := by kernel_rfl
  m18 := by kernel_rfl
  m19 := by kernel_rfl }
open Go.RowKit Go.Sort Go.Lib in
/-- strconv.Itoa: "Itoa is equivalent to FormatInt(int64(i), 10).": i's DECIMAL NUMERAL ('Lib.itoa': a '-' where i is negative, then the digits), FOR EVERY int. The world behind the call: the world before it, new blocks behind the heap (the library's 'var a [24]byte'), draws. (LAID: no walk: one application.) -/
theorem Tryd.strconv_Itoa (n : Int) (h0 : -9223372036854775808 ≤ n) (h1 : n ≤ 9223372036854775807) (w : World) (htab : Lib.TabIs Tryd.prog w "internal/strconv.uint64pow10" .u64 Lib.pow10Tab) :
    Calls Tryd.prog 55 #[.int .i64 n] w fun e w' => e = .returned (.string ⟨(Lib.itoa n).toArray⟩) ∧ ∃ k os, w' = grow (w.drewN k) os := Any.strconv_Itoa Tryd.laysM171 n h0 h1 w htab
def Tryd.laysC172_ren : Go.Shelf.Ren := ⟨fun | 172 => 53 | 244 => 77 | 245 => 78 | 247 => 98 | 279 => 99 | 280 => 100 | 281 => 101 | 282 => 102 | 287 => 117 | 316 => 118 | 171 => 55 | 205 => 119 | 321 => 134 | 322 => 135 | 243 => 79 | 246 => 103 | 283 => 120 | 284 => 121 | 285 => 122 | 286 => 123 | 129 => 137 | 317 => 136 | 318 => 138 | 319 => 139 | 320 => 140 | 337 => 145 | 338 => 146 | n => n, fun | 9 => 9 | 3 => 3 | 75 => 64 | 76 => 65 | 4 => 4 | 5 => 5 | 167 => 119 | 37 => 86 | 0 => 0 | 85 => 120 | 2 => 2 | 168 => 122 | 53 => 114 | 175 => 136 | 46 => 133 | 210 => 139 | 127 => 115 | 145 => 159 | 143 => 157 | 21 => 21 | 171 => 141 | 173 => 144 | 212 => 161 | 51 => 153 | 20 => 20 | 213 => 162 | 232 => 167 | 233 => 168 | 80 => 92 | n => n, fun | 15 => 0 | 16 => 1 | 17 => 5 | 18 => 6 | 19 => 7 | n => n⟩
theorem Tryd.laysC172 : Go.Proofs.LaysC.n172 Tryd.prog Tryd.laysC172_ren := {
  mixed := by kernel_rfl
  f129 := Tryd.func137.trans (congrArg some (by kernel_rfl))
  f171 := Tryd.func55.trans (congrArg some (by kernel_rfl))
  f172 := Tryd.func53.trans (congrArg some (by kernel_rfl))
  f205 := Tryd.func119.trans (congrArg some (by kernel_rfl))
  f243 := Tryd.func79.trans (congrArg some (by kernel_rfl))
  f244 := Tryd.func77.trans (congrArg some (by kernel_rfl))
  f245 := Tryd.func78.trans (congrArg some (by kernel_rfl))
  f246 := Tryd.func103.trans (congrArg some (by kernel_rfl))
  f247 := Tryd.func98.trans (congrArg some (by kernel_rfl))
  f279 := Tryd.func99.trans (congrArg some (by kernel_rfl))
  f280 := Tryd.func100.trans (congrArg some (by kernel_rfl))
  f281 := Tryd.func101.trans (congrArg some (by kernel_rfl))
  f282 := Tryd.func102.trans (congrArg some (by kernel_rfl))
  f283 := Tryd.func120.trans (congrArg some (by kernel_rfl))
  f284 := Tryd.func121.trans (congrArg some (by kernel_rfl))
  f285 := Tryd.func122.trans (congrArg some (by kernel_rfl))
  f286 := Tryd.func123.trans (congrArg some (by kernel_rfl))
  f287 := Tryd.func117.trans (congrArg some (by kernel_rfl))
  f316 := Tryd.func118.trans (congrArg some (by kernel_rfl))
  f317 := Tryd.func136.trans (congrArg some (by kernel_rfl))
  f318 := Tryd.func138.trans (congrArg some (by kernel_rfl))
  f319 := Tryd.func139.trans (congrArg some (by kernel_rfl))
  f320 := Tryd.func140.trans (congrArg some (by kernel_rfl))
  f321 := Tryd.func134.trans (congrArg some (by kernel_rfl))
  f322 := Tryd.func135.trans (congrArg some (by kernel_rfl))
  f337 := Tryd.func145.trans (congrArg some (by kernel_rfl))
  f338 := Tryd.func146.trans (congrArg some (by kernel_rfl))
  t0 := Tryd.underlying0
  a0 := Tryd.isAgg0
  z0 := Tryd.sizeOf0
  v0 := Tryd.zeroValue0
  t2 := Tryd.underlying2
  a2 := Tryd.isAgg2
  z2 := Tryd.sizeOf2
  v2 := Tryd.zeroValue2
  t3 := Tryd.underlying3
  a3 := Tryd.isAgg3
  z3 := Tryd.sizeOf3
  v3 := Tryd.zeroValue3
  t4 := Tryd.underlying4
  a4 := Tryd.isAgg4
  z4 := Tryd.sizeOf4
  v4 := Tryd.zeroValue4
  t5 := Tryd.underlying5
  a5 := Tryd.isAgg5
  z5 := Tryd.sizeOf5
  v5 := Tryd.zeroValue5
  t9 := Tryd.underlying9
  a9 := Tryd.isAgg9
  z9 := Tryd.sizeOf9
  v9 := Tryd.zeroValue9
  t20 := Tryd.underlying20
  a20 := Tryd.isAgg20
  z20 := Tryd.sizeOf20
  v20 := Tryd.zeroValue20
  t21 := Tryd.underlying21
  a21 := Tryd.isAgg21
  z21 := Tryd.sizeOf21
  v21 := Tryd.zeroValue21
  t37 := Tryd.underlying86
  a37 := Tryd.isAgg86
  z37 := Tryd.sizeOf86
  v37 := Tryd.zeroValue86
  t46 := Tryd.underlying133
  a46 := Tryd.isAgg133
  z46 := Tryd.sizeOf133
  v46 := Tryd.zeroValue133
  t51 := Tryd.underlying153
  a51 := Tryd.isAgg153
  z51 := Tryd.sizeOf153
  v51 := Tryd.zeroValue153
  t53 := Tryd.underlying114
  a53 := Tryd.isAgg114
  z53 := Tryd.sizeOf114
  v53 := Tryd.zeroValue114
  t75 := Tryd.underlying64
  a75 := Tryd.isAgg64
  z75 := Tryd.sizeOf64
  v75 := Tryd.zeroValue64
  t76 := Tryd.underlying65
  a76 := Tryd.isAgg65
  z76 := Tryd.sizeOf65
  v76 := Tryd.zeroValue65
  t85 := Tryd.underlying120
  a85 := Tryd.isAgg120
  z85 := Tryd.sizeOf120
  v85 := Tryd.zeroValue120
  t127 := Tryd.underlying115
  a127 := Tryd.isAgg115
  z127 := Tryd.sizeOf115
  v127 := Tryd.zeroValue115
  t143 := Tryd.underlying157
  a143 := Tryd.isAgg157
  z143 := Tryd.sizeOf157
  v143 := Tryd.zeroValue157
  t145 := Tryd.underlying159
  a145 := Tryd.isAgg159
  z145 := Tryd.sizeOf159
  v145 := Tryd.zeroValue159
  t167 := Tryd.underlying119
  a167 := Tryd.isAgg119
  z167 := Tryd.sizeOf119
  v167 := Tryd.zeroValue119
  t168 := Tryd.underlying122
  a168 := Tryd.isAgg122
  z168 := Tryd.sizeOf122
  v168 := Tryd.zeroValue122
  t171 := Tryd.underlying141
  a171 := Tryd.isAgg141
  z171 := Tryd.sizeOf141
  v171 := Tryd.zeroValue141
  t173 := Tryd.underlying144
  a173 := Tryd.isAgg144
  z173 := Tryd.sizeOf144
  v173 := Tryd.zeroValue144
  t175 := Tryd.underlying136
  a175 := Tryd.isAgg136
  z175 := Tryd.sizeOf136
  v175 := Tryd.zeroValue136
  t210 := Tryd.underlying139
  a210 := Tryd.isAgg139
  z210 := Tryd.sizeOf139
  v210 := Tryd.zeroValue139
  t212 := Tryd.underlying161
  a212 := Tryd.isAgg161
  z212 := Tryd.sizeOf161
  v212 := Tryd.zeroValue161
  t213 := Tryd.underlying162
  a213 := Tryd.isAgg162
  z213 := Tryd.sizeOf162
  t232 := Tryd.underlying167
  a232 := Tryd.isAgg167
  z232 := Tryd.sizeOf167
  v232 := Tryd.zeroValue167
  t233 := Tryd.underlying168
  a233 := Tryd.isAgg168
  z233 := Tryd.sizeOf168
  v233 := Tryd.zeroValue168
  g15 := by kernel_rfl
  g16 := by kernel_rfl
  g17 := by kernel_rfl
  g18 := by kernel_rfl
  g19 := by kernel_rfl
  t80 := Tryd.underlying92
  a80 := Tryd.isAgg92
  z80 := Tryd.sizeOf92
  v80 := Tryd.zeroValue92
  i0 := by kernel_rfl
  i2 := by kernel_rfl
  i3 := by kernel_rfl
  i4 := by kernel_rfl
  i5 := by kernel_rfl
  i9 := by kernel_rfl
  i20 := by kernel_rfl
  i21 := by kernel_rfl
  i37 := by kernel_rfl
  i46 := by kernel_rfl
  i51 := by kernel_rfl
  i53 := by kernel_rfl
  i75 := by kernel_rfl
  i76 := by kernel_rfl
  i80 := by kernel_rfl
  i85 := by kernel_rfl
  i127 := by kernel_rfl
  i143 := by kernel_rfl
  i145 := by kernel_rfl
  i167 := by kernel_rfl
  i168 := by kernel_rfl
  i171 := by kernel_rfl
  i173 := by kernel_rfl
  i175 := by kernel_rfl
  i210 := by kernel_rfl
  i212 := by kernel_rfl
  i232 := by kernel_rfl
  i233 := by kernel_rfl
  m15 := by kernel_rfl
  m16 := by kernel_rfl
  m17 := by kernel_rfl
  m18 := by kernel_rfl
  m19 := by kernel_rfl
  c0 := by kernel_rfl
  c2 := by kernel_rfl
  c3 := by kernel_rfl
  c4 := by kernel_rfl
  c5 := by kernel_rfl
  c9 := by kernel_rfl
  c20 := by kernel_rfl
  c21 := by kernel_rfl
  c37 := by kernel_rfl
  c46 := by kernel_rfl
  c51 := by kernel_rfl
  c53 := by kernel_rfl
  c75 := by kernel_rfl
  c76 := by kernel_rfl
  c80 := by kernel_rfl
  c85 := by kernel_rfl
  c127 := by kernel_rfl
  c143 := by kernel_rfl
  c145 := by kernel_rfl
  c167 := by kernel_rfl
  c168 := by kernel_rfl
  c171 := by kernel_rfl
  c173 := by kernel_rfl
  c175 := by kernel_rfl
  c210 := by kernel_rfl
  c212 := by kernel_rfl
  c213 := by kernel_rfl
  c232 := by kernel_rfl
  c233 := by kernel_rfl }
open Go.RowKit in
/-- strconv.Atoi, AT EVERY STRING THAT SPELLS AN int ('Lib.atoiAll .. = .ok v'; of whatever length: leading zeros count): v, AND NO ERROR. The world: as it was, or with the one new row that '[]byte(..)' lays. (LAID: no walk: one application.) -/
theorem Tryd.strconv_Atoi_ok (s : ByteArray) (hmax : s.size ≤ 9223372036854775806) (v : Int) (h : Lib.atoiAll s.data.toList = .ok v) (w : World) :
    Calls Tryd.prog 53 #[.string s] w fun e w' => e = .returned (.tuple #[.int .i64 v, .nilIface]) ∧ (w' = w ∨ ∃ t, w' = Lib.bytesWorld w 5 t) := Any.strconv_Atoi_ok Tryd.laysC172 s hmax v h w
open Go.RowKit in
/-- strconv.Atoi, AT EVERY STRING THAT IS NO DECIMAL NUMERAL ('.syntax'): 0, AND AN ERROR THAT IS NOT nil: a *NumError in a new block N: {Func: "Atoi", Num: s's bytes, Err: what the variable ErrSyntax holds}. Of what was there nothing has turned. (LAID: no walk: one application.) -/
theorem Tryd.strconv_Atoi_syntax (s : ByteArray) (hlim : s.size ≤ 281474976710656) (h : (∀ v, Lib.atoiAll s.data.toList ≠ .ok v) ∧ Lib.atoiAll s.data.toList ≠ .range) (ev : Value) (w : World) (hv : w.cell? ⟨0, 0, none⟩ = some ev) (hev : ev = .nilIface ∨ ∃ te pe, ev = .iface te pe) :
    Calls Tryd.prog 53 #[.string s] w fun e w' => ∃ N, e = .returned (.tuple #[.int .i64 (0), .iface 122 (.pointer (some ⟨N, 0, none⟩))]) ∧ w.heap.size ≤ N ∧ w'.heap[N]? = some (.cells #[.string ⟨#[65, 116, 111, 105]⟩, .string s, ev] 139 (0, 0)) ∧ Below w.heap.size w w' := Any.strconv_Atoi_syntax Tryd.laysC172 s hlim (by cases e : Lib.atoiAll s.data.toList with | ok v => exact absurd e (h.1 v) | range => exact absurd e h.2 | _ => rfl) ev w hv hev
open Go.RowKit in
/-- strconv.Atoi, AT EVERY NUMERAL THAT NO int HOLDS ('.range'): THE GREATEST OR THE LEAST int, BY THE SIGN ('Lib.atoiSat'), AND AN ERROR THAT IS NOT nil: a *NumError in a new block N: {Func: "Atoi", Num: s's bytes, Err: what the variable ErrRange holds}. Of what was there nothing has turned. (LAID: no walk: one application.) -/
theorem Tryd.strconv_Atoi_range (s : ByteArray) (hlim : s.size ≤ 281474976710656) (h : Lib.atoiAll s.data.toList = .range) (ev : Value) (w : World) (hv : w.cell? ⟨1, 0, none⟩ = some ev) (hev : ev = .nilIface ∨ ∃ te pe, ev = .iface te pe) :
    Calls Tryd.prog 53 #[.string s] w fun e w' => ∃ N, e = .returned (.tuple #[.int .i64 (Lib.atoiSat s.data.toList), .iface 122 (.pointer (some ⟨N, 0, none⟩))]) ∧ w.heap.size ≤ N ∧ w'.heap[N]? = some (.cells #[.string ⟨#[65, 116, 111, 105]⟩, .string s, ev] 139 (0, 0)) ∧ Below w.heap.size w w' := Any.strconv_Atoi_range Tryd.laysC172 s hlim h ev w hv hev
def Tryd.lays145_ren : Go.Shelf.Ren := ⟨fun | 145 => 64 | 220 => 87 | 219 => 108 | 217 => 127 | 225 => 128 | 224 => 129 | 267 => 130 | 266 => 143 | 314 => 144 | n => n, fun | 9 => 9 | 4 => 4 | 59 => 77 | 3 => 3 | 5 => 5 | 46 => 133 | 146 => 154 | 51 => 153 | n => n, fun | 1 => 2 | n => n⟩
theorem Tryd.lays145 : Go.Proofs.Lays.n145 Tryd.prog Tryd.lays145_ren := {
  mixed := by kernel_rfl
  f145 := Tryd.func64.trans (congrArg some (by kernel_rfl))
  f217 := Tryd.func127.trans (congrArg some (by kernel_rfl))
  f219 := Tryd.func108.trans (congrArg some (by kernel_rfl))
  f220 := Tryd.func87.trans (congrArg some (by kernel_rfl))
  f224 := Tryd.func129.trans (congrArg some (by kernel_rfl))
  f225 := Tryd.func128.trans (congrArg some (by kernel_rfl))
  f266 := Tryd.func143.trans (congrArg some (by kernel_rfl))
  f267 := Tryd.func130.trans (congrArg some (by kernel_rfl))
  f314 := Tryd.func144.trans (congrArg some (by kernel_rfl))
  t3 := Tryd.underlying3
  a3 := Tryd.isAgg3
  z3 := Tryd.sizeOf3
  v3 := Tryd.zeroValue3
  t4 := Tryd.underlying4
  a4 := Tryd.isAgg4
  z4 := Tryd.sizeOf4
  v4 := Tryd.zeroValue4
  t5 := Tryd.underlying5
  a5 := Tryd.isAgg5
  z5 := Tryd.sizeOf5
  v5 := Tryd.zeroValue5
  t9 := Tryd.underlying9
  a9 := Tryd.isAgg9
  z9 := Tryd.sizeOf9
  v9 := Tryd.zeroValue9
  t46 := Tryd.underlying133
  a46 := Tryd.isAgg133
  z46 := Tryd.sizeOf133
  v46 := Tryd.zeroValue133
  t51 := Tryd.underlying153
  a51 := Tryd.isAgg153
  z51 := Tryd.sizeOf153
  v51 := Tryd.zeroValue153
  t59 := Tryd.underlying77
  a59 := Tryd.isAgg77
  z59 := Tryd.sizeOf77
  v59 := Tryd.zeroValue77
  t146 := Tryd.underlying154
  a146 := Tryd.isAgg154
  z146 := Tryd.sizeOf154
  v146 := Tryd.zeroValue154
  g1 := by kernel_rfl }
open Go.RowKit Go.Lib in
/-- strings.Cut: "Cut slices s around the first instance of sep, returning the text before and after sep. The found result reports whether sep appears in s. If sep does not appear in s, cut returns s, "", false.": IT RETURNS 'Lib.cut s sep'; the world is as it was but for the count of draws. (LAID: no walk: one application.) -/
theorem Tryd.strings_Cut (s sep : ByteArray) (m : Int) (w : World) (hs : s.size < 4294967281) (hm : w.cell? ⟨2, 0, none⟩ = some (.int .i64 m)) :
    Calls Tryd.prog 64 #[.string s, .string sep] w fun e w' => e = .returned (.tuple #[.string ⟨(Lib.cut s.data.toList sep.data.toList).1.toArray⟩, .string ⟨(Lib.cut s.data.toList sep.data.toList).2.1.toArray⟩, .bool (Lib.cut s.data.toList sep.data.toList).2.2]) ∧ ∃ n, w' = w.drewN n := Any.strings_Cut Tryd.lays145 s sep m w hs hm
def Tryd.lays148_ren : Go.Shelf.Ren := ⟨fun | 148 => 91 | 222 => 113 | 223 => 114 | 269 => 133 | n => n, fun | 9 => 9 | 3 => 3 | 4 => 4 | 5 => 5 | 146 => 154 | 51 => 153 | 46 => 133 | n => n, fun | n => n⟩
theorem Tryd.lays148 : Go.Proofs.Lays.n148 Tryd.prog Tryd.lays148_ren := {
  mixed := by kernel_rfl
  f148 := Tryd.func91.trans (congrArg some (by kernel_rfl))
  f222 := Tryd.func113.trans (congrArg some (by kernel_rfl))
  f223 := Tryd.func114.trans (congrArg some (by kernel_rfl))
  f269 := Tryd.func133.trans (congrArg some (by kernel_rfl))
  t3 := Tryd.underlying3
  a3 := Tryd.isAgg3
  z3 := Tryd.sizeOf3
  v3 := Tryd.zeroValue3
  t4 := Tryd.underlying4
  a4 := Tryd.isAgg4
  z4 := Tryd.sizeOf4
  v4 := Tryd.zeroValue4
  t5 := Tryd.underlying5
  a5 := Tryd.isAgg5
  z5 := Tryd.sizeOf5
  v5 := Tryd.zeroValue5
  t9 := Tryd.underlying9
  a9 := Tryd.isAgg9
  z9 := Tryd.sizeOf9
  v9 := Tryd.zeroValue9
  t46 := Tryd.underlying133
  a46 := Tryd.isAgg133
  z46 := Tryd.sizeOf133
  v46 := Tryd.zeroValue133
  t51 := Tryd.underlying153
  a51 := Tryd.isAgg153
  z51 := Tryd.sizeOf153
  v51 := Tryd.zeroValue153
  t146 := Tryd.underlying154
  a146 := Tryd.isAgg154
  z146 := Tryd.sizeOf154
  v146 := Tryd.zeroValue154 }
open Go.RowKit Go.Lib in
/-- strings.LastIndex: "LastIndex returns the index of the last instance of substr in s, or -1 if substr is not present in s.": AT A substr OF WHATEVER LENGTH. (LAID: no walk: one application.) -/
theorem Tryd.strings_LastIndex (s sub : ByteArray) (hs : s.size < 4611686018427387904) (w : World) :
    Calls Tryd.prog 91 #[.string s, .string sub] w fun e w' => e = .returned (.int .i64 (Lib.lastIndex s.data.toList sub.data.toList)) ∧ w' = w := Any.strings_LastIndex Tryd.lays148 s sub hs w
def Tryd.lays146_ren : Go.Shelf.Ren := ⟨fun | 146 => 52 | 221 => 76 | 268 => 95 | 138 => 96 | 143 => 97 | 195 => 112 | 197 => 105 | 218 => 116 | 219 => 108 | 260 => 124 | 217 => 127 | 225 => 128 | 224 => 129 | 267 => 130 | 266 => 143 | 314 => 144 | n => n, fun | 9 => 9 | 31 => 47 | 3 => 3 | 4 => 4 | 0 => 0 | 105 => 127 | 21 => 21 | 5 => 5 | 46 => 133 | 119 => 149 | 139 => 152 | 138 => 151 | 146 => 154 | 51 => 153 | n => n, fun | 1 => 2 | 3 => 3 | 4 => 4 | n => n⟩
theorem Tryd.lays146 : Go.Proofs.Lays.n146 Tryd.prog Tryd.lays146_ren := {
  mixed := by kernel_rfl
  f138 := Tryd.func96.trans (congrArg some (by kernel_rfl))
  f143 := Tryd.func97.trans (congrArg some (by kernel_rfl))
  f146 := Tryd.func52.trans (congrArg some (by kernel_rfl))
  f195 := Tryd.func112.trans (congrArg some (by kernel_rfl))
  f197 := Tryd.func105.trans (congrArg some (by kernel_rfl))
  f217 := Tryd.func127.trans (congrArg some (by kernel_rfl))
  f218 := Tryd.func116.trans (congrArg some (by kernel_rfl))
  f219 := Tryd.func108.trans (congrArg some (by kernel_rfl))
  f221 := Tryd.func76.trans (congrArg some (by kernel_rfl))
  f224 := Tryd.func129.trans (congrArg some (by kernel_rfl))
  f225 := Tryd.func128.trans (congrArg some (by kernel_rfl))
  f260 := Tryd.func124.trans (congrArg some (by kernel_rfl))
  f266 := Tryd.func143.trans (congrArg some (by kernel_rfl))
  f267 := Tryd.func130.trans (congrArg some (by kernel_rfl))
  f268 := Tryd.func95.trans (congrArg some (by kernel_rfl))
  f314 := Tryd.func144.trans (congrArg some (by kernel_rfl))
  t0 := Tryd.underlying0
  a0 := Tryd.isAgg0
  z0 := Tryd.sizeOf0
  v0 := Tryd.zeroValue0
  t3 := Tryd.underlying3
  a3 := Tryd.isAgg3
  z3 := Tryd.sizeOf3
  v3 := Tryd.zeroValue3
  t4 := Tryd.underlying4
  a4 := Tryd.isAgg4
  z4 := Tryd.sizeOf4
  v4 := Tryd.zeroValue4
  t5 := Tryd.underlying5
  a5 := Tryd.isAgg5
  z5 := Tryd.sizeOf5
  v5 := Tryd.zeroValue5
  t9 := Tryd.underlying9
  a9 := Tryd.isAgg9
  z9 := Tryd.sizeOf9
  v9 := Tryd.zeroValue9
  t21 := Tryd.underlying21
  a21 := Tryd.isAgg21
  z21 := Tryd.sizeOf21
  v21 := Tryd.zeroValue21
  t31 := Tryd.underlying47
  a31 := Tryd.isAgg47
  z31 := Tryd.sizeOf47
  v31 := Tryd.zeroValue47
  t46 := Tryd.underlying133
  a46 := Tryd.isAgg133
  z46 := Tryd.sizeOf133
  v46 := Tryd.zeroValue133
  t51 := Tryd.underlying153
  a51 := Tryd.isAgg153
  z51 := Tryd.sizeOf153
  v51 := Tryd.zeroValue153
  t105 := Tryd.underlying127
  a105 := Tryd.isAgg127
  z105 := Tryd.sizeOf127
  v105 := Tryd.zeroValue127
  t119 := Tryd.underlying149
  a119 := Tryd.isAgg149
  z119 := Tryd.sizeOf149
  t138 := Tryd.underlying151
  a138 := Tryd.isAgg151
  z138 := Tryd.sizeOf151
  v138 := Tryd.zeroValue151
  t139 := Tryd.underlying152
  a139 := Tryd.isAgg152
  z139 := Tryd.sizeOf152
  v139 := Tryd.zeroValue152
  t146 := Tryd.underlying154
  a146 := Tryd.isAgg154
  z146 := Tryd.sizeOf154
  v146 := Tryd.zeroValue154
  g1 := by kernel_rfl
  g3 := by kernel_rfl
  g4 := by kernel_rfl }
open Go.RowKit Go.Lib in
/-- strings.Split. (LAID: no walk: one application.) -/
theorem Tryd.strings_Split (s sep : ByteArray) (m : Int) (w : World) (hs : s.size < 4294967281) (hm : w.cell? ⟨2, 0, none⟩ = some (.int .i64 m)) (h1 : 1 ≤ sep.size) :
    Calls Tryd.prog 52 #[.string s, .string sep] w fun e w' =>
      e = .returned (.slice (some ⟨w.heap.size, 0, none⟩) (Lib.countB s sep + 1) (Lib.countB s sep + 1)) ∧ w' = w.alloc (.cells ((Lib.splitB sep 0 (Lib.countB s sep) s).map Value.string).toArray 9) := Any.strings_Split Tryd.lays146 (by kernel_rfl) s sep m w hs hm h1
def Tryd.lays196_ren : Go.Shelf.Ren := ⟨fun | 196 => 111 | 259 => 132 | n => n, fun | 9 => 9 | 4 => 4 | 3 => 3 | 5 => 5 | 12 => 12 | 119 => 149 | 0 => 0 | 46 => 133 | 139 => 152 | 138 => 151 | 53 => 114 | n => n, fun | 3 => 3 | 4 => 4 | n => n⟩
theorem Tryd.lays196 : Go.Proofs.Lays.n196 Tryd.prog Tryd.lays196_ren := {
  mixed := by kernel_rfl
  f196 := Tryd.func111.trans (congrArg some (by kernel_rfl))
  f259 := Tryd.func132.trans (congrArg some (by kernel_rfl))
  t0 := Tryd.underlying0
  a0 := Tryd.isAgg0
  z0 := Tryd.sizeOf0
  v0 := Tryd.zeroValue0
  t3 := Tryd.underlying3
  a3 := Tryd.isAgg3
  z3 := Tryd.sizeOf3
  v3 := Tryd.zeroValue3
  t4 := Tryd.underlying4
  a4 := Tryd.isAgg4
  z4 := Tryd.sizeOf4
  v4 := Tryd.zeroValue4
  t5 := Tryd.underlying5
  a5 := Tryd.isAgg5
  z5 := Tryd.sizeOf5
  v5 := Tryd.zeroValue5
  t9 := Tryd.underlying9
  a9 := Tryd.isAgg9
  z9 := Tryd.sizeOf9
  v9 := Tryd.zeroValue9
  t12 := Tryd.underlying12
  a12 := Tryd.isAgg12
  z12 := Tryd.sizeOf12
  v12 := Tryd.zeroValue12
  t46 := Tryd.underlying133
  a46 := Tryd.isAgg133
  z46 := Tryd.sizeOf133
  v46 := Tryd.zeroValue133
  t53 := Tryd.underlying114
  a53 := Tryd.isAgg114
  z53 := Tryd.sizeOf114
  v53 := Tryd.zeroValue114
  t119 := Tryd.underlying149
  a119 := Tryd.isAgg149
  z119 := Tryd.sizeOf149
  t138 := Tryd.underlying151
  a138 := Tryd.isAgg151
  z138 := Tryd.sizeOf151
  v138 := Tryd.zeroValue151
  t139 := Tryd.underlying152
  a139 := Tryd.isAgg152
  z139 := Tryd.sizeOf152
  v139 := Tryd.zeroValue152
  g3 := by kernel_rfl
  g4 := by kernel_rfl }
open Go.RowKit in
/-- unicode/utf8.ValidString. -/
theorem Tryd.utf8_ValidString (s : ByteArray) (w : World) (hs : s.size ≤ 9223372036854775807) (hT : Lib.Utf8Tabs 3 4 w) :
    Calls Tryd.prog 111 #[.string s] w fun e w' => e = .returned (.bool (Lib.validD s.data.toList)) ∧ Below w.heap.size w w' := Any.utf8_ValidString Tryd.lays196 s w hs hT
end Go.Proofs

/- Told: the functions of strings.Builder that the interpreter cannot run. -/
namespace Pi
open Go Go.Proofs Go.RowKit Go.Shelf

def u8s : List D → Option (List UInt8)
  | [] => some []
  | .int .u8 n :: r => if 0 ≤ n ∧ n < 256 then (match u8s r with | some l => some (UInt8.ofNat n.toNat :: l) | none => none) else none
  | _ => none
theorem u8s_map : ∀ l : List UInt8, u8s (l.map fun b => D.int .u8 (b.toNat : Int)) = some l
  | [] => rfl
  | b :: l => by
    have hb := b.toNat_lt
    simp only [List.map_cons, u8s, u8s_map l]
    rw [if_pos ⟨by omega, by omega⟩]
    simp
theorem u8s_spec : ∀ (es : List D) (l : List UInt8), u8s es = some l → es = l.map fun b => D.int .u8 (b.toNat : Int)
  | [], l, h => by simp [u8s] at h; subst h; rfl
  | x :: r, l, h => by
    unfold u8s at h
    split at h
    · rename_i heq; cases heq
    · rename_i n r' heq
      simp only [List.cons.injEq] at heq
      obtain ⟨rfl, rfl⟩ := heq
      split at h
      · rename_i hn
        split at h
        · rename_i l' hl
          simp at h
          subst h
          rw [u8s_spec r l' hl]
          simp only [List.map_cons, List.cons.injEq, and_true]
          congr 1
          simp only [UInt8.toNat_ofNat']
          omega
        · cases h
      · cases h
    · cases h

def xCheck : TF
  | [.ref 0 v 0], R => match lk R 0 with
    | some e => if Nat.beq e.ver v then (match e.obj with
      | .box 88 [.d .nilp, x] => some (.tup [], ins 0 ⟨e.ver, e.tag, .box 88 [.ref 0 v 0, x]⟩ R)
      | .box 88 [.ref 0 v' 0, _] => if Nat.beq v' v then some (.tup [], R) else none
      | _ => none) else none
    | none => none
  | _, _ => none
def xStr : TF
  | [.ref 0 v 0], R => match lk R 0 with
    | some e => if Nat.beq e.ver v then (match e.obj with
      | .box 88 [_, .d .nils] => some (.d (.str []), R)
      | .box 88 [_, .sl m vm len] => (match lk R m with
        | some em => if Nat.beq em.ver vm then (match em.obj with
          | .arr 5 false es => (match u8s (es.take len) with
            | some l => if Nat.beq l.length len && Nat.blt 0 len then some (.d (.str l), ins m ⟨em.ver, em.tag, .gone⟩ R) else none
            | none => none)
          | _ => none) else none
        | none => none)
      | _ => none) else none
    | none => none
  | _, _ => none
section
variable {w0 : World}
theorem tup_nil {F : Nat → Prop} {w : World} {G : Nat → Value} {R : List (Nat × En)} : PRep F w G R (.tuple #[]) (.tup []) := .tup [] [] rfl (fun i v c hv => by simp at hv)

theorem cell_of_cells {w : World} {b : Nat} {cs : Array Value} {T : TypeId} {fr : Nat × Nat} (h : w.heap[b]? = some (.cells cs T fr)) (i : Nat) : w.cell? ⟨b, i, none⟩ = cs[i]? := by
  simp [World.cell?, h]

theorem setCell_heap {w : World} {b : Nat} {cs : Array Value} {T : TypeId} {fr : Nat × Nat} (h : w.heap[b]? = some (.cells cs T fr)) (i : Nat) (v : Value) : (w.setCell ⟨b, i, none⟩ v).heap[b]? = some (.cells (cs.setIfInBounds i v) T fr) := by
  simp [World.setCell, Array.getElem?_modify, h]
theorem setCell_other {w : World} {b c i : Nat} (h : c ≠ b) (v : Value) : (w.setCell ⟨b, i, none⟩ v).heap[c]? = w.heap[c]? := by
  simp [World.setCell, Array.getElem?_modify, Ne.symm h]

theorem get_getD {cs : Array Value} {i : Nat} (h : i < cs.size) : cs[i]? = some (cs.getD i undef) := by
  simp [Array.getD_eq_getD_getElem?, h]
theorem xCheck_ok : XOK Tryd.prog w0 93 xCheck := by
  intro ps R p R1 h F G w vs hH hl hv
  unfold xCheck at h
  split at h
  · rename_i v
    match vs, hl, hv with
    | [u], _, hv =>
      have hp := hv 0 u _ rfl rfl
      split at h
      · rename_i e he
        split at h
        · rename_i hver
          have hver := Nat.eq_of_beq_eq_true hver
          have hO := hH.rg 0 e he
          cases hp with
          | ref _ _ _ _ hr h1 =>
            split at h
            · rename_i x heo
              rw [heo] at hO
              obtain ⟨b, hG, rfl⟩ := hr.at he hver (by rw [heo]; rfl)
              obtain ⟨b', cs, hG', hh, hsz, hone, hps⟩ := hO
              rw [hG] at hG'
              simp at hG'
              subst hG'
              simp only [Option.some.injEq, Prod.mk.injEq] at h
              obtain ⟨rfl, rfl⟩ := h
              have c0 : cs[0]? = some (.pointer none) := by
                have hs0 : 0 < cs.size := by rw [hsz]; simp
                have := hps 0 _ rfl
                rw [get_getD hs0]
                generalize cs.getD 0 undef = c at this
                cases this with
                | d hd => exact congrArg some (hd.toVc rfl)
              have hblt : b < w.heap.size := (Array.getElem?_eq_some_iff.1 hh).1
              have hcall := Any.Builder_copyCheck_fresh (P := Tryd.prog) (ρ := Tryd.lays156_ren) { Tryd.lays156 with } Tryd.Builder_Extra_156.toX72 b w (by rw [cell_of_cells hh]; exact c0) (by simp [World.shape?, hh, hsz]; rfl) (by simp [World.frozen?, hh])
              refine .inl ⟨enters Tryd.func93 (by kernel_rfl) (by kernel_rfl) _ w, hcall.mono fun e' w' ⟨he', hw'⟩ => ⟨_, he', F, G, ?_⟩⟩
              subst hw'
              have hnew : NewAt G R 0 ⟨e.ver, e.tag, .box 88 [.ref 0 v 0, x]⟩ (G 0) := fun e1 he1 => by rw [he] at he1; cases he1; exact .inr ⟨rfl, fun _ => ⟨by rw [heo]; rfl, rfl⟩⟩
              have hnames := names_upd hnew
              rw [upd_self] at hnames
              have hnF : ¬ F b := hH.fre 0 e b he (by rw [heo]; simp [ownB, hG, blockOf])
              have hF : ∀ c, F c → (w.setCell ⟨b, 0, none⟩ (.pointer (some ⟨b, 0, none⟩))).heap[c]? = w.heap[c]? := fun c hc => setCell_other (fun e => hnF (by rw [← e]; exact hc)) _
              obtain ⟨d1, d2⟩ := SRel.upd hH (e1 := ⟨e.ver, e.tag, .box 88 [.ref 0 v 0, x]⟩) (g1 := G 0) (w' := w.setCell ⟨b, 0, none⟩ (.pointer (some ⟨b, 0, none⟩))) hnew
                (fun c hc hno => setCell_other (fun e' => hno ⟨e, he, by rw [e', heo]; simp [ownB, hG, blockOf]⟩) _) (by simp [World.setCell]) rfl rfl rfl
                (fun c hc => .inr ⟨e, he, by rw [heo]; exact hc⟩)
                (by
                  rw [upd_self]
                  refine ⟨b, _, hG, setCell_heap hh 0 _, by simpa using hsz, ?_, ?_⟩
                  · intro c hc
                    obtain ⟨i, hi⟩ := List.mem_iff_getElem?.1 hc
                    rw [Array.getElem?_toList, Array.getElem?_setIfInBounds] at hi
                    split at hi
                    · simp at hi; obtain ⟨_, rfl⟩ := hi; rfl
                    · exact hone c (List.mem_iff_getElem?.2 ⟨i, by rw [Array.getElem?_toList]; exact hi⟩)
                  · intro i p hp
                    match i with
                    | 0 =>
                      simp at hp
                      subst hp
                      have e0 : (cs.setIfInBounds 0 (.pointer (some ⟨b, 0, none⟩))).getD 0 undef = .pointer (some ⟨b, 0, none⟩) := by
                        have hs0 : 0 < cs.size := by rw [hsz]; simp
                        simp [Array.getD_eq_getD_getElem?, hs0]
                      rw [e0]
                      exact .ref 0 v 0 _ ⟨_, lk_ins_same _ _ _, by rw [hver]; exact Nat.le_refl _, fun _ _ => ⟨b, hG, rfl⟩⟩ rfl
                    | 1 =>
                      simp at hp
                      subst hp
                      have e1 : (cs.setIfInBounds 0 (.pointer (some ⟨b, 0, none⟩))).getD 1 undef = cs.getD 1 undef := by
                        simp [Array.getD_eq_getD_getElem?]
                      rw [e1]
                      exact (hps 1 x rfl).mono (fun _ h => h) hF hnames
                    | i + 2 => simp at hp)
                (fun i hi hl => hH.tag 0 e i he hi (by rw [heo]; rfl))
              rw [upd_self] at d1 d2
              exact ⟨d1, tup_nil, d2⟩
            · rename_i v' x heo
              split at h
              · rename_i hv'
                have hv' := Nat.eq_of_beq_eq_true hv'
                subst hv'
                rw [heo] at hO
                obtain ⟨b, hG, rfl⟩ := hr.at he hver (by rw [heo]; rfl)
                obtain ⟨b', cs, hG', hh, hsz, hone, hps⟩ := hO
                rw [hG] at hG'
                simp at hG'
                subst hG'
                simp only [Option.some.injEq, Prod.mk.injEq] at h
                obtain ⟨rfl, rfl⟩ := h
                have c0 : cs[0]? = some (.pointer (some ⟨b, 0, none⟩)) := by
                  have hs0 : 0 < cs.size := by rw [hsz]; simp
                  have := hps 0 _ rfl
                  rw [get_getD hs0]
                  generalize cs.getD 0 undef = c at this
                  cases this with
                  | ref _ _ _ _ hr2 _ =>
                    obtain ⟨b2, hG2, rfl⟩ := hr2.at he hver (by rw [heo]; rfl)
                    rw [hG] at hG2
                    simp at hG2
                    subst hG2
                    rfl
                have hcall := Any.Builder_copyCheck_used (P := Tryd.prog) (ρ := Tryd.lays156_ren) { Tryd.lays156 with } Tryd.Builder_Extra_156.toX72 b w (by rw [cell_of_cells hh]; exact c0)
                refine .inl ⟨enters Tryd.func93 (by kernel_rfl) (by kernel_rfl) _ w, hcall.mono fun e' w' ⟨he', hw'⟩ => ⟨_, he', F, G, ?_⟩⟩
                subst hw'
                exact ⟨hH, tup_nil, Ext.refl _ _ _⟩
              · cases h
            · cases h
        · cases h
      · cases h
  · cases h

theorem freeze_heap {w : World} {g c n : Nat} (h : c ≠ g) : (w.freeze ⟨g, 0, none⟩ n).heap[c]? = w.heap[c]? := by
  unfold World.freeze
  split
  · rfl
  · simp [Array.getElem?_modify, Ne.symm h]
theorem freeze_size {w : World} {g n : Nat} : (w.freeze ⟨g, 0, none⟩ n).heap.size = w.heap.size := by
  unfold World.freeze
  split
  · rfl
  · simp

set_option maxHeartbeats 2000000 in
set_option maxRecDepth 100000 in
/-- String of a builder that holds a byte at least; the world behind it. -/
theorem str_row (b g cap len : Nat) (p : Value) (cur : Array Value) (l : List UInt8) (w : World) (hbk : w.heap[b]? = some (.cells #[p, .slice (some ⟨g, 0, none⟩) len cap] 88 (0, 0))) (hg : w.heap[g]? = some (.cells cur 5 (0, 0)))
    (h0 : l ≠ []) (hlen : l.length = len) (hcap : len ≤ cap) (hcm : cap ≤ maxLen) (hcs : cap ≤ cur.size) (hb : ∀ (j : Nat) (x : UInt8), l[j]? = some x → cur[j]? = some (Value.int IntKind.u8 (x.toNat : Int))) :
    Calls Tryd.prog 73 #[.pointer (some ⟨b, 0, none⟩)] w fun e w' => e = .returned (.string ⟨l.toArray⟩) ∧ w' = w.drew.freeze ⟨g, 0, none⟩ l.length := by
  subst hlen
  have L := Tryd.lays169
  have X := Tryd.Builder_Extra_169
  have hl0 : l.length ≠ 0 := by simpa using h0
  have c1 : w.drew.cell? ⟨b, 1, none⟩ = some (.slice (some ⟨g, 0, none⟩) l.length cap) := by
    have : w.drew.heap[b]? = some (.cells #[p, .slice (some ⟨g, 0, none⟩) l.length cap] 88 (0, 0)) := hbk
    rw [Lib.cell_of_heap this]; rfl
  have hSD : (Builtin.unsafeSliceData_ #[(Tryd.lays169_ren.t 37)] (Tryd.lays169_ren.t 127) #[.slice (some ⟨g, 0, none⟩) l.length cap]).run Tryd.prog w.drew = .ok (.pointer (some ⟨g, 0, none⟩)) w.drew :=
    Lib.run_unsafeSliceData_row _ _ _ _ _ _ (by omega)
  have hUS : (Builtin.unsafeString_ #[(Tryd.lays169_ren.t 127), (Tryd.lays169_ren.t 3)] (Tryd.lays169_ren.t 9) #[.pointer (some ⟨g, 0, none⟩), .int .i64 l.length]).run Tryd.prog w.drew = .ok (.string ⟨l.toArray⟩) (w.drew.freeze ⟨g, 0, none⟩ l.length) := by
    refine Lib.run_unsafeString_row w.drew (Tryd.lays169_ren.t 127) (Tryd.lays169_ren.t 3) (Tryd.lays169_ren.t 9) (Tryd.lays169_ren.t 5) L.t127 X.cellsByte g cur.size (by have hg' : w.drew.heap[g]? = some (.cells cur (Tryd.lays169_ren.t 5) (0, 0)) := hg; simp [World.shape?, hg']) l h0 (by omega) (by unfold maxLen at hcm; omega) ?_
    intro j x hx
    have hg' : w.drew.heap[g]? = some (.cells cur 5 (0, 0)) := hg
    rw [show (⟨g, 0, none⟩ : Addr).add j = ⟨g, j, none⟩ by cases j <;> simp [Addr.add], cell_of_cells hg']
    exact hb j x hx
  have mixed := L.mixed
  have t72 := L.t72; have a72 := L.a72; have z72 := L.z72; have v72 := L.v72; have u72 := run_underlying L.t72
  have t70 := L.t70; have a70 := L.a70; have z70 := L.z70; have v70 := L.v70; have u70 := run_underlying L.t70
  have t37 := L.t37; have a37 := L.a37; have z37 := L.z37; have v37 := L.v37; have u37 := run_underlying L.t37
  have t127 := L.t127; have a127 := L.a127; have z127 := L.z127; have v127 := L.v127; have u127 := run_underlying L.t127
  have t3 := L.t3; have a3 := L.a3; have z3 := L.z3; have v3 := L.v3; have u3 := run_underlying L.t3
  have t9 := L.t9; have a9 := L.a9; have z9 := L.z9; have v9 := L.v9; have u9 := run_underlying L.t9
  have t5 := X.t5; have a5 := X.a5; have z5 := X.z5; have v5 := X.v5; have u5 := run_underlying X.t5
  go_enter L.f169, Body.n169_ntmps Tryd.lays169_ren
  go_wp2
  go_region_o
  all_goals (go_wp2; go_ret; exact ⟨rfl, rfl⟩)

set_option maxHeartbeats 2000000 in
set_option maxRecDepth 100000 in
theorem str_nil (b : Nat) (p : Value) (w : World) (hbk : w.heap[b]? = some (.cells #[p, .slice none 0 0] 88 (0, 0))) :
    Calls Tryd.prog 73 #[.pointer (some ⟨b, 0, none⟩)] w fun e w' => e = .returned (.string ⟨#[]⟩) ∧ w' = w.drew := by
  have L := Tryd.lays169
  have X := Tryd.Builder_Extra_169
  have hUS := fun W q => Lib.run_unsafeString_none (P := Tryd.prog) W (Tryd.lays169_ren.t 127) (Tryd.lays169_ren.t 3) (Tryd.lays169_ren.t 9) q
  have c1 : w.drew.cell? ⟨b, 1, none⟩ = some (.slice none 0 0) := by
    have : w.drew.heap[b]? = some (.cells #[p, .slice none 0 0] 88 (0, 0)) := hbk
    rw [Lib.cell_of_heap this]; rfl
  have hSD : (Builtin.unsafeSliceData_ #[(Tryd.lays169_ren.t 37)] (Tryd.lays169_ren.t 127) #[.slice none 0 0]).run Tryd.prog w.drew = .ok (.pointer none) w.drew := rfl
  have mixed := L.mixed
  have t72 := L.t72; have a72 := L.a72; have z72 := L.z72; have v72 := L.v72; have u72 := run_underlying L.t72
  have t70 := L.t70; have a70 := L.a70; have z70 := L.z70; have v70 := L.v70; have u70 := run_underlying L.t70
  have t37 := L.t37; have a37 := L.a37; have z37 := L.z37; have v37 := L.v37; have u37 := run_underlying L.t37
  have t127 := L.t127; have a127 := L.a127; have z127 := L.z127; have v127 := L.v127; have u127 := run_underlying L.t127
  have t3 := L.t3; have a3 := L.a3; have z3 := L.z3; have v3 := L.v3; have u3 := run_underlying L.t3
  have t9 := L.t9; have a9 := L.a9; have z9 := L.z9; have v9 := L.v9; have u9 := run_underlying L.t9
  have t5 := X.t5; have a5 := X.a5; have z5 := X.z5; have v5 := X.v5; have u5 := run_underlying X.t5
  go_enter L.f169, Body.n169_ntmps Tryd.lays169_ren
  go_wp2
  go_region_o
  all_goals (go_wp2; go_ret; exact ⟨rfl, rfl⟩)

theorem HRel.drew {T : Tg} {F : Nat → Prop} {G : Nat → Value} {w : World} {R : List (Nat × En)} (h : HRel Tryd.prog T F G w R) : HRel Tryd.prog T F G w.drew R := by
  have hn : Names G G R R := Names.refl G R
  exact ⟨h.nod, h.size, fun t p hp => by simp [lk] at hp, fun n e he => (h.rg n e he).mono (fun _ h => h) (fun _ _ => rfl) hn rfl (fun _ _ => rfl), h.own, h.fre, h.bnd, h.tag, h.z⟩

theorem two_cells {cs : Array Value} (h : cs.size = 2) : cs = #[cs.getD 0 undef, cs.getD 1 undef] := by
  apply Array.ext
  · simp [h]
  · intro i h1 h2
    have : i = 0 ∨ i = 1 := by simp at h2; omega
    rcases this with rfl | rfl <;> simp [Array.getD, h]

theorem xStr_ok : XOK Tryd.prog w0 73 xStr := by
  intro ps R p R1 h F G w vs hH hl hv
  unfold xStr at h
  split at h
  · rename_i v
    match vs, hl, hv with
    | [u], _, hv =>
      have hp := hv 0 u _ rfl rfl
      split at h
      · rename_i e he
        split at h
        · rename_i hver
          have hver := Nat.eq_of_beq_eq_true hver
          have hO := hH.rg 0 e he
          cases hp with
          | ref _ _ _ _ hr h1 =>
            have hce := enters Tryd.func73 (by kernel_rfl) (by kernel_rfl)
            split at h
            · rename_i x heo
              rw [heo] at hO
              obtain ⟨b, hG, rfl⟩ := hr.at he hver (by rw [heo]; rfl)
              obtain ⟨b', cs, hG', hh, hsz, hone, hps⟩ := hO
              rw [hG] at hG'
              simp at hG'
              subst hG'
              simp only [Option.some.injEq, Prod.mk.injEq] at h
              obtain ⟨rfl, rfl⟩ := h
              have e1 : cs.getD 1 undef = .slice none 0 0 := by
                have := hps 1 _ rfl
                generalize cs.getD 1 undef = c at this
                cases this with
                | d hd => exact hd.toVc rfl
              have h2 := two_cells (by simpa using hsz)
              rw [e1] at h2
              rw [h2] at hh
              refine .inl ⟨hce _ w, (str_nil b _ w hh).mono fun e' w' ⟨he', hw'⟩ => ⟨_, he', F, G, ?_, .d (.str []), ?_⟩⟩
              · subst hw'
                exact hH.drew
              · subst hw'
                exact ⟨fun _ h => h, fun _ h => .inl h, fun _ h => .inl h, fun _ _ _ => rfl, Nat.le_refl _, rfl, rfl, rfl⟩
            · rename_i x m vm len heo
              rw [heo] at hO
              obtain ⟨b, hG, rfl⟩ := hr.at he hver (by rw [heo]; rfl)
              obtain ⟨b', cs, hG', hh, hsz, hone, hps⟩ := hO
              rw [hG] at hG'
              simp at hG'
              subst hG'
              split at h
              · rename_i em hem
                split at h
                · rename_i hvm
                  have hvm := Nat.eq_of_beq_eq_true hvm
                  split at h
                  · rename_i es hoe
                    split at h
                    · rename_i l hl8
                      split at h
                      · rename_i hcond
                        simp only [Bool.and_eq_true, Nat.blt_eq] at hcond
                        have hll := Nat.eq_of_beq_eq_true hcond.1
                        simp only [Option.some.injEq, Prod.mk.injEq] at h
                        obtain ⟨rfl, rfl⟩ := h
                        have hp1 := hps 1 _ rfl
                        have hOm := hH.rg m em hem
                        rw [hoe] at hOm
                        have h2 := two_cells (by simpa using hsz)
                        generalize cs.getD 1 undef = c1 at hp1 h2
                        cases hp1 with
                        | sl _ _ _ _ _ hrm =>
                          obtain ⟨a, N, cap, hGm, rfl, hlN⟩ := hrm.at hem hvm (by rw [hoe]; rfl)
                          have hes := u8s_spec _ _ hl8
                          have hel : len ≤ es.length := by
                            have := congrArg List.length hes
                            simp at this
                            omega
                          rcases hOm with ⟨_, rfl⟩ | ⟨g, cap', cur, k, hGm', hg, hk, hk0, hle, hcm, hcs, _, hE⟩
                          · simp at hel; omega
                          · rw [hGm] at hGm'
                            simp only [Value.slice.injEq] at hGm'
                            obtain ⟨rfl, rfl, rfl⟩ := hGm'
                            have hk1 : k = 1 := by
                              have : sz Tryd.prog 5 = some 1 := by kernel_rfl
                              rw [this] at hk
                              exact (Option.some.inj hk).symm
                            subst hk1
                            rw [h2] at hh
                            have hne : l ≠ [] := fun e0 => by subst e0; simp at hll; omega
                            have hcell : ∀ (j : Nat) (x : UInt8), l[j]? = some x → cur[j]? = some (.int .u8 x.toNat) := fun j x hx => by
                              have hj : j < l.length := (List.getElem?_eq_some_iff.1 hx).1
                              have hej : es[j]? = some (.int .u8 x.toNat) := by
                                have : (es.take len)[j]? = some (D.int .u8 (x.toNat : Int)) := by rw [hes, List.getElem?_map, hx]; rfl
                                rw [List.getElem?_take] at this
                                split at this
                                · exact this
                                · cases this
                              obtain ⟨q1, q2, q3⟩ := hE j _ hej
                              have := q3 0 _ rfl
                              rw [get_getD (by omega)]
                              simp only [Nat.mul_one, Nat.add_zero] at this
                              rw [this.toVc rfl]
                            refine .inl ⟨hce _ w, (str_row b g cap len _ cur l w hh hg hne hll (by omega) hcm (by omega) hcell).mono fun e' w' ⟨he', hw'⟩ => ⟨_, he', F, G, ?_⟩⟩
                            subst hw'
                            have hnew : NewAt G R m ⟨em.ver, em.tag, .gone⟩ (G m) := fun e1 he1 => by rw [hem] at he1; cases he1; exact .inr ⟨rfl, fun hlv => by cases hlv⟩
                            obtain ⟨d1, d2⟩ := SRel.upd hH (e1 := ⟨em.ver, em.tag, .gone⟩) (g1 := G m) (w' := w.drew.freeze ⟨g, 0, none⟩ l.length) hnew
                              (fun c hc hno => freeze_heap (fun e' => hno ⟨em, hem, by rw [e', hoe]; simp [ownB, hGm, blockOf]⟩)) (by rw [freeze_size]; exact Nat.le_refl _) (by unfold World.freeze; split <;> rfl) (by unfold World.freeze; split <;> rfl) (by unfold World.freeze; split <;> rfl)
                              (fun c hc => by simp [ownB] at hc) trivial (fun i _ hlv => by cases hlv)
                            rw [upd_self] at d1 d2
                            exact ⟨d1, .d (.str l), d2⟩
                      · cases h
                    · cases h
                  · cases h
                · cases h
              · cases h
            · cases h
        · cases h
      · cases h
  · cases h
end
end Pi

/- The seat's told functions of the library. -/
namespace Pi
open Go Go.Proofs Go.RowKit

/-- What strconv.Atoi's number is. -/
def atoiV (l : List UInt8) : Int := match Lib.atoiAll l with | .ok v => v | .range => Lib.atoiSat l | _ => 0

def xSplit : TF
  | [.d (.str s), .d (.str sep)], [] => if s.length < 4294967281 ∧ 1 ≤ sep.length ∧ (Lib.split s sep).length = Lib.count s sep + 1 ∧ Lib.count s sep ≤ 4294967281 then some (.sl 0 0 (Lib.split s sep).length, [(0, ⟨0, none, .arr 9 false ((Lib.split s sep).map D.str)⟩)]) else none
  | _, _ => none
def xAtoi : TF
  | [.d (.str s)], [] => if s.length ≤ 281474976710656 then some (.tup [.d (.int .i64 (atoiV s)), .bad], []) else none
  | _, _ => none
def xItoa : TF
  | [.d (.int .i64 n)], [] => if -9223372036854775808 ≤ n ∧ n ≤ 9223372036854775807 then some (.d (.str (Lib.itoa n)), []) else none
  | _, _ => none
def xTrim : TF
  | [.d (.str s), .d (.str c)], [] => if s.length ≤ 9223372036854775807 ∧ c.length < 4294967281 ∧ c.all (fun b => decide (b.toNat < 128)) = true then some (.d (.str (Lib.trimS s c)), []) else none
  | _, _ => none
def xCut : TF
  | [.d (.str s), .d (.str c)], [] => if s.length < 4294967281 then some (.tup [.d (.str (Lib.cut s c).1), .d (.str (Lib.cut s c).2.1), .d (.bool (Lib.cut s c).2.2)], []) else none
  | _, _ => none
def xCutPrefix : TF
  | [.d (.str s), .d (.str c)], [] => some (.tup [.d (.str (Lib.trimPrefix s c)), .d (.bool (Lib.hasPrefix s c))], [])
  | _, _ => none
def strsOf : List D → Option (List (List UInt8))
  | [] => some []
  | .str s :: r => match strsOf r with | some l => some (s :: l) | none => none
  | _ => none
def xJoin : TF
  | [.d (.sl 1 es), .d (.str c)], [] => match strsOf es with
    | some l => if l.length ≤ 140737488355328 ∧ (Lib.join l c).length ≤ 140737488355328 then some (.d (.str (Lib.join l c)), []) else none
    | none => none
  | _, _ => none
def xLastIndex : TF
  | [.d (.str s), .d (.str c)], [] => if s.length < 4611686018427387904 then some (.d (.int .i64 (Lib.lastIndex s c)), []) else none
  | _, _ => none
def xValid : TF
  | [.d (.str s)], [] => if s.length ≤ 9223372036854775807 then some (.d (.bool (Lib.validD s)), []) else none
  | _, _ => none
def xCount : TF
  | [.d (.str s)], [] => if s.length < 9223372036854775807 then some (.d (.int .i64 (Lib.runeCount ⟨⟨s⟩⟩)), []) else none
  | _, _ => none
def xL : List (Nat × TF) := [(52, xSplit), (53, xAtoi), (55, xItoa), (63, xTrim), (64, xCut), (65, xCutPrefix), (66, xJoin), (93, xCheck), (73, xStr), (91, xLastIndex), (111, xValid), (112, xCount)]
def xsB : List Nat := [52, 53, 55, 63, 64, 65, 66, 93, 73, 91, 111, 112]
def xsT : List Nat := xsB
/-- Functions whose nil slices stay nil. -/
def nilK : List Nat := [92]
def xB : CF := xOf xL

theorem cell_keep' {w0 w : World} {v : Value} {b o : Nat} (hz : ∀ b, b < w0.heap.size → w.heap[b]? = w0.heap[b]?) (h : w0.cell? ⟨b, o, none⟩ = some v) : w.cell? ⟨b, o, none⟩ = some v := by
  by_cases hb : b < w0.heap.size
  · unfold World.cell? at h ⊢
    rw [hz b hb]
    exact h
  · unfold World.cell? at h
    rw [show w0.heap[({ block := b, off := o, spot := none } : Addr).block]? = none from Array.getElem?_eq_none (by show w0.heap.size ≤ b; omega)] at h
    simp at h
/-- What is asked of the world in which all begins. -/
structure StW (w0 : World) : Prop where
  m : ∃ m, w0.cell? ⟨2, 0, none⟩ = some (.int .i64 m)
  e0 : ∃ ev, w0.cell? ⟨0, 0, none⟩ = some ev ∧ (ev = .nilIface ∨ ∃ te pe, ev = .iface te pe)
  e1 : ∃ ev, w0.cell? ⟨1, 0, none⟩ = some ev ∧ (ev = .nilIface ∨ ∃ te pe, ev = .iface te pe)
  tab : ∀ w : World, (∀ b, b < w0.heap.size → w.heap[b]? = w0.heap[b]?) → Lib.TabIs Tryd.prog w "internal/strconv.uint64pow10" .u64 Lib.pow10Tab
  u8 : Lib.Utf8Tabs 3 4 w0

theorem utf8_keep {w0 w : World} {a b : Nat} (hz : ∀ b, b < w0.heap.size → w.heap[b]? = w0.heap[b]?) (h : Lib.Utf8Tabs a b w0) : Lib.Utf8Tabs a b w :=
  ⟨fun c hc => cell_keep' hz (h.1 c hc), fun i hi => ⟨cell_keep' hz (h.2 i hi).1, cell_keep' hz (h.2 i hi).2⟩⟩

theorem below_grow (w : World) (k : Nat) (os : Array Go.Obj) : Below w.heap.size w (Go.Sort.grow (w.drewN k) os) :=
  ⟨rfl, rfl, rfl, by simp [Go.Sort.grow, World.drewN], fun b hb => by
    have hb' : b < (w.drewN k).heap.size := hb
    simp only [Go.Sort.grow]
    rw [Array.getElem?_append_left hb']
    rfl⟩
theorem below_drewN (w : World) (k : Nat) : Below w.heap.size w (w.drewN k) := ⟨rfl, rfl, rfl, by simp [World.drewN], fun b hb => by simp [World.drewN]⟩
theorem below_bytes (w : World) (e : TypeId) (t : ByteArray) : Below w.heap.size w (Lib.bytesWorld w e t) := by
  unfold Lib.bytesWorld
  have h1 : Below w.heap.size w (w.drew.alloc (.cells (Lib.bytesCells w e t) e)) := (Below.refl w.heap.size w).drew.alloc (by exact Nat.le_refl _) _
  refine h1.trans ⟨rfl, rfl, rfl, ?_, fun b hb => ?_⟩
  · simp [World.freeze]
  · simp only [World.freeze]
    rw [if_neg (by omega)]
    simp only [Array.getElem?_modify]
    rw [if_neg (by omega)]
section
variable {w0 : World}
theorem strArg {F : Nat → Prop} {w : World} {G : Nat → Value} {R : List (Nat × En)} {v : Value} {s : List UInt8} (h : PRep F w G R v (.d (.str s))) : v = .string ⟨⟨s⟩⟩ := PRep.toV (p := .d (.str s)) h rfl

theorem xSplit_ok (hw : StW w0) : XOK Tryd.prog w0 52 xSplit := by
  intro ps R p R1 h F G w vs hH hl hv
  have hz : ∀ b, b < w0.heap.size → w.heap[b]? = w0.heap[b]? := fun b hb => (hH.z b hb).2
  unfold xSplit at h
  split at h
  · rename_i s sep
    split at h
    · rename_i hc
      obtain ⟨h1, h2, h3, h4⟩ := hc
      simp only [Option.some.injEq, Prod.mk.injEq] at h
      obtain ⟨rfl, rfl⟩ := h
      match vs, hl, hv with
      | [v, u], _, hv =>
        have e1 : v = .string ⟨⟨s⟩⟩ := strArg (hv 0 v _ rfl rfl)
        have e2 : u = .string ⟨⟨sep⟩⟩ := strArg (hv 1 u _ rfl rfl)
        subst e1
        subst e2
        obtain ⟨m, hm⟩ := hw.m
        have hdata : (Lib.splitB ⟨⟨sep⟩⟩ 0 (Lib.countB ⟨⟨s⟩⟩ ⟨⟨sep⟩⟩) ⟨⟨s⟩⟩).map (·.data.toList) = Lib.split s sep := Lib.splitB_data _ _ _ _
        have hlen : (Lib.splitB ⟨⟨sep⟩⟩ 0 (Lib.countB ⟨⟨s⟩⟩ ⟨⟨sep⟩⟩) ⟨⟨s⟩⟩).length = (Lib.split s sep).length := by rw [← hdata, List.length_map]
        have hcnt : Lib.countB ⟨⟨s⟩⟩ ⟨⟨sep⟩⟩ = Lib.count s sep := rfl
        have := out_row (es := (Lib.split s sep).map D.str) (k := 0) (ty := 9) hH (enters Tryd.func52 (by kernel_rfl) (by kernel_rfl) _ w) (by kernel_rfl) (vs := [.string ⟨⟨s⟩⟩, .string ⟨⟨sep⟩⟩])
          ((Tryd.strings_Split ⟨⟨s⟩⟩ ⟨⟨sep⟩⟩ m w (by simpa [ByteArray.size] using h1) (cell_keep hz hm) (by simpa [ByteArray.size] using h2)).mono fun e w' ⟨he, hw'⟩ => by
            subst hw'
            refine ⟨(Below.refl _ _).alloc (Nat.le_refl _) _, w.heap.size, Lib.count s sep + 1, _, ?_, Nat.le_refl _, heap_alloc_new w _, ?_, ?_, ?_, fun F => ?_⟩
            · rw [he, hcnt, List.length_map, h3]
            · rw [List.length_map, h3]; exact Nat.le_refl _
            · simp only [maxLen]; omega
            · simp [hlen, h3]
            · intro i x hx
              rw [List.getElem?_map] at hx
              cases hi : (Lib.split s sep)[i]? with
              | none => rw [hi] at hx; cases hx
              | some l =>
                rw [hi] at hx
                cases hx
                refine ⟨rfl, by simp [D.cells, D.isCell], fun j c hc => ?_⟩
                cases j with
                | succ j => simp [D.cells] at hc
                | zero =>
                  simp [D.cells] at hc
                  subst hc
                  rw [← hdata, List.getElem?_map] at hi
                  cases hb : (Lib.splitB ⟨⟨sep⟩⟩ 0 (Lib.countB ⟨⟨s⟩⟩ ⟨⟨sep⟩⟩) ⟨⟨s⟩⟩)[i]? with
                  | none => rw [hb] at hi; cases hi
                  | some bb =>
                    rw [hb] at hi
                    simp at hi
                    subst hi
                    simp [Array.getD_eq_getD_getElem?, hb]
                    exact .str bb.data.toList)
        rw [List.length_map] at this
        exact this
    · cases h
  · cases h
theorem xAtoi_ok (hw : StW w0) : XOK Tryd.prog w0 53 xAtoi := by
  intro ps R p R1 h F G w vs hH hl hv
  have hz : ∀ b, b < w0.heap.size → w.heap[b]? = w0.heap[b]? := fun b hb => (hH.z b hb).2
  unfold xAtoi at h
  split at h
  · rename_i s
    split at h
    · rename_i hlen
      simp only [Option.some.injEq, Prod.mk.injEq] at h
      obtain ⟨rfl, rfl⟩ := h
      match vs, hl, hv with
      | [v], _, hv =>
        have e : v = .string ⟨⟨s⟩⟩ := strArg (hv 0 v _ rfl rfl)
        subst e
        refine out_plain hH (enters Tryd.func53 (by kernel_rfl) (by kernel_rfl) _ w) ?_
        have two : ∀ (n : Int) (u : Value) (F : Nat → Prop) (G : Nat → Value) (w' : World), PRep F w' G [] (.tuple #[.int .i64 n, u]) (.tup [.d (.int .i64 n), .bad]) := fun n u F G w' =>
          .tup [.int .i64 n, u] _ rfl (fun i v c hv hc => by
            match i with
            | 0 => simp at hv hc; subst hv; subst hc; exact .d (.int .i64 n)
            | 1 => simp at hv hc; subst hc; exact .bad _
            | i + 2 => simp at hv)
        cases ha : Lib.atoiAll s with
        | ok n =>
          have hav : atoiV s = n := by simp [atoiV, ha]
          refine (Tryd.strconv_Atoi_ok ⟨⟨s⟩⟩ (by simp [ByteArray.size]; omega) n ha w).mono fun e w' ⟨he, hw'⟩ => ⟨_, he, ?_, fun F G => by rw [hav]; exact two _ _ _ _ _⟩
          rcases hw' with rfl | ⟨t, rfl⟩
          · exact Below.refl _ _
          · exact below_bytes _ _ _
        | range =>
          have hav : atoiV s = Lib.atoiSat s := by simp [atoiV, ha]
          obtain ⟨ev, h1, h2⟩ := hw.e1
          exact (Tryd.strconv_Atoi_range ⟨⟨s⟩⟩ (by simpa [ByteArray.size] using hlen) ha ev w (cell_keep hz h1) h2).mono fun e w' ⟨N, he, _, _, hb⟩ => ⟨_, he, hb, fun F G => by rw [hav]; exact two _ _ _ _ _⟩
        | _ =>
          have hav : atoiV s = 0 := by simp [atoiV, ha]
          obtain ⟨ev, h1, h2⟩ := hw.e0
          exact (Tryd.strconv_Atoi_syntax ⟨⟨s⟩⟩ (by simpa [ByteArray.size] using hlen) ⟨fun v e => (by rw [ha] at e; cases e), fun e => (by rw [ha] at e; cases e)⟩ ev w (cell_keep hz h1) h2).mono fun e w' ⟨N, he, _, _, hb⟩ => ⟨_, he, hb, fun F G => by rw [hav]; exact two _ _ _ _ _⟩
    · cases h
  · cases h
theorem xItoa_ok (hw : StW w0) : XOK Tryd.prog w0 55 xItoa := by
  intro ps R p R1 h F G w vs hH hl hv
  have hz : ∀ b, b < w0.heap.size → w.heap[b]? = w0.heap[b]? := fun b hb => (hH.z b hb).2
  unfold xItoa at h
  split at h
  · rename_i n
    split at h
    · rename_i hn
      simp only [Option.some.injEq, Prod.mk.injEq] at h
      obtain ⟨rfl, rfl⟩ := h
      match vs, hl, hv with
      | [v], _, hv =>
        have hp := hv 0 v _ rfl rfl
        have e : v = .int .i64 n := PRep.toV (p := .d (.int .i64 n)) hp rfl
        subst e
        refine out_plain hH (enters Tryd.func55 (by kernel_rfl) (by kernel_rfl) _ w) ?_
        exact (Tryd.strconv_Itoa n hn.1 hn.2 w (hw.tab w hz)).mono fun e w' ⟨he, k, os, hw'⟩ => ⟨_, he, by rw [hw']; exact below_grow _ _ _, fun F G => .d (.str _)⟩
    · cases h
  · cases h
theorem xTrim_ok : XOK Tryd.prog w0 63 xTrim := by
  intro ps R p R1 h F G w vs hH hl hv
  unfold xTrim at h
  split at h
  · rename_i s c
    split at h
    · rename_i hc
      simp only [Option.some.injEq, Prod.mk.injEq] at h
      obtain ⟨rfl, rfl⟩ := h
      match vs, hl, hv with
      | [v, u], _, hv =>
        have e1 : v = .string ⟨⟨s⟩⟩ := strArg (hv 0 v _ rfl rfl)
        have e2 : u = .string ⟨⟨c⟩⟩ := strArg (hv 1 u _ rfl rfl)
        subst e1
        subst e2
        refine out_plain hH (enters Tryd.func63 (by kernel_rfl) (by kernel_rfl) _ w) ?_
        exact (Go.Proofs.Any.strings_Trim_laid Tryd.lays160 (by kernel_rfl) ⟨⟨s⟩⟩ ⟨⟨c⟩⟩ w (by simpa [ByteArray.size] using hc.1) (by simpa [ByteArray.size] using hc.2.1) (Go.Proofs.ascii_of_all hc.2.2)).mono fun e w' ⟨he, hb⟩ => ⟨_, he, hb, fun F G => .d (.str _)⟩
    · cases h
  · cases h
theorem xCut_ok (hw : StW w0) : XOK Tryd.prog w0 64 xCut := by
  intro ps R p R1 h F G w vs hH hl hv
  have hz : ∀ b, b < w0.heap.size → w.heap[b]? = w0.heap[b]? := fun b hb => (hH.z b hb).2
  unfold xCut at h
  split at h
  · rename_i s c
    split at h
    · rename_i hc
      simp only [Option.some.injEq, Prod.mk.injEq] at h
      obtain ⟨rfl, rfl⟩ := h
      match vs, hl, hv with
      | [v, u], _, hv =>
        have e1 : v = .string ⟨⟨s⟩⟩ := strArg (hv 0 v _ rfl rfl)
        have e2 : u = .string ⟨⟨c⟩⟩ := strArg (hv 1 u _ rfl rfl)
        subst e1
        subst e2
        obtain ⟨m, hm⟩ := hw.m
        refine out_plain hH (enters Tryd.func64 (by kernel_rfl) (by kernel_rfl) _ w) ?_
        exact (Tryd.strings_Cut ⟨⟨s⟩⟩ ⟨⟨c⟩⟩ m w (by simpa [ByteArray.size] using hc) (cell_keep hz hm)).mono fun e w' ⟨he, n, hb⟩ => ⟨_, he, by rw [hb]; exact below_drewN _ _, fun F G =>
          .tup [_, _, _] _ rfl (fun i v c hv hc => by
            match i with
            | 0 => simp at hv hc; subst hv; subst hc; exact .d (.str _)
            | 1 => simp at hv hc; subst hv; subst hc; exact .d (.str _)
            | 2 => simp at hv hc; subst hv; subst hc; exact .d (.bool _)
            | i + 3 => simp at hv)⟩
    · cases h
  · cases h
theorem xCutPrefix_ok : XOK Tryd.prog w0 65 xCutPrefix := by
  intro ps R p R1 h F G w vs hH hl hv
  unfold xCutPrefix at h
  split at h
  · rename_i s c
    simp only [Option.some.injEq, Prod.mk.injEq] at h
    obtain ⟨rfl, rfl⟩ := h
    match vs, hl, hv with
    | [v, u], _, hv =>
      have e1 : v = .string ⟨⟨s⟩⟩ := strArg (hv 0 v _ rfl rfl)
      have e2 : u = .string ⟨⟨c⟩⟩ := strArg (hv 1 u _ rfl rfl)
      subst e1
      subst e2
      refine out_plain hH (enters Tryd.func65 (by kernel_rfl) (by kernel_rfl) _ w) ?_
      exact (Tryd.strings_CutPrefix ⟨⟨s⟩⟩ ⟨⟨c⟩⟩ w).mono fun e w' ⟨he, hb⟩ => ⟨_, he, hb ▸ Below.refl _ _, fun F G =>
        .tup [_, _] _ rfl (fun i v c hv hc => by
          match i with
          | 0 => simp at hv hc; subst hv; subst hc; exact .d (.str _)
          | 1 => simp at hv hc; subst hv; subst hc; exact .d (.bool _)
          | i + 2 => simp at hv)⟩
  · cases h
theorem strsOf_spec : ∀ (es : List D) (l : List (List UInt8)), strsOf es = some l → es = l.map D.str
  | [], l, h => by simp [strsOf] at h; subst h; rfl
  | x :: es, l, h => by
    cases x <;> try (simp [strsOf] at h; done)
    rename_i s
    simp only [strsOf] at h
    split at h
    · rename_i l' hl
      simp at h
      subst h
      rw [strsOf_spec es l' hl]
      rfl
    · cases h
theorem xJoin_ok : XOK Tryd.prog w0 66 xJoin := by
  intro ps R p R1 h F G w vs hH hl hv
  unfold xJoin at h
  split at h
  · rename_i es c
    split at h
    · rename_i l hes
      have hes := strsOf_spec es l hes
      subst hes
      split at h
      · rename_i hc
        simp only [Option.some.injEq, Prod.mk.injEq] at h
        obtain ⟨rfl, rfl⟩ := h
        match vs, hl, hv with
        | [v, u], _, hv =>
          have h1 := hv 0 v _ rfl rfl
          have e2 : u = .string ⟨⟨c⟩⟩ := strArg (hv 1 u _ rfl rfl)
          subst e2
          refine out_plain hH (enters Tryd.func66 (by kernel_rfl) (by kernel_rfl) _ w) ?_
          cases h1 with
          | d h1 =>
            generalize hes : l.map D.str = es at h1
            cases h1 with
            | slE a k cap =>
              have : l = [] := by simpa using hes
              subst this
              exact (Tryd.strings_Join_none a cap ⟨⟨c⟩⟩ w).mono fun e w' ⟨he, hb⟩ => ⟨_, he, hb ▸ Below.refl _ _, fun F G => .d (.str _)⟩
            | slN b off k cap es f hcap hb hk hcell hw hr =>
              subst hes
              have hj := Tryd.strings_Join b off cap (l.map fun x => ⟨⟨x⟩⟩) ⟨⟨c⟩⟩ w (fun j x hx => by
                rw [List.getElem?_map] at hx
                cases hi : l[j]? with
                | none => rw [hi] at hx; cases hx
                | some s =>
                  rw [hi] at hx
                  cases hx
                  have hjl : j < l.length := (List.getElem?_eq_some_iff.1 hi).1
                  rw [hw j (by simpa using hjl)]
                  have := hr j 0 (.str s) (.str s) (by rw [List.getElem?_map, hi]; rfl) rfl
                  simp only [Nat.mul_one, Nat.add_zero] at this
                  rw [this.toVc rfl]) (hH.bnd b hb) (by simpa using hc.1) (by simpa using hcap) (by simpa [Function.comp_def] using hc.2)
              simp only [List.length_map] at hj ⊢
              have e : (List.map (fun x => x.data.toList) (List.map (fun x => (⟨⟨x⟩⟩ : ByteArray)) l)) = l := by simp [Function.comp_def]
              rw [e] at hj
              exact hj.mono fun e w' ⟨he, hb⟩ => ⟨_, he, hb, fun F G => .d (.str _)⟩
      · cases h
    · cases h
  · cases h
theorem xLastIndex_ok : XOK Tryd.prog w0 91 xLastIndex := by
  intro ps R p R1 h F G w vs hH hl hv
  unfold xLastIndex at h
  split at h
  · rename_i s c
    split at h
    · rename_i hc
      simp only [Option.some.injEq, Prod.mk.injEq] at h
      obtain ⟨rfl, rfl⟩ := h
      match vs, hl, hv with
      | [v, u], _, hv =>
        have e1 : v = .string ⟨⟨s⟩⟩ := strArg (hv 0 v _ rfl rfl)
        have e2 : u = .string ⟨⟨c⟩⟩ := strArg (hv 1 u _ rfl rfl)
        subst e1
        subst e2
        refine out_plain hH (enters Tryd.func91 (by kernel_rfl) (by kernel_rfl) _ w) ?_
        exact (Tryd.strings_LastIndex ⟨⟨s⟩⟩ ⟨⟨c⟩⟩ (by simpa [ByteArray.size] using hc) w).mono fun e w' ⟨he, hb⟩ => ⟨_, he, hb ▸ Below.refl _ _, fun F G => .d (.int _ _)⟩
    · cases h
  · cases h
theorem xValid_ok (hw : StW w0) : XOK Tryd.prog w0 111 xValid := by
  intro ps R p R1 h F G w vs hH hl hv
  have hz : ∀ b, b < w0.heap.size → w.heap[b]? = w0.heap[b]? := fun b hb => (hH.z b hb).2
  unfold xValid at h
  split at h
  · rename_i s
    split at h
    · rename_i hc
      simp only [Option.some.injEq, Prod.mk.injEq] at h
      obtain ⟨rfl, rfl⟩ := h
      match vs, hl, hv with
      | [v], _, hv =>
        have e1 : v = .string ⟨⟨s⟩⟩ := strArg (hv 0 v _ rfl rfl)
        subst e1
        refine out_plain hH (enters Tryd.func111 (by kernel_rfl) (by kernel_rfl) _ w) ?_
        exact (Tryd.utf8_ValidString ⟨⟨s⟩⟩ w (by simpa [ByteArray.size] using hc) (utf8_keep hz hw.u8)).mono fun e w' ⟨he, hb⟩ => ⟨_, he, hb, fun F G => .d (.bool _)⟩
    · cases h
  · cases h
theorem xCount_ok : XOK Tryd.prog w0 112 xCount := by
  intro ps R p R1 h F G w vs hH hl hv
  unfold xCount at h
  split at h
  · rename_i s
    split at h
    · rename_i hc
      simp only [Option.some.injEq, Prod.mk.injEq] at h
      obtain ⟨rfl, rfl⟩ := h
      match vs, hl, hv with
      | [v], _, hv =>
        have e1 : v = .string ⟨⟨s⟩⟩ := strArg (hv 0 v _ rfl rfl)
        subst e1
        refine out_plain hH (enters Tryd.func112 (by kernel_rfl) (by kernel_rfl) _ w) ?_
        exact (Tryd.utf8_RuneCountInString ⟨⟨s⟩⟩ w (by simpa [ByteArray.size] using hc)).mono fun e w' ⟨he, pos, hb⟩ => ⟨_, he, by rw [hb]; exact (Below.refl _ _).alloc (Nat.le_refl _) _, fun F G => .d (.int _ _)⟩
    · cases h
  · cases h
theorem xB_ok (hw : StW w0) : CFOK Tryd.prog w0 xB := XAll.ok (.cons (xSplit_ok hw) (.cons (xAtoi_ok hw) (.cons (xItoa_ok hw) (.cons xTrim_ok (.cons (xCut_ok hw) (.cons xCutPrefix_ok (.cons xJoin_ok (.cons xCheck_ok (.cons xStr_ok (.cons xLastIndex_ok (.cons (xValid_ok hw) (.cons xCount_ok .nil))))))))))))
end
end Pi

