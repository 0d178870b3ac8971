/-
  DERIVED: THE SHELF's CONTRACTS AT THIS DUMP, IN PLAIN WORDS (tools/lay-plain.mjs out of 'DxShelf.lean', which tools/lay-shelf.mjs wrote): THE SAME DECLARATIONS UNDER THE SAME NAMES: 'import', 'namespace', 'open', 'def', 'theorem' AND NOTHING ELSE: no command of the shelf's: FOR A HAND-IN. Each laying: the table of numbers ('.._ren') and one theorem, a field a fact of the dump's own or the kernel's comparison; each contract: ONE APPLICATION.
-/
import Derived.Test.YtcgepjbalmppjaaGreatDoorTC
import Derived.Test.YtcgepjbalmppjaaGreatDoorTD
import Derived.Test.YtcgepjbalmppjaaGreatDoorTF
import Derived.Shelf.Strings.Builder1
import Derived.Shelf.Strings.Builder2
import Derived.Shelf.Strings.Trim
import Derived.Shelf.Small.Utf8
import Derived.Shelf.Small.Strs
import Derived.Shelf.Strings.BuilderF
import Derived.Shelf.Strconv.Atoi
import Derived.Shelf.Strconv.Itoa0
import Derived.Shelf.Strconv.Itoa1
import Derived.Shelf.LaysM
import Derived.Shelf.Strconv.Itoa2
import Derived.Shelf.Strconv.Itoa3
import Derived.Shelf.Strings.Search1
import Derived.Shelf.Strings.Search2
import Derived.Shelf.Strings.Search3
import Derived.Shelf.Strings.Shaped
import Derived.Shelf.Strings.Prefix
import Derived.Shelf.Unicode.Decode
import Derived.Shelf.Strings.Runes
import Derived.Shelf.Strings.AsciiSet
import Derived.Shelf.Bits.Mul64
import Derived.Shelf.Strings.Repeat
import Derived.Shelf.Unicode.DecodeSlow
import Derived.Shelf.Unicode.DecodeAny
import Derived.Shelf.Unicode.DecodeLast
import Derived.Test.YtcgepjbalmppjaaGreatDoorProg
import Derived.Lib.AtoiErrMem
import Derived.Lib.ItoaNum
namespace Go.Proofs
open Go.Shelf
def Tryz.lays161_ren : Go.Shelf.Ren := ⟨fun | 161 => 183 | 231 => 161 | 227 => 163 | 233 => 164 | 235 => 166 | 228 => 201 | 197 => 202 | 151 => 203 | 260 => 214 | 152 => 215 | 137 => 227 | 119 => 228 | 224 => 229 | 225 => 230 | 217 => 240 | 266 => 246 | n => n, fun | 9 => 9 | 4 => 4 | 3 => 3 | 5 => 5 | 117 => 198 | 116 => 197 | 0 => 0 | 124 => 201 | 105 => 228 | 21 => 21 | 119 => 250 | 46 => 186 | 139 => 253 | 138 => 252 | n => n, fun | 3 => 1 | 4 => 2 | n => n⟩
theorem Tryz.lays161 : Go.Proofs.Lays.n161 Tryz.prog Tryz.lays161_ren := {
  mixed := by kernel_rfl
  f119 := Tryz.func228.trans (congrArg some (by kernel_rfl))
  f137 := Tryz.func227.trans (congrArg some (by kernel_rfl))
  f151 := Tryz.func203.trans (congrArg some (by kernel_rfl))
  f152 := Tryz.func215.trans (congrArg some (by kernel_rfl))
  f161 := Tryz.func183.trans (congrArg some (by kernel_rfl))
  f197 := Tryz.func202.trans (congrArg some (by kernel_rfl))
  f217 := Tryz.func240.trans (congrArg some (by kernel_rfl))
  f224 := Tryz.func229.trans (congrArg some (by kernel_rfl))
  f225 := Tryz.func230.trans (congrArg some (by kernel_rfl))
  f227 := Tryz.func163.trans (congrArg some (by kernel_rfl))
  f228 := Tryz.func201.trans (congrArg some (by kernel_rfl))
  f231 := Tryz.func161.trans (congrArg some (by kernel_rfl))
  f233 := Tryz.func164.trans (congrArg some (by kernel_rfl))
  f235 := Tryz.func166.trans (congrArg some (by kernel_rfl))
  f260 := Tryz.func214.trans (congrArg some (by kernel_rfl))
  f266 := Tryz.func246.trans (congrArg some (by kernel_rfl))
  t0 := Tryz.underlying0
  a0 := Tryz.isAgg0
  z0 := Tryz.sizeOf0
  v0 := Tryz.zeroValue0
  t3 := Tryz.underlying3
  a3 := Tryz.isAgg3
  z3 := Tryz.sizeOf3
  v3 := Tryz.zeroValue3
  t4 := Tryz.underlying4
  a4 := Tryz.isAgg4
  z4 := Tryz.sizeOf4
  v4 := Tryz.zeroValue4
  t5 := Tryz.underlying5
  a5 := Tryz.isAgg5
  z5 := Tryz.sizeOf5
  v5 := Tryz.zeroValue5
  t9 := Tryz.underlying9
  a9 := Tryz.isAgg9
  z9 := Tryz.sizeOf9
  v9 := Tryz.zeroValue9
  t21 := Tryz.underlying21
  a21 := Tryz.isAgg21
  z21 := Tryz.sizeOf21
  v21 := Tryz.zeroValue21
  t46 := Tryz.underlying186
  a46 := Tryz.isAgg186
  z46 := Tryz.sizeOf186
  v46 := Tryz.zeroValue186
  t105 := Tryz.underlying228
  a105 := Tryz.isAgg228
  z105 := Tryz.sizeOf228
  v105 := Tryz.zeroValue228
  t116 := Tryz.underlying197
  a116 := Tryz.isAgg197
  z116 := Tryz.sizeOf197
  t117 := Tryz.underlying198
  a117 := Tryz.isAgg198
  z117 := Tryz.sizeOf198
  v117 := Tryz.zeroValue198
  t119 := Tryz.underlying250
  a119 := Tryz.isAgg250
  z119 := Tryz.sizeOf250
  t124 := Tryz.underlying201
  a124 := Tryz.isAgg201
  z124 := Tryz.sizeOf201
  v124 := Tryz.zeroValue201
  t138 := Tryz.underlying252
  a138 := Tryz.isAgg252
  z138 := Tryz.sizeOf252
  v138 := Tryz.zeroValue252
  t139 := Tryz.underlying253
  a139 := Tryz.isAgg253
  z139 := Tryz.sizeOf253
  v139 := Tryz.zeroValue253
  g3 := by kernel_rfl
  g4 := by kernel_rfl }
open Go.RowKit in
theorem Tryz.strings_TrimLeft_one (s : ByteArray) (c : UInt8) (hc : c.toNat < 128) (w : World) :
    Calls Tryz.prog 183 #[.string s, .string ⟨#[c]⟩] w fun e w' => e = .returned (.string ⟨(Lib.trimLeftB s.data.toList c).toArray⟩) ∧ w' = w := Any.strings_TrimLeft_one Tryz.lays161 s c hc w
def Tryz.lays162_ren : Go.Shelf.Ren := ⟨fun | 162 => 184 | 232 => 162 | 227 => 163 | 234 => 165 | 236 => 167 | 228 => 201 | 271 => 204 | 151 => 203 | 120 => 216 | 197 => 202 | 152 => 215 | 260 => 214 | 137 => 227 | 119 => 228 | 224 => 229 | 225 => 230 | 217 => 240 | 266 => 246 | n => n, fun | 9 => 9 | 4 => 4 | 3 => 3 | 5 => 5 | 117 => 198 | 116 => 197 | 0 => 0 | 124 => 201 | 21 => 21 | 105 => 228 | 46 => 186 | 119 => 250 | 139 => 253 | 138 => 252 | n => n, fun | 3 => 1 | 4 => 2 | n => n⟩
theorem Tryz.lays162 : Go.Proofs.Lays.n162 Tryz.prog Tryz.lays162_ren := {
  mixed := by kernel_rfl
  f119 := Tryz.func228.trans (congrArg some (by kernel_rfl))
  f120 := Tryz.func216.trans (congrArg some (by kernel_rfl))
  f137 := Tryz.func227.trans (congrArg some (by kernel_rfl))
  f151 := Tryz.func203.trans (congrArg some (by kernel_rfl))
  f152 := Tryz.func215.trans (congrArg some (by kernel_rfl))
  f162 := Tryz.func184.trans (congrArg some (by kernel_rfl))
  f197 := Tryz.func202.trans (congrArg some (by kernel_rfl))
  f217 := Tryz.func240.trans (congrArg some (by kernel_rfl))
  f224 := Tryz.func229.trans (congrArg some (by kernel_rfl))
  f225 := Tryz.func230.trans (congrArg some (by kernel_rfl))
  f227 := Tryz.func163.trans (congrArg some (by kernel_rfl))
  f228 := Tryz.func201.trans (congrArg some (by kernel_rfl))
  f232 := Tryz.func162.trans (congrArg some (by kernel_rfl))
  f234 := Tryz.func165.trans (congrArg some (by kernel_rfl))
  f236 := Tryz.func167.trans (congrArg some (by kernel_rfl))
  f260 := Tryz.func214.trans (congrArg some (by kernel_rfl))
  f266 := Tryz.func246.trans (congrArg some (by kernel_rfl))
  f271 := Tryz.func204.trans (congrArg some (by kernel_rfl))
  t0 := Tryz.underlying0
  a0 := Tryz.isAgg0
  z0 := Tryz.sizeOf0
  v0 := Tryz.zeroValue0
  t3 := Tryz.underlying3
  a3 := Tryz.isAgg3
  z3 := Tryz.sizeOf3
  v3 := Tryz.zeroValue3
  t4 := Tryz.underlying4
  a4 := Tryz.isAgg4
  z4 := Tryz.sizeOf4
  v4 := Tryz.zeroValue4
  t5 := Tryz.underlying5
  a5 := Tryz.isAgg5
  z5 := Tryz.sizeOf5
  v5 := Tryz.zeroValue5
  t9 := Tryz.underlying9
  a9 := Tryz.isAgg9
  z9 := Tryz.sizeOf9
  v9 := Tryz.zeroValue9
  t21 := Tryz.underlying21
  a21 := Tryz.isAgg21
  z21 := Tryz.sizeOf21
  v21 := Tryz.zeroValue21
  t46 := Tryz.underlying186
  a46 := Tryz.isAgg186
  z46 := Tryz.sizeOf186
  v46 := Tryz.zeroValue186
  t105 := Tryz.underlying228
  a105 := Tryz.isAgg228
  z105 := Tryz.sizeOf228
  v105 := Tryz.zeroValue228
  t116 := Tryz.underlying197
  a116 := Tryz.isAgg197
  z116 := Tryz.sizeOf197
  t117 := Tryz.underlying198
  a117 := Tryz.isAgg198
  z117 := Tryz.sizeOf198
  v117 := Tryz.zeroValue198
  t119 := Tryz.underlying250
  a119 := Tryz.isAgg250
  z119 := Tryz.sizeOf250
  t124 := Tryz.underlying201
  a124 := Tryz.isAgg201
  z124 := Tryz.sizeOf201
  v124 := Tryz.zeroValue201
  t138 := Tryz.underlying252
  a138 := Tryz.isAgg252
  z138 := Tryz.sizeOf252
  v138 := Tryz.zeroValue252
  t139 := Tryz.underlying253
  a139 := Tryz.isAgg253
  z139 := Tryz.sizeOf253
  v139 := Tryz.zeroValue253
  g3 := by kernel_rfl
  g4 := by kernel_rfl }
open Go.RowKit in
theorem Tryz.strings_TrimRight_one (s : ByteArray) (c : UInt8) (hc : c.toNat < 128) (w : World) (hs : s.size ≤ 9223372036854775807) :
    Calls Tryz.prog 184 #[.string s, .string ⟨#[c]⟩] w fun e w' => e = .returned (.string ⟨(Lib.trimRightB s.data.toList c).toArray⟩) ∧ w' = w := Any.strings_TrimRight_one Tryz.lays162 s c hc w hs
def Tryz.lays172_ren : Go.Shelf.Ren := ⟨fun | 172 => 182 | 244 => 209 | 245 => 210 | 247 => 218 | 279 => 219 | 280 => 220 | 281 => 221 | 282 => 222 | 287 => 232 | 316 => 233 | 171 => 116 | 205 => 234 | 321 => 242 | 322 => 243 | 243 => 185 | 246 => 211 | 283 => 223 | 284 => 224 | 285 => 225 | 286 => 226 | 129 => 236 | 317 => 235 | 318 => 237 | 319 => 238 | 320 => 239 | 337 => 244 | 338 => 245 | n => n, fun | 9 => 9 | 3 => 3 | 75 => 153 | 76 => 191 | 4 => 4 | 5 => 5 | 167 => 239 | 37 => 71 | 0 => 0 | 85 => 240 | 2 => 2 | 168 => 242 | 53 => 225 | 175 => 256 | 46 => 186 | 210 => 260 | 127 => 215 | 145 => 269 | 143 => 267 | 21 => 21 | 171 => 245 | 173 => 248 | 212 => 263 | 51 => 222 | 20 => 20 | 213 => 264 | 232 => 272 | 233 => 273 | 80 => 155 | n => n, fun | 15 => 3 | 16 => 4 | 17 => 5 | 18 => 6 | 19 => 7 | n => n⟩
theorem Tryz.lays172 : Go.Proofs.Lays.n172 Tryz.prog Tryz.lays172_ren := {
  mixed := by kernel_rfl
  f129 := Tryz.func236.trans (congrArg some (by kernel_rfl))
  f171 := Tryz.func116.trans (congrArg some (by kernel_rfl))
  f172 := Tryz.func182.trans (congrArg some (by kernel_rfl))
  f205 := Tryz.func234.trans (congrArg some (by kernel_rfl))
  f243 := Tryz.func185.trans (congrArg some (by kernel_rfl))
  f244 := Tryz.func209.trans (congrArg some (by kernel_rfl))
  f245 := Tryz.func210.trans (congrArg some (by kernel_rfl))
  f246 := Tryz.func211.trans (congrArg some (by kernel_rfl))
  f247 := Tryz.func218.trans (congrArg some (by kernel_rfl))
  f279 := Tryz.func219.trans (congrArg some (by kernel_rfl))
  f280 := Tryz.func220.trans (congrArg some (by kernel_rfl))
  f281 := Tryz.func221.trans (congrArg some (by kernel_rfl))
  f282 := Tryz.func222.trans (congrArg some (by kernel_rfl))
  f283 := Tryz.func223.trans (congrArg some (by kernel_rfl))
  f284 := Tryz.func224.trans (congrArg some (by kernel_rfl))
  f285 := Tryz.func225.trans (congrArg some (by kernel_rfl))
  f286 := Tryz.func226.trans (congrArg some (by kernel_rfl))
  f287 := Tryz.func232.trans (congrArg some (by kernel_rfl))
  f316 := Tryz.func233.trans (congrArg some (by kernel_rfl))
  f317 := Tryz.func235.trans (congrArg some (by kernel_rfl))
  f318 := Tryz.func237.trans (congrArg some (by kernel_rfl))
  f319 := Tryz.func238.trans (congrArg some (by kernel_rfl))
  f320 := Tryz.func239.trans (congrArg some (by kernel_rfl))
  f321 := Tryz.func242.trans (congrArg some (by kernel_rfl))
  f322 := Tryz.func243.trans (congrArg some (by kernel_rfl))
  f337 := Tryz.func244.trans (congrArg some (by kernel_rfl))
  f338 := Tryz.func245.trans (congrArg some (by kernel_rfl))
  t0 := Tryz.underlying0
  a0 := Tryz.isAgg0
  z0 := Tryz.sizeOf0
  v0 := Tryz.zeroValue0
  t2 := Tryz.underlying2
  a2 := Tryz.isAgg2
  z2 := Tryz.sizeOf2
  v2 := Tryz.zeroValue2
  t3 := Tryz.underlying3
  a3 := Tryz.isAgg3
  z3 := Tryz.sizeOf3
  v3 := Tryz.zeroValue3
  t4 := Tryz.underlying4
  a4 := Tryz.isAgg4
  z4 := Tryz.sizeOf4
  v4 := Tryz.zeroValue4
  t5 := Tryz.underlying5
  a5 := Tryz.isAgg5
  z5 := Tryz.sizeOf5
  v5 := Tryz.zeroValue5
  t9 := Tryz.underlying9
  a9 := Tryz.isAgg9
  z9 := Tryz.sizeOf9
  v9 := Tryz.zeroValue9
  t20 := Tryz.underlying20
  a20 := Tryz.isAgg20
  z20 := Tryz.sizeOf20
  v20 := Tryz.zeroValue20
  t21 := Tryz.underlying21
  a21 := Tryz.isAgg21
  z21 := Tryz.sizeOf21
  v21 := Tryz.zeroValue21
  t37 := Tryz.underlying71
  a37 := Tryz.isAgg71
  z37 := Tryz.sizeOf71
  v37 := Tryz.zeroValue71
  t46 := Tryz.underlying186
  a46 := Tryz.isAgg186
  z46 := Tryz.sizeOf186
  v46 := Tryz.zeroValue186
  t51 := Tryz.underlying222
  a51 := Tryz.isAgg222
  z51 := Tryz.sizeOf222
  v51 := Tryz.zeroValue222
  t53 := Tryz.underlying225
  a53 := Tryz.isAgg225
  z53 := Tryz.sizeOf225
  v53 := Tryz.zeroValue225
  t75 := Tryz.underlying153
  a75 := Tryz.isAgg153
  z75 := Tryz.sizeOf153
  v75 := Tryz.zeroValue153
  t76 := Tryz.underlying191
  a76 := Tryz.isAgg191
  z76 := Tryz.sizeOf191
  v76 := Tryz.zeroValue191
  t85 := Tryz.underlying240
  a85 := Tryz.isAgg240
  z85 := Tryz.sizeOf240
  v85 := Tryz.zeroValue240
  t127 := Tryz.underlying215
  a127 := Tryz.isAgg215
  z127 := Tryz.sizeOf215
  v127 := Tryz.zeroValue215
  t143 := Tryz.underlying267
  a143 := Tryz.isAgg267
  z143 := Tryz.sizeOf267
  v143 := Tryz.zeroValue267
  t145 := Tryz.underlying269
  a145 := Tryz.isAgg269
  z145 := Tryz.sizeOf269
  v145 := Tryz.zeroValue269
  t167 := Tryz.underlying239
  a167 := Tryz.isAgg239
  z167 := Tryz.sizeOf239
  v167 := Tryz.zeroValue239
  t168 := Tryz.underlying242
  a168 := Tryz.isAgg242
  z168 := Tryz.sizeOf242
  v168 := Tryz.zeroValue242
  t171 := Tryz.underlying245
  a171 := Tryz.isAgg245
  z171 := Tryz.sizeOf245
  v171 := Tryz.zeroValue245
  t173 := Tryz.underlying248
  a173 := Tryz.isAgg248
  z173 := Tryz.sizeOf248
  v173 := Tryz.zeroValue248
  t175 := Tryz.underlying256
  a175 := Tryz.isAgg256
  z175 := Tryz.sizeOf256
  v175 := Tryz.zeroValue256
  t210 := Tryz.underlying260
  a210 := Tryz.isAgg260
  z210 := Tryz.sizeOf260
  v210 := Tryz.zeroValue260
  t212 := Tryz.underlying263
  a212 := Tryz.isAgg263
  z212 := Tryz.sizeOf263
  v212 := Tryz.zeroValue263
  t213 := Tryz.underlying264
  a213 := Tryz.isAgg264
  z213 := Tryz.sizeOf264
  t232 := Tryz.underlying272
  a232 := Tryz.isAgg272
  z232 := Tryz.sizeOf272
  v232 := Tryz.zeroValue272
  t233 := Tryz.underlying273
  a233 := Tryz.isAgg273
  z233 := Tryz.sizeOf273
  v233 := Tryz.zeroValue273
  g15 := by kernel_rfl
  g16 := by kernel_rfl
  g17 := by kernel_rfl
  g18 := by kernel_rfl
  g19 := by kernel_rfl }
open Go.RowKit in
theorem Tryz.strconv_Atoi (s : ByteArray) (n : Int) (hl : s.size ≤ 18) (h : Lib.atoi s.data.toList = some n) (w : World) :
    Calls Tryz.prog 182 #[.string s] w fun e w' => e = .returned (.tuple #[.int .i64 n, .nilIface]) ∧ ∃ t, w' = Lib.bytesWorld w 5 t := Any.strconv_Atoi Tryz.lays172 s n hl h w
def Tryz.laysM171_ren : Go.Shelf.Ren := ⟨fun | 171 => 116 | 243 => 185 | 246 => 211 | 283 => 223 | 284 => 224 | 285 => 225 | 286 => 226 | 129 => 236 | 317 => 235 | 318 => 237 | 319 => 238 | 320 => 239 | 337 => 244 | 338 => 245 | n => n, fun | 3 => 3 | 9 => 9 | 2 => 2 | 4 => 4 | 171 => 245 | 0 => 0 | 53 => 225 | 37 => 71 | 5 => 5 | 173 => 248 | 212 => 263 | 51 => 222 | 20 => 20 | 213 => 264 | 46 => 186 | 232 => 272 | 233 => 273 | n => n, fun | 17 => 5 | 18 => 6 | 19 => 7 | n => n⟩
theorem Tryz.laysM171 : Go.Proofs.LaysM.n171 Tryz.prog Tryz.laysM171_ren := {
  mixed := by kernel_rfl
  f129 := Tryz.func236.trans (congrArg some (by kernel_rfl))
  f171 := Tryz.func116.trans (congrArg some (by kernel_rfl))
  f243 := Tryz.func185.trans (congrArg some (by kernel_rfl))
  f246 := Tryz.func211.trans (congrArg some (by kernel_rfl))
  f283 := Tryz.func223.trans (congrArg some (by kernel_rfl))
  f284 := Tryz.func224.trans (congrArg some (by kernel_rfl))
  f285 := Tryz.func225.trans (congrArg some (by kernel_rfl))
  f286 := Tryz.func226.trans (congrArg some (by kernel_rfl))
  f317 := Tryz.func235.trans (congrArg some (by kernel_rfl))
  f318 := Tryz.func237.trans (congrArg some (by kernel_rfl))
  f319 := Tryz.func238.trans (congrArg some (by kernel_rfl))
  f320 := Tryz.func239.trans (congrArg some (by kernel_rfl))
  f337 := Tryz.func244.trans (congrArg some (by kernel_rfl))
  f338 := Tryz.func245.trans (congrArg some (by kernel_rfl))
  t0 := Tryz.underlying0
  a0 := Tryz.isAgg0
  z0 := Tryz.sizeOf0
  v0 := Tryz.zeroValue0
  t2 := Tryz.underlying2
  a2 := Tryz.isAgg2
  z2 := Tryz.sizeOf2
  v2 := Tryz.zeroValue2
  t3 := Tryz.underlying3
  a3 := Tryz.isAgg3
  z3 := Tryz.sizeOf3
  v3 := Tryz.zeroValue3
  t4 := Tryz.underlying4
  a4 := Tryz.isAgg4
  z4 := Tryz.sizeOf4
  v4 := Tryz.zeroValue4
  t5 := Tryz.underlying5
  a5 := Tryz.isAgg5
  z5 := Tryz.sizeOf5
  v5 := Tryz.zeroValue5
  t9 := Tryz.underlying9
  a9 := Tryz.isAgg9
  z9 := Tryz.sizeOf9
  v9 := Tryz.zeroValue9
  t20 := Tryz.underlying20
  a20 := Tryz.isAgg20
  z20 := Tryz.sizeOf20
  v20 := Tryz.zeroValue20
  t37 := Tryz.underlying71
  a37 := Tryz.isAgg71
  z37 := Tryz.sizeOf71
  v37 := Tryz.zeroValue71
  t46 := Tryz.underlying186
  a46 := Tryz.isAgg186
  z46 := Tryz.sizeOf186
  v46 := Tryz.zeroValue186
  t51 := Tryz.underlying222
  a51 := Tryz.isAgg222
  z51 := Tryz.sizeOf222
  v51 := Tryz.zeroValue222
  t53 := Tryz.underlying225
  a53 := Tryz.isAgg225
  z53 := Tryz.sizeOf225
  v53 := Tryz.zeroValue225
  t171 := Tryz.underlying245
  a171 := Tryz.isAgg245
  z171 := Tryz.sizeOf245
  v171 := Tryz.zeroValue245
  t173 := Tryz.underlying248
  a173 := Tryz.isAgg248
  z173 := Tryz.sizeOf248
  v173 := Tryz.zeroValue248
  t212 := Tryz.underlying263
  a212 := Tryz.isAgg263
  z212 := Tryz.sizeOf263
  v212 := Tryz.zeroValue263
  t213 := Tryz.underlying264
  a213 := Tryz.isAgg264
  z213 := Tryz.sizeOf264
  t232 := Tryz.underlying272
  a232 := Tryz.isAgg272
  z232 := Tryz.sizeOf272
  v232 := Tryz.zeroValue272
  t233 := Tryz.underlying273
  a233 := Tryz.isAgg273
  z233 := Tryz.sizeOf273
  v233 := Tryz.zeroValue273
  g17 := by kernel_rfl
  g18 := by kernel_rfl
  g19 := by kernel_rfl
  i0 := by kernel_rfl
  i2 := by kernel_rfl
  i3 := by kernel_rfl
  i4 := by kernel_rfl
  i5 := by kernel_rfl
  i9 := by kernel_rfl
  i20 := by kernel_rfl
  i37 := by kernel_rfl
  i46 := by kernel_rfl
  i51 := by kernel_rfl
  i53 := by kernel_rfl
  i171 := by kernel_rfl
  i173 := by kernel_rfl
  i212 := by kernel_rfl
  i232 := by kernel_rfl
  i233 := by kernel_rfl
  m17 := by kernel_rfl
  m18 := by kernel_rfl
  m19 := by kernel_rfl }
open Go.RowKit Go.Sort Go.Lib in
theorem Tryz.strconv_Itoa (n : Int) (h0 : -9223372036854775808 ≤ n) (h1 : n ≤ 9223372036854775807) (w : World) (htab : Lib.TabIs Tryz.prog w "internal/strconv.uint64pow10" .u64 Lib.pow10Tab) :
    Calls Tryz.prog 116 #[.int .i64 n] w fun e w' => e = .returned (.string ⟨(Lib.itoa n).toArray⟩) ∧ ∃ k os, w' = grow (w.drewN k) os := Any.strconv_Itoa Tryz.laysM171 n h0 h1 w htab
def Tryz.lays144_ren : Go.Shelf.Ren := ⟨fun | 144 => 208 | 143 => 217 | 219 => 231 | 217 => 240 | 225 => 230 | 224 => 229 | 267 => 241 | 266 => 246 | 314 => 247 | n => n, fun | 9 => 9 | 4 => 4 | 3 => 3 | 5 => 5 | 46 => 186 | 146 => 223 | 51 => 222 | n => n, fun | 1 => 0 | n => n⟩
theorem Tryz.lays144 : Go.Proofs.Lays.n144 Tryz.prog Tryz.lays144_ren := {
  mixed := by kernel_rfl
  f143 := Tryz.func217.trans (congrArg some (by kernel_rfl))
  f144 := Tryz.func208.trans (congrArg some (by kernel_rfl))
  f217 := Tryz.func240.trans (congrArg some (by kernel_rfl))
  f219 := Tryz.func231.trans (congrArg some (by kernel_rfl))
  f224 := Tryz.func229.trans (congrArg some (by kernel_rfl))
  f225 := Tryz.func230.trans (congrArg some (by kernel_rfl))
  f266 := Tryz.func246.trans (congrArg some (by kernel_rfl))
  f267 := Tryz.func241.trans (congrArg some (by kernel_rfl))
  f314 := Tryz.func247.trans (congrArg some (by kernel_rfl))
  t3 := Tryz.underlying3
  a3 := Tryz.isAgg3
  z3 := Tryz.sizeOf3
  v3 := Tryz.zeroValue3
  t4 := Tryz.underlying4
  a4 := Tryz.isAgg4
  z4 := Tryz.sizeOf4
  v4 := Tryz.zeroValue4
  t5 := Tryz.underlying5
  a5 := Tryz.isAgg5
  z5 := Tryz.sizeOf5
  v5 := Tryz.zeroValue5
  t9 := Tryz.underlying9
  a9 := Tryz.isAgg9
  z9 := Tryz.sizeOf9
  v9 := Tryz.zeroValue9
  t46 := Tryz.underlying186
  a46 := Tryz.isAgg186
  z46 := Tryz.sizeOf186
  v46 := Tryz.zeroValue186
  t51 := Tryz.underlying222
  a51 := Tryz.isAgg222
  z51 := Tryz.sizeOf222
  v51 := Tryz.zeroValue222
  t146 := Tryz.underlying223
  a146 := Tryz.isAgg223
  z146 := Tryz.sizeOf223
  v146 := Tryz.zeroValue223
  g1 := by kernel_rfl }
open Go.RowKit Go.Lib in
theorem Tryz.strings_Contains_one (s : ByteArray) (c : UInt8) (w : World) :
    Calls Tryz.prog 208 #[.string s, .string ⟨#[c]⟩] w fun e w' => e = .returned (.bool (decide (0 ≤ Lib.indexByte s.data.toList c))) ∧ w' = w := Any.strings_Contains_one Tryz.lays144 s c w
end Go.Proofs

/- The digits' seat: a reader's steps. -/
namespace Go.Iron.Tryz
open Go.Proofs Go.RowKit Go.Iron.Tok Go.Iron.Dg

def isD (b : UInt8) : Bool := decide (48 ≤ b.toNat) && decide (b.toNat ≤ 57)
theorem while_at {p : UInt8 → Bool} : ∀ {s : Str} {i : Nat}, i ≤ s.length → (∀ j (h : j < s.length), j < i → p s[j] = true) → (∀ h : i < s.length, p s[i] = false) → s.takeWhile p = s.take i ∧ s.dropWhile p = s.drop i
  | [], i, hi, _, _ => by simp
  | b :: s, 0, _, _, h => by
    have := h (Nat.succ_pos _)
    rw [List.getElem_cons_zero] at this
    rw [List.takeWhile_cons, List.dropWhile_cons, this]
    exact ⟨rfl, rfl⟩
  | b :: s, i + 1, hi, h1, h2 => by
    have hb := h1 0 (Nat.succ_pos _) (Nat.succ_pos _)
    rw [List.getElem_cons_zero] at hb
    obtain ⟨e1, e2⟩ := while_at (s := s) (i := i) (Nat.le_of_succ_le_succ hi) (fun j h hj => by have := h1 (j + 1) (Nat.succ_lt_succ h) (Nat.succ_lt_succ hj); rwa [List.getElem_cons_succ] at this) (fun h => by have := h2 (Nat.succ_lt_succ h); rwa [List.getElem_cons_succ] at this)
    rw [List.takeWhile_cons, List.dropWhile_cons, hb, if_pos rfl, if_pos rfl, e1, e2]
    exact ⟨rfl, rfl⟩
theorem d_digits (o0 o1 : AO) (hk0 : ∀ l, Kept 3 l → Kept 3 (o0 :: o1 :: l)) (s : Str) (hs : s.length ≤ 100000) : CallT Tryz.prog 181 [.ptr 2 0 0] [o0, o1, .box 143 [sv s]] (fun o A => o = .ret (sv (s.takeWhile isD)) ∧ A = [o0, o1, .box 143 [sv (s.dropWhile isD)]]) := by
  refine callS_body (n := 48) rfl rfl fun w ρ X => ?_
  refine runS_x (I := inf) (J := jnf) ⟨false, false, [], 0, 0⟩ 9999 rfl (by repeat (first | exact obs_nil | refine obs_draw (by kernel_rfl) ?_ | refine obs_same ?_ | refine obs_and ?_ | refine obs_by (by (simp [inB] <;> omega)) ?_)) ?_
  refine runS_while (fun (i : Nat) τ ar => (τ 0 = .ptr 2 0 0 ∧ τ 3 = iv i) ∧ ar = [o0, o1, .box 143 [sv s]] ∧ i ≤ s.length ∧ ∀ j (h : j < s.length), j < i → isD s[j] = true) (fun i => s.length - i) 0 ⟨⟨rfl, rfl⟩, rfl, Nat.zero_le _, fun j _ hj => by omega⟩ ?_
  rintro i τ' ar' ⟨⟨g0, g3⟩, rfl, hi, hall⟩ ih
  refine runS_says 0 (by exact g0) (Says.refl _) ?_; refine runS_says 3 (by exact g3) (Says.refl _) ?_
  refine runS_x (I := inf) (J := jnf) ⟨false, false, [], 0, 0⟩ 9999 rfl (by repeat (first | exact obs_nil | refine obs_draw (by kernel_rfl) ?_ | refine obs_same ?_ | refine obs_and ?_ | refine obs_by (by (simp [inB, blS] <;> omega)) ?_)) ?_
  have hcd : (if (if decide ((i : Int) < (s.length : Int)) = true then decide (((byt s i : Nat) : Int) ≥ 48) else false) = true then decide (((byt s i : Nat) : Int) ≤ 57) else false) = decide (∃ h : i < s.length, isD s[i] = true) := by
    by_cases h : i < s.length
    · have hb := byt_get h
      unfold isD
      rw [decide_eq_true (show (i : Int) < (s.length : Int) by omega), if_pos rfl, Bool.eq_iff_iff]
      simp [h, hb]
      omega
    · rw [decide_eq_false (show ¬ (i : Int) < (s.length : Int) by omega), Bool.eq_iff_iff]
      simp [h]
  refine runS_cond rfl (fun h => ?_) (fun h => ?_)
  · obtain ⟨hlt, hd⟩ := of_decide_eq_true (hcd.symm.trans h)
    have hw1 : IntKind.wrap .i64 ((i : Int) + 1) = ((i + 1 : Nat) : Int) := by rw [w64 (by omega) (by omega)]; rfl
    refine runS_x (I := inf) (J := jnf) ⟨false, false, [], 0, 0⟩ 9999 rfl (by repeat (first | exact obs_nil | refine obs_draw (by kernel_rfl) ?_ | refine obs_same ?_ | refine obs_and ?_ | refine obs_by (by (simp [inB] <;> omega)) ?_)) ?_
    refine ih (i + 1) _ _ (by omega) ⟨⟨rfl, congrArg iv hw1⟩, rfl, hlt, fun j hj hji => ?_⟩
    by_cases e : j = i
    · subst e; exact hd
    · exact hall j hj (by omega)
  · have hno := of_decide_eq_false (hcd.symm.trans h)
    obtain ⟨e1, e2⟩ := while_at (p := isD) hi hall (fun h => by
      cases hb : isD s[i] with
      | false => rfl
      | true => exact absurd ⟨h, hb⟩ hno)
    rw [e1, e2]
    refine runS_x (I := inf) (J := jnf) ⟨false, false, [], 0, 0⟩ 9999 rfl (by repeat (first | exact obs_nil | refine obs_draw (by kernel_rfl) ?_ | refine obs_same ?_ | refine obs_and ?_ | refine obs_by (by (simp [inB, blS] <;> omega)) ?_)) ?_
    have p1 : part2 0 (i : Int) (bl (bs s)) = s.take i := rfl
    have p2 : part2 (i : Int) ((bl (bs s)).length : Int) (bl (bs s)) = s.drop i := by
      rw [blS]
      show (s.take s.length).drop i = _
      rw [List.take_length]
    refine runS_ret (I := inf) 3 rfl (Nat.le_refl _) rfl (hk0 _ (.box rfl .nil)) rfl ⟨by rw [← p1]; rfl, by rw [← p2]⟩
theorem idx_ge : ∀ (s : Str) (c : UInt8), -1 ≤ Lib.indexByte s c
  | [], c => by show -1 ≤ (-1 : Int); omega
  | b :: s, c => by
    have := idx_ge s c
    unfold Lib.indexByte
    split
    · omega
    · split <;> omega
theorem idx_has : ∀ (s : Str) (c : UInt8), decide (0 ≤ Lib.indexByte s c) = s.contains c
  | [], c => rfl
  | b :: s, c => by
    have h1 := idx_ge s c
    have h2 := idx_has s c
    unfold Lib.indexByte
    rw [List.contains_cons, ← h2]
    by_cases h : b = c
    · subst h
      simp
    · rw [if_neg (by simpa using h)]
      have hb : (c == b) = false := by simpa using fun e : c = b => h e.symm
      rw [hb, Bool.false_or, Bool.eq_iff_iff]
      simp only [decide_eq_true_eq]
      split
      · rename_i e
        have e' : Lib.indexByte s c = -1 := by simpa using e
        omega
      · rename_i e
        have e' : ¬ Lib.indexByte s c = -1 := by simpa using e
        omega
def tkO (some : Str) : Str → (UInt8 × Bool) × Str
  | [] => ((0, false), [])
  | b :: s => if some.contains b then ((b, true), s) else ((0, false), b :: s)
theorem lib_contains (s : Str) (c : UInt8) : CallT Tryz.prog 208 [sv s, sv [c]] [] (fun o A => o = .ret (bv (decide (0 ≤ Lib.indexByte s c))) ∧ A = []) :=
  callT_lib fun w O vs hst hl hv => by
    obtain ⟨v, v2, rfl⟩ : ∃ v v2, vs = #[v, v2] := by
      obtain ⟨l⟩ := vs
      match l, hl with
      | [v, v2], _ => exact ⟨v, v2, rfl⟩
    have hv0 := rv_val (hv 0 _ v rfl rfl)
    have hv1 := rv_val (hv 1 _ v2 rfl rfl)
    subst hv0
    subst hv1
    refine (Tryz.strings_Contains_one (bs s) c w).mono fun e w' hh => ?_
    obtain ⟨rfl, rfl⟩ := hh
    exact ⟨_, rfl, Below.refl _ _, fun w'' O' => .val⟩
theorem lib_trimLeft (s : Str) : CallT Tryz.prog 183 [sv s, sv [48]] [] (fun o A => o = .ret (sv (Lib.trimLeftB s 48)) ∧ A = []) :=
  callT_lib fun w O vs hst hl hv => by
    obtain ⟨v, v2, rfl⟩ : ∃ v v2, vs = #[v, v2] := by
      obtain ⟨l⟩ := vs
      match l, hl with
      | [v, v2], _ => exact ⟨v, v2, rfl⟩
    have hv0 := rv_val (hv 0 _ v rfl rfl)
    have hv1 := rv_val (hv 1 _ v2 rfl rfl)
    subst hv0
    subst hv1
    refine (Tryz.strings_TrimLeft_one (bs s) 48 (by decide) w).mono fun e w' hh => ?_
    obtain ⟨rfl, rfl⟩ := hh
    exact ⟨_, rfl, Below.refl _ _, fun w'' O' => .val⟩
theorem lib_trimRight (s : Str) (hs : s.length ≤ 100000) : CallT Tryz.prog 184 [sv s, sv [48]] [] (fun o A => o = .ret (sv (Lib.trimRightB s 48)) ∧ A = []) :=
  callT_lib fun w O vs hst hl hv => by
    obtain ⟨v, v2, rfl⟩ : ∃ v v2, vs = #[v, v2] := by
      obtain ⟨l⟩ := vs
      match l, hl with
      | [v, v2], _ => exact ⟨v, v2, rfl⟩
    have hv0 := rv_val (hv 0 _ v rfl rfl)
    have hv1 := rv_val (hv 1 _ v2 rfl rfl)
    subst hv0
    subst hv1
    refine (Tryz.strings_TrimRight_one (bs s) 48 (by decide) w (show s.length ≤ _ by omega)).mono fun e w' hh => ?_
    obtain ⟨rfl, rfl⟩ := hh
    exact ⟨_, rfl, Below.refl _ _, fun w'' O' => .val⟩
theorem lib_atoi (s : Str) (n : Int) (hl : s.length ≤ 18) (h : Lib.atoi s = some n) : CallT Tryz.prog 182 [sv s] [] (fun o A => o = .ret (.tup [iv n, .val .nilIface]) ∧ A = []) :=
  callT_lib fun w O vs hst hl' hv => by
    obtain ⟨v, rfl⟩ : ∃ v, vs = #[v] := by
      obtain ⟨l⟩ := vs
      match l, hl' with
      | [v], _ => exact ⟨v, rfl⟩
    have hv0 := rv_val (hv 0 _ v rfl rfl)
    subst hv0
    refine (Tryz.strconv_Atoi (bs s) n (show s.length ≤ 18 from hl) h w).mono fun e w' hh => ?_
    obtain ⟨rfl, t, rfl⟩ := hh
    refine ⟨_, rfl, Lib.bytesWorld_below w 5 t, fun w'' O' => .tup rfl fun i x v hx hv => ?_⟩
    rcases i with _ | _ | i
    · cases hx; cases hv; exact .val
    · cases hx; cases hv; exact .val
    · simp at hx
theorem d_take (o0 o1 : AO) (hk0 : ∀ l, Kept 3 l → Kept 3 (o0 :: o1 :: l)) (some s : Str) (hs : s.length ≤ 100000) (hso : some.length ≤ 100) : CallT Tryz.prog 180 [.ptr 2 0 0, sv some] [o0, o1, .box 143 [sv s]] (fun o A => o = .ret (.tup [uv (tkO some s).1.1.toNat, bv (tkO some s).1.2]) ∧ A = [o0, o1, .box 143 [sv (tkO some s).2]]) := by
  have hraw : ((((bs s).toList == (ByteArray.mk #[]).toList) == false) && true) = true → (decide ((0 : Int) ≤ 0) && decide ((0 : Int) ≤ 1) && decide ((1 : Int) ≤ ((bl (bs s)).length : Int))) = true := by
    rw [emptyB, blS]
    intro h
    simp at h ⊢
    cases s with
    | nil => exact absurd rfl h
    | cons b s => rw [List.length_cons]; omega
  refine callS_body (n := 36) rfl rfl fun w ρ X => ?_
  refine runS_x (I := inf) (J := jnf) ⟨false, false, [], 0, 0⟩ 9999 rfl (by repeat (first | exact obs_nil | refine obs_draw (by kernel_rfl) ?_ | refine obs_same ?_ | refine obs_and ?_ | refine obs_by (by first | exact hraw | (simp [inB] <;> omega)) ?_)) ?_
  cases s with
  | nil =>
    have he : ((bs []).toList == (ByteArray.mk #[]).toList) = true := by rw [emptyB]; rfl
    refine runS_callU rfl rfl (by first | exact .v rfl rfl rfl rfl | exact .o rfl rfl rfl rfl) rfl rfl (by repeat (first | exact .nil | refine .cons (.n rfl) ?_ | refine .cons .o ?_ | refine .cons gok_and ?_)) rfl rfl rfl rfl rfl (fun h => (show CallT Tryz.prog 208 _ [] (fun o A => o = .ret (bv false) ∧ A = []) from absurd h (by unfold condOf; rw [he]; decide))) ?_
    refine runS_x (I := inf) (J := jnf) ⟨false, false, [], 0, 0⟩ 9999 rfl (by repeat (first | exact obs_nil | refine obs_draw (by kernel_rfl) ?_ | refine obs_same ?_ | refine obs_and ?_ | refine obs_by (by (simp [inB] <;> omega)) ?_)) ?_
    refine runS_cond rfl (fun h => ?_) (fun h => ?_)
    · refine runS_x (I := inf) (J := jnf) ⟨false, false, [], 0, 0⟩ 9999 rfl (by repeat (first | exact obs_nil | refine obs_draw (by kernel_rfl) ?_ | refine obs_same ?_ | refine obs_and ?_ | refine obs_by (by (simp [inB] <;> omega)) ?_)) ?_
      exact runS_ret (I := inf) 3 rfl (Nat.le_refl _) rfl (hk0 _ (.box rfl .nil)) rfl ⟨rfl, rfl⟩
    · exfalso
      have h' : (if ((bs []).toList == (ByteArray.mk #[]).toList) = true then true else !false) = false := h
      rw [he] at h'
      cases h'
  | cons b s =>
    have he : ((bs (b :: s)).toList == (ByteArray.mk #[]).toList) = false := by rw [emptyB]; rfl
    have hsl : s.length + 1 ≤ 100000 := hs
    have hl2 : (b :: s).length = s.length + 1 := rfl
    refine runS_callU rfl rfl (by first | exact .v rfl rfl rfl rfl | exact .o rfl rfl rfl rfl) rfl rfl (by repeat (first | exact .nil | refine .cons (.n rfl) ?_ | refine .cons .o ?_ | refine .cons gok_and ?_)) rfl rfl rfl rfl rfl (fun _ => (lib_contains some b)) ?_
    refine runS_x (I := inf) (J := jnf) ⟨false, false, [], 0, 0⟩ 9999 rfl (by repeat (first | exact obs_nil | refine obs_draw (by kernel_rfl) ?_ | refine obs_same ?_ | refine obs_and ?_ | refine obs_by (by (simp [inB] <;> omega)) ?_)) ?_
    have hc := idx_has some b
    refine runS_cond rfl (fun h => ?_) (fun h => ?_)
    · have h' : (if ((bs (b :: s)).toList == (ByteArray.mk #[]).toList) = true then true else !decide (0 ≤ Lib.indexByte some b)) = true := h
      rw [he, hc] at h'
      have h2 : some.contains b = false := by simpa using h'
      have hT : tkO some (b :: s) = ((0, false), b :: s) := by
        show (if some.contains b then ((b, true), s) else ((0, false), b :: s)) = _
        rw [h2]; rfl
      rw [hT]
      refine runS_x (I := inf) (J := jnf) ⟨false, false, [], 0, 0⟩ 9999 rfl (by repeat (first | exact obs_nil | refine obs_draw (by kernel_rfl) ?_ | refine obs_same ?_ | refine obs_and ?_ | refine obs_by (by (simp [inB] <;> omega)) ?_)) ?_
      exact runS_ret (I := inf) 3 rfl (Nat.le_refl _) rfl (hk0 _ (.box rfl .nil)) rfl ⟨rfl, rfl⟩
    · have h' : (if ((bs (b :: s)).toList == (ByteArray.mk #[]).toList) = true then true else !decide (0 ≤ Lib.indexByte some b)) = false := h
      rw [he, hc] at h'
      have h2 : some.contains b = true := by simpa using h'
      have hT : tkO some (b :: s) = ((b, true), s) := by
        show (if some.contains b then ((b, true), s) else ((0, false), b :: s)) = _
        rw [h2]; rfl
      rw [hT]
      have hl : (bl (bs (b :: s))).length = s.length + 1 := rfl
      have hr2 : (decide ((0 : Int) ≤ 1) && decide ((1 : Int) ≤ ((bl (bs (b :: s))).length : Int)) && decide (((bl (bs (b :: s))).length : Int) ≤ ((bl (bs (b :: s))).length : Int))) = true := by
        rw [hl, decide_eq_true (show (1 : Int) ≤ ((s.length + 1 : Nat) : Int) by omega), decide_eq_true (Int.le_refl _)]
        rfl
      refine runS_x (I := inf) (J := jnf) ⟨false, false, [], 0, 0⟩ 9999 rfl (by repeat (first | exact obs_nil | refine obs_draw (by kernel_rfl) ?_ | refine obs_same ?_ | refine obs_and ?_ | refine obs_by (by first | exact fun _ => hr2 | (simp [inB, hl] <;> omega)) ?_)) ?_
      have p2 : part2 1 ((bl (bs (b :: s))).length : Int) (bl (bs (b :: s))) = s := by
        rw [blS]
        show ((b :: s).take (b :: s).length).drop 1 = _
        rw [List.take_length]
        rfl
      refine runS_ret (I := inf) 3 rfl (Nat.le_refl _) rfl (hk0 _ (.box rfl .nil)) rfl ⟨rfl, by rw [p2]⟩
end Go.Iron.Tryz

/- The digits' seat: numbers read. -/
namespace Go.Iron.Tryz
open Go.Proofs Go.RowKit Go.Iron.Tok Go.Iron.Dg

def valA (a : Nat) (s : Str) : Nat := s.foldl (fun a b => a * 10 + (b.toNat - 48)) a
def valS (s : Str) : Nat := valA 0 s
theorem dec_from : ∀ (s : Str) (a : Nat), s.all isD = true → Lib.decFrom a s = some (valA a s)
  | [], a, _ => rfl
  | b :: s, a, h => by
    rw [List.all_cons, Bool.and_eq_true] at h
    have hb : 48 ≤ b.toNat ∧ b.toNat ≤ 57 := by
      have := h.1
      unfold isD at this
      simpa using this
    unfold Lib.decFrom Lib.digitVal
    rw [if_pos hb]
    exact dec_from s _ h.2
theorem atoi_val {s : Str} (h : s.all isD = true) (h0 : s ≠ []) : Lib.atoi s = some ((valS s : Nat) : Int) := by
  cases s with
  | nil => exact absurd rfl h0
  | cons b s =>
    have hb : 48 ≤ b.toNat ∧ b.toNat ≤ 57 := by
      rw [List.all_cons, Bool.and_eq_true] at h
      have := h.1
      unfold isD at this
      simpa using this
    have e1 : (b == 45) = false := by
      rw [beq_eq_false_iff_ne]
      rintro rfl
      exact absurd hb (by decide)
    have e2 : (b == 43) = false := by
      rw [beq_eq_false_iff_ne]
      rintro rfl
      exact absurd hb (by decide)
    show (if (b == 45) = true then (Lib.decNat s).map (fun (m : Nat) => -(m : Int)) else if (b == 43) = true then (Lib.decNat s).map (fun (m : Nat) => (m : Int)) else (Lib.decNat (b :: s)).map (fun (m : Nat) => (m : Int))) = _
    rw [e1, e2, if_neg (by decide), if_neg (by decide)]
    unfold Lib.decNat
    rw [if_neg (by simp), dec_from _ _ h]
    rfl
theorem valA_lt : ∀ (s : Str) (a : Nat), s.all isD = true → valA a s < (a + 1) * 10 ^ s.length
  | [], a, _ => by show a < (a + 1) * 1; omega
  | b :: s, a, h => by
    rw [List.all_cons, Bool.and_eq_true] at h
    have hb : 48 ≤ b.toNat ∧ b.toNat ≤ 57 := by
      have := h.1
      unfold isD at this
      simpa using this
    have h1 := valA_lt s (a * 10 + (b.toNat - 48)) h.2
    have h2 : (a * 10 + (b.toNat - 48) + 1) * 10 ^ s.length ≤ (a + 1) * 10 * 10 ^ s.length := Nat.mul_le_mul_right _ (by omega)
    show valA (a * 10 + (b.toNat - 48)) s < _
    rw [List.length_cons, Nat.pow_succ, Nat.mul_comm (10 ^ s.length) 10, ← Nat.mul_assoc]
    omega
theorem valS_lt {s : Str} (h : s.all isD = true) : valS s < 10 ^ s.length := by
  have := valA_lt s 0 h
  unfold valS
  omega
structure Rd where
  c : UInt8
  w : Str
  f : Str
  r : Str
def rd1 (s : Str) : Rd :=
  if (tkO [46] ((tkO [43, 45] s).2.dropWhile isD)).1.2 = true then ⟨(tkO [43, 45] s).1.1, (tkO [43, 45] s).2.takeWhile isD, (tkO [46] ((tkO [43, 45] s).2.dropWhile isD)).2.takeWhile isD, (tkO [46] ((tkO [43, 45] s).2.dropWhile isD)).2.dropWhile isD⟩
  else ⟨(tkO [43, 45] s).1.1, (tkO [43, 45] s).2.takeWhile isD, [], (tkO [46] ((tkO [43, 45] s).2.dropWhile isD)).2⟩
def sgV (c : UInt8) (n : Nat) : Int := if c = 45 then -(n : Int) else n
structure Rx where
  bad : Bool
  fl : Bool
  ex : Int
  r : Str
def rd2 (s : Str) : Rx :=
  if (tkO [69] s).1.2 = true then
    ⟨decide (((tkO [43, 45] (tkO [69] s).2).2.takeWhile isD).length < 1 ∨ ((tkO [43, 45] (tkO [69] s).2).2.takeWhile isD).length > 2), true,
      sgV (tkO [43, 45] (tkO [69] s).2).1.1 (valS ((tkO [43, 45] (tkO [69] s).2).2.takeWhile isD)), (tkO [43, 45] (tkO [69] s).2).2.dropWhile isD⟩
  else ⟨false, false, 0, (tkO [69] s).2⟩
def allZ (w f : Str) : Str := Lib.trimLeftB (w ++ f) 48
def sigZ (fl : Bool) (w f : Str) : Str := if fl = true then Lib.trimRightB (allZ w f) 48 else allZ w f
def fltV (c : UInt8) (w f : Str) (ex : Int) : Vl := ⟨3, sgV c (valS (sigZ true w f)), if sgV c (valS (sigZ true w f)) ≠ 0 then ex - (f.length : Int) + (allZ w f).length - (sigZ true w f).length else 0, []⟩
def finR (c : UInt8) (w f : Str) (fl : Bool) (ex : Int) : Except Int Vl :=
  if (sigZ fl w f).length > 15 ∨ (fl = false ∧ f.length > 31) then .error 7
  else if fl = false then .ok ⟨2, sgV c (valS (sigZ false w f)), f.length, []⟩
  else if (fltV c w f ex).right = true then .ok (fltV c w f ex) else .error 7
def readP (s : Str) : Except Int Vl × Str :=
  if (rd1 s).w ++ (rd1 s).f = [] then (.error 2, (rd1 s).r)
  else if (rd2 (rd1 s).r).bad = true ∨ (rd2 (rd1 s).r).r ≠ [] then (.error 2, (rd2 (rd1 s).r).r)
  else (finR (rd1 s).c (rd1 s).w (rd1 s).f (rd2 (rd1 s).r).fl (rd2 (rd1 s).r).ex, [])
def outR : Except Int Vl → Out
  | .error e => .pan (.ifc 138 (.agg [iv e]))
  | .ok v => .ret (.agg (vlE v))
theorem tkO_len (so s : Str) : (tkO so s).2.length ≤ s.length := by
  cases s with
  | nil => exact Nat.le_refl _
  | cons b s =>
    show (if so.contains b then ((b, true), s) else ((0, false), b :: s)).2.length ≤ _
    split <;> simp
theorem tw_len (s : Str) : (s.takeWhile isD).length ≤ s.length := (List.takeWhile_prefix isD).length_le
theorem dw_len (s : Str) : (s.dropWhile isD).length ≤ s.length := (List.dropWhile_suffix isD).length_le
theorem tw_all (s : Str) : (s.takeWhile isD).all isD = true := List.all_takeWhile
theorem tl_len (s : Str) (c : UInt8) : (Lib.trimLeftB s c).length ≤ s.length := (List.dropWhile_suffix _).length_le
theorem tr_len (s : Str) (c : UInt8) : (Lib.trimRightB s c).length ≤ s.length := by
  unfold Lib.trimRightB
  have := (List.dropWhile_suffix (l := s.reverse) (· == c)).length_le
  rw [List.length_reverse] at this ⊢
  exact this
theorem tl_all {s : Str} (c : UInt8) (h : s.all isD = true) : (Lib.trimLeftB s c).all isD = true := by
  rw [List.all_eq_true] at h ⊢
  exact fun x hx => h x ((List.dropWhile_suffix _).subset hx)
theorem tr_all {s : Str} (c : UInt8) (h : s.all isD = true) : (Lib.trimRightB s c).all isD = true := by
  rw [List.all_eq_true] at h ⊢
  intro x hx
  unfold Lib.trimRightB at hx
  exact h x (List.mem_reverse.1 ((List.dropWhile_suffix _).subset (List.mem_reverse.1 hx)))
theorem sig_ok (fl : Bool) {wh f : Str} (h1 : wh.all isD = true) (h2 : f.all isD = true) : (sigZ fl wh f).length ≤ (allZ wh f).length ∧ (allZ wh f).length ≤ wh.length + f.length ∧ (sigZ fl wh f).all isD = true := by
  have ha : (allZ wh f).all isD = true := tl_all 48 (by rw [List.all_append, h1, h2]; rfl)
  have hl : (allZ wh f).length ≤ wh.length + f.length := by
    have := tl_len (wh ++ f) 48
    rw [List.length_append] at this
    exact this
  unfold sigZ
  split
  · exact ⟨tr_len _ _, hl, tr_all _ ha⟩
  · exact ⟨Nat.le_refl _, hl, ha⟩
theorem d_read (o0 o1 : AO) (hk0 : ∀ l, Kept 3 l → Kept 3 (o0 :: o1 :: l)) (s : Str) (hs : s.length ≤ 80) : CallT Tryz.prog 114 [.ptr 2 0 0] [o0, o1, .box 143 [sv s]] (fun o A => o = outR (readP s).1 ∧ A = [o0, o1, .box 143 [sv (readP s).2]]) := by
  obtain ⟨t0, ht0⟩ : ∃ t0, tkO [43, 45] s = t0 := ⟨_, rfl⟩
  have hl0 := tkO_len [43, 45] s
  have c0 := d_take o0 o1 hk0 [43, 45] s (by omega) (by decide)
  rw [ht0] at hl0 c0
  obtain ⟨⟨cc, hc⟩, s1⟩ := t0
  dsimp only at hl0 c0
  have c1 := d_digits o0 o1 hk0 s1 (by omega)
  have hw1 := tw_len s1
  have hw2 := dw_len s1
  have hw3 := tw_all s1
  have c2 := d_take o0 o1 hk0 [46] (s1.dropWhile isD) (by omega) (by decide)
  have hl2 := tkO_len [46] (s1.dropWhile isD)
  have hr1 : rd1 s = if (tkO [46] (s1.dropWhile isD)).1.2 = true then ⟨cc, s1.takeWhile isD, (tkO [46] (s1.dropWhile isD)).2.takeWhile isD, (tkO [46] (s1.dropWhile isD)).2.dropWhile isD⟩ else ⟨cc, s1.takeWhile isD, [], (tkO [46] (s1.dropWhile isD)).2⟩ := by unfold rd1; rw [ht0]
  generalize s1.takeWhile isD = wh at *
  generalize s1.dropWhile isD = s2 at *
  obtain ⟨t2, ht2⟩ : ∃ t2, tkO [46] s2 = t2 := ⟨_, rfl⟩
  rw [ht2] at hl2 c2 hr1
  obtain ⟨⟨c2b, is2⟩, s3⟩ := t2
  dsimp only at hl2 c2 hr1
  have c3 := d_digits o0 o1 hk0 s3 (by omega)
  have hf1 := tw_len s3
  have hf2 := dw_len s3
  have hf3 := tw_all s3
  unfold readP
  have hcc : ((cc.toNat : Nat) : Int) = 45 ↔ cc = 45 := by
    constructor
    · intro h
      exact UInt8.toNat_inj.1 (by show cc.toNat = 45; omega)
    · rintro rfl; rfl
  refine callS_body (n := 143) rfl rfl fun w ρ X => ?_
  refine runS_x (I := inf) (J := jnf) ⟨false, false, [], 0, 0⟩ 9999 rfl (by repeat (first | exact obs_nil | refine obs_draw (by kernel_rfl) ?_ | refine obs_same ?_ | refine obs_and ?_ | refine obs_by (by (simp [inB] <;> omega)) ?_)) ?_
  refine runS_callF [o0, o1, .box 143 [sv s]] [o0, o1, .box 143 [sv s1]] _ rfl rfl rfl rfl rfl (show _ = [.ptr 2 0 0, sv [43, 45]] from rfl) rfl (hk0 _ (.box rfl .nil)) rfl rfl c0 ?_
  refine runS_x (I := inf) (J := jnf) ⟨false, false, [], 0, 0⟩ 9999 rfl (by repeat (first | exact obs_nil | refine obs_draw (by kernel_rfl) ?_ | refine obs_same ?_ | refine obs_and ?_ | refine obs_by (by (simp [inB] <;> omega)) ?_)) ?_
  refine runS_callF [o0, o1, .box 143 [sv s1]] [o0, o1, .box 143 [sv s2]] _ rfl rfl rfl rfl rfl (show _ = [.ptr 2 0 0] from rfl) rfl (hk0 _ (.box rfl .nil)) rfl rfl c1 ?_
  refine runS_x (I := inf) (J := jnf) ⟨false, false, [], 0, 0⟩ 9999 rfl (by repeat (first | exact obs_nil | refine obs_draw (by kernel_rfl) ?_ | refine obs_same ?_ | refine obs_and ?_ | refine obs_by (by (simp [inB] <;> omega)) ?_)) ?_
  refine runS_callF [o0, o1, .box 143 [sv s2]] [o0, o1, .box 143 [sv s3]] _ rfl rfl rfl rfl rfl (show _ = [.ptr 2 0 0, sv [46]] from rfl) rfl (hk0 _ (.box rfl .nil)) rfl rfl c2 ?_
  refine runS_x (I := inf) (J := jnf) ⟨false, false, [], 0, 0⟩ 9999 rfl (by repeat (first | exact obs_nil | refine obs_draw (by kernel_rfl) ?_ | refine obs_same ?_ | refine obs_and ?_ | refine obs_by (by (simp [inB] <;> omega)) ?_)) ?_
  obtain ⟨f, hf⟩ : ∃ f, (if is2 = true then s3.takeWhile isD else []) = f := ⟨_, rfl⟩
  obtain ⟨s4, hs4⟩ : ∃ s4, (if is2 = true then s3.dropWhile isD else s3) = s4 := ⟨_, rfl⟩
  have hr2 : rd1 s = ⟨cc, wh, f, s4⟩ := by
    rw [hr1, ← hf, ← hs4]
    cases is2 <;> rfl
  have hf4 : f.length ≤ s3.length ∧ s4.length ≤ s3.length ∧ f.all isD = true := by
    rw [← hf, ← hs4]
    cases is2
    · exact ⟨Nat.zero_le _, Nat.le_refl _, rfl⟩
    · exact ⟨hf1, hf2, hf3⟩
  obtain ⟨hfl, hs4l, hfa⟩ := hf4
  rw [hr2]
  dsimp only
  refine runS_cut (fun τ ar => (τ 0 = .ptr 2 0 0 ∧ τ 2 = .ptr 3 0 0 ∧ τ 3 = uv cc.toNat ∧ τ 5 = sv wh ∧ τ 6 = sv f) ∧ ar = [o0, o1, .box 143 [sv s4], .box 23 [iv 0, iv 0, iv 0, sv []]]) (fun rest => ?_) ?_
  · refine runS_cond rfl (fun h => ?_) (fun h => ?_)
    · have h' : is2 = true := h
      rw [if_pos h'] at hf hs4
      rw [hf, hs4] at c3
      refine runS_x (I := inf) (J := jnf) ⟨false, false, [], 2, 0⟩ 9999 rfl (by repeat (first | exact obs_nil | refine obs_draw (by kernel_rfl) ?_ | refine obs_same ?_ | refine obs_and ?_ | refine obs_by (by (simp [inB] <;> omega)) ?_)) ?_
      refine runS_callF [o0, o1, .box 143 [sv s3]] [o0, o1, .box 143 [sv s4]] _ rfl rfl rfl rfl rfl (show _ = [.ptr 2 0 0] from rfl) rfl (hk0 _ (.box rfl .nil)) rfl rfl c3 ?_
      refine runS_x (I := inf) (J := jnf) ⟨false, false, [], 2, 0⟩ 9999 rfl (by repeat (first | exact obs_nil | refine obs_draw (by kernel_rfl) ?_ | refine obs_same ?_ | refine obs_and ?_ | refine obs_by (by (simp [inB] <;> omega)) ?_)) ?_
      exact rest _ _ ⟨⟨rfl, rfl, rfl, rfl, rfl⟩, rfl⟩
    · have h' : is2 = false := h
      rw [if_neg (by rw [h']; decide)] at hf hs4
      subst hf
      subst hs4
      refine runS_x (I := inf) (J := jnf) ⟨false, false, [], 2, 0⟩ 9999 rfl (by repeat (first | exact obs_nil | refine obs_draw (by kernel_rfl) ?_ | refine obs_same ?_ | refine obs_and ?_ | refine obs_by (by (simp [inB] <;> omega)) ?_)) ?_
      exact rest _ _ ⟨⟨rfl, rfl, rfl, rfl, rfl⟩, rfl⟩
  clear c0 c1 c2 c3 hr1 hr2 hf hs4 hf1 hf2 hf3 ht0 ht2
  rintro τ2 ar2 ⟨⟨g0, g2, g3, g5, g6⟩, rfl⟩
  refine runS_says 0 (by exact g0) (Says.refl _) ?_; refine runS_says 2 (by exact g2) (Says.refl _) ?_; refine runS_says 3 (by exact g3) (Says.refl _) ?_; refine runS_says 5 (by exact g5) (Says.refl _) ?_; refine runS_says 6 (by exact g6) (Says.refl _) ?_
  refine runS_x (I := inf) (J := jnf) ⟨false, false, [], 0, 0⟩ 9999 rfl (by repeat (first | exact obs_nil | refine obs_draw (by kernel_rfl) ?_ | refine obs_same ?_ | refine obs_and ?_ | refine obs_by (by (simp [inB] <;> omega)) ?_)) ?_
  refine runS_cond rfl (fun h => ?_) (fun h => ?_)
  · have h0 : wh ++ f = [] := by
      have := (emptyB (wh ++ f)).symm.trans h
      exact List.length_eq_zero_iff.1 (of_decide_eq_true this)
    rw [if_pos h0]
    refine runS_x (I := inf) (J := jnf) ⟨false, false, [], 0, 0⟩ 9999 rfl (by repeat (first | exact obs_nil | refine obs_draw (by kernel_rfl) ?_ | refine obs_same ?_ | refine obs_and ?_ | refine obs_by (by (simp [inB] <;> omega)) ?_)) ?_
    exact runS_pan 3 rfl (Nat.le_refl _) rfl (hk0 _ (.box rfl .nil)) ⟨rfl, rfl⟩
  · have h0 : wh ++ f ≠ [] := by
      have := (emptyB (wh ++ f)).symm.trans h
      exact fun e => of_decide_eq_false this (by rw [e]; rfl)
    rw [if_neg h0]
    clear h
    obtain ⟨t5, ht5⟩ : ∃ t5, tkO [69] s4 = t5 := ⟨_, rfl⟩
    have hl5 := tkO_len [69] s4
    have c5 := d_take o0 o1 hk0 [69] s4 (by omega) (by decide)
    rw [ht5] at hl5 c5
    obtain ⟨⟨c5b, isE⟩, s5⟩ := t5
    dsimp only at hl5 c5
    obtain ⟨t6, ht6⟩ : ∃ t6, tkO [43, 45] s5 = t6 := ⟨_, rfl⟩
    have hl6 := tkO_len [43, 45] s5
    have c6 := d_take o0 o1 hk0 [43, 45] s5 (by omega) (by decide)
    rw [ht6] at hl6 c6
    obtain ⟨⟨ce, hce⟩, s6⟩ := t6
    dsimp only at hl6 c6
    have c7 := d_digits o0 o1 hk0 s6 (by omega)
    have hw7 := tw_len s6
    have hw8 := dw_len s6
    have hw9 := tw_all s6
    have hr2 : rd2 s4 = if isE = true then ⟨decide ((s6.takeWhile isD).length < 1 ∨ (s6.takeWhile isD).length > 2), true, sgV ce (valS (s6.takeWhile isD)), s6.dropWhile isD⟩ else ⟨false, false, 0, s5⟩ := by
      unfold rd2
      rw [ht5]
      dsimp only
      rw [ht6]
    generalize s6.takeWhile isD = d at *
    generalize s6.dropWhile isD = s7 at *
    have hce45 : ((ce.toNat : Nat) : Int) = 45 ↔ ce = 45 := by
      constructor
      · intro h
        exact UInt8.toNat_inj.1 (by show ce.toNat = 45; omega)
      · rintro rfl; rfl
    refine runS_x (I := inf) (J := jnf) ⟨false, false, [], 0, 0⟩ 9999 rfl (by repeat (first | exact obs_nil | refine obs_draw (by kernel_rfl) ?_ | refine obs_same ?_ | refine obs_and ?_ | refine obs_by (by (simp [inB] <;> omega)) ?_)) ?_
    refine runS_callF [o0, o1, .box 143 [sv s4]] [o0, o1, .box 143 [sv s5]] _ rfl rfl rfl rfl rfl (show _ = [.ptr 2 0 0, sv [69]] from rfl) rfl (hk0 _ (.box rfl .nil)) rfl rfl c5 ?_
    refine runS_x (I := inf) (J := jnf) ⟨false, false, [], 0, 0⟩ 9999 rfl (by repeat (first | exact obs_nil | refine obs_draw (by kernel_rfl) ?_ | refine obs_same ?_ | refine obs_and ?_ | refine obs_by (by (simp [inB] <;> omega)) ?_)) ?_
    refine runS_cut (fun τ ar => (τ 0 = .ptr 2 0 0 ∧ τ 2 = .ptr 3 0 0 ∧ τ 3 = uv cc.toNat ∧ τ 5 = sv wh ∧ τ 6 = sv f ∧ τ 9 = iv (rd2 s4).ex ∧ τ 10 = bv (rd2 s4).fl) ∧ ar = [o0, o1, .box 143 [sv (rd2 s4).r], .box 23 [iv 0, iv 0, iv 0, sv []]] ∧ (rd2 s4).bad = false) (fun rest => ?_) ?_
    · refine runS_cond rfl (fun h => ?_) (fun h => ?_)
      · have h' : isE = true := h
        rw [if_pos h'] at hr2
        rw [hr2] at rest ⊢
        dsimp only at rest ⊢
        refine runS_x (I := inf) (J := jnf) ⟨false, false, [], 2, 0⟩ 9999 rfl (by repeat (first | exact obs_nil | refine obs_draw (by kernel_rfl) ?_ | refine obs_same ?_ | refine obs_and ?_ | refine obs_by (by (simp [inB] <;> omega)) ?_)) ?_
        refine runS_callF [o0, o1, .box 143 [sv s5]] [o0, o1, .box 143 [sv s6]] _ rfl rfl rfl rfl rfl (show _ = [.ptr 2 0 0, sv [43, 45]] from rfl) rfl (hk0 _ (.box rfl .nil)) rfl rfl c6 ?_
        refine runS_x (I := inf) (J := jnf) ⟨false, false, [], 2, 0⟩ 9999 rfl (by repeat (first | exact obs_nil | refine obs_draw (by kernel_rfl) ?_ | refine obs_same ?_ | refine obs_and ?_ | refine obs_by (by (simp [inB] <;> omega)) ?_)) ?_
        refine runS_callF [o0, o1, .box 143 [sv s6]] [o0, o1, .box 143 [sv s7]] _ rfl rfl rfl rfl rfl (show _ = [.ptr 2 0 0] from rfl) rfl (hk0 _ (.box rfl .nil)) rfl rfl c7 ?_
        refine runS_x (I := inf) (J := jnf) ⟨false, false, [], 2, 0⟩ 9999 rfl (by repeat (first | exact obs_nil | refine obs_draw (by kernel_rfl) ?_ | refine obs_same ?_ | refine obs_and ?_ | refine obs_by (by (simp [inB, blS] <;> omega)) ?_)) ?_
        have hcd : (if decide (((bl (bs d)).length : Int) < 1) = true then true else decide (((bl (bs d)).length : Int) > 2)) = decide (d.length < 1 ∨ d.length > 2) := by
          rw [blS]
          by_cases h1 : d.length < 1
          · rw [decide_eq_true (show (d.length : Int) < 1 by omega), if_pos rfl, decide_eq_true (show d.length < 1 ∨ d.length > 2 from .inl h1)]
          · rw [decide_eq_false (show ¬ (d.length : Int) < 1 by omega), if_neg (by decide), Bool.eq_iff_iff, decide_eq_true_iff, decide_eq_true_iff]
            omega
        refine runS_cond rfl (fun h2 => ?_) (fun h2 => ?_)
        · have hb : d.length < 1 ∨ d.length > 2 := of_decide_eq_true (hcd.symm.trans h2)
          rw [if_pos (show decide (d.length < 1 ∨ d.length > 2) = true ∨ s7 ≠ [] from .inl (decide_eq_true hb))]
          refine runS_x (I := inf) (J := jnf) ⟨false, false, [], 2, 0⟩ 9999 rfl (by repeat (first | exact obs_nil | refine obs_draw (by kernel_rfl) ?_ | refine obs_same ?_ | refine obs_and ?_ | refine obs_by (by (simp [inB] <;> omega)) ?_)) ?_
          exact runS_pan 3 rfl (Nat.le_refl _) rfl (hk0 _ (.box rfl .nil)) ⟨rfl, rfl⟩
        · have hb : ¬ (d.length < 1 ∨ d.length > 2) := of_decide_eq_false (hcd.symm.trans h2)
          have hd0 : d ≠ [] := fun e => hb (.inl (by rw [e]; decide))
          have hvd := valS_lt hw9
          have hvd2 : 10 ^ d.length ≤ 10 ^ 2 := Nat.pow_le_pow_right (by decide) (by omega)
          have hv100 : valS d < 100 := Nat.lt_of_lt_of_le hvd (Nat.le_trans hvd2 (by decide))
          have cA := lib_atoi d ((valS d : Nat) : Int) (by omega) (atoi_val hw9 hd0)
          have hwn : IntKind.wrap .i64 (0 - ((valS d : Nat) : Int)) = -((valS d : Nat) : Int) := by rw [w64 (by omega) (by omega)]; omega
          refine runS_x (I := inf) (J := jnf) ⟨false, false, [], 2, 0⟩ 9999 rfl (by repeat (first | exact obs_nil | refine obs_draw (by kernel_rfl) ?_ | refine obs_same ?_ | refine obs_and ?_ | refine obs_by (by (simp [inB] <;> omega)) ?_)) ?_
          refine runS_call rfl rfl rfl rfl rfl rfl rfl cA ?_
          refine runS_x (I := inf) (J := jnf) ⟨false, false, [], 2, 0⟩ 9999 rfl (by repeat (first | exact obs_nil | refine obs_draw (by kernel_rfl) ?_ | refine obs_same ?_ | refine obs_and ?_ | refine obs_by (by (simp [inB] <;> omega)) ?_)) ?_
          have hbf : decide (d.length < 1 ∨ d.length > 2) = false := decide_eq_false hb
          refine runS_cond rfl (fun h3 => ?_) (fun h3 => ?_)
          · have e : ce = 45 := hce45.1 (by simpa using (show (((ce.toNat : Nat) : Int) == 45) = true from h3))
            have hsg : sgV ce (valS d) = -((valS d : Nat) : Int) := by unfold sgV; rw [if_pos e]
            refine runS_x (I := inf) (J := jnf) ⟨false, false, [], 2, 0⟩ 9999 rfl (by repeat (first | exact obs_nil | refine obs_draw (by kernel_rfl) ?_ | refine obs_same ?_ | refine obs_and ?_ | refine obs_by (by (simp [inB] <;> omega)) ?_)) ?_
            exact rest _ _ ⟨⟨rfl, rfl, rfl, rfl, rfl, by rw [hsg]; exact congrArg iv hwn, rfl⟩, rfl, hbf⟩
          · have e : ¬ ce = 45 := fun e => by
              have : ¬ ((ce.toNat : Nat) : Int) = 45 := by simpa using (show (((ce.toNat : Nat) : Int) == 45) = false from h3)
              exact this (hce45.2 e)
            have hsg : sgV ce (valS d) = ((valS d : Nat) : Int) := by unfold sgV; rw [if_neg e]
            refine runS_x (I := inf) (J := jnf) ⟨false, false, [], 2, 0⟩ 9999 rfl (by repeat (first | exact obs_nil | refine obs_draw (by kernel_rfl) ?_ | refine obs_same ?_ | refine obs_and ?_ | refine obs_by (by (simp [inB] <;> omega)) ?_)) ?_
            exact rest _ _ ⟨⟨rfl, rfl, rfl, rfl, rfl, by rw [hsg]; rfl, rfl⟩, rfl, hbf⟩
      · have h' : isE = false := h
        rw [if_neg (by rw [h']; decide)] at hr2
        rw [hr2] at rest ⊢
        refine runS_x (I := inf) (J := jnf) ⟨false, false, [], 2, 0⟩ 9999 rfl (by repeat (first | exact obs_nil | refine obs_draw (by kernel_rfl) ?_ | refine obs_same ?_ | refine obs_and ?_ | refine obs_by (by (simp [inB] <;> omega)) ?_)) ?_
        exact rest _ _ ⟨⟨rfl, rfl, rfl, rfl, rfl, rfl, rfl⟩, rfl, rfl⟩
    clear c5 c6 c7
    rintro τ3 ar3 ⟨⟨g0, g2, g3, g5, g6, g9, g10⟩, rfl, hbad⟩
    refine runS_says 0 (by exact g0) (Says.refl _) ?_; refine runS_says 2 (by exact g2) (Says.refl _) ?_; refine runS_says 3 (by exact g3) (Says.refl _) ?_; refine runS_says 5 (by exact g5) (Says.refl _) ?_; refine runS_says 6 (by exact g6) (Says.refl _) ?_; refine runS_says 9 (by exact g9) (Says.refl _) ?_; refine runS_says 10 (by exact g10) (Says.refl _) ?_
    have hex : -100 ≤ (rd2 s4).ex ∧ (rd2 s4).ex ≤ 100 := by
      rw [hr2]
      by_cases hE : isE = true
      · rw [if_pos hE] at hr2 ⊢
        rw [hr2] at hbad
        have hb : ¬ (d.length < 1 ∨ d.length > 2) := of_decide_eq_false hbad
        have hvd := valS_lt hw9
        have hvd2 : 10 ^ d.length ≤ 10 ^ 2 := Nat.pow_le_pow_right (by decide) (by omega)
        dsimp only
        unfold sgV
        split <;> omega
      · rw [if_neg hE]; dsimp only; omega
    clear hr2
    rw [hbad]
    generalize rd2 s4 = R2 at *
    obtain ⟨bd, fl, ex, r⟩ := R2
    dsimp only at *
    refine runS_x (I := inf) (J := jnf) ⟨false, false, [], 0, 0⟩ 9999 rfl (by repeat (first | exact obs_nil | refine obs_draw (by kernel_rfl) ?_ | refine obs_same ?_ | refine obs_and ?_ | refine obs_by (by (simp [inB] <;> omega)) ?_)) ?_
    refine runS_cond rfl (fun h => ?_) (fun h => ?_)
    · have hr0 : r ≠ [] := by
        have h' : (!((bs r).toList == (ByteArray.mk #[]).toList)) = true := h
        rw [emptyB] at h'
        rintro rfl
        cases h'
      rw [if_pos (show false = true ∨ r ≠ [] from .inr hr0)]
      refine runS_x (I := inf) (J := jnf) ⟨false, false, [], 0, 0⟩ 9999 rfl (by repeat (first | exact obs_nil | refine obs_draw (by kernel_rfl) ?_ | refine obs_same ?_ | refine obs_and ?_ | refine obs_by (by (simp [inB] <;> omega)) ?_)) ?_
      exact runS_pan 3 rfl (Nat.le_refl _) rfl (hk0 _ (.box rfl .nil)) ⟨rfl, rfl⟩
    · have hr0 : r = [] := by
        have h' : (!((bs r).toList == (ByteArray.mk #[]).toList)) = false := h
        rw [emptyB, Bool.not_eq_false'] at h'
        exact List.length_eq_zero_iff.1 (of_decide_eq_true h')
      subst hr0
      rw [if_neg (show ¬ (false = true ∨ ([] : Str) ≠ []) by simp)]
      dsimp only
      have cL := lib_trimLeft (wh ++ f)
      obtain ⟨k1, hAl, k3⟩ := sig_ok fl hw3 hfa
      rw [show Lib.trimLeftB (wh ++ f) 48 = allZ wh f from rfl] at cL
      have cR := lib_trimRight (allZ wh f) (by omega)
      refine runS_x (I := inf) (J := jnf) ⟨false, false, [], 0, 0⟩ 9999 rfl (by repeat (first | exact obs_nil | refine obs_draw (by kernel_rfl) ?_ | refine obs_same ?_ | refine obs_and ?_ | refine obs_by (by (simp [inB] <;> omega)) ?_)) ?_
      refine runS_call rfl rfl rfl rfl rfl rfl rfl cL ?_
      refine runS_x (I := inf) (J := jnf) ⟨false, false, [], 0, 0⟩ 9999 rfl (by repeat (first | exact obs_nil | refine obs_draw (by kernel_rfl) ?_ | refine obs_same ?_ | refine obs_and ?_ | refine obs_by (by (simp [inB] <;> omega)) ?_)) ?_
      obtain ⟨sg, hsg⟩ : ∃ sg, sigZ fl wh f = sg := ⟨_, rfl⟩
      refine runS_cut (fun τ ar => (τ 0 = .ptr 2 0 0 ∧ τ 2 = .ptr 3 0 0 ∧ τ 3 = uv cc.toNat ∧ τ 5 = sv wh ∧ τ 6 = sv f ∧ τ 9 = iv ex ∧ τ 10 = bv fl ∧ τ 16 = sv sg) ∧ ar = [o0, o1, .box 143 [sv []], .box 23 [iv 0, iv 0, iv 0, sv []]]) (fun rest => ?_) ?_
      · refine runS_cond rfl (fun h2 => ?_) (fun h2 => ?_)
        · have h' : fl = true := h2
          subst h'
          have e : Lib.trimRightB (allZ wh f) 48 = sg := hsg
          rw [e] at cR
          refine runS_x (I := inf) (J := jnf) ⟨false, false, [], 2, 0⟩ 9999 rfl (by repeat (first | exact obs_nil | refine obs_draw (by kernel_rfl) ?_ | refine obs_same ?_ | refine obs_and ?_ | refine obs_by (by (simp [inB] <;> omega)) ?_)) ?_
          refine runS_call rfl rfl rfl rfl rfl rfl rfl cR ?_
          refine runS_x (I := inf) (J := jnf) ⟨false, false, [], 2, 0⟩ 9999 rfl (by repeat (first | exact obs_nil | refine obs_draw (by kernel_rfl) ?_ | refine obs_same ?_ | refine obs_and ?_ | refine obs_by (by (simp [inB] <;> omega)) ?_)) ?_
          exact rest _ _ ⟨⟨rfl, rfl, rfl, rfl, rfl, rfl, rfl, rfl⟩, rfl⟩
        · have h' : fl = false := h2
          subst h'
          have e : allZ wh f = sg := hsg
          refine runS_x (I := inf) (J := jnf) ⟨false, false, [], 2, 0⟩ 9999 rfl (by repeat (first | exact obs_nil | refine obs_draw (by kernel_rfl) ?_ | refine obs_same ?_ | refine obs_and ?_ | refine obs_by (by (simp [inB] <;> omega)) ?_)) ?_
          exact rest _ _ ⟨⟨rfl, rfl, rfl, rfl, rfl, rfl, rfl, by rw [← e]; rfl⟩, rfl⟩
      rintro τ4 ar4 ⟨⟨g0, g2, g3, g5, g6, g9, g10, g16⟩, rfl⟩
      refine runS_says 0 (by exact g0) (Says.refl _) ?_; refine runS_says 2 (by exact g2) (Says.refl _) ?_; refine runS_says 3 (by exact g3) (Says.refl _) ?_; refine runS_says 5 (by exact g5) (Says.refl _) ?_; refine runS_says 6 (by exact g6) (Says.refl _) ?_; refine runS_says 9 (by exact g9) (Says.refl _) ?_; refine runS_says 10 (by exact g10) (Says.refl _) ?_; refine runS_says 16 (by exact g16) (Says.refl _) ?_
      refine runS_x (I := inf) (J := jnf) ⟨false, false, [], 0, 0⟩ 9999 rfl (by repeat (first | exact obs_nil | refine obs_draw (by kernel_rfl) ?_ | refine obs_same ?_ | refine obs_and ?_ | refine obs_by (by (simp [inB] <;> omega)) ?_)) ?_
      have hfin : finR cc wh f fl ex = if sg.length > 15 ∨ (fl = false ∧ f.length > 31) then .error 7 else if fl = false then .ok ⟨2, sgV cc (valS sg), f.length, []⟩ else if (⟨3, sgV cc (valS sg), if sgV cc (valS sg) ≠ 0 then ex - (f.length : Int) + (allZ wh f).length - sg.length else 0, []⟩ : Vl).right = true then .ok ⟨3, sgV cc (valS sg), if sgV cc (valS sg) ≠ 0 then ex - (f.length : Int) + (allZ wh f).length - sg.length else 0, []⟩ else .error 7 := by
        unfold finR fltV
        by_cases hx : sg.length > 15 ∨ (fl = false ∧ f.length > 31)
        · rw [hsg, if_pos hx, if_pos hx]
        · rw [hsg, if_neg hx, if_neg hx]
          cases fl
          · rw [if_pos rfl, if_pos rfl, hsg]
          · rw [if_neg (show ¬ true = false by decide), if_neg (show ¬ true = false by decide), hsg]
      rw [hfin]
      rw [hsg] at k1 k3
      clear hfin hsg
      have hcd : (if decide (((bl (bs sg)).length : Int) > 15) = true then true else if (!fl) = true then decide (((bl (bs f)).length : Int) > 31) else false) = decide (sg.length > 15 ∨ (fl = false ∧ f.length > 31)) := by
        rw [blS, blS]
        by_cases h1 : sg.length > 15
        · rw [decide_eq_true (show (sg.length : Int) > 15 by omega), if_pos rfl, decide_eq_true (show sg.length > 15 ∨ (fl = false ∧ f.length > 31) from .inl h1)]
        · rw [decide_eq_false (show ¬ (sg.length : Int) > 15 by omega), if_neg (by decide), Bool.eq_iff_iff, decide_eq_true_iff]
          cases fl
          · rw [if_pos (show (!false) = true from rfl), decide_eq_true_iff]; simp; omega
          · simp; omega
      refine runS_cond rfl (fun h2 => ?_) (fun h2 => ?_)
      · have hb : sg.length > 15 ∨ (fl = false ∧ f.length > 31) := of_decide_eq_true (hcd.symm.trans h2)
        rw [if_pos hb]
        refine runS_x (I := inf) (J := jnf) ⟨false, false, [], 0, 0⟩ 9999 rfl (by repeat (first | exact obs_nil | refine obs_draw (by kernel_rfl) ?_ | refine obs_same ?_ | refine obs_and ?_ | refine obs_by (by (simp [inB] <;> omega)) ?_)) ?_
        exact runS_pan 3 rfl (Nat.le_refl _) rfl (hk0 _ (.box rfl .nil)) ⟨rfl, rfl⟩
      · have hb : ¬ (sg.length > 15 ∨ (fl = false ∧ f.length > 31)) := of_decide_eq_false (hcd.symm.trans h2)
        rw [if_neg hb]
        have h15 : sg.length ≤ 15 := Nat.le_of_not_lt fun e => hb (.inl e)
        have hv1 := valS_lt k3
        have hv2 : 10 ^ sg.length ≤ 10 ^ 15 := Nat.pow_le_pow_right (by decide) h15
        have hv3 : (10 : Nat) ^ 15 = 1000000000000000 := by decide
        have cA := lib_atoi ([48] ++ sg) ((valS ([48] ++ sg) : Nat) : Int) (by simp; omega) (atoi_val (by rw [List.all_append, k3]; rfl) (by simp))
        rw [show valS ([48] ++ sg) = valS sg from rfl] at cA
        have hwn : IntKind.wrap .i64 (0 - ((valS sg : Nat) : Int)) = -((valS sg : Nat) : Int) := by rw [w64 (by omega) (by omega)]; omega
        have hnb : -1000000000000000 < sgV cc (valS sg) ∧ sgV cc (valS sg) < 1000000000000000 := by
          unfold sgV
          split <;> omega
        have hb1 : (bl (⟨#[48]⟩ : ByteArray)).length = 1 := rfl
        refine runS_x (I := inf) (J := jnf) ⟨false, false, [], 0, 0⟩ 9999 rfl (by repeat (first | exact obs_nil | refine obs_draw (by kernel_rfl) ?_ | refine obs_same ?_ | refine obs_and ?_ | refine obs_by (by (simp [inB, hb1, blS] <;> omega)) ?_)) ?_
        refine runS_call rfl rfl rfl rfl rfl rfl rfl cA ?_
        refine runS_x (I := inf) (J := jnf) ⟨false, false, [], 0, 0⟩ 9999 rfl (by repeat (first | exact obs_nil | refine obs_draw (by kernel_rfl) ?_ | refine obs_same ?_ | refine obs_and ?_ | refine obs_by (by (simp [inB] <;> omega)) ?_)) ?_
        refine runS_cut (fun τ ar => (τ 0 = .ptr 2 0 0 ∧ τ 2 = .ptr 3 0 0 ∧ τ 5 = sv wh ∧ τ 6 = sv f ∧ τ 9 = iv ex ∧ τ 10 = bv fl ∧ τ 16 = sv sg ∧ τ 17 = iv (sgV cc (valS sg))) ∧ ar = [o0, o1, .box 143 [sv []], .box 23 [iv 0, iv 0, iv 0, sv []]]) (fun rest => ?_) ?_
        · refine runS_cond rfl (fun h3 => ?_) (fun h3 => ?_)
          · have e : cc = 45 := hcc.1 (by simpa using (show (((cc.toNat : Nat) : Int) == 45) = true from h3))
            have hsg : sgV cc (valS sg) = -((valS sg : Nat) : Int) := by unfold sgV; rw [if_pos e]
            refine runS_x (I := inf) (J := jnf) ⟨false, false, [], 2, 0⟩ 9999 rfl (by repeat (first | exact obs_nil | refine obs_draw (by kernel_rfl) ?_ | refine obs_same ?_ | refine obs_and ?_ | refine obs_by (by (simp [inB] <;> omega)) ?_)) ?_
            exact rest _ _ ⟨⟨rfl, rfl, rfl, rfl, rfl, rfl, rfl, by rw [hsg]; exact congrArg iv hwn⟩, rfl⟩
          · have e : ¬ cc = 45 := fun e => by
              have : ¬ ((cc.toNat : Nat) : Int) = 45 := by simpa using (show (((cc.toNat : Nat) : Int) == 45) = false from h3)
              exact this (hcc.2 e)
            have hsg : sgV cc (valS sg) = ((valS sg : Nat) : Int) := by unfold sgV; rw [if_neg e]
            refine runS_x (I := inf) (J := jnf) ⟨false, false, [], 2, 0⟩ 9999 rfl (by repeat (first | exact obs_nil | refine obs_draw (by kernel_rfl) ?_ | refine obs_same ?_ | refine obs_and ?_ | refine obs_by (by (simp [inB] <;> omega)) ?_)) ?_
            exact rest _ _ ⟨⟨rfl, rfl, rfl, rfl, rfl, rfl, rfl, by rw [hsg]; rfl⟩, rfl⟩
        clear hwn cA
        generalize sgV cc (valS sg) = n at *
        rintro τ5 ar5 ⟨⟨g0, g2, g5, g6, g9, g10, g16, g17⟩, rfl⟩
        refine runS_says 0 (by exact g0) (Says.refl _) ?_; refine runS_says 2 (by exact g2) (Says.refl _) ?_; refine runS_says 5 (by exact g5) (Says.refl _) ?_; refine runS_says 6 (by exact g6) (Says.refl _) ?_; refine runS_says 9 (by exact g9) (Says.refl _) ?_; refine runS_says 10 (by exact g10) (Says.refl _) ?_; refine runS_says 16 (by exact g16) (Says.refl _) ?_; refine runS_says 17 (by exact g17) (Says.refl _) ?_
        refine runS_x (I := inf) (J := jnf) ⟨false, false, [], 0, 0⟩ 9999 rfl (by repeat (first | exact obs_nil | refine obs_draw (by kernel_rfl) ?_ | refine obs_same ?_ | refine obs_and ?_ | refine obs_by (by (simp [inB] <;> omega)) ?_)) ?_
        refine runS_cond rfl (fun h3 => ?_) (fun h3 => ?_)
        · have hfl0 : fl = false := by simpa using (show (!fl) = true from h3)
          rw [if_pos hfl0]
          refine runS_x (I := inf) (J := jnf) ⟨false, false, [], 0, 0⟩ 9999 rfl (by repeat (first | exact obs_nil | refine obs_draw (by kernel_rfl) ?_ | refine obs_same ?_ | refine obs_and ?_ | refine obs_by (by (simp [inB, blS] <;> omega)) ?_)) ?_
          exact runS_ret (I := inf) 3 rfl (Nat.le_refl _) rfl (hk0 _ (.box rfl .nil)) rfl ⟨rfl, rfl⟩
        · have hfl1 : fl = true := by simpa using (show (!fl) = false from h3)
          rw [if_neg (show ¬ fl = false by rw [hfl1]; decide)]
          refine runS_x (I := inf) (J := jnf) ⟨false, false, [], 0, 0⟩ 9999 rfl (by repeat (first | exact obs_nil | refine obs_draw (by kernel_rfl) ?_ | refine obs_same ?_ | refine obs_and ?_ | refine obs_by (by (simp [inB] <;> omega)) ?_)) ?_
          obtain ⟨q, hq⟩ : ∃ q, (if n ≠ 0 then ex - (f.length : Int) + (allZ wh f).length - sg.length else 0) = q := ⟨_, rfl⟩
          rw [hq]
          refine runS_cut (fun τ ar => (τ 2 = .ptr 3 0 0 ∧ τ 19 = .ptr 4 0 0) ∧ ar = [o0, o1, .box 143 [sv []], .box 23 [iv 0, iv 0, iv 0, sv []], .box 23 [iv 3, iv n, iv q, sv []]]) (fun rest => ?_) ?_
          · refine runS_cond rfl (fun h4 => ?_) (fun h4 => ?_)
            · have hn0 : n ≠ 0 := by simpa using (show (!(n == 0)) = true from h4)
              rw [if_pos hn0] at hq
              have hwq : IntKind.wrap .i64 (IntKind.wrap .i64 (IntKind.wrap .i64 (ex - ((bl (bs f)).length : Int)) + ((bl (bs (allZ wh f))).length : Int)) - ((bl (bs sg)).length : Int)) = q := by
                rw [blS, blS, blS, w64 (x := ex - (f.length : Int)) (by omega) (by omega), w64 (x := ex - (f.length : Int) + ((allZ wh f).length : Int)) (by omega) (by omega), w64 (by omega) (by omega)]
                exact hq
              refine runS_x (I := inf) (J := jnf) ⟨false, false, [], 2, 0⟩ 9999 rfl (by repeat (first | exact obs_nil | refine obs_draw (by kernel_rfl) ?_ | refine obs_same ?_ | refine obs_and ?_ | refine obs_by (by (simp [inB] <;> omega)) ?_)) ?_
              refine runS_call rfl rfl rfl rfl rfl rfl rfl cL ?_
              refine runS_x (I := inf) (J := jnf) ⟨false, false, [], 2, 0⟩ 9999 rfl (by repeat (first | exact obs_nil | refine obs_draw (by kernel_rfl) ?_ | refine obs_same ?_ | refine obs_and ?_ | refine obs_by (by (simp [inB] <;> omega)) ?_)) ?_
              exact rest _ _ ⟨⟨rfl, rfl⟩, by rw [← hwq]; rfl⟩
            · have hn0 : n = 0 := by simpa using (show (!(n == 0)) = false from h4)
              rw [if_neg (fun e => e hn0)] at hq
              refine runS_x (I := inf) (J := jnf) ⟨false, false, [], 2, 0⟩ 9999 rfl (by repeat (first | exact obs_nil | refine obs_draw (by kernel_rfl) ?_ | refine obs_same ?_ | refine obs_and ?_ | refine obs_by (by (simp [inB] <;> omega)) ?_)) ?_
              exact rest _ _ ⟨⟨rfl, rfl⟩, by rw [← hq]; rfl⟩
          rintro τ6 ar6 ⟨⟨g2, g19⟩, rfl⟩
          refine runS_says 2 (by exact g2) (Says.refl _) ?_; refine runS_says 19 (by exact g19) (Says.refl _) ?_
          refine runS_x (I := inf) (J := jnf) ⟨false, false, [], 0, 0⟩ 9999 rfl (by repeat (first | exact obs_nil | refine obs_draw (by kernel_rfl) ?_ | refine obs_same ?_ | refine obs_and ?_ | refine obs_by (by (simp [inB] <;> omega)) ?_)) ?_
          refine runS_call rfl rfl rfl rfl rfl rfl rfl (d_right 3 n q []) ?_
          refine runS_x (I := inf) (J := jnf) ⟨false, false, [], 0, 0⟩ 9999 rfl (by repeat (first | exact obs_nil | refine obs_draw (by kernel_rfl) ?_ | refine obs_same ?_ | refine obs_and ?_ | refine obs_by (by (simp [inB] <;> omega)) ?_)) ?_
          refine runS_cond rfl (fun h4 => ?_) (fun h4 => ?_)
          · have hr : ¬ (⟨3, n, q, []⟩ : Vl).right = true := by
              have : (!rightB 3 n q []) = true := h4
              rw [Bool.not_eq_true'] at this
              show ¬ rightB 3 n q [] = true
              rw [this]; decide
            rw [if_neg hr]
            refine runS_x (I := inf) (J := jnf) ⟨false, false, [], 0, 0⟩ 9999 rfl (by repeat (first | exact obs_nil | refine obs_draw (by kernel_rfl) ?_ | refine obs_same ?_ | refine obs_and ?_ | refine obs_by (by (simp [inB] <;> omega)) ?_)) ?_
            exact runS_pan 3 rfl (Nat.le_refl _) rfl (hk0 _ (.box rfl .nil)) ⟨rfl, rfl⟩
          · have hr : (⟨3, n, q, []⟩ : Vl).right = true := by
              have : (!rightB 3 n q []) = false := h4
              rw [Bool.not_eq_false'] at this
              exact this
            rw [if_pos hr]
            refine runS_x (I := inf) (J := jnf) ⟨false, false, [], 0, 0⟩ 9999 rfl (by repeat (first | exact obs_nil | refine obs_draw (by kernel_rfl) ?_ | refine obs_same ?_ | refine obs_and ?_ | refine obs_by (by (simp [inB] <;> omega)) ?_)) ?_
            exact runS_ret (I := inf) 3 rfl (Nat.le_refl _) rfl (hk0 _ (.box rfl .nil)) rfl ⟨rfl, rfl⟩
end Go.Iron.Tryz

/- The digits' seat: Read. -/
namespace Go.Iron.Tryz
open Go.Proofs Go.RowKit Go.Iron.Tok Go.Iron.Dg

def resR : Except Int Vl → Vl × Int
  | .error e => (⟨0, 0, 0, []⟩, e)
  | .ok v => (v, 0)
def readV (s : Str) : Vl × Int := if s.length > 80 then (⟨0, 0, 0, []⟩, 3) else resR (readP s).1
theorem d_Read (s : Str) : CallT Tryz.prog 51 [sv s] [] (fun o A => o = .ret (.tup [.agg (vlE (readV s).1), iv (readV s).2]) ∧ A = []) := by
  unfold readV
  refine callS_body (n := 13) rfl rfl fun w ρ X => ?_
  refine runS_x (I := inf) (J := jnf) ⟨false, false, [], 0, 0⟩ 9999 rfl (by repeat (first | exact obs_nil | refine obs_draw (by kernel_rfl) ?_ | refine obs_same ?_ | refine obs_and ?_ | refine obs_by (by (simp [inB, blS] <;> omega)) ?_)) ?_
  refine runS_cond rfl (fun h => ?_) (fun h => ?_)
  · have hl : s.length > 80 := by
      have := of_decide_eq_true h
      rw [blS] at this
      omega
    rw [if_pos hl]
    refine runS_x (I := inf) (J := jnf) ⟨false, false, [], 0, 0⟩ 9999 rfl (by repeat (first | exact obs_nil | refine obs_draw (by kernel_rfl) ?_ | refine obs_same ?_ | refine obs_and ?_ | refine obs_by (by (simp [inB] <;> omega)) ?_)) ?_
    refine runS_ret (I := inf) 0 rfl (Nat.le_refl _) rfl .nil rfl ⟨?_, rfl⟩
    rfl
  · have hl : ¬ s.length > 80 := by
      have := of_decide_eq_false h
      rw [blS] at this
      omega
    rw [if_neg hl]
    have hr := d_read (.box 23 [iv 0, iv 0, iv 0, sv []]) (.box 30 [iv 0]) (fun l hk => .box rfl (.box rfl hk)) s (by omega)
    cases hR : (readP s).1 with
    | error e =>
      rw [hR] at hr
      refine runS_x (I := inf) (J := jnf) ⟨false, false, [], 0, 0⟩ 9999 rfl (by repeat (first | exact obs_nil | refine obs_draw (by kernel_rfl) ?_ | refine obs_same ?_ | refine obs_and ?_ | refine obs_by (by (simp [inB] <;> omega)) ?_)) ?_
      refine runS_callFP [.box 23 [iv 0, iv 0, iv 0, sv []], .box 30 [iv 0], .box 143 [sv s]] [.box 23 [iv 0, iv 0, iv 0, sv []], .box 30 [iv 0], .box 143 [sv (readP s).2]] _ rfl rfl rfl rfl rfl (show _ = [.ptr 2 0 0] from rfl) rfl (.box rfl (.box rfl (.box rfl .nil))) rfl rfl hr ?_
      refine runS_x (I := inf) (J := jnf) ⟨true, false, [113], 0, 0⟩ 9999 rfl (by repeat (first | exact obs_nil | refine obs_draw (by kernel_rfl) ?_ | refine obs_same ?_ | refine obs_and ?_ | refine obs_by (by (simp [inB] <;> omega)) ?_)) ?_
      refine runS_drawG (ch := []) (A2 := fun _ => []) 4 [3] (fun b => [.box 23 [iv 0, iv 0, iv 0, sv []], .box 30 [iv 0], .box 143 [sv (readP s).2], .box 138 [iv e]]) none (c := 9) jnfI.draw (by kernel_rfl) rfl (lexg_g (I := inf) (J := jnf) none ⟨⟨_, rfl, (by repeat (first | exact obs_nil | refine obs_same ?_ | refine obs_and ?_ | refine obs_by (by (simp [inB] <;> omega)) ?_))⟩, (by first | exact .inl (by decide +kernel) | exact .inr ⟨_, rfl, (by repeat (first | exact obs_nil | refine obs_same ?_ | refine obs_and ?_ | refine obs_by (by (simp [inB] <;> omega)) ?_))⟩)⟩ rfl rfl rfl rfl (lexg_g (I := inf) (J := jnf) none ⟨⟨_, rfl, (by repeat (first | exact obs_nil | refine obs_same ?_ | refine obs_and ?_ | refine obs_by (by (simp [inB] <;> omega)) ?_))⟩, (by first | exact .inl (by decide +kernel) | exact .inr ⟨_, rfl, (by repeat (first | exact obs_nil | refine obs_same ?_ | refine obs_and ?_ | refine obs_by (by (simp [inB] <;> omega)) ?_))⟩)⟩ rfl rfl rfl rfl (lexg_g (I := inf) (J := jnf) none ⟨⟨_, rfl, (by repeat (first | exact obs_nil | refine obs_same ?_ | refine obs_and ?_ | refine obs_by (by (simp [inB] <;> omega)) ?_))⟩, (by first | exact .inl (by decide +kernel) | exact .inr ⟨_, rfl, (by repeat (first | exact obs_nil | refine obs_same ?_ | refine obs_and ?_ | refine obs_by (by (simp [inB] <;> omega)) ?_))⟩)⟩ rfl rfl rfl rfl (lexg_g (I := inf) (J := jnf) (some .store) ⟨⟨_, rfl, (by repeat (first | exact obs_nil | refine obs_same ?_ | refine obs_and ?_ | refine obs_by (by (simp [inB] <;> omega)) ?_))⟩, .inl rfl⟩ rfl rfl rfl rfl lexg_nil)))) rfl (fun _ => ?_) (fun h => by cases h)
      refine runS_x (I := inf) (J := jnf) ⟨true, false, [113], 0, 0⟩ 9999 rfl (by repeat (first | exact obs_nil | refine obs_draw (by kernel_rfl) ?_ | refine obs_same ?_ | refine obs_and ?_ | refine obs_by (by (simp [inB] <;> omega)) ?_)) ?_
      refine runS_ret (I := inf) 0 rfl (Nat.le_refl _) rfl .nil rfl ⟨?_, rfl⟩
      rfl
    | ok v =>
      rw [hR] at hr
      refine runS_x (I := inf) (J := jnf) ⟨false, false, [], 0, 0⟩ 9999 rfl (by repeat (first | exact obs_nil | refine obs_draw (by kernel_rfl) ?_ | refine obs_same ?_ | refine obs_and ?_ | refine obs_by (by (simp [inB] <;> omega)) ?_)) ?_
      refine runS_callF [.box 23 [iv 0, iv 0, iv 0, sv []], .box 30 [iv 0], .box 143 [sv s]] [.box 23 [iv 0, iv 0, iv 0, sv []], .box 30 [iv 0], .box 143 [sv (readP s).2]] _ rfl rfl rfl rfl rfl (show _ = [.ptr 2 0 0] from rfl) rfl (.box rfl (.box rfl (.box rfl .nil))) rfl rfl hr ?_
      refine runS_x (I := inf) (J := jnf) ⟨true, false, [113], 0, 0⟩ 9999 rfl (by repeat (first | exact obs_nil | refine obs_draw (by kernel_rfl) ?_ | refine obs_same ?_ | refine obs_and ?_ | refine obs_by (by (simp [inB] <;> omega)) ?_)) ?_
      refine runS_ret (I := inf) 0 rfl (Nat.le_refl _) rfl .nil rfl ⟨?_, rfl⟩
      rfl
end Go.Iron.Tryz

/- The digits' seat: the reference reads numbers. -/
namespace Go.Iron.Tryz
open Go.Proofs Go.RowKit Go.Iron.Tok Go.Iron.Dg

def scanD : Bool → Str → Str × Str × Str
  | pt, [] => ([], [], [])
  | pt, b :: s => if isD b = true then (if pt = true then ((scanD pt s).1, b :: (scanD pt s).2.1, (scanD pt s).2.2) else (b :: (scanD pt s).1, (scanD pt s).2.1, (scanD pt s).2.2)) else if b = 46 ∧ pt = false then scanD true s else ([], [], b :: s)
theorem scan_true : ∀ s : Str, scanD true s = ([], s.takeWhile isD, s.dropWhile isD)
  | [] => rfl
  | b :: s => by
    unfold scanD
    rw [List.takeWhile_cons, List.dropWhile_cons, scan_true s]
    by_cases h : isD b = true
    · rw [if_pos h, if_pos rfl, if_pos h, if_pos h]
    · rw [if_neg h, if_neg (by simp), if_neg h, if_neg h]
theorem scan_false : ∀ s : Str, scanD false s = if (tkO [46] (s.dropWhile isD)).1.2 = true then (s.takeWhile isD, (tkO [46] (s.dropWhile isD)).2.takeWhile isD, (tkO [46] (s.dropWhile isD)).2.dropWhile isD) else (s.takeWhile isD, [], (tkO [46] (s.dropWhile isD)).2)
  | [] => rfl
  | b :: s => by
    unfold scanD
    rw [List.takeWhile_cons, List.dropWhile_cons]
    by_cases h : isD b = true
    · rw [if_pos h, if_neg (by decide), if_pos h, if_pos h, scan_false s]
      split <;> rfl
    · rw [if_neg h, if_neg h, if_neg h]
      by_cases h2 : b = 46
      · rw [if_pos ⟨h2, rfl⟩, scan_true]
        subst h2
        rfl
      · have : ([46] : Str).contains b = false := by simp [h2]
        rw [if_neg (fun e => h2 e.1)]
        show _ = if (if ([46] : Str).contains b then ((b, true), s) else ((0, false), b :: s)).1.2 = true then _ else _
        rw [this]
        show _ = (([] : Str), ([] : Str), (if ([46] : Str).contains b then ((b, true), s) else ((0, false), b :: s)).2)
        rw [this]
        rfl
theorem tk_lt {so s : Str} {i : Nat} (h : i < s.length) : tkO so (s.drop i) = if so.contains (s.getD i 0) then ((s.getD i 0, true), s.drop (i + 1)) else ((0, false), s.drop i) := by
  rw [List.drop_eq_getElem_cons h, List.getD_eq_getElem?_getD, List.getElem?_eq_getElem h]
  rfl
theorem tk_ge {so s : Str} {i : Nat} (h : ¬ i < s.length) : tkO so (s.drop i) = ((0, false), s.drop i) := by
  rw [List.drop_eq_nil_of_le (by omega)]
  rfl
theorem scan_lt {pt : Bool} {s : Str} {i : Nat} (h : i < s.length) : scanD pt (s.drop i) = if isD (s.getD i 0) = true then (if pt = true then ((scanD pt (s.drop (i + 1))).1, s.getD i 0 :: (scanD pt (s.drop (i + 1))).2.1, (scanD pt (s.drop (i + 1))).2.2) else (s.getD i 0 :: (scanD pt (s.drop (i + 1))).1, (scanD pt (s.drop (i + 1))).2.1, (scanD pt (s.drop (i + 1))).2.2)) else if s.getD i 0 = 46 ∧ pt = false then scanD true (s.drop (i + 1)) else ([], [], s.drop i) := by
  rw [List.drop_eq_getElem_cons h, List.getD_eq_getElem?_getD, List.getElem?_eq_getElem h]
  rfl
theorem scan_ge {pt : Bool} {s : Str} {i : Nat} (h : ¬ i < s.length) : scanD pt (s.drop i) = ([], [], s.drop i) := by
  rw [List.drop_eq_nil_of_le (by omega)]
  rfl
theorem byt_eq {s : Str} {i : Nat} {k : UInt8} : ((byt s i : Nat) : Int) = (k.toNat : Int) ↔ s.getD i 0 = k := by
  constructor
  · intro h
    exact UInt8.toNat_inj.1 (by show byt s i = k.toNat; omega)
  · intro h
    rw [← h]
    rfl
def dgV (l : Str) : List Nat := l.map fun b => b.toNat - 48
structure Sx where
  i : Nat
  D : List Nat
  pt : Bool
  sc : Nat
theorem sign_cd (s : Str) (i : Nat) : (if decide ((i : Int) < (s.length : Int)) = true then (if (((byt s i : Nat) : Int) == 43) = true then true else ((byt s i : Nat) : Int) == 45) else false) = (tkO [43, 45] (s.drop i)).1.2 := by
  by_cases h : i < s.length
  · have e1 : ((byt s i : Nat) : Int) = 43 ↔ s.getD i 0 = 43 := byt_eq (k := 43)
    have e2 : ((byt s i : Nat) : Int) = 45 ↔ s.getD i 0 = 45 := byt_eq (k := 45)
    rw [decide_eq_true (show (i : Int) < (s.length : Int) by omega), if_pos rfl, tk_lt h]
    have hc : ([43, 45] : Str).contains (s.getD i 0) = (if (((byt s i : Nat) : Int) == 43) = true then true else ((byt s i : Nat) : Int) == 45) := by
      by_cases h1 : s.getD i 0 = 43
      · rw [beq_iff_eq.2 (e1.2 h1), h1]; rfl
      · have n1 : (((byt s i : Nat) : Int) == 43) = false := beq_eq_false_iff_ne.2 fun e => h1 (e1.1 e)
        rw [n1, if_neg (by decide)]
        by_cases h2 : s.getD i 0 = 45
        · rw [beq_iff_eq.2 (e2.2 h2), h2]; rfl
        · rw [beq_eq_false_iff_ne.2 fun e => h2 (e2.1 e)]
          simp [-List.getD_eq_getElem?_getD, h1, h2]
    rw [← hc]
    split <;> simp_all
  · rw [decide_eq_false (show ¬ (i : Int) < (s.length : Int) by omega), if_neg (by decide), tk_ge h]
theorem sign_yes {s : Str} {i : Nat} (h : (tkO [43, 45] (s.drop i)).1.2 = true) : i < s.length ∧ (tkO [43, 45] (s.drop i)).1.1 = s.getD i 0 ∧ (tkO [43, 45] (s.drop i)).2 = s.drop (i + 1) := by
  by_cases hl : i < s.length
  · rw [tk_lt hl] at h ⊢
    split at h
    · rename_i hc
      rw [if_pos hc]
      exact ⟨hl, rfl, rfl⟩
    · cases h
  · rw [tk_ge hl] at h
    cases h
theorem sign_no {s : Str} {i : Nat} (h : (tkO [43, 45] (s.drop i)).1.2 = false) : (tkO [43, 45] (s.drop i)).1.1 = 0 ∧ (tkO [43, 45] (s.drop i)).2 = s.drop i := by
  by_cases hl : i < s.length
  · rw [tk_lt hl] at h ⊢
    split at h
    · cases h
    · rename_i hc
      rw [if_neg hc]
      exact ⟨rfl, rfl⟩
  · rw [tk_ge hl]
    exact ⟨rfl, rfl⟩
theorem r_digit (c : UInt8) : CallT Tryz.prog 115 [uv c.toNat] [] (fun o A => o = .ret (bv (isD c)) ∧ A = []) := by
  refine callS_body (n := 9) rfl rfl fun w ρ X => ?_
  refine runS_x (I := inf) (J := jnf) ⟨false, false, [], 0, 0⟩ 9999 rfl (by repeat (first | exact obs_nil | refine obs_draw (by kernel_rfl) ?_ | refine obs_same ?_ | refine obs_and ?_ | refine obs_by (by (simp [inB] <;> omega)) ?_)) ?_
  refine runS_ret (I := inf) 0 rfl (Nat.le_refl _) rfl .nil rfl ⟨?_, rfl⟩
  refine congrArg (fun x => Out.ret (bv x)) ?_
  show (if decide (((c.toNat : Nat) : Int) ≥ 48) = true then decide (((c.toNat : Nat) : Int) ≤ 57) else false) = isD c
  unfold isD
  by_cases h : 48 ≤ c.toNat
  · rw [decide_eq_true (show ((c.toNat : Nat) : Int) ≥ 48 by omega), decide_eq_true h, if_pos rfl, Bool.true_and, Bool.eq_iff_iff]; simp; omega
  · rw [decide_eq_false (show ¬ ((c.toNat : Nat) : Int) ≥ 48 by omega), decide_eq_false h]; rfl
theorem dg_cons (b : UInt8) (s : Str) : dgV (b :: s) = (b.toNat - 48) :: dgV s := rfl
theorem dg_len (s : Str) : (dgV s).length = s.length := List.length_map _
theorem dg_snoc {D : List Nat} {i : Nat} {s r : Str} {X : List Nat} (h : D ++ dgV (s.getD i 0 :: r) = X) : (D ++ [byt s i - 48]) ++ dgV r = X := by
  rw [List.append_assoc]
  exact h
theorem rd1_scan (s : Str) : rd1 s = ⟨(tkO [43, 45] s).1.1, (scanD false (tkO [43, 45] s).2).1, (scanD false (tkO [43, 45] s).2).2.1, (scanD false (tkO [43, 45] s).2).2.2⟩ := by
  unfold rd1
  rw [scan_false]
  split <;> rfl
theorem e_cd (s : Str) (i : Nat) : (if decide ((i : Int) < (s.length : Int)) = true then ((byt s i : Nat) : Int) == 69 else false) = (tkO [69] (s.drop i)).1.2 := by
  have e1 : ((byt s i : Nat) : Int) = 69 ↔ s.getD i 0 = 69 := byt_eq (k := 69)
  by_cases h : i < s.length
  · rw [decide_eq_true (show (i : Int) < (s.length : Int) by omega), if_pos rfl, tk_lt h]
    by_cases h1 : s.getD i 0 = 69
    · rw [beq_iff_eq.2 (e1.2 h1), h1]; rfl
    · rw [beq_eq_false_iff_ne.2 fun e => h1 (e1.1 e)]
      have : ([69] : Str).contains (s.getD i 0) = false := by simp [-List.getD_eq_getElem?_getD, h1]
      rw [this]
      rfl
  · rw [decide_eq_false (show ¬ (i : Int) < (s.length : Int) by omega), if_neg (by decide), tk_ge h]
theorem e_yes {s : Str} {i : Nat} (h : (tkO [69] (s.drop i)).1.2 = true) : i < s.length ∧ (tkO [69] (s.drop i)).2 = s.drop (i + 1) := by
  by_cases hl : i < s.length
  · rw [tk_lt hl] at h ⊢
    split at h
    · rename_i hc
      rw [if_pos hc]
      exact ⟨hl, rfl⟩
    · cases h
  · rw [tk_ge hl] at h
    cases h
theorem e_no {s : Str} {i : Nat} (h : (tkO [69] (s.drop i)).1.2 = false) : (tkO [69] (s.drop i)).2 = s.drop i := by
  by_cases hl : i < s.length
  · rw [tk_lt hl] at h ⊢
    split at h
    · cases h
    · rename_i hc
      rw [if_neg hc]
  · rw [tk_ge hl]
theorem tw_step : ∀ (l : Str) (k : Nat), k ≤ (l.takeWhile isD).length → (k < (l.takeWhile isD).length ↔ k < l.length ∧ isD (l.getD k 0) = true) ∧ (k < (l.takeWhile isD).length → (l.takeWhile isD).getD k 0 = l.getD k 0)
  | [], k, h => by
    have : k = 0 := by simpa using h
    subst this
    simp
  | b :: l, k, h => by
    rw [List.takeWhile_cons] at h ⊢
    by_cases hb : isD b = true
    · rw [if_pos hb] at h ⊢
      cases k with
      | zero => exact ⟨⟨fun _ => ⟨Nat.succ_pos _, hb⟩, fun _ => Nat.succ_pos _⟩, fun _ => rfl⟩
      | succ k =>
        obtain ⟨h1, h2⟩ := tw_step l k (Nat.le_of_succ_le_succ h)
        refine ⟨⟨fun h => ?_, fun h => ?_⟩, fun h => ?_⟩
        · obtain ⟨a, b⟩ := h1.1 (Nat.lt_of_succ_lt_succ h)
          exact ⟨Nat.succ_lt_succ a, b⟩
        · exact Nat.succ_lt_succ (h1.2 ⟨Nat.lt_of_succ_lt_succ h.1, h.2⟩)
        · exact h2 (Nat.lt_of_succ_lt_succ h)
    · rw [if_neg hb] at h ⊢
      have : k = 0 := by simpa using h
      subst this
      refine ⟨⟨fun h => by simp at h, fun h => absurd h.2 hb⟩, fun h => by simp at h⟩
theorem drop_getD (s : Str) (i k : Nat) : (s.drop i).getD k 0 = s.getD (i + k) 0 := by
  rw [List.getD_eq_getElem?_getD, List.getD_eq_getElem?_getD, List.getElem?_drop]
theorem valA_app (a : Nat) (s t : Str) : valA a (s ++ t) = valA (valA a s) t := List.foldl_append
theorem valS_take {d : Str} {k : Nat} (h : k < d.length) : valS (d.take (k + 1)) = valS (d.take k) * 10 + ((d.getD k 0).toNat - 48) := by
  rw [List.take_succ_eq_append_getElem h, List.getD_eq_getElem?_getD, List.getElem?_eq_getElem h]
  unfold valS
  rw [valA_app]
  rfl
theorem tw_drop (l : Str) : l.drop (l.takeWhile isD).length = l.dropWhile isD := by
  have h := List.takeWhile_append_dropWhile (p := isD) (l := l)
  conv => lhs; rw [← h]
  rw [List.takeWhile_append_dropWhile]
  conv => lhs; arg 2; rw [← h]
  exact List.drop_left
theorem rd2_ex {s : Str} (h : (rd2 s).bad = false) : -99 ≤ (rd2 s).ex ∧ (rd2 s).ex ≤ 99 := by
  unfold rd2 at h ⊢
  by_cases hb : (tkO [69] s).1.2 = true
  · rw [if_pos hb] at h ⊢
    dsimp only at h ⊢
    have h2 := of_decide_eq_false h
    have h3 := valS_lt (tw_all (tkO [43, 45] (tkO [69] s).2).2)
    generalize (tkO [43, 45] (tkO [69] s).2).2.takeWhile isD = d at *
    have h4 : 10 ^ d.length ≤ 10 ^ 2 := Nat.pow_le_pow_right (by decide) (by omega)
    unfold sgV
    split <;> omega
  · rw [if_neg hb]
    exact ⟨show (-99 : Int) ≤ 0 by decide, show (0 : Int) ≤ 99 by decide⟩
theorem sgV_zero {c : UInt8} {n : Nat} : sgV c n = 0 ↔ n = 0 := by
  unfold sgV
  split <;> omega
theorem tr_snoc (s : Str) (b c : UInt8) : Lib.trimRightB (s ++ [b]) c = if b = c then Lib.trimRightB s c else s ++ [b] := by
  unfold Lib.trimRightB
  rw [List.reverse_append]
  show (List.dropWhile (· == c) (b :: s.reverse)).reverse = _
  rw [List.dropWhile_cons]
  by_cases h : b = c
  · rw [if_pos (beq_iff_eq.2 h), if_pos h]
  · rw [if_neg (by simpa using h), if_neg h, List.reverse_cons, List.reverse_reverse]
theorem take_snoc {s : Str} {k : Nat} (h : k < s.length) : s.take (k + 1) = s.take k ++ [s.getD k 0] := by
  rw [List.take_succ_eq_append_getElem h, List.getD_eq_getElem?_getD, List.getElem?_eq_getElem h]
  rfl
theorem dg_getD (s : Str) (k : Nat) : (dgV s).getD k 0 = (s.getD k 0).toNat - 48 := by
  unfold dgV
  rw [List.getD_eq_getElem?_getD, List.getD_eq_getElem?_getD, List.getElem?_map]
  cases s[k]? <;> rfl
theorem digit_at {s : Str} {k : Nat} (h : s.all isD = true) (hk : k < s.length) : 48 ≤ (s.getD k 0).toNat ∧ (s.getD k 0).toNat ≤ 57 := by
  rw [List.all_eq_true] at h
  have h1 := h s[k] (List.getElem_mem hk)
  rw [List.getD_eq_getElem?_getD, List.getElem?_eq_getElem hk]
  unfold isD at h1
  exact ⟨of_decide_eq_true (Bool.and_eq_true_iff.1 h1).1, of_decide_eq_true (Bool.and_eq_true_iff.1 h1).2⟩
theorem dg_drop : ∀ {s : Str}, s.all isD = true → (dgV s).dropWhile (· == 0) = dgV (Lib.trimLeftB s 48)
  | [], _ => rfl
  | b :: s, h => by
    rw [List.all_cons, Bool.and_eq_true] at h
    have hb : 48 ≤ b.toNat ∧ b.toNat ≤ 57 := by
      have h1 := h.1
      unfold isD at h1
      exact ⟨of_decide_eq_true (Bool.and_eq_true_iff.1 h1).1, of_decide_eq_true (Bool.and_eq_true_iff.1 h1).2⟩
    unfold Lib.trimLeftB
    rw [dg_cons, List.dropWhile_cons, List.dropWhile_cons]
    by_cases e : b = 48
    · subst e
      rw [if_pos (by decide), if_pos (by decide)]
      exact dg_drop h.2
    · have e2 : ¬ b.toNat = 48 := fun e3 => e (UInt8.toNat_inj.1 e3)
      rw [if_neg (by simp; omega), if_neg (by simpa using e)]
      rfl
theorem fin_zero {c : UInt8} {wh f : Str} {ex : Int} (h : sigZ true wh f = []) : finR c wh f true ex = .ok ⟨3, 0, 0, []⟩ := by
  have hv : fltV c wh f ex = ⟨3, 0, 0, []⟩ := by
    unfold fltV
    rw [h]
    have : sgV c (valS []) = 0 := sgV_zero.2 rfl
    rw [this]
    rfl
  unfold finR
  rw [h, hv, if_neg (by simp), if_neg (by decide), if_pos (by rfl)]
theorem fin_sg {c : UInt8} {wh f : Str} (fl : Bool) (ex : Int) (hall : (wh ++ f).all isD = true) (h0 : fl = true → valS (sigZ fl wh f) ≠ 0) :
    finR c wh f fl ex = if (sigZ fl wh f).length > 15 then .error 7 else if rightB (if fl = true then 3 else 2) (sgV c (valS (sigZ fl wh f))) (if fl = true then ex - (f.length : Int) + (allZ wh f).length - (sigZ fl wh f).length else f.length) [] = true then .ok ⟨if fl = true then 3 else 2, sgV c (valS (sigZ fl wh f)), if fl = true then ex - (f.length : Int) + (allZ wh f).length - (sigZ fl wh f).length else f.length, []⟩ else .error 7 := by
  have hall2 : (sigZ fl wh f).all isD = true := by
    have h1 : (allZ wh f).all isD = true := tl_all 48 hall
    unfold sigZ
    split
    · exact tr_all 48 h1
    · exact h1
  have hlt := valS_lt hall2
  unfold finR
  cases fl with
  | true =>
    have hn0 := h0 rfl
    have hv : fltV c wh f ex = ⟨3, sgV c (valS (sigZ true wh f)), ex - (f.length : Int) + (allZ wh f).length - (sigZ true wh f).length, []⟩ := by
      unfold fltV
      rw [if_pos (fun e => hn0 (sgV_zero.1 e))]
    rw [hv]
    by_cases hl : (sigZ true wh f).length > 15
    · rw [if_pos (.inl hl), if_pos hl]
    · rw [if_neg (by rintro (h | h); exact hl h; cases h.1), if_neg hl, if_neg (by decide), if_pos rfl, if_pos rfl]
      rfl
  | false =>
    show (if (sigZ false wh f).length > 15 ∨ (false = false ∧ f.length > 31) then Except.error 7 else Except.ok (⟨2, sgV c (valS (sigZ false wh f)), f.length, []⟩ : Vl)) = if (sigZ false wh f).length > 15 then Except.error 7 else if rightB 2 (sgV c (valS (sigZ false wh f))) (f.length : Int) [] = true then Except.ok (⟨2, sgV c (valS (sigZ false wh f)), f.length, []⟩ : Vl) else Except.error 7
    by_cases hl : (sigZ false wh f).length > 15
    · rw [if_pos (.inl hl), if_pos hl]
    · rw [if_neg hl]
      have h10 : 10 ^ (sigZ false wh f).length ≤ 10 ^ 15 := Nat.pow_le_pow_right (by decide) (by omega)
      have hb : -1000000000000000 < sgV c (valS (sigZ false wh f)) ∧ sgV c (valS (sigZ false wh f)) < 1000000000000000 := by
        unfold sgV
        split <;> omega
      have hr : rightB 2 (sgV c (valS (sigZ false wh f))) (f.length : Int) [] = decide (f.length ≤ 31) := by
        unfold rightB
        rw [if_neg (by decide), if_pos rfl, Bool.eq_iff_iff]
        simp
        omega
      rw [hr]
      by_cases hf : f.length ≤ 31
      · rw [if_neg (by rintro (h | h); exact hl h; omega), if_pos (decide_eq_true hf)]
      · rw [if_pos (.inr ⟨rfl, by omega⟩), if_neg (by rw [decide_eq_false hf]; decide)]
theorem natS_tl {x : Nat} {l : List Nat} : AV.slc 1 none (((x :: l).length : Int) - 1).toNat (shiftR (natR (x :: l)) (Int.toNat 1)) = natS none l := by
  have h : (((x :: l).length : Int) - 1).toNat = l.length := by rw [List.length_cons]; omega
  rw [h]
  refine congrArg (AV.slc 1 none l.length) (funext fun i => ?_)
  show natR (x :: l) (1 + i) = natR l i
  rw [Nat.add_comm]
  rfl
end Go.Iron.Tryz

/- The digits' seat: the reference's Read. -/
namespace Go.Iron.Tryz
open Go.Proofs Go.RowKit Go.Iron.Tok Go.Iron.Dg

theorem slc_cut0 {x : Int} {k : Nat} (hx : x = (k : Int)) (r : Nat → List AV) : AV.slc 1 none (x - 0).toNat (shiftR r (Int.toNat 0)) = AV.slc 1 none k r := by
  subst hx
  rw [show ((k : Int) - 0).toNat = k by omega]
  refine congrArg (AV.slc 1 none k) (funext fun i => ?_)
  show r (0 + i) = r i
  rw [Nat.zero_add]
theorem r_Read (s : Str) : CallT Tryz.prog 52 [sv s] [] (fun o A => o = .ret (.tup [.agg (vlE (readV s).1), iv (readV s).2]) ∧ A = []) := by
  unfold readV
  refine callS_body (n := 230) rfl rfl fun w ρ X => ?_
  refine runS_x (I := inf) (J := jnf) ⟨false, false, [], 0, 0⟩ 9999 rfl (by repeat (first | exact obs_nil | refine obs_draw (by kernel_rfl) ?_ | refine obs_same ?_ | refine obs_and ?_ | refine obs_by (by (simp [inB, blS] <;> omega)) ?_)) ?_
  refine runS_cond rfl (fun h => ?_) (fun h => ?_)
  · have hl : s.length > 80 := by
      have := of_decide_eq_true h
      rw [blS] at this
      omega
    rw [if_pos hl]
    refine runS_x (I := inf) (J := jnf) ⟨false, false, [], 0, 0⟩ 9999 rfl (by repeat (first | exact obs_nil | refine obs_draw (by kernel_rfl) ?_ | refine obs_same ?_ | refine obs_and ?_ | refine obs_by (by (simp [inB] <;> omega)) ?_)) ?_
    refine runS_ret (I := inf) 0 rfl (Nat.le_refl _) rfl .nil rfl ⟨?_, rfl⟩
    rfl
  · have hl : ¬ s.length > 80 := by
      have := of_decide_eq_false h
      rw [blS] at this
      omega
    rw [if_neg hl]
    clear h
    refine runS_x (I := inf) (J := jnf) ⟨false, false, [], 0, 0⟩ 9999 rfl (by repeat (first | exact obs_nil | refine obs_draw (by kernel_rfl) ?_ | refine obs_same ?_ | refine obs_and ?_ | refine obs_by (by (simp [inB, blS] <;> omega)) ?_)) ?_
    have hcd := sign_cd s 0
    rw [List.drop_zero] at hcd
    obtain ⟨t0, ht0⟩ : ∃ t0, tkO [43, 45] s = t0 := ⟨_, rfl⟩
    obtain ⟨i0, hi0⟩ : ∃ i0, (if t0.1.2 = true then 1 else 0) = i0 := ⟨_, rfl⟩
    have hyes := sign_yes (s := s) (i := 0)
    have hno := sign_no (s := s) (i := 0)
    rw [List.drop_zero] at hyes hno
    rw [ht0] at hcd hyes hno
    have hs1 : s.drop i0 = t0.2 ∧ i0 ≤ s.length := by
      rw [← hi0]
      cases hb : t0.1.2 with
      | true => exact ⟨(hyes hb).2.2.symm, (hyes hb).1⟩
      | false => exact ⟨(hno hb).2.symm, Nat.zero_le _⟩
    refine runS_cut (fun τ ar => (τ 0 = sv s ∧ τ 2 = .ptr 0 0 0 ∧ τ 4 = iv i0 ∧ τ 5 = bv (decide (t0.1.1 = 45))) ∧ ar = [.box 23 [iv 0, iv 0, iv 0, sv []]]) (fun rest => ?_) ?_
    · refine runS_cond rfl (fun h => ?_) (fun h => ?_)
      · have hb : t0.1.2 = true := hcd.symm.trans h
        rw [if_pos hb] at hi0
        subst hi0
        obtain ⟨y1, y2, y3⟩ := hyes hb
        have hbb : decide (t0.1.1 = 45) = (((byt s 0 : Nat) : Int) == 45) := by
          rw [y2, Bool.eq_iff_iff, decide_eq_true_iff, beq_iff_eq]
          exact (byt_eq (k := 45)).symm
        refine runS_x (I := inf) (J := jnf) ⟨false, false, [], 2, 0⟩ 9999 rfl (by repeat (first | exact obs_nil | refine obs_draw (by kernel_rfl) ?_ | refine obs_same ?_ | refine obs_and ?_ | refine obs_by (by (simp [inB, blS, y1] <;> omega)) ?_)) ?_
        exact rest _ _ ⟨⟨rfl, rfl, rfl, by rw [hbb]; rfl⟩, rfl⟩
      · have hb : t0.1.2 = false := hcd.symm.trans h
        rw [if_neg (by rw [hb]; decide)] at hi0
        subst hi0
        have hbb : decide (t0.1.1 = 45) = false := by rw [(hno hb).1]; decide
        refine runS_x (I := inf) (J := jnf) ⟨false, false, [], 2, 0⟩ 9999 rfl (by repeat (first | exact obs_nil | refine obs_draw (by kernel_rfl) ?_ | refine obs_same ?_ | refine obs_and ?_ | refine obs_by (by (simp [inB] <;> omega)) ?_)) ?_
        exact rest _ _ ⟨⟨rfl, rfl, rfl, by rw [hbb]; rfl⟩, rfl⟩
    rintro τ2 ar2 ⟨⟨g0, g2, g4, g5⟩, rfl⟩
    refine runS_says 0 (by exact g0) (Says.refl _) ?_; refine runS_says 2 (by exact g2) (Says.refl _) ?_; refine runS_says 4 (by exact g4) (Says.refl _) ?_; refine runS_says 5 (by exact g5) (Says.refl _) ?_
    refine runS_x (I := inf) (J := jnf) ⟨false, false, [], 0, 0⟩ 9999 rfl (by repeat (first | exact obs_nil | refine obs_draw (by kernel_rfl) ?_ | refine obs_same ?_ | refine obs_and ?_ | refine obs_by (by (simp [inB] <;> omega)) ?_)) ?_
    obtain ⟨s1, hs1e⟩ : ∃ s1, t0.2 = s1 := ⟨_, rfl⟩
    rw [hs1e] at hs1
    obtain ⟨S0, hS0⟩ : ∃ S0, scanD false s1 = S0 := ⟨_, rfl⟩
    refine runS_nilRow 6 3 1 nilN rfl rfl ?_
    refine runS_while (fun (z : Sx) τ ar => (τ 0 = sv s ∧ τ 2 = .ptr 0 0 0 ∧ τ 4 = iv z.i ∧ τ 5 = bv (decide (t0.1.1 = 45)) ∧ τ 6 = .row 1 z.D.length ∧ τ 7 = bv z.pt ∧ τ 8 = iv z.sc) ∧ ar = [.box 23 [iv 0, iv 0, iv 0, sv []], .row 3 1 z.D.length z.D.length (natR z.D)] ∧ z.i ≤ s.length ∧ z.D.length ≤ z.i ∧ z.sc ≤ z.i ∧ z.D ++ dgV ((scanD z.pt (s.drop z.i)).1 ++ (scanD z.pt (s.drop z.i)).2.1) = dgV (S0.1 ++ S0.2.1) ∧ z.sc + (scanD z.pt (s.drop z.i)).2.1.length = S0.2.1.length ∧ (scanD z.pt (s.drop z.i)).2.2 = S0.2.2) (fun z => s.length - z.i) ⟨i0, [], false, 0⟩ ⟨⟨rfl, rfl, rfl, rfl, rfl, rfl, rfl⟩, rfl, hs1.2, Nat.zero_le _, Nat.zero_le _, by rw [hs1.1, hS0]; rfl, by rw [hs1.1, hS0]; exact Nat.zero_add _, by rw [hs1.1, hS0]⟩ ?_
    clear hcd hyes hno hi0
    rintro ⟨i, D, pt, sc⟩ τ3 ar3 ⟨⟨g0, g2, g4, g5, g6, g7, g8⟩, rfl, hi, hDl, hsl, hD, hsc, hrs⟩ ih
    dsimp only at g4 g6 g7 g8 hi hDl hsl hD hsc hrs ih ⊢
    refine runS_says 0 (by exact g0) (Says.refl _) ?_; refine runS_says 2 (by exact g2) (Says.refl _) ?_; refine runS_says 4 (by exact g4) (Says.refl _) ?_; refine runS_says 5 (by exact g5) (Says.refl _) ?_; refine runS_says 6 (by exact g6) (Says.refl _) ?_; refine runS_says 7 (by exact g7) (Says.refl _) ?_; refine runS_says 8 (by exact g8) (Says.refl _) ?_
    refine runS_x (I := inf) (J := jnf) ⟨false, false, [], 0, 0⟩ 9999 rfl (by repeat (first | exact obs_nil | refine obs_draw (by kernel_rfl) ?_ | refine obs_same ?_ | refine obs_and ?_ | refine obs_by (by (simp [inB, blS] <;> omega)) ?_)) ?_
    refine runS_callU rfl rfl (by first | exact .v rfl rfl rfl rfl | exact .o rfl rfl rfl rfl) rfl rfl (by repeat (first | exact .nil | refine .cons (.n rfl) ?_ | refine .cons .o ?_ | refine .cons gok_and ?_)) rfl rfl rfl rfl rfl (fun _ => (r_digit (s.getD i 0))) ?_
    refine runS_x (I := inf) (J := jnf) ⟨false, false, [], 0, 0⟩ 9999 rfl (by repeat (first | exact obs_nil | refine obs_draw (by kernel_rfl) ?_ | refine obs_same ?_ | refine obs_and ?_ | refine obs_by (by (simp [inB, blS] <;> omega)) ?_)) ?_
    have hcd : (if decide ((i : Int) < (s.length : Int)) = true then (if isD (s.getD i 0) = true then true else if (((byt s i : Nat) : Int) == 46) = true then !pt else false) else false) = decide (i < s.length ∧ (isD (s.getD i 0) = true ∨ (s.getD i 0 = 46 ∧ pt = false))) := by
      have e1 : ((byt s i : Nat) : Int) = 46 ↔ s.getD i 0 = 46 := byt_eq (k := 46)
      generalize s.getD i 0 = b at *
      by_cases h : i < s.length
      · rw [decide_eq_true (show (i : Int) < (s.length : Int) by omega), if_pos rfl]
        by_cases h1 : isD b = true
        · rw [if_pos h1, decide_eq_true (show i < s.length ∧ (isD b = true ∨ (b = 46 ∧ pt = false)) from ⟨h, .inl h1⟩)]
        · rw [if_neg h1]
          by_cases h2 : b = 46
          · rw [beq_iff_eq.2 (e1.2 h2), if_pos rfl, Bool.eq_iff_iff, decide_eq_true_iff]
            simp [h, h1, h2]
            exact fun hh => absurd hh (by decide)
          · rw [beq_eq_false_iff_ne.2 fun e => h2 (e1.1 e), if_neg (by decide), decide_eq_false (show ¬ (i < s.length ∧ (isD b = true ∨ (b = 46 ∧ pt = false))) from fun e => by rcases e.2 with h | h; exact h1 h; exact h2 h.1)]
      · rw [decide_eq_false (show ¬ (i : Int) < (s.length : Int) by omega), if_neg (by decide), decide_eq_false (fun e => h e.1)]
    refine runS_cond rfl (fun h => ?_) (fun h => ?_)
    · obtain ⟨hlt, hbd⟩ := of_decide_eq_true (hcd.symm.trans h)
      have hw1 : IntKind.wrap .i64 ((i : Int) + 1) = ((i + 1 : Nat) : Int) := by rw [w64 (by omega) (by omega)]; rfl
      have hw2 : IntKind.wrap .i64 ((sc : Int) + 1) = ((sc + 1 : Nat) : Int) := by rw [w64 (by omega) (by omega)]; rfl
      have hsl := scan_lt (pt := pt) hlt
      have e46 : ((byt s i : Nat) : Int) = 46 ↔ s.getD i 0 = 46 := byt_eq (k := 46)
      clear hcd h
      refine runS_x (I := inf) (J := jnf) ⟨false, false, [], 0, 0⟩ 9999 rfl (by repeat (first | exact obs_nil | refine obs_draw (by kernel_rfl) ?_ | refine obs_same ?_ | refine obs_and ?_ | refine obs_by (by (simp [inB, blS] <;> omega)) ?_)) ?_
      refine runS_cond rfl (fun h => ?_) (fun h => ?_)
      · have hb : s.getD i 0 = 46 := e46.1 (by simpa using (show (((byt s i : Nat) : Int) == 46) = true from h))
        have hpf : pt = false := by
          rcases hbd with hb2 | hb2
          · rw [hb] at hb2; cases hb2
          · exact hb2.2
        subst hpf
        rw [hb, if_neg (by decide), if_pos ⟨rfl, rfl⟩] at hsl
        rw [hsl] at hD hsc hrs
        refine runS_x (I := inf) (J := jnf) ⟨false, false, [], 0, 0⟩ 9999 rfl (by repeat (first | exact obs_nil | refine obs_draw (by kernel_rfl) ?_ | refine obs_same ?_ | refine obs_and ?_ | refine obs_by (by (simp [inB] <;> omega)) ?_)) ?_
        refine ih ⟨i + 1, D, true, sc⟩ _ _ (by dsimp only; omega) ⟨⟨rfl, rfl, congrArg iv hw1, rfl, rfl, rfl, rfl⟩, rfl, hlt, by dsimp only; omega, by dsimp only; omega, hD, hsc, hrs⟩
      · have hb : ¬ s.getD i 0 = 46 := fun e => by
          have : ¬ ((byt s i : Nat) : Int) = 46 := by simpa using (show (((byt s i : Nat) : Int) == 46) = false from h)
          exact this (e46.2 e)
        have hdg : isD (s.getD i 0) = true := by
          rcases hbd with hb2 | hb2
          · exact hb2
          · exact absurd hb2.1 hb
        have hbn : 48 ≤ byt s i ∧ byt s i ≤ 57 := by
          unfold isD at hdg
          exact ⟨of_decide_eq_true (Bool.and_eq_true_iff.1 hdg).1, of_decide_eq_true (Bool.and_eq_true_iff.1 hdg).2⟩
        rw [if_pos hdg] at hsl
        have ed : IntKind.wrap .i64 (IntKind.wrap .u8 (((byt s i : Nat) : Int) - 48)) = ((byt s i - 48 : Nat) : Int) := by
          rw [w8 (by omega) (by omega), w64 (by omega) (by omega)]; omega
        have hl' : (D ++ [byt s i - 48]).length = D.length + 1 := by simp
        refine runS_x (I := inf) (J := jnf) ⟨false, false, [], 0, 0⟩ 9999 rfl (by repeat (first | exact obs_nil | refine obs_draw (by kernel_rfl) ?_ | refine obs_same ?_ | refine obs_and ?_ | refine obs_by (by (simp [inB, blS] <;> omega)) ?_)) ?_
        refine runS_tell 1 (natR (D ++ [byt s i - 48])) rfl (m' := D.length + 1) rfl (natR_snoc (congrArg (fun z => [iv z]) ed)) rfl ?_
        refine runS_cond rfl (fun h2 => ?_) (fun h2 => ?_)
        · have hp : pt = true := h2
          subst hp
          rw [if_pos rfl] at hsl
          rw [hsl] at hD hsc hrs
          refine runS_x (I := inf) (J := jnf) ⟨false, false, [], 0, 0⟩ 9999 rfl (by repeat (first | exact obs_nil | refine obs_draw (by kernel_rfl) ?_ | refine obs_same ?_ | refine obs_and ?_ | refine obs_by (by (simp [inB] <;> omega)) ?_)) ?_
          refine runS_drop 2 (Nat.zero_le _) rfl (by repeat (first | exact .nil | refine .row (fun j hj => rfl) ?_ | refine .box rfl ?_ | refine .fam (fun k j hk hj => rfl) ?_ | refine .loop (scrub_under _ _) ?_ | refine .dfr ?_ | refine .gone ?_ | refine .map (fun p hp => by (obtain ⟨k, _, rfl⟩ := List.mem_map.1 hp; rfl)) ?_)) rfl rfl rfl (by repeat (first | exact .nil | refine .cons rfl rfl rfl (scrub_under _ _) ?_)) ?_
          refine ih ⟨i + 1, D ++ [byt s i - 48], true, sc + 1⟩ _ _ (by dsimp only; omega) ⟨⟨rfl, rfl, congrArg iv hw1, rfl, by dsimp only; rw [hl']; rfl, rfl, congrArg iv hw2⟩, by dsimp only; rw [hl'], hlt, by dsimp only; rw [hl']; omega, by dsimp only; omega, ?_, ?_, hrs⟩
          · have e : (scanD true (s.drop (i + 1))).1 = [] := by rw [scan_true]
            rw [e] at hD
            dsimp only
            rw [e]
            exact dg_snoc hD
          · have hsc' : sc + ((scanD true (s.drop (i + 1))).2.1.length + 1) = S0.2.1.length := hsc
            dsimp only
            omega
        · have hp : pt = false := h2
          subst hp
          rw [if_neg (by decide)] at hsl
          rw [hsl] at hD hsc hrs
          refine runS_x (I := inf) (J := jnf) ⟨false, false, [], 0, 0⟩ 9999 rfl (by repeat (first | exact obs_nil | refine obs_draw (by kernel_rfl) ?_ | refine obs_same ?_ | refine obs_and ?_ | refine obs_by (by (simp [inB] <;> omega)) ?_)) ?_
          refine runS_drop 2 (Nat.zero_le _) rfl (by repeat (first | exact .nil | refine .row (fun j hj => rfl) ?_ | refine .box rfl ?_ | refine .fam (fun k j hk hj => rfl) ?_ | refine .loop (scrub_under _ _) ?_ | refine .dfr ?_ | refine .gone ?_ | refine .map (fun p hp => by (obtain ⟨k, _, rfl⟩ := List.mem_map.1 hp; rfl)) ?_)) rfl rfl rfl (by repeat (first | exact .nil | refine .cons rfl rfl rfl (scrub_under _ _) ?_)) ?_
          refine ih ⟨i + 1, D ++ [byt s i - 48], false, sc⟩ _ _ (by dsimp only; omega) ⟨⟨rfl, rfl, congrArg iv hw1, rfl, by dsimp only; rw [hl']; rfl, rfl, rfl⟩, by dsimp only; rw [hl'], hlt, by dsimp only; rw [hl']; omega, by dsimp only; omega, ?_, hsc, hrs⟩
          · exact dg_snoc hD
    · have hno := of_decide_eq_false (hcd.symm.trans h)
      have hend : scanD pt (s.drop i) = ([], [], s.drop i) := by
        by_cases hlt : i < s.length
        · rw [scan_lt hlt, if_neg (fun e => hno ⟨hlt, .inl e⟩), if_neg (fun e => hno ⟨hlt, .inr e⟩)]
        · exact scan_ge hlt
      rw [hend] at hD hsc hrs
      dsimp only at hD hsc hrs
      have hD' : D = dgV (S0.1 ++ S0.2.1) := by
        rw [← hD]
        show D = D ++ []
        rw [List.append_nil]
      have hsc : sc = S0.2.1.length := hsc
      clear hend hcd hno h hD ih
      refine runS_x (I := inf) (J := jnf) ⟨false, false, [], 0, 0⟩ 9999 rfl (by repeat (first | exact obs_nil | refine obs_draw (by kernel_rfl) ?_ | refine obs_same ?_ | refine obs_and ?_ | refine obs_by (by (simp [inB] <;> omega)) ?_)) ?_
      have hr1 : rd1 s = ⟨t0.1.1, S0.1, S0.2.1, S0.2.2⟩ := by
        rw [rd1_scan, ht0, hs1e, hS0]
      unfold readP
      rw [hr1]
      dsimp only
      have hwf : (S0.1 ++ S0.2.1).all isD = true := by
        rw [← hS0, scan_false]
        split
        · rw [List.all_append, tw_all, tw_all]; rfl
        · rw [List.all_append, tw_all]; rfl
      clear hr1 hs1 ht0 hS0 hs1e
      obtain ⟨wh, f, s4⟩ := S0
      dsimp only at hsc hD' hrs hwf ⊢
      have hDlen : D.length = (wh ++ f).length := by rw [hD', dg_len]
      subst hrs
      subst hsc
      obtain ⟨ng, hng⟩ : ∃ ng, decide (t0.1.1 = 45) = ng := ⟨_, rfl⟩
      rw [hng] at g5
      rw [hng]
      refine runS_cond rfl (fun h => ?_) (fun h => ?_)
      · have h0 : wh ++ f = [] := by
          have h1 : ((D.length : Int) == 0) = true := h
          have h2 : (D.length : Int) = 0 := by simpa using h1
          exact List.length_eq_zero_iff.1 (by omega)
        rw [if_pos h0]
        refine runS_x (I := inf) (J := jnf) ⟨false, false, [], 0, 0⟩ 9999 rfl (by repeat (first | exact obs_nil | refine obs_draw (by kernel_rfl) ?_ | refine obs_same ?_ | refine obs_and ?_ | refine obs_by (by (simp [inB] <;> omega)) ?_)) ?_
        refine runS_ret (I := inf) 0 rfl (Nat.le_refl _) rfl .nil rfl ⟨?_, rfl⟩
        rfl
      · have h0 : ¬ wh ++ f = [] := by
          have h1 : ((D.length : Int) == 0) = false := h
          have h2 : ¬ (D.length : Int) = 0 := by simpa using h1
          intro e
          rw [e] at hDlen
          exact h2 (by rw [hDlen]; rfl)
        rw [if_neg h0]
        clear h g0 g2 g4 g5 g6 g7 g8
        refine runS_x (I := inf) (J := jnf) ⟨false, false, [], 0, 0⟩ 9999 rfl (by repeat (first | exact obs_nil | refine obs_draw (by kernel_rfl) ?_ | refine obs_same ?_ | refine obs_and ?_ | refine obs_by (by (simp [inB, blS] <;> omega)) ?_)) ?_
        refine runS_freeze 6 rfl rfl rfl (fun j hj => rfl) ?_
        have hEy := e_yes (s := s) (i := i)
        have hEn := e_no (s := s) (i := i)
        have hE := e_cd s i
        refine runS_cut (fun τ ar => ∃ j : Nat, (τ 0 = sv s ∧ τ 2 = .ptr 0 0 0 ∧ τ 4 = iv j ∧ τ 5 = bv ng ∧ τ 6 = natS none D ∧ τ 8 = iv f.length ∧ τ 9 = bv (rd2 (s.drop i)).fl ∧ τ 10 = iv (rd2 (s.drop i)).ex) ∧ ar = [.box 23 [iv 0, iv 0, iv 0, sv []], .gone] ∧ j ≤ s.length ∧ (rd2 (s.drop i)).bad = false ∧ s.drop j = (rd2 (s.drop i)).r) (fun rest => ?_) ?_
        · refine runS_cond rfl (fun h => ?_) (fun h => ?_)
          · have hb : (tkO [69] (s.drop i)).1.2 = true := hE.symm.trans h
            obtain ⟨hlt, e2⟩ := hEy hb
            have hw1 : IntKind.wrap .i64 ((i : Int) + 1) = ((i + 1 : Nat) : Int) := by rw [w64 (by omega) (by omega)]; rfl
            obtain ⟨t1, ht1⟩ : ∃ t1, tkO [43, 45] (s.drop (i + 1)) = t1 := ⟨_, rfl⟩
            have hR2 : rd2 (s.drop i) = ⟨decide ((t1.2.takeWhile isD).length < 1 ∨ (t1.2.takeWhile isD).length > 2), true, sgV t1.1.1 (valS (t1.2.takeWhile isD)), t1.2.dropWhile isD⟩ := by
              unfold rd2
              rw [if_pos hb, e2, ht1]
            have hcd := sign_cd s (i + 1)
            have hyes := sign_yes (s := s) (i := i + 1)
            have hno := sign_no (s := s) (i := i + 1)
            rw [ht1] at hcd hyes hno
            obtain ⟨i2, hi2⟩ : ∃ i2, (if t1.1.2 = true then i + 2 else i + 1) = i2 := ⟨_, rfl⟩
            have hs2 : s.drop i2 = t1.2 ∧ i2 ≤ s.length := by
              rw [← hi2]
              cases hb2 : t1.1.2 with
              | true => exact ⟨(hyes hb2).2.2.symm, (hyes hb2).1⟩
              | false => exact ⟨(hno hb2).2.symm, hlt⟩
            rw [hR2] at rest ⊢
            dsimp only at rest ⊢
            refine runS_x (I := inf) (J := jnf) ⟨false, false, [], 2, 0⟩ 9999 rfl (by repeat (first | exact obs_nil | refine obs_draw (by kernel_rfl) ?_ | refine obs_same ?_ | refine obs_and ?_ | refine obs_by (by (simp [inB, blS, hw1] <;> omega)) ?_)) ?_
            rw [hw1]
            refine runS_cut (fun τ ar => (τ 0 = sv s ∧ τ 2 = .ptr 0 0 0 ∧ τ 4 = iv i2 ∧ τ 5 = bv ng ∧ τ 6 = natS none D ∧ τ 8 = iv f.length ∧ τ 9 = bv true ∧ τ 10 = iv 0 ∧ τ 11 = bv (decide (t1.1.1 = 45))) ∧ ar = [.box 23 [iv 0, iv 0, iv 0, sv []], .gone]) (fun rest => ?_) ?_
            · refine runS_cond rfl (fun h => ?_) (fun h => ?_)
              · have hb2 : t1.1.2 = true := hcd.symm.trans h
                rw [if_pos hb2] at hi2
                subst hi2
                obtain ⟨y1, y2, y3⟩ := hyes hb2
                have hw2 : IntKind.wrap .i64 (((i + 1 : Nat) : Int) + 1) = ((i + 2 : Nat) : Int) := by rw [w64 (by omega) (by omega)]; omega
                have hbb : decide (t1.1.1 = 45) = (((byt s (i + 1) : Nat) : Int) == 45) := by
                  rw [y2, Bool.eq_iff_iff, decide_eq_true_iff, beq_iff_eq]
                  exact (byt_eq (k := 45)).symm
                have k1 : inB (((i + 1 : Nat) : Int)) (bl (bs s)).length = true := inB_iff.2 ⟨by omega, by rw [blS]; omega⟩
                refine runS_x (I := inf) (J := jnf) ⟨false, false, [], 3, 0⟩ 9999 rfl (by repeat (first | exact obs_nil | refine obs_draw (by kernel_rfl) ?_ | refine obs_same ?_ | refine obs_and ?_ | refine obs_by (by first | exact fun _ => k1 | (simp [inB] <;> omega)) ?_)) ?_
                exact rest _ _ ⟨⟨rfl, rfl, congrArg iv hw2, rfl, rfl, rfl, rfl, rfl, by rw [hbb]; rfl⟩, rfl⟩
              · have hb2 : t1.1.2 = false := hcd.symm.trans h
                rw [if_neg (by rw [hb2]; decide)] at hi2
                subst hi2
                have hbb : decide (t1.1.1 = 45) = false := by rw [(hno hb2).1]; decide
                refine runS_x (I := inf) (J := jnf) ⟨false, false, [], 3, 0⟩ 9999 rfl (by repeat (first | exact obs_nil | refine obs_draw (by kernel_rfl) ?_ | refine obs_same ?_ | refine obs_and ?_ | refine obs_by (by (simp [inB] <;> omega)) ?_)) ?_
                exact rest _ _ ⟨⟨rfl, rfl, rfl, rfl, rfl, rfl, rfl, rfl, by rw [hbb]; rfl⟩, rfl⟩
            clear hcd hyes hno hi2 hw1
            rintro τ4 ar4 ⟨⟨g0, g2, g4, g5, g6, g8, g9, g10, g11⟩, rfl⟩
            refine runS_says 0 (by exact g0) (Says.refl _) ?_; refine runS_says 2 (by exact g2) (Says.refl _) ?_; refine runS_says 4 (by exact g4) (Says.refl _) ?_; refine runS_says 5 (by exact g5) (Says.refl _) ?_; refine runS_says 6 (by exact g6) (Says.refl _) ?_; refine runS_says 8 (by exact g8) (Says.refl _) ?_; refine runS_says 9 (by exact g9) (Says.refl _) ?_; refine runS_says 10 (by exact g10) (Says.refl _) ?_; refine runS_says 11 (by exact g11) (Says.refl _) ?_
            have hts := fun k => tw_step t1.2 k
            have htd : ∀ k, t1.2.getD k 0 = s.getD (i2 + k) 0 := fun k => by rw [← hs2.1]; exact drop_getD s i2 k
            have htl : t1.2.length = s.length - i2 := by rw [← hs2.1, List.length_drop]
            have htA := tw_all t1.2
            have htw := tw_drop t1.2
            have htwl := tw_len t1.2
            obtain ⟨d, hd⟩ : ∃ d, t1.2.takeWhile isD = d := ⟨_, rfl⟩
            rw [hd] at htA htw htwl rest ⊢
            simp only [hd] at hts
            refine runS_x (I := inf) (J := jnf) ⟨false, false, [], 2, 0⟩ 9999 rfl (by repeat (first | exact obs_nil | refine obs_draw (by kernel_rfl) ?_ | refine obs_same ?_ | refine obs_and ?_ | refine obs_by (by (simp [inB] <;> omega)) ?_)) ?_
            refine runS_while (fun (k : Nat) τ ar => (τ 0 = sv s ∧ τ 2 = .ptr 0 0 0 ∧ τ 4 = iv (i2 + k : Nat) ∧ τ 5 = bv ng ∧ τ 6 = natS none D ∧ τ 8 = iv f.length ∧ τ 9 = bv true ∧ τ 10 = iv (valS (d.take k) : Nat) ∧ τ 11 = bv (decide (t1.1.1 = 45)) ∧ τ 12 = iv k) ∧ ar = [.box 23 [iv 0, iv 0, iv 0, sv []], .gone] ∧ k ≤ 3 ∧ k ≤ d.length) (fun k => 3 - k) 0 ⟨⟨rfl, rfl, rfl, rfl, rfl, rfl, rfl, rfl, rfl, rfl⟩, rfl, Nat.zero_le _, Nat.zero_le _⟩ ?_
            rintro k τ5 ar5 ⟨⟨g0, g2, g4, g5, g6, g8, g9, g10, g11, g12⟩, rfl, hk3, hkd⟩ ih
            obtain ⟨hk1, hk2⟩ := hts k hkd
            rw [htd, htl] at hk1
            rw [htd] at hk2
            obtain ⟨p, hp⟩ : ∃ p, i2 + k = p := ⟨_, rfl⟩
            rw [hp] at g4 hk1 hk2
            refine runS_says 0 (by exact g0) (Says.refl _) ?_; refine runS_says 2 (by exact g2) (Says.refl _) ?_; refine runS_says 4 (by exact g4) (Says.refl _) ?_; refine runS_says 5 (by exact g5) (Says.refl _) ?_; refine runS_says 6 (by exact g6) (Says.refl _) ?_; refine runS_says 8 (by exact g8) (Says.refl _) ?_; refine runS_says 9 (by exact g9) (Says.refl _) ?_; refine runS_says 10 (by exact g10) (Says.refl _) ?_; refine runS_says 11 (by exact g11) (Says.refl _) ?_; refine runS_says 12 (by exact g12) (Says.refl _) ?_
            refine runS_x (I := inf) (J := jnf) ⟨false, false, [], 2, 0⟩ 9999 rfl (by repeat (first | exact obs_nil | refine obs_draw (by kernel_rfl) ?_ | refine obs_same ?_ | refine obs_and ?_ | refine obs_by (by (simp [inB, blS] <;> omega)) ?_)) ?_
            refine runS_callU rfl rfl (by first | exact .v rfl rfl rfl rfl | exact .o rfl rfl rfl rfl) rfl rfl (by repeat (first | exact .nil | refine .cons (.n rfl) ?_ | refine .cons .o ?_ | refine .cons gok_and ?_)) rfl rfl rfl rfl rfl (fun _ => (r_digit (s.getD p 0))) ?_
            refine runS_x (I := inf) (J := jnf) ⟨false, false, [], 2, 0⟩ 9999 rfl (by repeat (first | exact obs_nil | refine obs_draw (by kernel_rfl) ?_ | refine obs_same ?_ | refine obs_and ?_ | refine obs_by (by (simp [inB, blS] <;> omega)) ?_)) ?_
            have hcd : (if (if decide ((p : Int) < (s.length : Int)) = true then isD (s.getD p 0) else false) = true then decide ((k : Int) < 3) else false) = decide (k < d.length ∧ k < 3) := by
              by_cases hpl : p < s.length
              · rw [decide_eq_true (show (p : Int) < (s.length : Int) by omega), if_pos rfl]
                by_cases hb4 : isD (s.getD p 0) = true
                · have := hk1.2 ⟨by omega, hb4⟩
                  rw [if_pos hb4, Bool.eq_iff_iff, decide_eq_true_iff, decide_eq_true_iff]
                  omega
                · have : ¬ k < d.length := fun e => hb4 (hk1.1 e).2
                  rw [if_neg hb4, decide_eq_false (fun e => this e.1)]
              · have : ¬ k < d.length := fun e => by have := (hk1.1 e).1; omega
                rw [decide_eq_false (show ¬ (p : Int) < (s.length : Int) by omega), decide_eq_false (show ¬ (k < d.length ∧ k < 3) from fun e => this e.1)]
                rfl
            refine runS_cond rfl (fun h => ?_) (fun h => ?_)
            · obtain ⟨hlt, hk4⟩ := of_decide_eq_true (hcd.symm.trans h)
              obtain ⟨hpl, hdg⟩ := hk1.1 hlt
              have hpl2 : p < s.length := by omega
              have hw1 : IntKind.wrap .i64 ((p : Int) + 1) = ((i2 + (k + 1) : Nat) : Int) := by rw [w64 (by omega) (by omega)]; omega
              have hw2 : IntKind.wrap .i64 ((k : Int) + 1) = ((k + 1 : Nat) : Int) := by rw [w64 (by omega) (by omega)]; rfl
              have hvt := valS_take hlt
              rw [hk2 hlt] at hvt
              have hvl := valS_lt (s := d.take k) (by rw [List.all_eq_true] at htA ⊢; exact fun x hx => htA x (List.mem_of_mem_take hx))
              have hvl2 : 10 ^ (d.take k).length ≤ 10 ^ 3 := Nat.pow_le_pow_right (by decide) (by rw [List.length_take]; omega)
              have hbn : 48 ≤ byt s p ∧ byt s p ≤ 57 := by
                unfold isD at hdg
                exact ⟨of_decide_eq_true (Bool.and_eq_true_iff.1 hdg).1, of_decide_eq_true (Bool.and_eq_true_iff.1 hdg).2⟩
              have hvt2 : valS (d.take (k + 1)) = valS (d.take k) * 10 + (byt s p - 48) := hvt
              have ee : IntKind.wrap .i64 (IntKind.wrap .i64 (10 * ((valS (d.take k) : Nat) : Int)) + IntKind.wrap .i64 (IntKind.wrap .u8 (((byt s p : Nat) : Int) - 48))) = ((valS (d.take (k + 1)) : Nat) : Int) := by
                rw [hvt2, w8 (by omega) (by omega), w64 (x := ((byt s p : Nat) : Int) - 48) (by omega) (by omega), w64 (x := 10 * ((valS (d.take k) : Nat) : Int)) (by omega) (by omega), w64 (by omega) (by omega)]
                omega
              refine runS_x (I := inf) (J := jnf) ⟨false, false, [], 2, 0⟩ 9999 rfl (by repeat (first | exact obs_nil | refine obs_draw (by kernel_rfl) ?_ | refine obs_same ?_ | refine obs_and ?_ | refine obs_by (by (simp [inB, blS, hpl2] <;> omega)) ?_)) ?_
              exact ih (k + 1) _ _ (by omega) ⟨⟨rfl, rfl, congrArg iv hw1, rfl, rfl, rfl, rfl, congrArg iv ee, rfl, congrArg iv hw2⟩, rfl, by omega, by omega⟩
            · have hend := of_decide_eq_false (hcd.symm.trans h)
              have hcd2 : (if decide ((k : Int) < 1) = true then true else decide ((k : Int) > 2)) = decide (d.length < 1 ∨ d.length > 2) := by
                by_cases h1 : k < 1
                · rw [decide_eq_true (show (k : Int) < 1 by omega), if_pos rfl, decide_eq_true (show d.length < 1 ∨ d.length > 2 by omega)]
                · rw [decide_eq_false (show ¬ (k : Int) < 1 by omega), if_neg (by decide), Bool.eq_iff_iff, decide_eq_true_iff, decide_eq_true_iff]
                  omega
              clear hcd h ih
              refine runS_x (I := inf) (J := jnf) ⟨false, false, [], 2, 0⟩ 9999 rfl (by repeat (first | exact obs_nil | refine obs_draw (by kernel_rfl) ?_ | refine obs_same ?_ | refine obs_and ?_ | refine obs_by (by (simp [inB] <;> omega)) ?_)) ?_
              refine runS_cond rfl (fun h => ?_) (fun h => ?_)
              · have hbad : d.length < 1 ∨ d.length > 2 := of_decide_eq_true (hcd2.symm.trans h)
                rw [if_pos (show decide (d.length < 1 ∨ d.length > 2) = true ∨ t1.2.dropWhile isD ≠ [] from .inl (decide_eq_true hbad))]
                refine runS_x (I := inf) (J := jnf) ⟨false, false, [], 2, 0⟩ 9999 rfl (by repeat (first | exact obs_nil | refine obs_draw (by kernel_rfl) ?_ | refine obs_same ?_ | refine obs_and ?_ | refine obs_by (by (simp [inB] <;> omega)) ?_)) ?_
                refine runS_ret (I := inf) 0 rfl (Nat.le_refl _) rfl .nil rfl ⟨?_, rfl⟩
                rfl
              · have hok : ¬ (d.length < 1 ∨ d.length > 2) := of_decide_eq_false (hcd2.symm.trans h)
                have hkl : k = d.length := by omega
                subst hkl
                rw [List.take_length]
                have hvl := valS_lt htA
                have hvl2 : 10 ^ d.length ≤ 10 ^ 2 := Nat.pow_le_pow_right (by decide) (by omega)
                have hwn : IntKind.wrap .i64 (0 - ((valS d : Nat) : Int)) = -((valS d : Nat) : Int) := by rw [w64 (by omega) (by omega)]; omega
                have hdp : s.drop p = t1.2.dropWhile isD := by rw [← htw, ← hs2.1, List.drop_drop, hp]
                have hpl : p ≤ s.length := by omega
                refine runS_x (I := inf) (J := jnf) ⟨false, false, [], 2, 0⟩ 9999 rfl (by repeat (first | exact obs_nil | refine obs_draw (by kernel_rfl) ?_ | refine obs_same ?_ | refine obs_and ?_ | refine obs_by (by (simp [inB] <;> omega)) ?_)) ?_
                refine runS_cond rfl (fun h3 => ?_) (fun h3 => ?_)
                · have hsg : sgV t1.1.1 (valS d) = -((valS d : Nat) : Int) := by unfold sgV; rw [if_pos (of_decide_eq_true h3)]
                  refine runS_x (I := inf) (J := jnf) ⟨false, false, [], 2, 0⟩ 9999 rfl (by repeat (first | exact obs_nil | refine obs_draw (by kernel_rfl) ?_ | refine obs_same ?_ | refine obs_and ?_ | refine obs_by (by (simp [inB] <;> omega)) ?_)) ?_
                  exact rest _ _ ⟨p, ⟨rfl, rfl, rfl, rfl, rfl, rfl, rfl, by rw [hsg]; exact congrArg iv hwn⟩, rfl, hpl, decide_eq_false hok, hdp⟩
                · have hsg : sgV t1.1.1 (valS d) = ((valS d : Nat) : Int) := by unfold sgV; rw [if_neg (of_decide_eq_false h3)]
                  refine runS_x (I := inf) (J := jnf) ⟨false, false, [], 2, 0⟩ 9999 rfl (by repeat (first | exact obs_nil | refine obs_draw (by kernel_rfl) ?_ | refine obs_same ?_ | refine obs_and ?_ | refine obs_by (by (simp [inB] <;> omega)) ?_)) ?_
                  exact rest _ _ ⟨p, ⟨rfl, rfl, rfl, rfl, rfl, rfl, rfl, by rw [hsg]; rfl⟩, rfl, hpl, decide_eq_false hok, hdp⟩
          · have hb : (tkO [69] (s.drop i)).1.2 = false := hE.symm.trans h
            have hR2 : rd2 (s.drop i) = ⟨false, false, 0, s.drop i⟩ := by
              unfold rd2
              rw [if_neg (by rw [hb]; decide), hEn hb]
            rw [hR2] at rest ⊢
            dsimp only at rest ⊢
            refine runS_x (I := inf) (J := jnf) ⟨false, false, [], 2, 0⟩ 9999 rfl (by repeat (first | exact obs_nil | refine obs_draw (by kernel_rfl) ?_ | refine obs_same ?_ | refine obs_and ?_ | refine obs_by (by (simp [inB] <;> omega)) ?_)) ?_
            exact rest _ _ ⟨i, ⟨rfl, rfl, rfl, rfl, rfl, rfl, rfl, rfl⟩, rfl, hi, rfl, rfl⟩
        rintro τ4 ar4 ⟨j, ⟨g0, g2, g4, g5, g6, g8, g9, g10⟩, rfl, hj, hbad, hrj⟩
        obtain ⟨x1, x2⟩ := rd2_ex hbad
        refine runS_says 0 (by exact g0) (Says.refl _) ?_; refine runS_says 2 (by exact g2) (Says.refl _) ?_; refine runS_says 4 (by exact g4) (Says.refl _) ?_; refine runS_says 5 (by exact g5) (Says.refl _) ?_; refine runS_says 6 (by exact g6) (Says.refl _) ?_; refine runS_says 8 (by exact g8) (Says.refl _) ?_; refine runS_says 9 (by exact g9) (Says.refl _) ?_; refine runS_says 10 (by exact g10) (Says.refl _) ?_
        refine runS_x (I := inf) (J := jnf) ⟨false, false, [], 0, 0⟩ 9999 rfl (by repeat (first | exact obs_nil | refine obs_draw (by kernel_rfl) ?_ | refine obs_same ?_ | refine obs_and ?_ | refine obs_by (by (simp [inB, blS] <;> omega)) ?_)) ?_
        refine runS_cond rfl (fun h => ?_) (fun h => ?_)
        · have hjl : j < s.length := by
            have := of_decide_eq_true h
            rw [blS] at this
            omega
          have hne : (rd2 (s.drop i)).r ≠ [] := by
            rw [← hrj]
            intro e
            have := congrArg List.length e
            rw [List.length_drop] at this
            simp at this
            omega
          rw [if_pos (.inr hne)]
          refine runS_x (I := inf) (J := jnf) ⟨false, false, [], 0, 0⟩ 9999 rfl (by repeat (first | exact obs_nil | refine obs_draw (by kernel_rfl) ?_ | refine obs_same ?_ | refine obs_and ?_ | refine obs_by (by (simp [inB] <;> omega)) ?_)) ?_
          refine runS_ret (I := inf) 0 rfl (Nat.le_refl _) rfl .nil rfl ⟨?_, rfl⟩
          rfl
        · have hre : (rd2 (s.drop i)).r = [] := by
            have := of_decide_eq_false h
            rw [blS] at this
            rw [← hrj]
            exact List.drop_eq_nil_of_le (by omega)
          rw [if_neg (by rintro (h | h); rw [hbad] at h; cases h; exact h hre)]
          generalize (rd2 (s.drop i)).fl = fl at *
          generalize (rd2 (s.drop i)).ex = ex at *
          clear hEy hEn hE hre h hrj hbad
          obtain ⟨A, hA⟩ : ∃ A, allZ wh f = A := ⟨_, rfl⟩
          have hAa : A.all isD = true := by rw [← hA]; exact tl_all 48 hwf
          have hDA : D.dropWhile (· == 0) = dgV A := by rw [hD', dg_drop hwf, ← hA]; rfl
          refine runS_x (I := inf) (J := jnf) ⟨false, false, [], 0, 0⟩ 9999 rfl (by repeat (first | exact obs_nil | refine obs_draw (by kernel_rfl) ?_ | refine obs_same ?_ | refine obs_and ?_ | refine obs_by (by (simp [inB] <;> omega)) ?_)) ?_
          refine runS_while (fun (L : List Nat) τ ar => (τ 0 = sv s ∧ τ 2 = .ptr 0 0 0 ∧ τ 4 = iv j ∧ τ 5 = bv ng ∧ τ 6 = natS none L ∧ τ 8 = iv f.length ∧ τ 9 = bv fl ∧ τ 10 = iv ex) ∧ ar = [.box 23 [iv 0, iv 0, iv 0, sv []], .gone] ∧ L.dropWhile (· == 0) = dgV A ∧ L.length ≤ 80) (fun L => L.length) D ⟨⟨rfl, rfl, rfl, rfl, rfl, rfl, rfl, rfl⟩, rfl, hDA, by omega⟩ ?_
          rintro L τ5 ar5 ⟨⟨g0, g2, g4, g5, g6, g8, g9, g10⟩, rfl, hLd, hLl⟩ ih
          refine runS_says 0 (by exact g0) (Says.refl _) ?_; refine runS_says 2 (by exact g2) (Says.refl _) ?_; refine runS_says 4 (by exact g4) (Says.refl _) ?_; refine runS_says 5 (by exact g5) (Says.refl _) ?_; refine runS_says 6 (by exact g6) (Says.refl _) ?_; refine runS_says 8 (by exact g8) (Says.refl _) ?_; refine runS_says 9 (by exact g9) (Says.refl _) ?_; refine runS_says 10 (by exact g10) (Says.refl _) ?_
          refine runS_x (I := inf) (J := jnf) ⟨false, false, [], 0, 0⟩ 9999 rfl (by repeat (first | exact obs_nil | refine obs_draw (by kernel_rfl) ?_ | refine obs_same ?_ | refine obs_and ?_ | refine obs_by (by (simp [inB] <;> omega)) ?_)) ?_
          have hcd : (if decide ((L.length : Int) > 0) = true then ((L.getD 0 0 : Nat) : Int) == 0 else false) = (L.head? == some 0) := by
            cases L with
            | nil => rfl
            | cons x l =>
              show (if decide (((l.length + 1 : Nat) : Int) > 0) = true then ((x : Nat) : Int) == 0 else false) = (some x == some 0)
              rw [decide_eq_true (by omega), if_pos rfl, Bool.eq_iff_iff]
              simp
          refine runS_cond rfl (fun h => ?_) (fun h => ?_)
          · have h0 := hcd.symm.trans h
            obtain ⟨l, rfl⟩ : ∃ l, L = 0 :: l := by
              cases L with
              | nil => cases h0
              | cons x l => exact ⟨l, by simp at h0; rw [h0]⟩
            rw [List.length_cons] at hLl
            have hll : (0 :: l).length = l.length + 1 := rfl
            refine runS_x (I := inf) (J := jnf) ⟨false, false, [], 0, 0⟩ 9999 rfl (by repeat (first | exact obs_nil | refine obs_draw (by kernel_rfl) ?_ | refine obs_same ?_ | refine obs_and ?_ | refine obs_by (by (simp [inB] <;> omega)) ?_)) ?_
            refine ih l _ _ (by simp) ⟨⟨rfl, rfl, rfl, rfl, natS_tl, rfl, rfl, rfl⟩, rfl, ?_, by omega⟩
            rw [← hLd, List.dropWhile_cons, if_pos (by decide)]
          · have h0 := hcd.symm.trans h
            have hLA : L = dgV A := by
              rw [← hLd]
              cases L with
              | nil => rfl
              | cons x l =>
                rw [List.dropWhile_cons, if_neg]
                intro e
                rw [beq_iff_eq] at e
                subst e
                cases h0
            subst hLA
            rw [dg_len] at hLl
            clear hcd h h0 ih hLd hDA
            refine runS_x (I := inf) (J := jnf) ⟨false, false, [], 0, 0⟩ 9999 rfl (by repeat (first | exact obs_nil | refine obs_draw (by kernel_rfl) ?_ | refine obs_same ?_ | refine obs_and ?_ | refine obs_by (by (simp [inB] <;> omega)) ?_)) ?_
            obtain ⟨sg, hsgd⟩ : ∃ sg, sigZ fl wh f = sg := ⟨_, rfl⟩
            refine runS_cut (fun τ ar => (τ 2 = .ptr 0 0 0 ∧ τ 5 = bv ng ∧ τ 6 = .slc 1 none sg.length (natR (dgV A)) ∧ τ 13 = .ptr 2 0 0) ∧ ar = [.box 23 [iv 0, iv 0, iv 0, sv []], .gone, .box 23 [iv (if fl = true then 3 else 2), iv 0, iv (if fl = true then ex - (f.length : Int) + A.length - sg.length else f.length), sv []]] ∧ (fl = true → valS sg ≠ 0) ∧ sg = A.take sg.length) (fun rest => ?_) ?_
            · refine runS_cond rfl (fun h => ?_) (fun h => ?_)
              · have hf : fl = true := h
                subst hf
                have hwe : IntKind.wrap .i64 (ex - (f.length : Int)) = ex - (f.length : Int) + A.length - A.length := by rw [w64 (by omega) (by omega)]; omega
                refine runS_x (I := inf) (J := jnf) ⟨false, false, [], 2, 0⟩ 9999 rfl (by repeat (first | exact obs_nil | refine obs_draw (by kernel_rfl) ?_ | refine obs_same ?_ | refine obs_and ?_ | refine obs_by (by (simp [inB] <;> omega)) ?_)) ?_
                refine runS_while (fun (m : Nat) τ ar => (τ 2 = .ptr 0 0 0 ∧ τ 5 = bv ng ∧ τ 6 = .slc 1 none m (natR (dgV A)) ∧ τ 13 = .ptr 2 0 0) ∧ ar = [.box 23 [iv 0, iv 0, iv 0, sv []], .gone, .box 23 [iv 3, iv 0, iv (ex - (f.length : Int) + A.length - m), sv []]] ∧ m ≤ A.length ∧ sg = Lib.trimRightB (A.take m) 48) (fun m => m) A.length ⟨⟨rfl, rfl, by rw [← dg_len A]; rfl, rfl⟩, congrArg (fun z => [AO.box 23 [iv 0, iv 0, iv 0, sv []], .gone, .box 23 [iv 3, iv 0, iv z, sv []]]) hwe, Nat.le_refl _, by rw [List.take_length, ← hsgd, ← hA]; rfl⟩ ?_
                rintro m τ6 ar6 ⟨⟨g2, g5, g6, g13⟩, rfl, hm, hsg⟩ ih
                refine runS_says 2 (by exact g2) (Says.refl _) ?_; refine runS_says 5 (by exact g5) (Says.refl _) ?_; refine runS_says 6 (by exact g6) (Says.refl _) ?_; refine runS_says 13 (by exact g13) (Says.refl _) ?_
                cases m with
                | zero =>
                  have hs0 : sg = [] := hsg
                  rw [fin_zero (hsgd.trans hs0)]
                  refine runS_x (I := inf) (J := jnf) ⟨false, false, [], 2, 0⟩ 9999 rfl (by repeat (first | exact obs_nil | refine obs_draw (by kernel_rfl) ?_ | refine obs_same ?_ | refine obs_and ?_ | refine obs_by (by (simp [inB] <;> omega)) ?_)) ?_
                  refine runS_cond rfl (fun h => by cases h) (fun h => ?_)
                  refine runS_x (I := inf) (J := jnf) ⟨false, false, [], 2, 0⟩ 9999 rfl (by repeat (first | exact obs_nil | refine obs_draw (by kernel_rfl) ?_ | refine obs_same ?_ | refine obs_and ?_ | refine obs_by (by (simp [inB] <;> omega)) ?_)) ?_
                  refine runS_cond rfl (fun h => ?_) (fun h => by cases h)
                  refine runS_x (I := inf) (J := jnf) ⟨false, false, [], 2, 0⟩ 9999 rfl (by repeat (first | exact obs_nil | refine obs_draw (by kernel_rfl) ?_ | refine obs_same ?_ | refine obs_and ?_ | refine obs_by (by (simp [inB] <;> omega)) ?_)) ?_
                  refine runS_ret (I := inf) 0 rfl (Nat.le_refl _) rfl .nil rfl ⟨?_, rfl⟩
                  rfl
                | succ k =>
                  have hwk : IntKind.wrap .i64 (((k + 1 : Nat) : Int) - 1) = (k : Int) := by rw [w64 (by omega) (by omega)]; omega
                  have hwk2 : IntKind.wrap .i64 (k : Int) = (k : Int) := w64 (by omega) (by omega)
                  have hdk := digit_at hAa (show k < A.length by omega)
                  have hdg := dg_getD A k
                  rw [take_snoc (show k < A.length by omega), tr_snoc] at hsg
                  have hcd : (if decide (((k + 1 : Nat) : Int) > 0) = true then (((dgV A).getD (IntKind.wrap .i64 (((k + 1 : Nat) : Int) - 1)).toNat 0 : Nat) : Int) == 0 else false) = decide (A.getD k 0 = 48) := by
                    rw [hwk, Int.toNat_natCast, hdg, decide_eq_true (by omega), if_pos rfl, Bool.eq_iff_iff, beq_iff_eq, decide_eq_true_iff]
                    constructor
                    · intro e
                      exact UInt8.toNat_inj.1 (by show (A.getD k 0).toNat = 48; omega)
                    · intro e
                      rw [e]
                      rfl
                  refine runS_x (I := inf) (J := jnf) ⟨false, false, [], 2, 0⟩ 9999 rfl (by repeat (first | exact obs_nil | refine obs_draw (by kernel_rfl) ?_ | refine obs_same ?_ | refine obs_and ?_ | refine obs_by (by (simp [inB, hwk, hwk2] <;> omega)) ?_)) ?_
                  refine runS_cond rfl (fun h => ?_) (fun h => ?_)
                  · have h48 := of_decide_eq_true (hcd.symm.trans h)
                    rw [if_pos h48] at hsg
                    clear hcd h hdg hdk
                    refine runS_x (I := inf) (J := jnf) ⟨false, false, [], 2, 0⟩ 9999 rfl (by repeat (first | exact obs_nil | refine obs_draw (by kernel_rfl) ?_ | refine obs_same ?_ | refine obs_and ?_ | refine obs_by (by (simp [inB, hwk, hwk2] <;> omega)) ?_)) ?_
                    refine ih k _ _ (Nat.lt_succ_self k) ⟨⟨rfl, rfl, slc_cut0 hwk _, rfl⟩, ?_, by omega, hsg⟩
                    have hwq : IntKind.wrap .i64 (ex - (f.length : Int) + A.length - ((k + 1 : Nat) : Int) + 1) = ex - (f.length : Int) + A.length - (k : Int) := by rw [w64 (by omega) (by omega)]; omega
                    exact congrArg (fun z => [AO.box 23 [iv 0, iv 0, iv 0, sv []], .gone, .box 23 [iv 3, iv 0, iv z, sv []]]) hwq
                  · have h48 := of_decide_eq_false (hcd.symm.trans h)
                    rw [if_neg h48, ← take_snoc (show k < A.length by omega)] at hsg
                    have hl1 : (A.take (k + 1)).length = k + 1 := by rw [List.length_take]; omega
                    have hv := valS_take (show k < A.length by omega)
                    clear hcd h hdg
                    refine runS_x (I := inf) (J := jnf) ⟨false, false, [], 2, 0⟩ 9999 rfl (by repeat (first | exact obs_nil | refine obs_draw (by kernel_rfl) ?_ | refine obs_same ?_ | refine obs_and ?_ | refine obs_by (by (simp [inB, hwk, hwk2] <;> omega)) ?_)) ?_
                    refine runS_cond rfl (fun h => ?_) (fun h => ?_)
                    · have h1 : (((k + 1 : Nat) : Int) == 0) = true := h
                      have : ((k + 1 : Nat) : Int) = 0 := by simpa using h1
                      omega
                    refine runS_x (I := inf) (J := jnf) ⟨false, false, [], 2, 0⟩ 9999 rfl (by repeat (first | exact obs_nil | refine obs_draw (by kernel_rfl) ?_ | refine obs_same ?_ | refine obs_and ?_ | refine obs_by (by (simp [inB] <;> omega)) ?_)) ?_
                    refine rest _ _ ⟨⟨rfl, rfl, by rw [hsg, hl1]; rfl, rfl⟩, by rw [hsg, hl1]; rfl, fun _ => ?_, by rw [hsg, hl1]⟩
                    rw [hsg, hv]
                    have h48' : (A.getD k 0).toNat ≠ 48 := fun e => h48 (UInt8.toNat_inj.1 e)
                    omega
              · have hf : fl = false := h
                subst hf
                have hsA : sg = A := by rw [← hsgd, ← hA]; rfl
                subst hsA
                refine runS_x (I := inf) (J := jnf) ⟨false, false, [], 2, 0⟩ 9999 rfl (by repeat (first | exact obs_nil | refine obs_draw (by kernel_rfl) ?_ | refine obs_same ?_ | refine obs_and ?_ | refine obs_by (by (simp [inB] <;> omega)) ?_)) ?_
                exact rest _ _ ⟨⟨rfl, rfl, by rw [← dg_len sg]; rfl, rfl⟩, rfl, (fun e => by cases e), (List.take_length).symm⟩
            rintro τ6 ar6 ⟨⟨g2, g5, g6, g13⟩, rfl, hv0, hsA⟩
            refine runS_says 2 (by exact g2) (Says.refl _) ?_; refine runS_says 5 (by exact g5) (Says.refl _) ?_; refine runS_says 6 (by exact g6) (Says.refl _) ?_; refine runS_says 13 (by exact g13) (Says.refl _) ?_
            have hfin := fin_sg (c := t0.1.1) (wh := wh) (f := f) fl ex hwf (by rw [hsgd]; exact hv0)
            rw [hsgd, hA] at hfin
            rw [hfin]
            refine runS_x (I := inf) (J := jnf) ⟨false, false, [], 0, 0⟩ 9999 rfl (by repeat (first | exact obs_nil | refine obs_draw (by kernel_rfl) ?_ | refine obs_same ?_ | refine obs_and ?_ | refine obs_by (by (simp [inB] <;> omega)) ?_)) ?_
            obtain ⟨kd, hkd⟩ : ∃ kd : Int, (if fl = true then 3 else 2) = kd := ⟨_, rfl⟩
            obtain ⟨q, hqd⟩ : ∃ q : Int, (if fl = true then ex - (f.length : Int) + A.length - sg.length else f.length) = q := ⟨_, rfl⟩
            rw [hkd, hqd] at *
            refine runS_cond rfl (fun h => ?_) (fun h => ?_)
            · have hl15 : sg.length > 15 := by
                have := of_decide_eq_true h
                omega
              rw [if_pos hl15]
              refine runS_x (I := inf) (J := jnf) ⟨false, false, [], 0, 0⟩ 9999 rfl (by repeat (first | exact obs_nil | refine obs_draw (by kernel_rfl) ?_ | refine obs_same ?_ | refine obs_and ?_ | refine obs_by (by (simp [inB] <;> omega)) ?_)) ?_
              refine runS_ret (I := inf) 0 rfl (Nat.le_refl _) rfl .nil rfl ⟨?_, rfl⟩
              rfl
            · have hl15 : ¬ sg.length > 15 := by
                have := of_decide_eq_false h
                omega
              rw [if_neg hl15]
              have hsa : sg.all isD = true := by
                rw [hsA, List.all_eq_true]
                rw [List.all_eq_true] at hAa
                exact fun x hx => hAa x (List.mem_of_mem_take hx)
              have hsl2 : sg.length ≤ A.length := by
                have := congrArg List.length hsA
                rw [List.length_take] at this
                omega
              have hdat : ∀ k, k < sg.length → (dgV A).getD k 0 = (sg.getD k 0).toNat - 48 := fun k hk => by
                rw [dg_getD]
                conv => rhs; rw [hsA]
                rw [List.getD_eq_getElem?_getD, List.getD_eq_getElem?_getD, List.getElem?_take_of_lt hk]
              have hvb : ∀ k, valS (sg.take k) < 1000000000000000 := fun k => by
                have h1 := valS_lt (s := sg.take k) (by rw [List.all_eq_true] at hsa ⊢; exact fun x hx => hsa x (List.mem_of_mem_take hx))
                have h2 : 10 ^ (sg.take k).length ≤ 10 ^ 15 := Nat.pow_le_pow_right (by decide) (by rw [List.length_take]; omega)
                omega
              clear hfin hsA h
              refine runS_x (I := inf) (J := jnf) ⟨false, false, [], 0, 0⟩ 9999 rfl (by repeat (first | exact obs_nil | refine obs_draw (by kernel_rfl) ?_ | refine obs_same ?_ | refine obs_and ?_ | refine obs_by (by (simp [inB] <;> omega)) ?_)) ?_
              refine runS_while (fun (k : Nat) τ ar => (τ 2 = .ptr 0 0 0 ∧ τ 5 = bv ng ∧ τ 6 = .slc 1 none sg.length (natR (dgV A)) ∧ τ 13 = .ptr 2 0 0 ∧ τ 14 = iv k) ∧ ar = [.box 23 [iv 0, iv 0, iv 0, sv []], .gone, .box 23 [iv kd, iv (valS (sg.take k) : Nat), iv q, sv []]] ∧ k ≤ sg.length) (fun k => sg.length - k) 0 ⟨⟨rfl, rfl, rfl, rfl, rfl⟩, rfl, Nat.zero_le _⟩ ?_
              rintro k τ7 ar7 ⟨⟨g2, g5, g6, g13, g14⟩, rfl, hk⟩ ih
              have hvk := hvb k
              refine runS_says 2 (by exact g2) (Says.refl _) ?_; refine runS_says 5 (by exact g5) (Says.refl _) ?_; refine runS_says 6 (by exact g6) (Says.refl _) ?_; refine runS_says 13 (by exact g13) (Says.refl _) ?_; refine runS_says 14 (by exact g14) (Says.refl _) ?_
              refine runS_x (I := inf) (J := jnf) ⟨false, false, [], 0, 0⟩ 9999 rfl (by repeat (first | exact obs_nil | refine obs_draw (by kernel_rfl) ?_ | refine obs_same ?_ | refine obs_and ?_ | refine obs_by (by (simp [inB] <;> omega)) ?_)) ?_
              refine runS_cond rfl (fun h => ?_) (fun h => ?_)
              · have hlt : k < sg.length := by
                  have := of_decide_eq_true h
                  omega
                have hvt := valS_take hlt
                rw [← hdat k hlt] at hvt
                have hvk1 := hvb (k + 1)
                have hw1 : IntKind.wrap .i64 ((k : Int) + 1) = ((k + 1 : Nat) : Int) := by rw [w64 (by omega) (by omega)]; rfl
                have ee : IntKind.wrap .i64 (IntKind.wrap .i64 (10 * ((valS (sg.take k) : Nat) : Int)) + (((dgV A).getD k 0 : Nat) : Int)) = ((valS (sg.take (k + 1)) : Nat) : Int) := by
                  rw [w64 (x := 10 * ((valS (sg.take k) : Nat) : Int)) (by omega) (by omega), w64 (by omega) (by omega)]
                  omega
                refine runS_x (I := inf) (J := jnf) ⟨false, false, [], 0, 0⟩ 9999 rfl (by repeat (first | exact obs_nil | refine obs_draw (by kernel_rfl) ?_ | refine obs_same ?_ | refine obs_and ?_ | refine obs_by (by (simp [inB] <;> omega)) ?_)) ?_
                refine ih (k + 1) _ _ (by omega) ⟨⟨rfl, rfl, rfl, rfl, congrArg iv hw1⟩, ?_, hlt⟩
                exact congrArg (fun z => [AO.box 23 [iv 0, iv 0, iv 0, sv []], .gone, .box 23 [iv kd, iv z, iv q, sv []]]) ee
              · have hke : k = sg.length := by
                  have := of_decide_eq_false h
                  omega
                subst hke
                rw [List.take_length] at hvk ⊢
                clear ih h
                refine runS_x (I := inf) (J := jnf) ⟨false, false, [], 0, 0⟩ 9999 rfl (by repeat (first | exact obs_nil | refine obs_draw (by kernel_rfl) ?_ | refine obs_same ?_ | refine obs_and ?_ | refine obs_by (by (simp [inB] <;> omega)) ?_)) ?_
                refine runS_cut (fun τ ar => (τ 2 = .ptr 0 0 0 ∧ τ 13 = .ptr 2 0 0) ∧ ar = [.box 23 [iv 0, iv 0, iv 0, sv []], .gone, .box 23 [iv kd, iv (sgV t0.1.1 (valS sg)), iv q, sv []]]) (fun rest => ?_) ?_
                · refine runS_cond rfl (fun h => ?_) (fun h => ?_)
                  · have hs45 : sgV t0.1.1 (valS sg) = -((valS sg : Nat) : Int) := by
                      unfold sgV
                      rw [if_pos (of_decide_eq_true (hng.trans h))]
                    have hwn : IntKind.wrap .i64 (0 - ((valS sg : Nat) : Int)) = -((valS sg : Nat) : Int) := by rw [w64 (by omega) (by omega)]; omega
                    refine runS_x (I := inf) (J := jnf) ⟨false, false, [], 2, 0⟩ 9999 rfl (by repeat (first | exact obs_nil | refine obs_draw (by kernel_rfl) ?_ | refine obs_same ?_ | refine obs_and ?_ | refine obs_by (by (simp [inB] <;> omega)) ?_)) ?_
                    refine rest _ _ ⟨⟨rfl, rfl⟩, ?_⟩
                    rw [hs45]
                    exact congrArg (fun z => [AO.box 23 [iv 0, iv 0, iv 0, sv []], .gone, .box 23 [iv kd, iv z, iv q, sv []]]) hwn
                  · have hs45 : sgV t0.1.1 (valS sg) = ((valS sg : Nat) : Int) := by
                      unfold sgV
                      rw [if_neg (of_decide_eq_false (hng.trans h))]
                    refine runS_x (I := inf) (J := jnf) ⟨false, false, [], 2, 0⟩ 9999 rfl (by repeat (first | exact obs_nil | refine obs_draw (by kernel_rfl) ?_ | refine obs_same ?_ | refine obs_and ?_ | refine obs_by (by (simp [inB] <;> omega)) ?_)) ?_
                    refine rest _ _ ⟨⟨rfl, rfl⟩, ?_⟩
                    rw [hs45]
                rintro τ8 ar8 ⟨⟨g2, g13⟩, rfl⟩
                refine runS_says 2 (by exact g2) (Says.refl _) ?_; refine runS_says 13 (by exact g13) (Says.refl _) ?_
                refine runS_x (I := inf) (J := jnf) ⟨false, false, [], 0, 0⟩ 9999 rfl (by repeat (first | exact obs_nil | refine obs_draw (by kernel_rfl) ?_ | refine obs_same ?_ | refine obs_and ?_ | refine obs_by (by (simp [inB] <;> omega)) ?_)) ?_
                refine runS_call rfl rfl rfl rfl rfl rfl rfl (r_right kd (sgV t0.1.1 (valS sg)) q []) ?_
                refine runS_x (I := inf) (J := jnf) ⟨false, false, [], 0, 0⟩ 9999 rfl (by repeat (first | exact obs_nil | refine obs_draw (by kernel_rfl) ?_ | refine obs_same ?_ | refine obs_and ?_ | refine obs_by (by (simp [inB] <;> omega)) ?_)) ?_
                refine runS_cond rfl (fun h => ?_) (fun h => ?_)
                · have hr : rightB kd (sgV t0.1.1 (valS sg)) q [] = false := by
                    have h3 : (!rightB kd (sgV t0.1.1 (valS sg)) q []) = true := h
                    simpa using h3
                  rw [if_neg (by rw [hr]; decide)]
                  refine runS_x (I := inf) (J := jnf) ⟨false, false, [], 0, 0⟩ 9999 rfl (by repeat (first | exact obs_nil | refine obs_draw (by kernel_rfl) ?_ | refine obs_same ?_ | refine obs_and ?_ | refine obs_by (by (simp [inB] <;> omega)) ?_)) ?_
                  refine runS_ret (I := inf) 0 rfl (Nat.le_refl _) rfl .nil rfl ⟨?_, rfl⟩
                  rfl
                · have hr : rightB kd (sgV t0.1.1 (valS sg)) q [] = true := by
                    have h3 : (!rightB kd (sgV t0.1.1 (valS sg)) q []) = false := h
                    simpa using h3
                  rw [if_pos hr]
                  refine runS_x (I := inf) (J := jnf) ⟨false, false, [], 0, 0⟩ 9999 rfl (by repeat (first | exact obs_nil | refine obs_draw (by kernel_rfl) ?_ | refine obs_same ?_ | refine obs_and ?_ | refine obs_by (by (simp [inB] <;> omega)) ?_)) ?_
                  refine runS_ret (I := inf) 0 rfl (Nat.le_refl _) rfl .nil rfl ⟨?_, rfl⟩
                  rfl
end Go.Iron.Tryz

/- Digits: the exponent that the reference finds for a float, in plain Lean. -/
namespace Go.Iron.Dg

end Go.Iron.Dg

/- Digits: the texts of numbers, in plain Lean. -/
namespace Go.Iron.Dg

theorem dec_small {u : Nat} (h : u < 10) : Lib.decDigits u = [digB u] := by
  rw [Lib.decDigits, dif_pos h]
  rfl
theorem dec_big {u : Nat} (h : ¬ u < 10) : Lib.decDigits u = Lib.decDigits (u / 10) ++ [digB (u % 10)] := by
  conv => lhs; rw [Lib.decDigits]
  rw [dif_neg h]
  rfl
def low : Nat → Nat → List UInt8
  | 0, _ => []
  | k + 1, m => low k (m / 10) ++ [digB (m % 10)]
theorem low_len : ∀ k m, (low k m).length = k
  | 0, _ => rfl
  | k + 1, m => by
    show (low k (m / 10) ++ [_]).length = k + 1
    rw [List.length_append, low_len]
    rfl
theorem low_snoc {k q d : Nat} (hd : d < 10) : low (k + 1) (10 * q + d) = low k q ++ [digB d] := by
  show low k ((10 * q + d) / 10) ++ [digB ((10 * q + d) % 10)] = _
  rw [show (10 * q + d) / 10 = q by omega, show (10 * q + d) % 10 = d by omega]
theorem digs_zero : digs 0 = [] := by
  unfold digs
  rw [frm_zero]
  rfl
theorem digs_pos {m : Nat} (h : m ≠ 0) : digs m = digs (m / 10) ++ [digB (m % 10)] := by
  unfold digs
  rw [frm_pos h, List.reverse_cons, List.map_append]
  rfl
theorem digs_dec (m : Nat) (h : m ≠ 0) : digs m = Lib.decDigits m := by
  rw [digs_pos h]
  by_cases h1 : m < 10
  · rw [dec_small h1, show m / 10 = 0 by omega, digs_zero, show m % 10 = m by omega]
    rfl
  · rw [dec_big h1, digs_dec (m / 10) (by omega)]
termination_by m
decreasing_by omega
theorem pad_step (Q m : Nat) : padS (Q + 1) (digs m) = padS Q (digs (m / 10)) ++ [digB (m % 10)] := by
  by_cases h : m = 0
  · subst h
    rw [digs_zero]
    unfold padS
    show List.replicate (Q + 1 + 1) 48 ++ [] = (List.replicate (Q + 1) 48 ++ []) ++ [48]
    rw [List.append_nil, List.append_nil, ← List.replicate_succ']
  · rw [digs_pos h]
    unfold padS
    rw [List.length_append, ← List.append_assoc]
    show List.replicate (Q + 1 + 1 - ((digs (m / 10)).length + 1)) 48 ++ _ ++ _ = _
    rw [show Q + 1 + 1 - ((digs (m / 10)).length + 1) = Q + 1 - (digs (m / 10)).length by omega]
theorem pad_low : ∀ Q m, padS Q (digs m) = Lib.decDigits (m / 10 ^ Q) ++ low Q m
  | 0, m => by
    rw [Nat.pow_zero, Nat.div_one]
    show padS 0 (digs m) = Lib.decDigits m ++ []
    rw [List.append_nil]
    by_cases h : m = 0
    · subst h
      rw [digs_zero, dec_small (by decide)]
      rfl
    · rw [← digs_dec m h]
      have : 0 < (digs m).length := by rw [digs_pos h, List.length_append]; exact Nat.succ_pos _
      unfold padS
      rw [show 0 + 1 - (digs m).length = 0 by omega]
      rfl
  | Q + 1, m => by
    rw [pad_step, pad_low Q (m / 10), Nat.div_div_eq_div_mul, ← Nat.pow_succ', List.append_assoc]
    rfl
theorem text_dec (ng : Bool) (m Q : Nat) : textL ng m Q = (if ng = true then [45] else []) ++ (Lib.decDigits (m / 10 ^ Q) ++ (if 0 < Q then 46 :: low Q m else [])) := by
  unfold textL pointS
  rw [pad_low]
  by_cases h : 0 < Q
  · rw [if_pos h, if_pos h]
    have hl : (Lib.decDigits (m / 10 ^ Q) ++ low Q m).length - Q = (Lib.decDigits (m / 10 ^ Q)).length := by
      rw [List.length_append, low_len]
      omega
    rw [hl, List.take_left, List.drop_left]
  · rw [if_neg h, if_neg h]
    obtain rfl : Q = 0 := by omega
    rfl
theorem low_mod : ∀ (Q a b : Nat), low Q (a * 10 ^ Q + b) = low Q b
  | 0, _, _ => rfl
  | Q + 1, a, b => by
    have e : a * 10 ^ (Q + 1) = 10 * (a * 10 ^ Q) := by rw [Nat.pow_succ, ← Nat.mul_assoc, Nat.mul_comm]
    show low Q ((a * 10 ^ (Q + 1) + b) / 10) ++ [digB ((a * 10 ^ (Q + 1) + b) % 10)] = low Q (b / 10) ++ [digB (b % 10)]
    rw [e, show (10 * (a * 10 ^ Q) + b) / 10 = a * 10 ^ Q + b / 10 by omega, show (10 * (a * 10 ^ Q) + b) % 10 = b % 10 by omega, low_mod Q]
theorem ten_two (Q : Nat) : (10 : Nat) ^ Q = 2 ^ Q * 5 ^ Q := by rw [← Nat.mul_pow]
theorem bin_whole (n Q : Nat) : n * 5 ^ Q / 10 ^ Q = n / 2 ^ Q := by
  rw [ten_two]
  exact Nat.mul_div_mul_right _ _ (Nat.pow_pos (by decide))
theorem bin_low (n Q : Nat) : low Q (n * 5 ^ Q) = low Q (n % 2 ^ Q * 10 ^ Q / 2 ^ Q) := by
  have h2 : 0 < 2 ^ Q := Nat.pow_pos (by decide)
  have e1 : n % 2 ^ Q * 10 ^ Q / 2 ^ Q = n % 2 ^ Q * 5 ^ Q := by
    rw [ten_two, ← Nat.mul_assoc, Nat.mul_comm _ (2 ^ Q), Nat.mul_assoc]
    exact Nat.mul_div_cancel_left _ h2
  have e2 : n * 5 ^ Q = n / 2 ^ Q * 10 ^ Q + n % 2 ^ Q * 5 ^ Q := by
    conv => lhs; rw [← Nat.div_add_mod n (2 ^ Q)]
    rw [ten_two, Nat.add_mul, Nat.mul_comm (2 ^ Q) (n / 2 ^ Q), Nat.mul_assoc]
  rw [e1, e2, low_mod]
theorem bin_step (r i P : Nat) (hP : 0 < P) : r * 10 ^ (i + 1) / P = 10 * (r * 10 ^ i / P) + 10 * (r * 10 ^ i % P) / P ∧ r * 10 ^ (i + 1) % P = 10 * (r * 10 ^ i % P) % P ∧ 10 * (r * 10 ^ i % P) / P < 10 := by
  generalize hX : r * 10 ^ i = X
  have e : r * 10 ^ (i + 1) = 10 * (X % P) + P * (10 * (X / P)) := by
    rw [Nat.pow_succ, ← Nat.mul_assoc, hX]
    conv => lhs; rw [← Nat.div_add_mod X P]
    rw [Nat.add_mul, Nat.mul_assoc, Nat.mul_comm (X / P) 10, Nat.mul_comm (X % P) 10, Nat.add_comm]
  have hm := Nat.mod_lt X hP
  rw [e, Nat.add_mul_div_left _ _ hP, Nat.add_mul_mod_self_left]
  refine ⟨Nat.add_comm _ _, rfl, ?_⟩
  exact (Nat.div_lt_iff_lt_mul hP).2 (Nat.mul_lt_mul_of_pos_left hm (by decide))
def fltS (n q : Int) : List UInt8 :=
  (if decide (n < 0) = true then [45] else []) ++ ((if (Lib.decDigits n.natAbs).length > 1 then (Lib.decDigits n.natAbs).take 1 ++ 46 :: (Lib.decDigits n.natAbs).drop 1 else Lib.decDigits n.natAbs) ++ 69 :: Lib.itoa (q + (Lib.decDigits n.natAbs).length - 1))
theorem dec_len {m k : Nat} (hk : 0 < k) : (Lib.decDigits m).length ≤ k ↔ m < 10 ^ k := by
  by_cases h : m = 0
  · subst h
    rw [dec_small (by decide)]
    exact ⟨fun _ => Nat.pow_pos (by decide), fun _ => hk⟩
  · rw [← digs_dec m h, digs_len]
    exact frm_len_lt
theorem dec_pos (m : Nat) : 0 < (Lib.decDigits m).length := by
  by_cases h : m < 10
  · rw [dec_small h]; exact Nat.succ_pos _
  · rw [dec_big h, List.length_append]; exact Nat.succ_pos _
end Go.Iron.Dg

/- The digits' seat: what Text writes comes back. -/
namespace Go.Iron.Tryz
open Go.Proofs Go.RowKit Go.Iron.Tok Go.Iron.Dg

theorem dig_is {d : Nat} (h : d < 10) : isD (digB d) = true := by
  unfold isD
  rw [digB_nat h]
  simp
  omega
theorem dec_all (m : Nat) : (Lib.decDigits m).all isD = true := by
  by_cases h : m < 10
  · rw [dec_small h, List.all_cons, dig_is h]
    rfl
  · rw [dec_big h, List.all_append, dec_all (m / 10), List.all_cons, dig_is (Nat.mod_lt _ (by decide))]
    rfl
termination_by m
decreasing_by omega
theorem low_all : ∀ Q m, (low Q m).all isD = true
  | 0, _ => rfl
  | Q + 1, m => by
    show (low Q (m / 10) ++ [digB (m % 10)]).all isD = true
    rw [List.all_append, low_all, List.all_cons, dig_is (Nat.mod_lt _ (by decide))]
    rfl
theorem valS_snoc (s : Str) {d : Nat} (h : d < 10) : valS (s ++ [digB d]) = valS s * 10 + d := by
  unfold valS
  rw [valA_app]
  show valA 0 s * 10 + ((digB d).toNat - 48) = _
  rw [digB_nat h]
  omega
theorem val_dec (m : Nat) : valS (Lib.decDigits m) = m := by
  by_cases h : m < 10
  · rw [dec_small h]
    have := valS_snoc [] h
    rw [List.nil_append] at this
    rw [this]
    show 0 * 10 + m = m
    omega
  · rw [dec_big h, valS_snoc _ (Nat.mod_lt _ (by decide)), val_dec (m / 10)]
    omega
termination_by m
decreasing_by omega
theorem val_low : ∀ (Q : Nat) (s : Str) (m : Nat), valS (s ++ low Q m) = valS s * 10 ^ Q + m % 10 ^ Q
  | 0, s, m => by
    show valS (s ++ []) = valS s * 1 + m % 1
    rw [List.append_nil, Nat.mod_one]
    omega
  | Q + 1, s, m => by
    show valS (s ++ (low Q (m / 10) ++ [digB (m % 10)])) = _
    rw [← List.append_assoc, valS_snoc _ (Nat.mod_lt _ (by decide)), val_low Q s (m / 10), Nat.pow_succ', Nat.mod_mul, Nat.add_mul, Nat.mul_assoc, Nat.mul_comm (10 ^ Q) 10]
    generalize valS s * (10 * 10 ^ Q) = t
    omega
theorem val_fix (m Q : Nat) : valS (Lib.decDigits (m / 10 ^ Q) ++ low Q m) = m := by
  rw [val_low, val_dec, Nat.mul_comm]
  exact Nat.div_add_mod _ _
theorem val_tl : ∀ s : Str, valS (Lib.trimLeftB s 48) = valS s
  | [] => rfl
  | b :: s => by
    unfold Lib.trimLeftB
    rw [List.dropWhile_cons]
    by_cases h : b = 48
    · subst h
      rw [if_pos (by decide)]
      exact (val_tl s).trans rfl
    · rw [if_neg (by simpa using h)]
theorem valA_ge : ∀ (s : Str) (a : Nat), a * 10 ^ s.length ≤ valA a s
  | [], a => by show a * 1 ≤ a; omega
  | b :: s, a => by
    have := valA_ge s (a * 10 + (b.toNat - 48))
    show _ ≤ valA (a * 10 + (b.toNat - 48)) s
    rw [List.length_cons, Nat.pow_succ', ← Nat.mul_assoc]
    exact Nat.le_trans (Nat.mul_le_mul_right _ (by omega)) this
theorem tl_head {s r : Str} {b : UInt8} (he : Lib.trimLeftB s 48 = b :: r) : b ≠ 48 := by
  have h := List.head?_dropWhile_not (· == (48 : UInt8)) s
  unfold Lib.trimLeftB at he
  rw [he] at h
  simpa using h
theorem tl_short {s : Str} {k : Nat} (h : s.all isD = true) (hv : valS s < 10 ^ k) : (Lib.trimLeftB s 48).length ≤ k := by
  have hv' := val_tl s
  have ha := tl_all 48 h
  cases he : Lib.trimLeftB s 48 with
  | nil => exact Nat.zero_le _
  | cons b r =>
    have hb := tl_head he
    rw [he] at ha hv'
    rw [List.all_cons, Bool.and_eq_true] at ha
    have hD := ha.1
    unfold isD at hD
    have hD1 := of_decide_eq_true (Bool.and_eq_true_iff.1 hD).1
    have hb2 : ¬ b.toNat = 48 := fun e => hb (UInt8.toNat_inj.1 e)
    have h1 := valA_ge r (b.toNat - 48)
    have h2 : valS (b :: r) = valA (b.toNat - 48) r := by
      show valA (0 * 10 + (b.toNat - 48)) r = _
      rw [Nat.zero_mul, Nat.zero_add]
    have h3 : 1 * 10 ^ r.length ≤ (b.toNat - 48) * 10 ^ r.length := Nat.mul_le_mul_right _ (by omega)
    have h4 : r.length < k := (Nat.pow_lt_pow_iff_right (by decide)).1 (show 10 ^ r.length < 10 ^ k by omega)
    exact h4
theorem tw_app {w X : Str} (hw : w.all isD = true) (hX : ∀ b r, X = b :: r → isD b = false) : (w ++ X).takeWhile isD = w ∧ (w ++ X).dropWhile isD = X := by
  rw [List.all_eq_true] at hw
  rw [List.takeWhile_append_of_pos hw, List.dropWhile_append_of_pos hw]
  cases X with
  | nil => exact ⟨by simp, rfl⟩
  | cons b r =>
    have := hX b r rfl
    rw [List.takeWhile_cons, List.dropWhile_cons, this]
    exact ⟨by simp, rfl⟩
def sgS (ng : Bool) : Str := if ng = true then [45] else []
def sgC (ng : Bool) : UInt8 := if ng = true then 45 else 0
theorem tk_sign (ng : Bool) {b : UInt8} {r : Str} (hb : isD b = true) : tkO [43, 45] (sgS ng ++ b :: r) = ((sgC ng, ng), b :: r) := by
  cases ng with
  | true => rfl
  | false =>
    have h : ([43, 45] : Str).contains b = false := by
      unfold isD at hb
      have h1 := of_decide_eq_true (Bool.and_eq_true_iff.1 hb).1
      have h2 : b ≠ 43 := by rintro rfl; exact absurd h1 (by decide)
      have h3 : b ≠ 45 := by rintro rfl; exact absurd h1 (by decide)
      simp [h2, h3]
    show (if ([43, 45] : Str).contains b then ((b, true), r) else ((0, false), b :: r)) = _
    rw [h]
    rfl
theorem sgV_is (n : Int) : sgV (sgC (decide (n < 0))) n.natAbs = n := by
  unfold sgV sgC
  by_cases h : n < 0
  · rw [decide_eq_true h]; show -((n.natAbs : Nat) : Int) = n; omega
  · rw [decide_eq_false h]; show ((n.natAbs : Nat) : Int) = n; omega
theorem rd1_of (ng pt : Bool) {w f r : Str} (hw : w.all isD = true) (hw0 : w ≠ []) (hf : f.all isD = true) (hr : ∀ b r', r = b :: r' → isD b = false ∧ b ≠ 46) (hpt : pt = false → f = []) :
    rd1 (sgS ng ++ (w ++ ((if pt = true then 46 :: f else []) ++ r))) = ⟨sgC ng, w, f, r⟩ := by
  have ht : tkO [43, 45] (sgS ng ++ (w ++ ((if pt = true then 46 :: f else []) ++ r))) = ((sgC ng, ng), w ++ ((if pt = true then 46 :: f else []) ++ r)) := by
    cases w with
    | nil => exact absurd rfl hw0
    | cons b w' =>
      rw [List.all_cons, Bool.and_eq_true] at hw
      exact tk_sign ng hw.1
  unfold rd1
  rw [ht]
  dsimp only
  have hX : ∀ b r', ((if pt = true then 46 :: f else []) ++ r) = b :: r' → isD b = false := by
    intro b r' e
    cases pt with
    | true =>
      rw [if_pos rfl, List.cons_append] at e
      injection e with e1 e2
      subst e1
      rfl
    | false =>
      rw [if_neg (by decide), List.nil_append] at e
      exact (hr b r' e).1
  obtain ⟨e1, e2⟩ := tw_app hw hX
  rw [e1, e2]
  cases pt with
  | true =>
    rw [if_pos rfl, List.cons_append]
    obtain ⟨e3, e4⟩ := tw_app hf (fun b r' e => (hr b r' e).1)
    have ht2 : tkO [46] (46 :: (f ++ r)) = ((46, true), f ++ r) := rfl
    rw [ht2]
    dsimp only
    rw [if_pos rfl, e3, e4]
  | false =>
    have e0 : (if false = true then 46 :: f else []) ++ r = r := rfl
    rw [e0, hpt rfl]
    have ht2 : tkO [46] r = ((0, false), r) := by
      cases r with
      | nil => rfl
      | cons b r' =>
        have h46 := (hr b r' rfl).2
        show (if ([46] : Str).contains b then ((b, true), r') else ((0, false), b :: r')) = _
        rw [if_neg (by simp [h46])]
    rw [ht2]
    rfl
theorem rd2_of (e : Int) (h1 : -99 ≤ e) (h2 : e ≤ 99) : rd2 (69 :: Lib.itoa e) = ⟨false, true, e, []⟩ := by
  have ht : tkO [69] (69 :: Lib.itoa e) = ((69, true), Lib.itoa e) := rfl
  have hi : Lib.itoa e = sgS (decide (e < 0)) ++ Lib.decDigits e.natAbs := by
    unfold Lib.itoa sgS
    by_cases h : e < 0
    · rw [if_pos h, decide_eq_true h, if_pos rfl]; rfl
    · rw [if_neg h, decide_eq_false h, if_neg (by decide), show e.toNat = e.natAbs by omega]; rfl
  have ht2 : tkO [43, 45] (Lib.itoa e) = ((sgC (decide (e < 0)), decide (e < 0)), Lib.decDigits e.natAbs) := by
    rw [hi]
    have hp := dec_pos e.natAbs
    have ha := dec_all e.natAbs
    cases hd : Lib.decDigits e.natAbs with
    | nil => rw [hd] at hp; cases hp
    | cons b r =>
      rw [hd, List.all_cons, Bool.and_eq_true] at ha
      exact tk_sign _ ha.1
  have hl : (Lib.decDigits e.natAbs).length ≤ 2 := (dec_len (by decide)).2 (by omega)
  have hp := dec_pos e.natAbs
  obtain ⟨t1, t2⟩ := tw_app (X := []) (dec_all e.natAbs) (fun b r h => by cases h)
  rw [List.append_nil] at t1 t2
  unfold rd2
  rw [ht]
  dsimp only
  rw [if_pos rfl, ht2]
  dsimp only
  rw [t1, t2, val_dec, sgV_is, decide_eq_false (by omega)]
theorem sgS_len (ng : Bool) : (sgS ng).length ≤ 1 := by cases ng <;> decide
theorem read_fix (v : Vl) (hr : v.right = true) (hk : v.kind = 2) : readV (textL (decide (v.n < 0)) v.n.natAbs v.q.toNat) = (v, 0) := by
  obtain ⟨kd, n, q, s⟩ := v
  dsimp only at hk ⊢
  subst hk
  obtain ⟨rfl, _, hq, _, h5, h6⟩ := right_num (show rightB 2 n q s = true from hr) rfl
  have hq := hq (by decide)
  obtain ⟨Q, rfl⟩ : ∃ Q : Nat, q = (Q : Int) := ⟨q.toNat, by omega⟩
  rw [Int.toNat_natCast, text_dec]
  have hm : n.natAbs < 10 ^ 15 := by omega
  have hd : (Lib.decDigits (n.natAbs / 10 ^ Q)).length ≤ 15 := (dec_len (by decide)).2 (Nat.lt_of_le_of_lt (Nat.div_le_self _ _) hm)
  have hdp := dec_pos (n.natAbs / 10 ^ Q)
  have hda := dec_all (n.natAbs / 10 ^ Q)
  have hfl : (if 0 < Q then low Q n.natAbs else []).length = Q := by
    by_cases h : 0 < Q
    · rw [if_pos h, low_len]
    · rw [if_neg h]; show 0 = Q; omega
  have hfa : (if 0 < Q then low Q n.natAbs else []).all isD = true := by
    by_cases h : 0 < Q
    · rw [if_pos h, low_all]
    · rw [if_neg h]; rfl
  have hval : valS (Lib.decDigits (n.natAbs / 10 ^ Q) ++ (if 0 < Q then low Q n.natAbs else [])) = n.natAbs := by
    by_cases h : 0 < Q
    · rw [if_pos h, val_fix]
    · obtain rfl : Q = 0 := by omega
      rw [if_neg h, List.append_nil, val_dec, Nat.pow_zero, Nat.div_one]
  have hr1 := rd1_of (decide (n < 0)) (decide (0 < Q)) (r := []) hda (fun e => by rw [e] at hdp; cases hdp) hfa (fun b r e => by cases e) (fun e => if_neg (of_decide_eq_false e))
  have htx : (if decide (n < 0) = true then [45] else []) ++ (Lib.decDigits (n.natAbs / 10 ^ Q) ++ (if 0 < Q then 46 :: low Q n.natAbs else [])) = sgS (decide (n < 0)) ++ (Lib.decDigits (n.natAbs / 10 ^ Q) ++ ((if decide (0 < Q) = true then 46 :: (if 0 < Q then low Q n.natAbs else []) else []) ++ [])) := by
    by_cases h : 0 < Q
    · rw [decide_eq_true h, if_pos h, if_pos h, if_pos rfl, List.append_nil]; rfl
    · rw [decide_eq_false h, if_neg h]; rfl
  rw [htx]
  have hlen : (sgS (decide (n < 0)) ++ (Lib.decDigits (n.natAbs / 10 ^ Q) ++ ((if decide (0 < Q) = true then 46 :: (if 0 < Q then low Q n.natAbs else []) else []) ++ []))).length ≤ 80 := by
    have h1 := sgS_len (decide (n < 0))
    by_cases h : 0 < Q
    · rw [decide_eq_true h, if_pos h, if_pos rfl]
      simp [low_len]
      omega
    · rw [decide_eq_false h, if_neg h, if_neg (by decide)]
      simp
      omega
  generalize (sgS (decide (n < 0)) ++ (Lib.decDigits (n.natAbs / 10 ^ Q) ++ ((if decide (0 < Q) = true then 46 :: (if 0 < Q then low Q n.natAbs else []) else []) ++ []))) = tx at *
  generalize Lib.decDigits (n.natAbs / 10 ^ Q) = w at *
  generalize (if 0 < Q then low Q n.natAbs else []) = f at *
  have hall : (w ++ f).all isD = true := by rw [List.all_append, hda, hfa]; rfl
  have hsl : (allZ w f).length ≤ 15 := tl_short hall (by rw [hval]; exact hm)
  unfold readV readP
  rw [if_neg (by omega), hr1]
  dsimp only
  rw [if_neg (by intro e; rw [(List.append_eq_nil_iff.1 e).1] at hdp; cases hdp)]
  have h2 : rd2 [] = ⟨false, false, 0, []⟩ := rfl
  rw [h2, if_neg (by simp)]
  unfold finR
  have hsz : sigZ false w f = allZ w f := rfl
  rw [hsz, if_neg (by rintro (h | h); omega; omega), if_pos rfl]
  have hva : valS (allZ w f) = n.natAbs := (val_tl _).trans hval
  rw [hva, sgV_is, hfl]
  rfl
theorem dec_head (m : Nat) (h : m ≠ 0) : ∃ b r, Lib.decDigits m = b :: r ∧ b ≠ 48 := by
  by_cases h1 : m < 10
  · refine ⟨digB m, [], dec_small h1, fun e => ?_⟩
    have := digB_nat h1
    rw [e] at this
    have h48 : (48 : UInt8).toNat = 48 := rfl
    omega
  · obtain ⟨b, r, e, hb⟩ := dec_head (m / 10) (by omega)
    exact ⟨b, r ++ [digB (m % 10)], by rw [dec_big h1, e]; rfl, hb⟩
termination_by m
decreasing_by omega
theorem dec_last (m : Nat) : ∃ l, Lib.decDigits m = l ++ [digB (m % 10)] := by
  by_cases h1 : m < 10
  · exact ⟨[], by rw [dec_small h1, Nat.mod_eq_of_lt h1]; rfl⟩
  · exact ⟨_, dec_big h1⟩
theorem read_flt (v : Vl) (hr : v.right = true) (hk : v.kind = 3) : readV (fltS v.n v.q) = (v, 0) := by
  obtain ⟨kd, n, q, s⟩ := v
  dsimp only at hk ⊢
  subst hk
  have hr0 : rightB 3 n q s = true := hr
  obtain ⟨rfl, _, _, _, h5, h6⟩ := right_num hr0 rfl
  unfold rightB at hr0
  rw [if_neg (by decide), if_neg (by decide), if_pos rfl] at hr0
  by_cases hn : n = 0
  · rw [if_pos hn] at hr0
    simp at hr0
    subst hn
    rw [hr0]
    have e : fltS 0 0 = [48, 69, 48] := by
      unfold fltS
      have h0 : Lib.decDigits (Int.natAbs 0) = [48] := dec_small (by decide)
      rw [h0]
      have h1 : Lib.itoa (0 + (([48] : Str).length : Int) - 1) = [48] := dec_small (u := 0) (by decide)
      rw [h1]
      rfl
    rw [e]
    rfl
  · rw [if_neg hn] at hr0
    have hm0 : n.natAbs ≠ 0 := by omega
    rw [show (frm n.natAbs).length = (Lib.decDigits n.natAbs).length by rw [← digs_dec _ hm0, digs_len]] at hr0
    simp at hr0
    obtain ⟨⟨h7, h8, h9⟩, h10, h11⟩ := hr0
    have hm : n.natAbs < 10 ^ 15 := by omega
    have hd : (Lib.decDigits n.natAbs).length ≤ 15 := (dec_len (by decide)).2 hm
    have hdp := dec_pos n.natAbs
    have hda := dec_all n.natAbs
    have hv := val_dec n.natAbs
    obtain ⟨b, r, hbr, hb48⟩ := dec_head n.natAbs hm0
    obtain ⟨l, hlast⟩ := dec_last n.natAbs
    unfold fltS
    have hr2 := rd2_of (q + ((Lib.decDigits n.natAbs).length : Int) - 1) (by omega) (by omega)
    have hil : (Lib.itoa (q + ((Lib.decDigits n.natAbs).length : Int) - 1)).length ≤ 3 := by
      unfold Lib.itoa
      split
      · have := (dec_len (m := (q + ((Lib.decDigits n.natAbs).length : Int) - 1).natAbs) (k := 2) (by decide)).2 (by omega)
        rw [List.length_cons]
        omega
      · have := (dec_len (m := (q + ((Lib.decDigits n.natAbs).length : Int) - 1).toNat) (k := 2) (by decide)).2 (by omega)
        omega
    have htz : Lib.trimLeftB (Lib.decDigits n.natAbs) 48 = Lib.decDigits n.natAbs := by
      rw [hbr]
      unfold Lib.trimLeftB
      rw [List.dropWhile_cons, if_neg (by simpa using hb48)]
    have htr : Lib.trimRightB (Lib.decDigits n.natAbs) 48 = Lib.decDigits n.natAbs := by
      rw [hlast, tr_snoc, if_neg]
      intro e
      have := digB_nat (Nat.mod_lt n.natAbs (show 0 < 10 by decide))
      rw [e] at this
      have h48 : (48 : UInt8).toNat = 48 := rfl
      omega
    generalize hde : Lib.decDigits n.natAbs = d at *
    generalize hie : Lib.itoa (q + (d.length : Int) - 1) = ie at *
    obtain ⟨w, hw⟩ : ∃ w, (if d.length > 1 then d.take 1 else d) = w := ⟨_, rfl⟩
    obtain ⟨f, hf⟩ : ∃ f, (if d.length > 1 then d.drop 1 else []) = f := ⟨_, rfl⟩
    have hwf : w ++ f = d := by
      rw [← hw, ← hf]
      split
      · exact List.take_append_drop 1 d
      · exact List.append_nil d
    have hfl : (f.length : Int) = (d.length : Int) - 1 := by
      rw [← hf]
      split
      · rw [List.length_drop]; omega
      · show (0 : Int) = _; omega
    have hw0 : w ≠ [] := by
      intro e
      have := congrArg List.length hwf
      rw [e, List.nil_append] at this
      omega
    have hall := hda
    rw [← hwf, List.all_append, Bool.and_eq_true] at hall
    have hr1 := rd1_of (decide (n < 0)) (decide (d.length > 1)) (r := 69 :: ie) hall.1 hw0 hall.2 (fun b r e => by
      injection e with e1 e2
      subst e1
      exact ⟨rfl, by decide⟩) (fun e => by rw [← hf]; exact if_neg (of_decide_eq_false e))
    have htx : (if decide (n < 0) = true then [45] else []) ++ ((if d.length > 1 then d.take 1 ++ 46 :: d.drop 1 else d) ++ 69 :: ie) = sgS (decide (n < 0)) ++ (w ++ ((if decide (d.length > 1) = true then 46 :: f else []) ++ 69 :: ie)) := by
      rw [← hw, ← hf]
      by_cases h : d.length > 1
      · rw [decide_eq_true h, if_pos h, if_pos h, if_pos h, if_pos rfl, List.append_assoc]; rfl
      · rw [decide_eq_false h, if_neg h, if_neg h, if_neg h]; rfl
    rw [htx]
    have hlen : (sgS (decide (n < 0)) ++ (w ++ ((if decide (d.length > 1) = true then 46 :: f else []) ++ 69 :: ie))).length ≤ 80 := by
      have h1 := sgS_len (decide (n < 0))
      have h2 := congrArg List.length hwf
      rw [List.length_append] at h2
      rw [List.length_append, List.length_append, List.length_append, List.length_cons]
      have h3 : (if decide (d.length > 1) = true then 46 :: f else []).length ≤ f.length + 1 := by
        split
        · exact Nat.le_refl _
        · exact Nat.zero_le _
      omega
    generalize (sgS (decide (n < 0)) ++ (w ++ ((if decide (d.length > 1) = true then 46 :: f else []) ++ 69 :: ie))) = tx at *
    unfold readV readP
    rw [if_neg (by omega), hr1]
    dsimp only
    rw [if_neg (by rw [hwf]; intro e; rw [e] at hdp; cases hdp), hr2]
    dsimp only
    rw [if_neg (by simp)]
    have haz : allZ w f = d := by
      unfold allZ
      rw [hwf, htz]
    have hsz : sigZ true w f = d := by
      unfold sigZ
      rw [if_pos rfl, haz, htr]
    have hfs := fin_sg (c := sgC (decide (n < 0))) (wh := w) (f := f) true (q + (d.length : Int) - 1) (by rw [hwf]; exact hda) (fun _ => by rw [hsz, hv]; exact hm0)
    rw [hsz, haz, if_neg (by omega), if_pos rfl, if_pos rfl, hv, sgV_is] at hfs
    have hq : q + (d.length : Int) - 1 - (f.length : Int) + (d.length : Int) - (d.length : Int) = q := by omega
    rw [hq, if_pos (show rightB 3 n q [] = true from hr)] at hfs
    rw [hfs]
    rfl
end Go.Iron.Tryz

/- The digits' seat: Text, of any value. -/
namespace Go.Iron.Tryz
open Go.Proofs Go.RowKit Go.Iron.Tok Go.Iron.Dg

theorem grow_below (w : World) (k : Nat) (os : Array Obj) : Below w.heap.size w (Sort.grow (w.drewN k) os) :=
  ⟨rfl, rfl, rfl, by simp [Sort.grow, World.drewN], fun j hj => by
    simp only [Sort.grow, World.drewN]
    rw [Array.getElem?_append_left hj]⟩
theorem gPow : Tryz.prog.globalNamed "internal/strconv.uint64pow10" = some 5 := by kernel_rfl
theorem tab_of {w : World} (h : StandsIn w) : Lib.TabIs Tryz.prog w "internal/strconv.uint64pow10" .u64 Lib.pow10Tab := by
  obtain ⟨cs, e, fz, h1, h2⟩ := h _ (List.Mem.head _)
  unfold Lib.TabIs World.var?
  rw [gPow]
  dsimp only [Option.bind]
  rw [h1, h2]
theorem lib_itoa (n : Int) (h0 : -9223372036854775808 ≤ n) (h1 : n ≤ 9223372036854775807) : CallT Tryz.prog 116 [iv n] [] (fun o A => o = .ret (sv (Lib.itoa n)) ∧ A = []) :=
  callT_lib fun w O vs hst hl hv => by
    obtain ⟨v, rfl⟩ : ∃ v, vs = #[v] := by
      obtain ⟨l⟩ := vs
      match l, hl with
      | [v], _ => exact ⟨v, rfl⟩
    have hv0 := rv_val (hv 0 _ v rfl rfl)
    subst hv0
    refine (Tryz.strconv_Itoa n h0 h1 w (tab_of hst)).mono fun e w' hh => ?_
    obtain ⟨rfl, k, os, rfl⟩ := hh
    exact ⟨_, rfl, grow_below w k os, fun w'' O' => .val⟩
theorem d_TextE (v : Vl) (h : askL none [v] ≠ 0) : CallT Tryz.prog 53 [.agg (vlE v)] [] (fun o A => o = .ret (.tup [sv [], iv (askL none [v])]) ∧ A = []) := by
  have hak := d_askedN none [v] (by simp)
  refine callS_body (n := 96) rfl rfl fun w ρ X => ?_
  refine runS_x (I := inf) (J := jnf) ⟨false, false, [], 0, 0⟩ 9999 rfl (by repeat (first | exact obs_nil | refine obs_draw (by kernel_rfl) ?_ | refine obs_same ?_ | refine obs_and ?_ | refine obs_by (by (simp [inB] <;> omega)) ?_)) ?_
  refine runS_tell 1 (vlR [v]) rfl (m' := 1) rfl (fun j hj => ?_) rfl ?_
  · rcases j with _ | j <;> first | rfl | omega
  refine runS_freeze 13 rfl rfl rfl (fun j hj => ?_) ?_
  · rcases j with _ | j <;> first | rfl | omega
  refine runS_call rfl rfl rfl rfl rfl rfl rfl hak ?_
  refine runS_x (I := inf) (J := jnf) ⟨false, false, [], 0, 0⟩ 9999 rfl (by repeat (first | exact obs_nil | refine obs_draw (by kernel_rfl) ?_ | refine obs_same ?_ | refine obs_and ?_ | refine obs_by (by (simp [inB] <;> omega)) ?_)) ?_
  refine runS_cond rfl (fun h2 => ?_) (fun h2 => ?_)
  · refine runS_x (I := inf) (J := jnf) ⟨false, false, [], 0, 0⟩ 9999 rfl (by repeat (first | exact obs_nil | refine obs_draw (by kernel_rfl) ?_ | refine obs_same ?_ | refine obs_and ?_ | refine obs_by (by (simp [inB] <;> omega)) ?_)) ?_
    refine runS_ret (I := inf) 0 rfl (Nat.le_refl _) rfl .nil rfl ⟨?_, rfl⟩
    rfl
  · exfalso
    have h3 : (!(askL none [v] == 0)) = false := h2
    simp at h3
    exact h h3
theorem ask_one {v : Vl} (hr : v.right = true) (hkn : numK v.kind = true) : askL none [v] = 0 := by
  unfold askL
  rw [if_neg (by simp [hr]), if_neg (by simp), if_neg (by simp [hkn]), if_neg (by simp)]
theorem d_Text3 (v : Vl) (hr : v.right = true) (hk : v.kind = 3) : CallT Tryz.prog 53 [.agg (vlE v)] [] (fun o A => o = .ret (.tup [sv (fltS v.n v.q), iv 0]) ∧ A = []) := by
  have hkn : numK v.kind = true := by rw [hk]; rfl
  obtain ⟨h1, h2, h3, h4, h5, h6⟩ := right_num hr hkn
  have hak := d_askedN none [v] (by simp)
  rw [ask_one hr hkn] at hak
  have hq := h4 hk
  obtain ⟨sg, hsg⟩ : ∃ sg : Str, sg = if decide (v.n < 0) = true then [45] else [] := ⟨_, rfl⟩
  have hsgl : sg.length ≤ 1 := by rw [hsg]; split <;> simp
  have hd : (Lib.decDigits v.n.natAbs).length ≤ 15 := (dec_len (by decide)).2 (by omega)
  have hdp := dec_pos v.n.natAbs
  unfold fltS
  rw [← hsg]
  have hi1 : Lib.itoa (v.n.natAbs : Int) = Lib.decDigits v.n.natAbs := by
    unfold Lib.itoa
    rw [if_neg (by omega)]
    rfl
  have c1 := lib_itoa (v.n.natAbs : Int) (by omega) (by omega)
  rw [hi1] at c1
  generalize Lib.decDigits v.n.natAbs = d at *
  have c2 := lib_itoa (v.q + (d.length : Int) - 1) (by omega) (by omega)
  have hil : (Lib.itoa (v.q + (d.length : Int) - 1)).length ≤ 100 := by
    unfold Lib.itoa
    split
    · have := (dec_len (m := (v.q + (d.length : Int) - 1).natAbs) (k := 3) (by decide)).2 (by omega)
      rw [List.length_cons]
      omega
    · have := (dec_len (m := (v.q + (d.length : Int) - 1).toNat) (k := 3) (by decide)).2 (by omega)
      omega
  generalize Lib.itoa (v.q + (d.length : Int) - 1) = ie at *
  have hw1 : IntKind.wrap .i64 (IntKind.wrap .i64 (v.q + (d.length : Int)) - 1) = v.q + (d.length : Int) - 1 := by rw [w64 (x := v.q + (d.length : Int)) (by omega) (by omega), w64 (by omega) (by omega)]
  have hwn : IntKind.wrap .i64 (0 - v.n) = 0 - v.n := by rw [w64 (by omega) (by omega)]
  refine callS_body (n := 96) rfl rfl fun w ρ X => ?_
  refine runS_x (I := inf) (J := jnf) ⟨false, false, [], 0, 0⟩ 9999 rfl (by repeat (first | exact obs_nil | refine obs_draw (by kernel_rfl) ?_ | refine obs_same ?_ | refine obs_and ?_ | refine obs_by (by (simp [inB] <;> omega)) ?_)) ?_
  refine runS_tell 1 (vlR [v]) rfl (m' := 1) rfl (fun j hj => ?_) rfl ?_
  · rcases j with _ | j <;> first | rfl | omega
  refine runS_freeze 13 rfl rfl rfl (fun j hj => ?_) ?_
  · rcases j with _ | j <;> first | rfl | omega
  refine runS_call rfl rfl rfl rfl rfl rfl rfl hak ?_
  refine runS_x (I := inf) (J := jnf) ⟨false, false, [], 0, 0⟩ 9999 rfl (by repeat (first | exact obs_nil | refine obs_draw (by kernel_rfl) ?_ | refine obs_same ?_ | refine obs_and ?_ | refine obs_by (by (simp [inB] <;> omega)) ?_)) ?_
  refine runS_cond rfl (fun h => by cases h) (fun h => ?_)
  refine runS_x (I := inf) (J := jnf) ⟨false, false, [], 0, 0⟩ 9999 rfl (by repeat (first | exact obs_nil | refine obs_draw (by kernel_rfl) ?_ | refine obs_same ?_ | refine obs_and ?_ | refine obs_by (by (simp [inB] <;> omega)) ?_)) ?_
  refine runS_cut (fun τ ar => (τ 1 = .ptr 0 0 0 ∧ τ 5 = sv sg) ∧ ar = [.box 23 (vlE v), .gone]) (fun rest => ?_) ?_
  · refine runS_cond rfl (fun h2 => ?_) (fun h2 => ?_)
    · have e : sg = [45] := by rw [hsg]; exact if_pos h2
      refine runS_x (I := inf) (J := jnf) ⟨false, false, [], 2, 0⟩ 9999 rfl (by repeat (first | exact obs_nil | refine obs_draw (by kernel_rfl) ?_ | refine obs_same ?_ | refine obs_and ?_ | refine obs_by (by (simp [inB] <;> omega)) ?_)) ?_
      exact rest _ _ ⟨⟨rfl, by rw [e]; rfl⟩, rfl⟩
    · have e : sg = [] := by rw [hsg, show decide (v.n < 0) = false from h2]; rfl
      refine runS_x (I := inf) (J := jnf) ⟨false, false, [], 2, 0⟩ 9999 rfl (by repeat (first | exact obs_nil | refine obs_draw (by kernel_rfl) ?_ | refine obs_same ?_ | refine obs_and ?_ | refine obs_by (by (simp [inB] <;> omega)) ?_)) ?_
      exact rest _ _ ⟨⟨rfl, by rw [e]; rfl⟩, rfl⟩
  rintro τ2 ar2 ⟨⟨g1, g5⟩, rfl⟩
  refine runS_says 1 (by exact g1) (Says.refl _) ?_; refine runS_says 5 (by exact g5) (Says.refl _) ?_
  refine runS_x (I := inf) (J := jnf) ⟨false, false, [], 0, 0⟩ 9999 rfl (by repeat (first | exact obs_nil | refine obs_draw (by kernel_rfl) ?_ | refine obs_same ?_ | refine obs_and ?_ | refine obs_by (by (simp [inB] <;> omega)) ?_)) ?_
  refine runS_cond rfl (fun h2 => ?_) (fun h2 => by rw [hk] at h2; cases h2)
  have hmx : (if IntKind.wrap .i64 (0 - v.n) > v.n then IntKind.wrap .i64 (0 - v.n) else v.n) = (v.n.natAbs : Int) := by
    rw [hwn]
    split <;> omega
  rw [← hmx] at c1
  refine runS_x (I := inf) (J := jnf) ⟨false, false, [], 0, 0⟩ 9999 rfl (by repeat (first | exact obs_nil | refine obs_draw (by kernel_rfl) ?_ | refine obs_same ?_ | refine obs_and ?_ | refine obs_by (by (simp [inB] <;> omega)) ?_)) ?_
  refine runS_call rfl rfl rfl rfl rfl rfl rfl c1 ?_
  refine runS_x (I := inf) (J := jnf) ⟨false, false, [], 0, 0⟩ 9999 rfl (by repeat (first | exact obs_nil | refine obs_draw (by kernel_rfl) ?_ | refine obs_same ?_ | refine obs_and ?_ | refine obs_by (by (simp [inB, blS] <;> omega)) ?_)) ?_
  obtain ⟨sx, hsx⟩ : ∃ sx : Str, (if d.length > 1 then d.take 1 ++ 46 :: d.drop 1 else d) = sx := ⟨_, rfl⟩
  rw [hsx]
  have hsxl : sx.length ≤ 20 := by
    rw [← hsx]
    split
    · simp
      omega
    · omega
  refine runS_cut (fun τ ar => (τ 5 = sv sg ∧ τ 6 = sv sx ∧ τ 7 = iv (v.q + (d.length : Int) - 1)) ∧ ar = [.box 23 (vlE v), .gone]) (fun rest => ?_) ?_
  · refine runS_cond rfl (fun h => ?_) (fun h => ?_)
    · have hl : d.length > 1 := by
        have := of_decide_eq_true h
        rw [blS] at this
        omega
      rw [if_pos hl] at hsx
      have hp1 : (part2 0 1 d).length ≤ 100 := by unfold part2; simp; omega
      have hp2 : (part2 1 (d.length : Int) d).length ≤ 100 := by unfold part2; simp; omega
      have hdot : (bl (ByteArray.mk #[46])).length = 1 := rfl
      have hr1 : (decide ((0 : Int) ≤ 0) && decide ((0 : Int) ≤ 1) && decide ((1 : Int) ≤ ((bl (bs d)).length : Int))) = true := by
        rw [blS, decide_eq_true (show (1 : Int) ≤ (d.length : Int) by omega)]
        rfl
      have hr2 : (decide ((0 : Int) ≤ 1) && decide ((1 : Int) ≤ ((bl (bs d)).length : Int)) && decide (((bl (bs d)).length : Int) ≤ ((bl (bs d)).length : Int))) = true := by
        rw [blS, decide_eq_true (show (1 : Int) ≤ (d.length : Int) by omega), decide_eq_true (Int.le_refl _)]
        rfl
      refine runS_x (I := inf) (J := jnf) ⟨true, false, [], 3, 0⟩ 9999 rfl (by repeat (first | exact obs_nil | refine obs_draw (by kernel_rfl) ?_ | refine obs_same ?_ | refine obs_and ?_ | refine obs_by (by first | exact fun _ => hr1 | exact fun _ => hr2 | (simp [inB, blS, hdot] <;> omega)) ?_)) ?_
      refine rest _ _ ⟨⟨rfl, congrArg sv (show ((d.take (1 : Int).toNat).drop (0 : Int).toNat ++ [46]) ++ (d.take ((d.length : Nat) : Int).toNat).drop (1 : Int).toNat = sx from ?_), congrArg iv hw1⟩, rfl⟩
      rw [← hsx, Int.toNat_natCast, List.take_length]
      simp
    · have hl : ¬ d.length > 1 := by
        have := of_decide_eq_false h
        rw [blS] at this
        omega
      rw [if_neg hl] at hsx
      subst hsx
      refine runS_x (I := inf) (J := jnf) ⟨false, false, [], 3, 0⟩ 9999 rfl (by repeat (first | exact obs_nil | refine obs_draw (by kernel_rfl) ?_ | refine obs_same ?_ | refine obs_and ?_ | refine obs_by (by (simp [inB] <;> omega)) ?_)) ?_
      exact rest _ _ ⟨⟨rfl, rfl, congrArg iv hw1⟩, rfl⟩
  rintro τ3 ar3 ⟨⟨g5, g6, g7⟩, rfl⟩
  refine runS_says 5 (by exact g5) (Says.refl _) ?_; refine runS_says 6 (by exact g6) (Says.refl _) ?_; refine runS_says 7 (by exact g7) (Says.refl _) ?_
  have hE : (bl (ByteArray.mk #[69])).length = 1 := rfl
  refine runS_x (I := inf) (J := jnf) ⟨false, false, [], 0, 0⟩ 9999 rfl (by repeat (first | exact obs_nil | refine obs_draw (by kernel_rfl) ?_ | refine obs_same ?_ | refine obs_and ?_ | refine obs_by (by (simp [inB, blS, hE] <;> omega)) ?_)) ?_
  refine runS_call rfl rfl rfl rfl rfl rfl rfl c2 ?_
  refine runS_x (I := inf) (J := jnf) ⟨false, false, [], 0, 0⟩ 9999 rfl (by repeat (first | exact obs_nil | refine obs_draw (by kernel_rfl) ?_ | refine obs_same ?_ | refine obs_and ?_ | refine obs_by (by (simp [inB, blS, hE] <;> omega)) ?_)) ?_
  refine runS_ret (I := inf) 0 rfl (Nat.le_refl _) rfl .nil rfl ⟨?_, rfl⟩
  refine congrArg (fun z => Out.ret (.tup [sv z, iv 0])) ?_
  show ((sg ++ sx) ++ [69]) ++ ie = _
  simp
theorem d_Text0 (v : Vl) (hr : v.right = true) (hk : v.kind = 1 ∨ v.kind = 2) (hn : v.n = 0) : CallT Tryz.prog 53 [.agg (vlE v)] [] (fun o A => o = .ret (.tup [sv (textL (decide (v.n < 0)) (ext v).m v.q.toNat), iv 0]) ∧ A = []) := by
  have hkn : numK v.kind = true := by rcases hk with h | h <;> rw [h] <;> rfl
  obtain ⟨h1, h2, h3, h4, h5, h6⟩ := right_num hr hkn
  have hak := d_askedN none [v] (by simp)
  rw [ask_one hr hkn] at hak
  have hex : CallT Tryz.prog 102 [.agg (vlE v)] [] (fun o A => o = .ret (.agg [limS none (frm (ext v).m), bv (ext v).neg, iv (ext v).exp]) ∧ A = []) := d_exactV v hr hkn
  have hm0 : (ext v).m = 0 := exact_m0.2 hn
  obtain ⟨Q, hQ⟩ : ∃ Q : Nat, v.q = (Q : Int) := ⟨v.q.toNat, by have := h3 (by omega); omega⟩
  have hQ31 : Q ≤ 31 := by have := h3 (by omega); omega
  have hk3 : (v.kind == 3) = false := by rcases hk with h | h <;> rw [h] <;> rfl
  have hn0 : decide (v.n < 0) = false := by rw [hn]; rfl
  rw [hm0, frm_zero] at hex
  unfold textL
  rw [hn0, if_neg (by decide), hm0, digs_zero, show v.q.toNat = Q by omega, List.nil_append]
  refine callS_body (n := 96) rfl rfl fun w ρ X => ?_
  refine runS_x (I := inf) (J := jnf) ⟨false, false, [], 0, 0⟩ 9999 rfl (by repeat (first | exact obs_nil | refine obs_draw (by kernel_rfl) ?_ | refine obs_same ?_ | refine obs_and ?_ | refine obs_by (by (simp [inB] <;> omega)) ?_)) ?_
  refine runS_tell 1 (vlR [v]) rfl (m' := 1) rfl (fun j hj => ?_) rfl ?_
  · rcases j with _ | j <;> first | rfl | omega
  refine runS_freeze 13 rfl rfl rfl (fun j hj => ?_) ?_
  · rcases j with _ | j <;> first | rfl | omega
  refine runS_call rfl rfl rfl rfl rfl rfl rfl hak ?_
  refine runS_x (I := inf) (J := jnf) ⟨false, false, [], 0, 0⟩ 9999 rfl (by repeat (first | exact obs_nil | refine obs_draw (by kernel_rfl) ?_ | refine obs_same ?_ | refine obs_and ?_ | refine obs_by (by (simp [inB] <;> omega)) ?_)) ?_
  refine runS_cond rfl (fun h => by cases h) (fun h => ?_)
  refine runS_x (I := inf) (J := jnf) ⟨false, false, [], 0, 0⟩ 9999 rfl (by repeat (first | exact obs_nil | refine obs_draw (by kernel_rfl) ?_ | refine obs_same ?_ | refine obs_and ?_ | refine obs_by (by (simp [inB] <;> omega)) ?_)) ?_
  refine runS_cond rfl (fun h2 => by rw [show decide (v.n < 0) = true from h2] at hn0; cases hn0) (fun h2 => ?_)
  refine runS_x (I := inf) (J := jnf) ⟨false, false, [], 0, 0⟩ 9999 rfl (by repeat (first | exact obs_nil | refine obs_draw (by kernel_rfl) ?_ | refine obs_same ?_ | refine obs_and ?_ | refine obs_by (by (simp [inB] <;> omega)) ?_)) ?_
  refine runS_cond rfl (fun h2 => by rw [show (v.kind == 3) = true from h2] at hk3; cases hk3) (fun h2 => ?_)
  refine runS_x (I := inf) (J := jnf) ⟨false, false, [], 0, 0⟩ 9999 rfl (by repeat (first | exact obs_nil | refine obs_draw (by kernel_rfl) ?_ | refine obs_same ?_ | refine obs_and ?_ | refine obs_by (by (simp [inB] <;> omega)) ?_)) ?_
  refine runS_call rfl rfl rfl rfl rfl rfl rfl hex ?_
  refine runS_x (I := inf) (J := jnf) ⟨true, true, [117, 186, 119], 0, 0⟩ 9999 rfl (by repeat (first | exact obs_nil | refine obs_draw (by kernel_rfl) ?_ | refine obs_same ?_ | refine obs_and ?_ | refine obs_by (by (simp [inB] <;> omega)) ?_)) ?_
  refine runS_draw 10 (by kernel_rfl) (lexj_x (I := inf) (J := jnf) 99 rfl rfl (by repeat (first | exact obs_nil | refine obs_same ?_ | refine obs_and ?_ | refine obs_by (by simp) ?_)) (lexj_sliceDataNil rfl rfl rfl rfl rfl rfl (lexj_x (I := inf) (J := jnf) 99 rfl rfl (by repeat (first | exact obs_nil | refine obs_same ?_ | refine obs_and ?_ | refine obs_by (by simp) ?_)) lexj_nil))) ?_
  refine runS_x (I := inf) (J := jnf) ⟨false, false, [], 0, 0⟩ 9999 rfl (by repeat (first | exact obs_nil | refine obs_draw (by kernel_rfl) ?_ | refine obs_same ?_ | refine obs_and ?_ | refine obs_by (by (simp [inB] <;> omega)) ?_)) ?_
  refine runS_op (.val (.string ⟨#[]⟩)) rfl rfl rfl (op_unsafeString0 rfl rfl rfl) ?_
  refine runS_x (I := inf) (J := jnf) ⟨false, false, [], 0, 0⟩ 9999 rfl (by repeat (first | exact obs_nil | refine obs_draw (by kernel_rfl) ?_ | refine obs_same ?_ | refine obs_and ?_ | refine obs_by (by (simp [inB] <;> omega)) ?_)) ?_
  have hlk : IntKind.wrap .i64 (IntKind.wrap .i64 (v.q + 1) - ((bl (ByteArray.mk #[])).length : Int)) = ((Q + 1 : Nat) : Int) := by
    rw [show (bl (ByteArray.mk #[])).length = 0 from rfl, hQ, w64 (x := (Q : Int) + 1) (by omega) (by omega), w64 (by omega) (by omega)]
    omega
  have hE0 : (bl (ByteArray.mk #[])).length = 0 := rfl
  obtain ⟨E, hE⟩ : ∃ E : Str, padS Q [] = E := ⟨_, rfl⟩
  have hEl : E.length = Q + 1 := by rw [← hE]; unfold padS; simp
  rw [hE]
  refine runS_name 5 rfl (fun L => rfl) (fun L hL => ?_)
  refine runS_cut (fun τ ar => (τ 1 = .ptr 0 0 0 ∧ τ 5 = sv [] ∧ τ 10 = sv E) ∧ ar = [.box 23 (vlE v), .gone, .box 148 [nilP, .val (.slice none 0 0)], .box 72 [limS none []], .dfr true, L]) (fun rest => ?_) ?_
  · refine runS_cond rfl (fun h2 => ?_) (fun h2 => ?_)
    · have hrp := lib_repeat [48] (Q + 1) (by decide) (by omega)
      rw [repeat_zero, ← hlk] at hrp
      have hpl : (List.replicate (Q + 1) (48 : UInt8)).length = Q + 1 := List.length_replicate
      refine runS_x (I := inf) (J := jnf) ⟨false, false, [], 2, 0⟩ 9999 rfl (by repeat (first | exact obs_nil | refine obs_draw (by kernel_rfl) ?_ | refine obs_same ?_ | refine obs_and ?_ | refine obs_by (by (simp [inB] <;> omega)) ?_)) ?_
      refine runS_call rfl rfl rfl rfl rfl rfl rfl hrp ?_
      refine runS_x (I := inf) (J := jnf) ⟨false, false, [], 2, 0⟩ 9999 rfl (by repeat (first | exact obs_nil | refine obs_draw (by kernel_rfl) ?_ | refine obs_same ?_ | refine obs_and ?_ | refine obs_by (by (simp [inB, blS, hpl, hE0] <;> omega)) ?_)) ?_
      refine rest _ _ ⟨⟨rfl, rfl, ?_⟩, rfl⟩
      rw [← hE]
      unfold padS
      rfl
    · exfalso
      have h3 := of_decide_eq_false h2
      rw [hlk] at h3
      omega
  rintro τ4 ar4 ⟨⟨g1, g5, g10⟩, rfl⟩
  subst hL
  have hwd : IntKind.wrap .i64 (((bl (bs E)).length : Int) - v.q) = ((E.length - Q : Nat) : Int) := by rw [blS, hQ, w64 (by omega) (by omega)]; omega
  refine runS_says 1 (by exact g1) (Says.refl _) ?_; refine runS_says 5 (by exact g5) (Says.refl _) ?_; refine runS_says 10 (by exact g10) (Says.refl _) ?_
  refine runS_x (I := inf) (J := jnf) ⟨false, false, [], 0, 0⟩ 9999 rfl (by repeat (first | exact obs_nil | refine obs_draw (by kernel_rfl) ?_ | refine obs_same ?_ | refine obs_and ?_ | refine obs_by (by (simp [inB] <;> omega)) ?_)) ?_
  refine runS_cond rfl (fun h2 => ?_) (fun h2 => ?_)
  · have hQ0 : 0 < Q := by
      have := of_decide_eq_true h2
      omega
    have hwd2 : IntKind.wrap .i64 ((E.length : Int) - v.q) = ((E.length - Q : Nat) : Int) := hwd
    have hp1 : (part2 0 ((E.length - Q : Nat) : Int) E).length ≤ 100 := by unfold part2; simp; omega
    have hp2 : (part2 ((E.length - Q : Nat) : Int) (E.length : Int) E).length ≤ 100 := by unfold part2; simp; omega
    have hdot : (bl (ByteArray.mk #[46])).length = 1 := rfl
    refine runS_x (I := inf) (J := jnf) ⟨true, false, [], 0, 0⟩ 9999 rfl (by repeat (first | exact obs_nil | refine obs_draw (by kernel_rfl) ?_ | refine obs_same ?_ | refine obs_and ?_ | refine obs_by (by (simp [inB, blS, hwd2, hdot] <;> omega)) ?_)) ?_
    refine runS_ret (I := inf) 0 rfl (Nat.le_refl _) rfl .nil rfl ⟨?_, rfl⟩
    refine congrArg (fun z => Out.ret (.tup [sv z, iv 0])) ?_
    show [] ++ (((E.take (IntKind.wrap .i64 (((bl (bs E)).length : Int) - v.q)).toNat).drop (0 : Int).toNat ++ [46]) ++ (E.take ((E.length : Nat) : Int).toNat).drop (IntKind.wrap .i64 (((bl (bs E)).length : Int) - v.q)).toNat) = _
    rw [hwd]
    unfold pointS
    rw [Int.toNat_natCast, Int.toNat_natCast, if_pos hQ0, List.take_length]
    simp
  · have hQ0 : ¬ 0 < Q := by
      have := of_decide_eq_false h2
      omega
    refine runS_x (I := inf) (J := jnf) ⟨true, false, [], 0, 0⟩ 9999 rfl (by repeat (first | exact obs_nil | refine obs_draw (by kernel_rfl) ?_ | refine obs_same ?_ | refine obs_and ?_ | refine obs_by (by (simp [inB, blS] <;> omega)) ?_)) ?_
    refine runS_ret (I := inf) 0 rfl (Nat.le_refl _) rfl .nil rfl ⟨?_, rfl⟩
    unfold pointS
    rw [if_neg hQ0]
    rfl
theorem ask1 {v : Vl} (h : askL none [v] = 0) : v.right = true ∧ numK v.kind = true := by
  unfold askL at h
  split at h
  · cases h
  · rename_i h1
    split at h
    · cases h
    · split at h
      · cases h
      · rename_i h3
        simp at h1 h3
        exact ⟨h1, h3⟩
def textV (v : Vl) : Str × Int := if askL none [v] ≠ 0 then ([], askL none [v]) else if v.kind = 3 then (fltS v.n v.q, 0) else (textL (decide (v.n < 0)) (ext v).m v.q.toNat, 0)
theorem num_kind {v : Vl} (hr : v.right = true) (hkn : numK v.kind = true) (h3 : ¬ v.kind = 3) : v.kind = 1 ∨ v.kind = 2 := by
  obtain ⟨_, h, _⟩ := right_num hr hkn
  omega
theorem d_TextV (v : Vl) : CallT Tryz.prog 53 [.agg (vlE v)] [] (fun o A => o = .ret (.tup [sv (textV v).1, iv (textV v).2]) ∧ A = []) := by
  unfold textV
  by_cases h : askL none [v] ≠ 0
  · rw [if_pos h]
    exact d_TextE v h
  · rw [if_neg h]
    obtain ⟨hr, hkn⟩ := ask1 (Decidable.not_not.1 h)
    by_cases h3 : v.kind = 3
    · rw [if_pos h3]
      exact d_Text3 v hr h3
    · rw [if_neg h3]
      by_cases hn : v.n = 0
      · exact d_Text0 v hr (num_kind hr hkn h3) hn
      · exact d_Text12 v hr (num_kind hr hkn h3) hn
end Go.Iron.Tryz

/- The digits' seat: the reference's texts. -/
namespace Go.Iron.Tryz
open Go.Proofs Go.RowKit Go.Iron.Tok Go.Iron.Dg

theorem text_len (m : Nat) (r : Nat → Int) : (bl (textR m r)).length = m := by
  show ((List.range m).map _).length = m
  rw [List.length_map, List.length_range]
theorem text_one (x : Int) (d : Nat) (hd : d < 10) (hx : x = 48 + (d : Int)) (r : Nat → Int) (hr : r 0 = x) : textR 1 r = bs [digB d] := by
  show (⟨⟨[UInt8.ofNat (r 0).toNat]⟩⟩ : ByteArray) = ⟨⟨[digB d]⟩⟩
  rw [hr, hx, show (48 + (d : Int)).toNat = 48 + d by omega]
  rfl
theorem r_Decimal (n : Nat) (hn : n < 4611686018427387904) : CallT Tryz.prog 120 [iv n] [] (fun o A => o = .ret (sv (Lib.decDigits n)) ∧ A = []) := by
  have hdl : (Lib.decDigits n).length ≤ 19 := (dec_len (by decide)).2 (by omega)
  refine callS_body (n := 19) rfl rfl fun w ρ X => ?_
  refine runS_x (I := inf) (J := jnf) ⟨false, false, [], 0, 0⟩ 9999 rfl (by repeat (first | exact obs_nil | refine obs_draw (by kernel_rfl) ?_ | refine obs_same ?_ | refine obs_and ?_ | refine obs_by (by (simp [inB] <;> omega)) ?_)) ?_
  refine runS_cond rfl (fun h => ?_) (fun h => ?_)
  · have h0 : n = 0 := by
      have h1 : ((n : Int) == 0) = true := h
      have : (n : Int) = 0 := by simpa using h1
      omega
    subst h0
    rw [dec_small (by decide)]
    refine runS_x (I := inf) (J := jnf) ⟨false, false, [], 0, 0⟩ 9999 rfl (by repeat (first | exact obs_nil | refine obs_draw (by kernel_rfl) ?_ | refine obs_same ?_ | refine obs_and ?_ | refine obs_by (by (simp [inB] <;> omega)) ?_)) ?_
    refine runS_ret (I := inf) 0 rfl (Nat.le_refl _) rfl .nil rfl ⟨?_, rfl⟩
    rfl
  · have h0 : n ≠ 0 := by
      intro e
      subst e
      cases h
    clear h
    refine runS_x (I := inf) (J := jnf) ⟨false, false, [], 0, 0⟩ 9999 rfl (by repeat (first | exact obs_nil | refine obs_draw (by kernel_rfl) ?_ | refine obs_same ?_ | refine obs_and ?_ | refine obs_by (by (simp [inB] <;> omega)) ?_)) ?_
    refine runS_while (fun (z : Nat × Str) τ ar => (τ 0 = iv z.1 ∧ τ 3 = sv z.2) ∧ ar = [] ∧ z.1 ≤ n ∧ (if z.1 = 0 then z.2 else Lib.decDigits z.1 ++ z.2) = Lib.decDigits n) (fun z => z.1) (n, []) ⟨⟨rfl, rfl⟩, rfl, Nat.le_refl _, by rw [if_neg h0, List.append_nil]⟩ ?_
    rintro ⟨m, s⟩ τ2 ar2 ⟨⟨g0, g3⟩, rfl, hm, hs⟩ ih
    dsimp only at g0 g3 hm hs ih ⊢
    have hsl : s.length ≤ 19 := by
      rw [← hs] at hdl
      split at hdl
      · exact hdl
      · rw [List.length_append] at hdl; omega
    refine runS_says 0 (by exact g0) (Says.refl _) ?_; refine runS_says 3 (by exact g3) (Says.refl _) ?_
    refine runS_x (I := inf) (J := jnf) ⟨false, false, [], 0, 0⟩ 9999 rfl (by repeat (first | exact obs_nil | refine obs_draw (by kernel_rfl) ?_ | refine obs_same ?_ | refine obs_and ?_ | refine obs_by (by (simp [inB] <;> omega)) ?_)) ?_
    refine runS_cond rfl (fun h => ?_) (fun h => ?_)
    · have hm0 : 0 < m := by
        have := of_decide_eq_true h
        omega
      rw [if_neg (by omega)] at hs
      have hmod : ((m : Int)).tmod 10 = ((m % 10 : Nat) : Int) := rfl
      have hdiv : ((m : Int)).tdiv 10 = ((m / 10 : Nat) : Int) := rfl
      have hd10 : m % 10 < 10 := Nat.mod_lt _ (by decide)
      have hwd : IntKind.wrap .u8 (IntKind.wrap .i64 (48 + (m : Int).tmod 10)) = 48 + ((m % 10 : Nat) : Int) := by
        rw [hmod, w64 (by omega) (by omega), w8 (by omega) (by omega)]
      have hwq : IntKind.wrap .i64 ((m : Int).tdiv 10) = ((m / 10 : Nat) : Int) := by
        rw [hdiv, w64 (by omega) (by omega)]
      have htl := text_len 1
      refine runS_x (I := inf) (J := jnf) ⟨false, false, [], 0, 0⟩ 9999 rfl (by repeat (first | exact obs_nil | refine obs_draw (by kernel_rfl) ?_ | refine obs_same ?_ | refine obs_and ?_ | refine obs_by (by (simp [inB, blS, htl] <;> omega)) ?_)) ?_
      refine runS_drop 0 (Nat.zero_le _) rfl (by repeat (first | exact .nil | refine .row (fun j hj => rfl) ?_ | refine .box rfl ?_ | refine .fam (fun k j hk hj => rfl) ?_ | refine .loop (scrub_under _ _) ?_ | refine .dfr ?_ | refine .gone ?_ | refine .map (fun p hp => by (obtain ⟨k, _, rfl⟩ := List.mem_map.1 hp; rfl)) ?_)) rfl rfl rfl (by repeat (first | exact .nil | refine .cons rfl rfl rfl (scrub_under _ _) ?_)) ?_
      refine ih (m / 10, digB (m % 10) :: s) _ _ (by dsimp only; omega) ⟨⟨congrArg iv hwq, ?_⟩, rfl, by dsimp only; omega, ?_⟩
      · refine congrArg (fun z : ByteArray => AV.val (.string z)) ?_
        rw [text_one _ (m % 10) hd10 hwd _ rfl]
        rfl
      · dsimp only
        rw [← hs]
        by_cases h9 : m < 10
        · rw [if_pos (by omega), dec_small h9, show m % 10 = m by omega]
          rfl
        · rw [if_neg (by omega), dec_big h9, List.append_assoc]
          rfl
    · have hm0 : m = 0 := by
        have := of_decide_eq_false h
        omega
      rw [if_pos hm0] at hs
      subst hs
      refine runS_x (I := inf) (J := jnf) ⟨false, false, [], 0, 0⟩ 9999 rfl (by repeat (first | exact obs_nil | refine obs_draw (by kernel_rfl) ?_ | refine obs_same ?_ | refine obs_and ?_ | refine obs_by (by (simp [inB] <;> omega)) ?_)) ?_
      refine runS_ret (I := inf) 0 rfl (Nat.le_refl _) rfl .nil rfl ⟨?_, rfl⟩
      rfl
theorem r_TextE (v : Vl) (h : askL none [v] ≠ 0) : CallT Tryz.prog 54 [.agg (vlE v)] [] (fun o A => o = .ret (.tup [sv [], iv (askL none [v])]) ∧ A = []) := by
  have hak := r_numbers none [v] (by simp)
  refine callS_body (n := 140) rfl rfl fun w ρ X => ?_
  refine runS_x (I := inf) (J := jnf) ⟨false, false, [], 0, 0⟩ 9999 rfl (by repeat (first | exact obs_nil | refine obs_draw (by kernel_rfl) ?_ | refine obs_same ?_ | refine obs_and ?_ | refine obs_by (by (simp [inB] <;> omega)) ?_)) ?_
  refine runS_tell 1 (vlR [v]) rfl (m' := 1) rfl (fun j hj => ?_) rfl ?_
  · rcases j with _ | j <;> first | rfl | omega
  refine runS_freeze 12 rfl rfl rfl (fun j hj => ?_) ?_
  · rcases j with _ | j <;> first | rfl | omega
  refine runS_call rfl rfl rfl rfl rfl rfl rfl hak ?_
  refine runS_x (I := inf) (J := jnf) ⟨false, false, [], 0, 0⟩ 9999 rfl (by repeat (first | exact obs_nil | refine obs_draw (by kernel_rfl) ?_ | refine obs_same ?_ | refine obs_and ?_ | refine obs_by (by (simp [inB] <;> omega)) ?_)) ?_
  refine runS_cond rfl (fun h2 => ?_) (fun h2 => ?_)
  · refine runS_x (I := inf) (J := jnf) ⟨false, false, [], 0, 0⟩ 9999 rfl (by repeat (first | exact obs_nil | refine obs_draw (by kernel_rfl) ?_ | refine obs_same ?_ | refine obs_and ?_ | refine obs_by (by (simp [inB] <;> omega)) ?_)) ?_
    refine runS_ret (I := inf) 0 rfl (Nat.le_refl _) rfl .nil rfl ⟨?_, rfl⟩
    rfl
  · exfalso
    have h3 : (!(askL none [v] == 0)) = false := h2
    simp at h3
    exact h h3
theorem flt_zero : fltS 0 0 = [48, 69, 48] := by
  unfold fltS
  have h0 : Lib.decDigits (Int.natAbs 0) = [48] := dec_small (by decide)
  rw [h0]
  have h1 : Lib.itoa (0 + (([48] : Str).length : Int) - 1) = [48] := dec_small (u := 0) (by decide)
  rw [h1]
  rfl
theorem r_Text3 (v : Vl) (hr : v.right = true) (hk : v.kind = 3) : CallT Tryz.prog 54 [.agg (vlE v)] [] (fun o A => o = .ret (.tup [sv (fltS v.n v.q), iv 0]) ∧ A = []) := by
  have hkn : numK v.kind = true := by rw [hk]; rfl
  obtain ⟨h1, h2, h3, h4, h5, h6⟩ := right_num hr hkn
  have hak := r_numbers none [v] (by simp)
  rw [ask_one hr hkn] at hak
  have hq := h4 hk
  have hz : v.n = 0 → v.q = 0 := fun e => by
    have h0 : rightB v.kind v.n v.q v.s = true := hr
    unfold rightB at h0
    rw [hk, if_neg (by decide), if_neg (by decide), if_pos rfl, if_pos e] at h0
    simp at h0
    exact h0.2
  obtain ⟨sg, hsg⟩ : ∃ sg : Str, sg = if decide (v.n < 0) = true then [45] else [] := ⟨_, rfl⟩
  have hsgl : sg.length ≤ 1 := by rw [hsg]; split <;> simp
  refine callS_body (n := 140) rfl rfl fun w ρ X => ?_
  refine runS_x (I := inf) (J := jnf) ⟨false, false, [], 0, 0⟩ 9999 rfl (by repeat (first | exact obs_nil | refine obs_draw (by kernel_rfl) ?_ | refine obs_same ?_ | refine obs_and ?_ | refine obs_by (by (simp [inB] <;> omega)) ?_)) ?_
  refine runS_tell 1 (vlR [v]) rfl (m' := 1) rfl (fun j hj => ?_) rfl ?_
  · rcases j with _ | j <;> first | rfl | omega
  refine runS_freeze 12 rfl rfl rfl (fun j hj => ?_) ?_
  · rcases j with _ | j <;> first | rfl | omega
  refine runS_call rfl rfl rfl rfl rfl rfl rfl hak ?_
  refine runS_x (I := inf) (J := jnf) ⟨false, false, [], 0, 0⟩ 9999 rfl (by repeat (first | exact obs_nil | refine obs_draw (by kernel_rfl) ?_ | refine obs_same ?_ | refine obs_and ?_ | refine obs_by (by (simp [inB] <;> omega)) ?_)) ?_
  refine runS_cond rfl (fun h => by cases h) (fun h => ?_)
  refine runS_x (I := inf) (J := jnf) ⟨false, false, [], 0, 0⟩ 9999 rfl (by repeat (first | exact obs_nil | refine obs_draw (by kernel_rfl) ?_ | refine obs_same ?_ | refine obs_and ?_ | refine obs_by (by (simp [inB] <;> omega)) ?_)) ?_
  refine runS_cut (fun τ ar => (τ 1 = .ptr 0 0 0 ∧ τ 5 = sv sg ∧ τ 6 = iv v.n.natAbs) ∧ ar = [.box 23 (vlE v), .gone]) (fun rest => ?_) ?_
  · refine runS_cond rfl (fun h2 => ?_) (fun h2 => ?_)
    · have hneg : v.n < 0 := of_decide_eq_true h2
      have e : sg = [45] := by rw [hsg]; exact if_pos h2
      have hwn : IntKind.wrap .i64 (0 - v.n) = (v.n.natAbs : Int) := by rw [w64 (by omega) (by omega)]; omega
      refine runS_x (I := inf) (J := jnf) ⟨false, false, [], 2, 0⟩ 9999 rfl (by repeat (first | exact obs_nil | refine obs_draw (by kernel_rfl) ?_ | refine obs_same ?_ | refine obs_and ?_ | refine obs_by (by (simp [inB] <;> omega)) ?_)) ?_
      exact rest _ _ ⟨⟨rfl, by rw [e]; rfl, congrArg iv hwn⟩, rfl⟩
    · have hneg : ¬ v.n < 0 := of_decide_eq_false h2
      have e : sg = [] := by rw [hsg, show decide (v.n < 0) = false from h2]; rfl
      have hwn : v.n = (v.n.natAbs : Int) := by omega
      refine runS_x (I := inf) (J := jnf) ⟨false, false, [], 2, 0⟩ 9999 rfl (by repeat (first | exact obs_nil | refine obs_draw (by kernel_rfl) ?_ | refine obs_same ?_ | refine obs_and ?_ | refine obs_by (by (simp [inB] <;> omega)) ?_)) ?_
      exact rest _ _ ⟨⟨rfl, by rw [e]; rfl, congrArg iv hwn⟩, rfl⟩
  rintro τ2 ar2 ⟨⟨g1, g5, g6⟩, rfl⟩
  refine runS_says 1 (by exact g1) (Says.refl _) ?_; refine runS_says 5 (by exact g5) (Says.refl _) ?_; refine runS_says 6 (by exact g6) (Says.refl _) ?_
  refine runS_x (I := inf) (J := jnf) ⟨false, false, [], 0, 0⟩ 9999 rfl (by repeat (first | exact obs_nil | refine obs_draw (by kernel_rfl) ?_ | refine obs_same ?_ | refine obs_and ?_ | refine obs_by (by (simp [inB] <;> omega)) ?_)) ?_
  refine runS_call rfl rfl rfl rfl rfl rfl rfl (r_Decimal v.n.natAbs (by omega)) ?_
  refine runS_x (I := inf) (J := jnf) ⟨false, false, [], 0, 0⟩ 9999 rfl (by repeat (first | exact obs_nil | refine obs_draw (by kernel_rfl) ?_ | refine obs_same ?_ | refine obs_and ?_ | refine obs_by (by (simp [inB] <;> omega)) ?_)) ?_
  refine runS_cond rfl (fun h2 => ?_) (fun h2 => by rw [hk] at h2; cases h2)
  have hd : (Lib.decDigits v.n.natAbs).length ≤ 15 := (dec_len (by decide)).2 (by omega)
  have hdp := dec_pos v.n.natAbs
  refine runS_x (I := inf) (J := jnf) ⟨false, false, [], 0, 0⟩ 9999 rfl (by repeat (first | exact obs_nil | refine obs_draw (by kernel_rfl) ?_ | refine obs_same ?_ | refine obs_and ?_ | refine obs_by (by (simp [inB, blS] <;> omega)) ?_)) ?_
  refine runS_cond rfl (fun h => ?_) (fun h => ?_)
  · have hn : v.n = 0 := by
      have h1 : ((v.n.natAbs : Int) == 0) = true := h
      have : (v.n.natAbs : Int) = 0 := by simpa using h1
      omega
    rw [hz hn, hn, flt_zero]
    refine runS_x (I := inf) (J := jnf) ⟨false, false, [], 0, 0⟩ 9999 rfl (by repeat (first | exact obs_nil | refine obs_draw (by kernel_rfl) ?_ | refine obs_same ?_ | refine obs_and ?_ | refine obs_by (by (simp [inB] <;> omega)) ?_)) ?_
    refine runS_ret (I := inf) 0 rfl (Nat.le_refl _) rfl .nil rfl ⟨?_, rfl⟩
    rfl
  unfold fltS
  rw [← hsg]
  have hie : Lib.itoa (v.q + ((Lib.decDigits v.n.natAbs).length : Int) - 1) = if v.q + ((Lib.decDigits v.n.natAbs).length : Int) - 1 < 0 then 45 :: Lib.decDigits (v.q + ((Lib.decDigits v.n.natAbs).length : Int) - 1).natAbs else Lib.decDigits (v.q + ((Lib.decDigits v.n.natAbs).length : Int) - 1).natAbs := by
    unfold Lib.itoa
    split
    · rfl
    · rw [show (v.q + ((Lib.decDigits v.n.natAbs).length : Int) - 1).toNat = (v.q + ((Lib.decDigits v.n.natAbs).length : Int) - 1).natAbs by omega]
  rw [hie]
  generalize Lib.decDigits v.n.natAbs = d at *
  have hw1 : IntKind.wrap .i64 (IntKind.wrap .i64 ((d.length : Int) + v.q) - 1) = v.q + (d.length : Int) - 1 := by rw [w64 (x := (d.length : Int) + v.q) (by omega) (by omega), w64 (by omega) (by omega)]; omega
  obtain ⟨ei, hei⟩ : ∃ ei : Int, v.q + (d.length : Int) - 1 = ei := ⟨_, rfl⟩
  rw [hei] at hw1 ⊢
  have hil : (Lib.decDigits ei.natAbs).length ≤ 3 := (dec_len (by decide)).2 (by omega)
  have cd := r_Decimal ei.natAbs (by omega)
  generalize Lib.decDigits ei.natAbs = ie at *
  refine runS_x (I := inf) (J := jnf) ⟨false, false, [], 0, 0⟩ 9999 rfl (by repeat (first | exact obs_nil | refine obs_draw (by kernel_rfl) ?_ | refine obs_same ?_ | refine obs_and ?_ | refine obs_by (by (simp [inB] <;> omega)) ?_)) ?_
  obtain ⟨sx, hsx⟩ : ∃ sx : Str, (if d.length > 1 then d.take 1 ++ 46 :: d.drop 1 else d) = sx := ⟨_, rfl⟩
  rw [hsx]
  have hsxl : sx.length ≤ 20 := by
    rw [← hsx]
    split
    · simp
      omega
    · omega
  refine runS_cut (fun τ ar => (τ 5 = sv sg ∧ τ 7 = sv sx ∧ τ 8 = iv ei) ∧ ar = [.box 23 (vlE v), .gone]) (fun rest => ?_) ?_
  · refine runS_cond rfl (fun h => ?_) (fun h => ?_)
    · have hl : d.length > 1 := by
        have := of_decide_eq_true h
        rw [blS] at this
        omega
      rw [if_pos hl] at hsx
      have hp1 : (part2 0 1 d).length ≤ 100 := by unfold part2; simp; omega
      have hp2 : (part2 1 (d.length : Int) d).length ≤ 100 := by unfold part2; simp; omega
      have hdot : (bl (ByteArray.mk #[46])).length = 1 := rfl
      have hr1 : (decide ((0 : Int) ≤ 0) && decide ((0 : Int) ≤ 1) && decide ((1 : Int) ≤ ((bl (bs d)).length : Int))) = true := by
        rw [blS, decide_eq_true (show (1 : Int) ≤ (d.length : Int) by omega)]
        rfl
      have hr2 : (decide ((0 : Int) ≤ 1) && decide ((1 : Int) ≤ ((bl (bs d)).length : Int)) && decide (((bl (bs d)).length : Int) ≤ ((bl (bs d)).length : Int))) = true := by
        rw [blS, decide_eq_true (show (1 : Int) ≤ (d.length : Int) by omega), decide_eq_true (Int.le_refl _)]
        rfl
      refine runS_x (I := inf) (J := jnf) ⟨true, false, [], 4, 0⟩ 9999 rfl (by repeat (first | exact obs_nil | refine obs_draw (by kernel_rfl) ?_ | refine obs_same ?_ | refine obs_and ?_ | refine obs_by (by first | exact fun _ => hr1 | exact fun _ => hr2 | (simp [inB, blS, hdot] <;> omega)) ?_)) ?_
      refine rest _ _ ⟨⟨rfl, congrArg sv (show ((d.take (1 : Int).toNat).drop (0 : Int).toNat ++ [46]) ++ (d.take ((d.length : Nat) : Int).toNat).drop (1 : Int).toNat = sx from ?_), congrArg iv hw1⟩, rfl⟩
      rw [← hsx, Int.toNat_natCast, List.take_length]
      simp
    · have hl : ¬ d.length > 1 := by
        have := of_decide_eq_false h
        rw [blS] at this
        omega
      rw [if_neg hl] at hsx
      subst hsx
      refine runS_x (I := inf) (J := jnf) ⟨false, false, [], 4, 0⟩ 9999 rfl (by repeat (first | exact obs_nil | refine obs_draw (by kernel_rfl) ?_ | refine obs_same ?_ | refine obs_and ?_ | refine obs_by (by (simp [inB] <;> omega)) ?_)) ?_
      exact rest _ _ ⟨⟨rfl, rfl, congrArg iv hw1⟩, rfl⟩
  rintro τ3 ar3 ⟨⟨g5, g7, g8⟩, rfl⟩
  refine runS_says 5 (by exact g5) (Says.refl _) ?_; refine runS_says 7 (by exact g7) (Says.refl _) ?_; refine runS_says 8 (by exact g8) (Says.refl _) ?_
  have hE1 : (bl (ByteArray.mk #[69])).length = 1 := rfl
  have hE2 : (bl (ByteArray.mk #[69, 45])).length = 2 := rfl
  refine runS_x (I := inf) (J := jnf) ⟨false, false, [], 0, 0⟩ 9999 rfl (by repeat (first | exact obs_nil | refine obs_draw (by kernel_rfl) ?_ | refine obs_same ?_ | refine obs_and ?_ | refine obs_by (by (simp [inB] <;> omega)) ?_)) ?_
  refine runS_cond rfl (fun h => ?_) (fun h => ?_)
  · have hneg : ei < 0 := of_decide_eq_true h
    have hwn : IntKind.wrap .i64 (0 - ei) = (ei.natAbs : Int) := by rw [w64 (by omega) (by omega)]; omega
    rw [← hwn] at cd
    rw [if_pos hneg]
    refine runS_x (I := inf) (J := jnf) ⟨false, false, [], 0, 0⟩ 9999 rfl (by repeat (first | exact obs_nil | refine obs_draw (by kernel_rfl) ?_ | refine obs_same ?_ | refine obs_and ?_ | refine obs_by (by (simp [inB, blS, hE2] <;> omega)) ?_)) ?_
    refine runS_call rfl rfl rfl rfl rfl rfl rfl cd ?_
    refine runS_x (I := inf) (J := jnf) ⟨false, false, [], 0, 0⟩ 9999 rfl (by repeat (first | exact obs_nil | refine obs_draw (by kernel_rfl) ?_ | refine obs_same ?_ | refine obs_and ?_ | refine obs_by (by (simp [inB, blS, hE2] <;> omega)) ?_)) ?_
    refine runS_ret (I := inf) 0 rfl (Nat.le_refl _) rfl .nil rfl ⟨?_, rfl⟩
    refine congrArg (fun z => Out.ret (.tup [sv z, iv 0])) ?_
    show ((sg ++ sx) ++ [69, 45]) ++ ie = _
    simp
  · have hneg : ¬ ei < 0 := of_decide_eq_false h
    rw [show (ei.natAbs : Int) = ei by omega] at cd
    rw [if_neg hneg]
    refine runS_x (I := inf) (J := jnf) ⟨false, false, [], 0, 0⟩ 9999 rfl (by repeat (first | exact obs_nil | refine obs_draw (by kernel_rfl) ?_ | refine obs_same ?_ | refine obs_and ?_ | refine obs_by (by (simp [inB, blS, hE1] <;> omega)) ?_)) ?_
    refine runS_call rfl rfl rfl rfl rfl rfl rfl cd ?_
    refine runS_x (I := inf) (J := jnf) ⟨false, false, [], 0, 0⟩ 9999 rfl (by repeat (first | exact obs_nil | refine obs_draw (by kernel_rfl) ?_ | refine obs_same ?_ | refine obs_and ?_ | refine obs_by (by (simp [inB, blS, hE1] <;> omega)) ?_)) ?_
    refine runS_ret (I := inf) 0 rfl (Nat.le_refl _) rfl .nil rfl ⟨?_, rfl⟩
    refine congrArg (fun z => Out.ret (.tup [sv z, iv 0])) ?_
    show ((sg ++ sx) ++ [69]) ++ ie = _
    simp
theorem pad_dec (Q m : Nat) : padS Q (digs m) = padS Q (Lib.decDigits m) := by
  by_cases h : m = 0
  · subst h
    rw [digs_zero, dec_small (by decide)]
    unfold padS
    show List.replicate (Q + 1) 48 ++ [] = List.replicate (Q + 1 - 1) 48 ++ [48]
    rw [List.append_nil, show Q + 1 - 1 = Q by omega, List.replicate_succ']
  · rw [digs_dec m h]
theorem r_Text2 (v : Vl) (hr : v.right = true) (hk : v.kind = 2) : CallT Tryz.prog 54 [.agg (vlE v)] [] (fun o A => o = .ret (.tup [sv (textL (decide (v.n < 0)) v.n.natAbs v.q.toNat), iv 0]) ∧ A = []) := by
  have hkn : numK v.kind = true := by rw [hk]; rfl
  obtain ⟨h1, h2, h3, h4, h5, h6⟩ := right_num hr hkn
  have hak := r_numbers none [v] (by simp)
  rw [ask_one hr hkn] at hak
  obtain ⟨Q, hQ⟩ : ∃ Q : Nat, v.q = (Q : Int) := ⟨v.q.toNat, by have := h3 (by omega); omega⟩
  have hQ31 : Q ≤ 31 := by have := h3 (by omega); omega
  obtain ⟨sg, hsg⟩ : ∃ sg : Str, sg = if decide (v.n < 0) = true then [45] else [] := ⟨_, rfl⟩
  have hsgl : sg.length ≤ 1 := by rw [hsg]; split <;> simp
  refine callS_body (n := 140) rfl rfl fun w ρ X => ?_
  refine runS_x (I := inf) (J := jnf) ⟨false, false, [], 0, 0⟩ 9999 rfl (by repeat (first | exact obs_nil | refine obs_draw (by kernel_rfl) ?_ | refine obs_same ?_ | refine obs_and ?_ | refine obs_by (by (simp [inB] <;> omega)) ?_)) ?_
  refine runS_tell 1 (vlR [v]) rfl (m' := 1) rfl (fun j hj => ?_) rfl ?_
  · rcases j with _ | j <;> first | rfl | omega
  refine runS_freeze 12 rfl rfl rfl (fun j hj => ?_) ?_
  · rcases j with _ | j <;> first | rfl | omega
  refine runS_call rfl rfl rfl rfl rfl rfl rfl hak ?_
  refine runS_x (I := inf) (J := jnf) ⟨false, false, [], 0, 0⟩ 9999 rfl (by repeat (first | exact obs_nil | refine obs_draw (by kernel_rfl) ?_ | refine obs_same ?_ | refine obs_and ?_ | refine obs_by (by (simp [inB] <;> omega)) ?_)) ?_
  refine runS_cond rfl (fun h => by cases h) (fun h => ?_)
  refine runS_x (I := inf) (J := jnf) ⟨false, false, [], 0, 0⟩ 9999 rfl (by repeat (first | exact obs_nil | refine obs_draw (by kernel_rfl) ?_ | refine obs_same ?_ | refine obs_and ?_ | refine obs_by (by (simp [inB] <;> omega)) ?_)) ?_
  refine runS_cut (fun τ ar => (τ 1 = .ptr 0 0 0 ∧ τ 5 = sv sg ∧ τ 6 = iv v.n.natAbs) ∧ ar = [.box 23 (vlE v), .gone]) (fun rest => ?_) ?_
  · refine runS_cond rfl (fun h2 => ?_) (fun h2 => ?_)
    · have hneg : v.n < 0 := of_decide_eq_true h2
      have e : sg = [45] := by rw [hsg]; exact if_pos h2
      have hwn : IntKind.wrap .i64 (0 - v.n) = (v.n.natAbs : Int) := by rw [w64 (by omega) (by omega)]; omega
      refine runS_x (I := inf) (J := jnf) ⟨false, false, [], 2, 0⟩ 9999 rfl (by repeat (first | exact obs_nil | refine obs_draw (by kernel_rfl) ?_ | refine obs_same ?_ | refine obs_and ?_ | refine obs_by (by (simp [inB] <;> omega)) ?_)) ?_
      exact rest _ _ ⟨⟨rfl, by rw [e]; rfl, congrArg iv hwn⟩, rfl⟩
    · have hneg : ¬ v.n < 0 := of_decide_eq_false h2
      have e : sg = [] := by rw [hsg, show decide (v.n < 0) = false from h2]; rfl
      have hwn : v.n = (v.n.natAbs : Int) := by omega
      refine runS_x (I := inf) (J := jnf) ⟨false, false, [], 2, 0⟩ 9999 rfl (by repeat (first | exact obs_nil | refine obs_draw (by kernel_rfl) ?_ | refine obs_same ?_ | refine obs_and ?_ | refine obs_by (by (simp [inB] <;> omega)) ?_)) ?_
      exact rest _ _ ⟨⟨rfl, by rw [e]; rfl, congrArg iv hwn⟩, rfl⟩
  rintro τ2 ar2 ⟨⟨g1, g5, g6⟩, rfl⟩
  refine runS_says 1 (by exact g1) (Says.refl _) ?_; refine runS_says 5 (by exact g5) (Says.refl _) ?_; refine runS_says 6 (by exact g6) (Says.refl _) ?_
  refine runS_x (I := inf) (J := jnf) ⟨false, false, [], 0, 0⟩ 9999 rfl (by repeat (first | exact obs_nil | refine obs_draw (by kernel_rfl) ?_ | refine obs_same ?_ | refine obs_and ?_ | refine obs_by (by (simp [inB] <;> omega)) ?_)) ?_
  refine runS_call rfl rfl rfl rfl rfl rfl rfl (r_Decimal v.n.natAbs (by omega)) ?_
  refine runS_x (I := inf) (J := jnf) ⟨false, false, [], 0, 0⟩ 9999 rfl (by repeat (first | exact obs_nil | refine obs_draw (by kernel_rfl) ?_ | refine obs_same ?_ | refine obs_and ?_ | refine obs_by (by (simp [inB] <;> omega)) ?_)) ?_
  have hd : (Lib.decDigits v.n.natAbs).length ≤ 15 := (dec_len (by decide)).2 (by omega)
  have hdp := dec_pos v.n.natAbs
  refine runS_cond rfl (fun h2 => by rw [hk] at h2; cases h2) (fun h2 => ?_)
  refine runS_x (I := inf) (J := jnf) ⟨false, false, [], 0, 0⟩ 9999 rfl (by repeat (first | exact obs_nil | refine obs_draw (by kernel_rfl) ?_ | refine obs_same ?_ | refine obs_and ?_ | refine obs_by (by (simp [inB] <;> omega)) ?_)) ?_
  refine runS_cond rfl (fun h2 => by rw [hk] at h2; cases h2) (fun h2 => ?_)
  refine runS_x (I := inf) (J := jnf) ⟨false, false, [], 0, 0⟩ 9999 rfl (by repeat (first | exact obs_nil | refine obs_draw (by kernel_rfl) ?_ | refine obs_same ?_ | refine obs_and ?_ | refine obs_by (by (simp [inB] <;> omega)) ?_)) ?_
  unfold textL
  rw [← hsg, show v.q.toNat = Q by omega, pad_dec]
  generalize Lib.decDigits v.n.natAbs = d at *
  have hz1 : (bl (ByteArray.mk #[48])).length = 1 := rfl
  refine runS_cond rfl (fun h => ?_) (fun h => ?_)
  · have hQ0 : 0 < Q := by
      have := of_decide_eq_true h
      omega
    refine runS_x (I := inf) (J := jnf) ⟨false, false, [], 0, 0⟩ 9999 rfl (by repeat (first | exact obs_nil | refine obs_draw (by kernel_rfl) ?_ | refine obs_same ?_ | refine obs_and ?_ | refine obs_by (by (simp [inB] <;> omega)) ?_)) ?_
    refine runS_while (fun (k : Nat) τ ar => (τ 1 = .ptr 0 0 0 ∧ τ 5 = sv sg ∧ τ 7 = sv (List.replicate k 48 ++ d)) ∧ ar = [.box 23 (vlE v), .gone] ∧ k ≤ Q + 1 - d.length) (fun k => Q + 1 - k) 0 ⟨⟨rfl, rfl, rfl⟩, rfl, Nat.zero_le _⟩ ?_
    rintro k τ3 ar3 ⟨⟨g1, g5, g7⟩, rfl, hk⟩ ih
    obtain ⟨E, hE⟩ : ∃ E : Str, List.replicate k 48 ++ d = E := ⟨_, rfl⟩
    have hEl : E.length = k + d.length := by rw [← hE]; simp
    rw [hE] at g7
    refine runS_says 1 (by exact g1) (Says.refl _) ?_; refine runS_says 5 (by exact g5) (Says.refl _) ?_; refine runS_says 7 (by exact g7) (Says.refl _) ?_
    refine runS_x (I := inf) (J := jnf) ⟨false, false, [], 0, 0⟩ 9999 rfl (by repeat (first | exact obs_nil | refine obs_draw (by kernel_rfl) ?_ | refine obs_same ?_ | refine obs_and ?_ | refine obs_by (by (simp [inB] <;> omega)) ?_)) ?_
    refine runS_cond rfl (fun h2 => ?_) (fun h2 => ?_)
    · have hlt : E.length ≤ Q := by
        have := of_decide_eq_true h2
        rw [blS] at this
        omega
      refine runS_x (I := inf) (J := jnf) ⟨false, false, [], 0, 0⟩ 9999 rfl (by repeat (first | exact obs_nil | refine obs_draw (by kernel_rfl) ?_ | refine obs_same ?_ | refine obs_and ?_ | refine obs_by (by (simp [inB, blS, hz1] <;> omega)) ?_)) ?_
      refine ih (k + 1) _ _ (by omega) ⟨⟨rfl, rfl, ?_⟩, rfl, by omega⟩
      rw [List.replicate_succ, List.cons_append, hE]
      rfl
    · have hge : ¬ E.length ≤ Q := by
        have := of_decide_eq_false h2
        rw [blS] at this
        omega
      have hpe : padS Q d = E := by
        rw [← hE]
        unfold padS
        rw [show Q + 1 - d.length = k by omega]
      have hEb : E.length ≤ 100 := by omega
      rw [hpe]
      have hwd : IntKind.wrap .i64 (((bl (bs E)).length : Int) - v.q) = ((E.length - Q : Nat) : Int) := by rw [blS, hQ, w64 (by omega) (by omega)]; omega
      have hwd2 : IntKind.wrap .i64 ((E.length : Int) - v.q) = ((E.length - Q : Nat) : Int) := hwd
      have hp1 : (part2 0 ((E.length - Q : Nat) : Int) E).length ≤ 100 := by unfold part2; simp; omega
      have hp2 : (part2 ((E.length - Q : Nat) : Int) (E.length : Int) E).length ≤ 100 := by unfold part2; simp; omega
      have hdot : (bl (ByteArray.mk #[46])).length = 1 := rfl
      refine runS_x (I := inf) (J := jnf) ⟨true, false, [], 0, 0⟩ 9999 rfl (by repeat (first | exact obs_nil | refine obs_draw (by kernel_rfl) ?_ | refine obs_same ?_ | refine obs_and ?_ | refine obs_by (by (simp [inB, blS, hwd2, hdot] <;> omega)) ?_)) ?_
      refine runS_ret (I := inf) 0 rfl (Nat.le_refl _) rfl .nil rfl ⟨?_, rfl⟩
      refine congrArg (fun z => Out.ret (.tup [sv z, iv 0])) ?_
      show sg ++ (((E.take (IntKind.wrap .i64 (((bl (bs E)).length : Int) - v.q)).toNat).drop (0 : Int).toNat ++ [46]) ++ (E.take ((E.length : Nat) : Int).toNat).drop (IntKind.wrap .i64 (((bl (bs E)).length : Int) - v.q)).toNat) = _
      rw [hwd]
      unfold pointS
      rw [Int.toNat_natCast, Int.toNat_natCast, if_pos hQ0, List.take_length]
      simp
  · have hQ0 : Q = 0 := by
      have := of_decide_eq_false h
      omega
    refine runS_x (I := inf) (J := jnf) ⟨false, false, [], 0, 0⟩ 9999 rfl (by repeat (first | exact obs_nil | refine obs_draw (by kernel_rfl) ?_ | refine obs_same ?_ | refine obs_and ?_ | refine obs_by (by (simp [inB, blS] <;> omega)) ?_)) ?_
    refine runS_ret (I := inf) 0 rfl (Nat.le_refl _) rfl .nil rfl ⟨?_, rfl⟩
    refine congrArg (fun z => Out.ret (.tup [sv z, iv 0])) ?_
    subst hQ0
    unfold pointS padS
    rw [if_neg (by decide), show 0 + 1 - d.length = 0 by omega]
    rfl
theorem and_mask {n Q : Nat} (hn : n < 4611686018427387904) (hQ : Q ≤ 60) : IntKind.wrap .i64 ((BitVec.ofInt IntKind.i64.bits (n : Int) &&& BitVec.ofInt IntKind.i64.bits ((2 ^ Q - 1 : Nat) : Int)).toNat : Int) = ((n % 2 ^ Q : Nat) : Int) := by
  have h2 : 2 ^ Q ≤ 2 ^ 60 := Nat.pow_le_pow_right (by decide) hQ
  have hp : 0 < 2 ^ Q := Nat.pow_pos (by decide)
  have e : (BitVec.ofInt IntKind.i64.bits (n : Int) &&& BitVec.ofInt IntKind.i64.bits ((2 ^ Q - 1 : Nat) : Int)).toNat = n % 2 ^ Q := by
    show (BitVec.ofInt 64 (n : Int) &&& BitVec.ofInt 64 ((2 ^ Q - 1 : Nat) : Int)).toNat = n % 2 ^ Q
    rw [BitVec.toNat_and, BitVec.ofInt_natCast, BitVec.ofInt_natCast, BitVec.toNat_ofNat, BitVec.toNat_ofNat, Nat.mod_eq_of_lt (by omega), Nat.mod_eq_of_lt (by omega), Nat.and_two_pow_sub_one_eq_mod]
  have hm : n % 2 ^ Q ≤ n := Nat.mod_le _ _
  rw [e, w64 (by omega) (by omega)]
theorem shr_nat (n Q : Nat) (hQ : Q ≤ 60) : ((n : Int)).fdiv (2 ^ (min ((Q : Int)).toNat IntKind.i64.bits)) = ((n / 2 ^ Q : Nat) : Int) := by
  have h1 : min ((Q : Int)).toNat IntKind.i64.bits = Q := by
    show min ((Q : Int)).toNat 64 = Q
    omega
  rw [h1]
  have h2 : ((2 : Int) ^ Q) = ((2 ^ Q : Nat) : Int) := by simp
  rw [h2]
  exact Int.ofNat_fdiv n (2 ^ Q) |>.symm
theorem r_Text1 (v : Vl) (hr : v.right = true) (hk : v.kind = 1) : CallT Tryz.prog 54 [.agg (vlE v)] [] (fun o A => o = .ret (.tup [sv (textL (decide (v.n < 0)) (v.n.natAbs * 5 ^ v.q.toNat) v.q.toNat), iv 0]) ∧ A = []) := by
  have hkn : numK v.kind = true := by rw [hk]; rfl
  obtain ⟨h1, h2, h3, h4, h5, h6⟩ := right_num hr hkn
  have hak := r_numbers none [v] (by simp)
  rw [ask_one hr hkn] at hak
  obtain ⟨Q, hQ⟩ : ∃ Q : Nat, v.q = (Q : Int) := ⟨v.q.toNat, by have := h3 (by omega); omega⟩
  have hQ31 : Q ≤ 31 := by have := h3 (by omega); omega
  obtain ⟨sg, hsg⟩ : ∃ sg : Str, sg = if decide (v.n < 0) = true then [45] else [] := ⟨_, rfl⟩
  have hsgl : sg.length ≤ 1 := by rw [hsg]; split <;> simp
  refine callS_body (n := 140) rfl rfl fun w ρ X => ?_
  refine runS_x (I := inf) (J := jnf) ⟨false, false, [], 0, 0⟩ 9999 rfl (by repeat (first | exact obs_nil | refine obs_draw (by kernel_rfl) ?_ | refine obs_same ?_ | refine obs_and ?_ | refine obs_by (by (simp [inB] <;> omega)) ?_)) ?_
  refine runS_tell 1 (vlR [v]) rfl (m' := 1) rfl (fun j hj => ?_) rfl ?_
  · rcases j with _ | j <;> first | rfl | omega
  refine runS_freeze 12 rfl rfl rfl (fun j hj => ?_) ?_
  · rcases j with _ | j <;> first | rfl | omega
  refine runS_call rfl rfl rfl rfl rfl rfl rfl hak ?_
  refine runS_x (I := inf) (J := jnf) ⟨false, false, [], 0, 0⟩ 9999 rfl (by repeat (first | exact obs_nil | refine obs_draw (by kernel_rfl) ?_ | refine obs_same ?_ | refine obs_and ?_ | refine obs_by (by (simp [inB] <;> omega)) ?_)) ?_
  refine runS_cond rfl (fun h => by cases h) (fun h => ?_)
  refine runS_x (I := inf) (J := jnf) ⟨false, false, [], 0, 0⟩ 9999 rfl (by repeat (first | exact obs_nil | refine obs_draw (by kernel_rfl) ?_ | refine obs_same ?_ | refine obs_and ?_ | refine obs_by (by (simp [inB] <;> omega)) ?_)) ?_
  refine runS_cut (fun τ ar => (τ 1 = .ptr 0 0 0 ∧ τ 5 = sv sg ∧ τ 6 = iv v.n.natAbs) ∧ ar = [.box 23 (vlE v), .gone]) (fun rest => ?_) ?_
  · refine runS_cond rfl (fun h2 => ?_) (fun h2 => ?_)
    · have hneg : v.n < 0 := of_decide_eq_true h2
      have e : sg = [45] := by rw [hsg]; exact if_pos h2
      have hwn : IntKind.wrap .i64 (0 - v.n) = (v.n.natAbs : Int) := by rw [w64 (by omega) (by omega)]; omega
      refine runS_x (I := inf) (J := jnf) ⟨false, false, [], 2, 0⟩ 9999 rfl (by repeat (first | exact obs_nil | refine obs_draw (by kernel_rfl) ?_ | refine obs_same ?_ | refine obs_and ?_ | refine obs_by (by (simp [inB] <;> omega)) ?_)) ?_
      exact rest _ _ ⟨⟨rfl, by rw [e]; rfl, congrArg iv hwn⟩, rfl⟩
    · have hneg : ¬ v.n < 0 := of_decide_eq_false h2
      have e : sg = [] := by rw [hsg, show decide (v.n < 0) = false from h2]; rfl
      have hwn : v.n = (v.n.natAbs : Int) := by omega
      refine runS_x (I := inf) (J := jnf) ⟨false, false, [], 2, 0⟩ 9999 rfl (by repeat (first | exact obs_nil | refine obs_draw (by kernel_rfl) ?_ | refine obs_same ?_ | refine obs_and ?_ | refine obs_by (by (simp [inB] <;> omega)) ?_)) ?_
      exact rest _ _ ⟨⟨rfl, by rw [e]; rfl, congrArg iv hwn⟩, rfl⟩
  rintro τ2 ar2 ⟨⟨g1, g5, g6⟩, rfl⟩
  refine runS_says 1 (by exact g1) (Says.refl _) ?_; refine runS_says 5 (by exact g5) (Says.refl _) ?_; refine runS_says 6 (by exact g6) (Says.refl _) ?_
  refine runS_x (I := inf) (J := jnf) ⟨false, false, [], 0, 0⟩ 9999 rfl (by repeat (first | exact obs_nil | refine obs_draw (by kernel_rfl) ?_ | refine obs_same ?_ | refine obs_and ?_ | refine obs_by (by (simp [inB] <;> omega)) ?_)) ?_
  refine runS_call rfl rfl rfl rfl rfl rfl rfl (r_Decimal v.n.natAbs (by omega)) ?_
  refine runS_x (I := inf) (J := jnf) ⟨false, false, [], 0, 0⟩ 9999 rfl (by repeat (first | exact obs_nil | refine obs_draw (by kernel_rfl) ?_ | refine obs_same ?_ | refine obs_and ?_ | refine obs_by (by (simp [inB] <;> omega)) ?_)) ?_
  refine runS_cond rfl (fun h2 => by rw [hk] at h2; cases h2) (fun h2 => ?_)
  refine runS_x (I := inf) (J := jnf) ⟨false, false, [], 0, 0⟩ 9999 rfl (by repeat (first | exact obs_nil | refine obs_draw (by kernel_rfl) ?_ | refine obs_same ?_ | refine obs_and ?_ | refine obs_by (by (simp [inB] <;> omega)) ?_)) ?_
  refine runS_cond rfl (fun h2 => ?_) (fun h2 => by rw [hk] at h2; cases h2)
  refine runS_x (I := inf) (J := jnf) ⟨false, false, [], 0, 0⟩ 9999 rfl (by repeat (first | exact obs_nil | refine obs_draw (by kernel_rfl) ?_ | refine obs_same ?_ | refine obs_and ?_ | refine obs_by (by (simp [inB] <;> omega)) ?_)) ?_
  have hd : (Lib.decDigits (v.n.natAbs / 2 ^ Q)).length ≤ 15 := (dec_len (by decide)).2 (Nat.lt_of_le_of_lt (Nat.div_le_self _ _) (by omega))
  have hsh := shr_nat v.n.natAbs Q (by omega)
  rw [← hQ] at hsh
  have cd := r_Decimal (v.n.natAbs / 2 ^ Q) (Nat.lt_of_le_of_lt (Nat.div_le_self _ _) (by omega))
  rw [← hsh] at cd
  have h0q : 0 ≤ v.q := by omega
  refine runS_x (I := inf) (J := jnf) ⟨false, false, [], 0, 0⟩ 9999 rfl (by repeat (first | exact obs_nil | refine obs_draw (by kernel_rfl) ?_ | refine obs_same ?_ | refine obs_and ?_ | refine obs_by (by (simp [inB, h0q] <;> omega)) ?_)) ?_
  refine runS_call rfl rfl rfl rfl rfl rfl rfl cd ?_
  refine runS_x (I := inf) (J := jnf) ⟨false, false, [], 0, 0⟩ 9999 rfl (by repeat (first | exact obs_nil | refine obs_draw (by kernel_rfl) ?_ | refine obs_same ?_ | refine obs_and ?_ | refine obs_by (by (simp [inB, h0q] <;> omega)) ?_)) ?_
  rw [text_dec, ← hsg, show v.q.toNat = Q by omega, bin_whole, bin_low]
  have hp2 : 0 < 2 ^ Q := Nat.pow_pos (by decide)
  have h231 : 2 ^ Q ≤ 2 ^ 31 := Nat.pow_le_pow_right (by decide) hQ31
  clear hsh cd hak
  generalize Lib.decDigits (v.n.natAbs / 2 ^ Q) = d at *
  obtain ⟨U, hU⟩ : ∃ U : Str, (if 0 < Q then d ++ [46] else d) = U := ⟨_, rfl⟩
  have hUl : U.length ≤ 16 := by
    rw [← hU]
    split
    · simp
      omega
    · omega
  have hdot : (bl (ByteArray.mk #[46])).length = 1 := rfl
  refine runS_cut (fun τ ar => (τ 1 = .ptr 0 0 0 ∧ τ 5 = sv sg ∧ τ 6 = iv v.n.natAbs ∧ τ 7 = sv U) ∧ ar = [.box 23 (vlE v), .gone]) (fun rest => ?_) ?_
  · refine runS_cond rfl (fun h => ?_) (fun h => ?_)
    · have hQ0 : 0 < Q := by
        have := of_decide_eq_true h
        omega
      rw [if_pos hQ0] at hU
      refine runS_x (I := inf) (J := jnf) ⟨false, false, [], 4, 0⟩ 9999 rfl (by repeat (first | exact obs_nil | refine obs_draw (by kernel_rfl) ?_ | refine obs_same ?_ | refine obs_and ?_ | refine obs_by (by (simp [inB, blS, hdot] <;> omega)) ?_)) ?_
      exact rest _ _ ⟨⟨rfl, rfl, rfl, by rw [← hU]; rfl⟩, rfl⟩
    · have hQ0 : ¬ 0 < Q := by
        have := of_decide_eq_false h
        omega
      rw [if_neg hQ0] at hU
      refine runS_x (I := inf) (J := jnf) ⟨false, false, [], 4, 0⟩ 9999 rfl (by repeat (first | exact obs_nil | refine obs_draw (by kernel_rfl) ?_ | refine obs_same ?_ | refine obs_and ?_ | refine obs_by (by (simp [inB] <;> omega)) ?_)) ?_
      exact rest _ _ ⟨⟨rfl, rfl, rfl, by rw [← hU]; rfl⟩, rfl⟩
  rintro τ3 ar3 ⟨⟨g1, g5, g6, g7⟩, rfl⟩
  refine runS_says 1 (by exact g1) (Says.refl _) ?_; refine runS_says 5 (by exact g5) (Says.refl _) ?_; refine runS_says 6 (by exact g6) (Says.refl _) ?_; refine runS_says 7 (by exact g7) (Says.refl _) ?_
  have hmin : min v.q.toNat IntKind.i64.bits = Q := by
    show min v.q.toNat 64 = Q
    omega
  have hmask : IntKind.wrap .i64 (IntKind.wrap .i64 (1 * 2 ^ (min v.q.toNat IntKind.i64.bits)) - 1) = ((2 ^ Q - 1 : Nat) : Int) := by
    rw [hmin, show (1 : Int) * 2 ^ Q = ((2 ^ Q : Nat) : Int) by simp]
    rw [w64 (x := ((2 ^ Q : Nat) : Int)) (by omega) (by omega), w64 (by omega) (by omega)]
    omega
  have hr0 : v.n.natAbs % 2 ^ Q * 10 ^ 0 % 2 ^ Q = v.n.natAbs % 2 ^ Q := by rw [Nat.pow_zero, Nat.mul_one, Nat.mod_mod]
  have hm0 := and_mask (n := v.n.natAbs) (Q := Q) (by omega) (by omega)
  generalize hre : v.n.natAbs % 2 ^ Q = r at *
  refine runS_x (I := inf) (J := jnf) ⟨false, false, [], 0, 0⟩ 9999 rfl (by repeat (first | exact obs_nil | refine obs_draw (by kernel_rfl) ?_ | refine obs_same ?_ | refine obs_and ?_ | refine obs_by (by (simp [inB, h0q] <;> omega)) ?_)) ?_
  refine runS_while (fun (i : Nat) τ ar => (τ 1 = .ptr 0 0 0 ∧ τ 5 = sv sg ∧ τ 7 = sv (U ++ low i (r * 10 ^ i / 2 ^ Q)) ∧ τ 9 = iv (r * 10 ^ i % 2 ^ Q : Nat) ∧ τ 10 = iv i) ∧ ar = [.box 23 (vlE v), .gone] ∧ i ≤ Q) (fun i => Q - i) 0 ⟨⟨rfl, rfl, by rw [show low 0 (r * 10 ^ 0 / 2 ^ Q) = [] from rfl, List.append_nil]; rfl, by rw [hr0, ← hm0, ← hmask]; rfl, rfl⟩, rfl, Nat.zero_le _⟩ ?_
  rintro i τ4 ar4 ⟨⟨g1, g5, g7, g9, g10⟩, rfl, hi⟩ ih
  obtain ⟨b1, b2, b3⟩ := bin_step r i (2 ^ Q) hp2
  have hRl : r * 10 ^ i % 2 ^ Q < 2 ^ Q := Nat.mod_lt _ hp2
  have hll := low_len i (r * 10 ^ i / 2 ^ Q)
  have hls := fun hd => low_snoc (k := i) (q := r * 10 ^ i / 2 ^ Q) (d := 10 * (r * 10 ^ i % 2 ^ Q) / 2 ^ Q) hd
  have hls := hls b3
  rw [← b1] at hls
  generalize r * 10 ^ i % 2 ^ Q = R at *
  generalize hdd : 10 * R / 2 ^ Q = dd at *
  generalize hlw : low i (r * 10 ^ i / 2 ^ Q) = w at *
  obtain ⟨T, hT⟩ : ∃ T : Str, U ++ w = T := ⟨_, rfl⟩
  have hTl : T.length = U.length + i := by rw [← hT, List.length_append, hll]
  rw [hT] at g7
  refine runS_says 1 (by exact g1) (Says.refl _) ?_; refine runS_says 5 (by exact g5) (Says.refl _) ?_; refine runS_says 7 (by exact g7) (Says.refl _) ?_; refine runS_says 9 (by exact g9) (Says.refl _) ?_; refine runS_says 10 (by exact g10) (Says.refl _) ?_
  refine runS_x (I := inf) (J := jnf) ⟨false, false, [], 0, 0⟩ 9999 rfl (by repeat (first | exact obs_nil | refine obs_draw (by kernel_rfl) ?_ | refine obs_same ?_ | refine obs_and ?_ | refine obs_by (by (simp [inB] <;> omega)) ?_)) ?_
  refine runS_cond rfl (fun h => ?_) (fun h => ?_)
  · have hlt : i < Q := by
      have := of_decide_eq_true h
      omega
    have hw1 : IntKind.wrap .i64 ((i : Int) + 1) = ((i + 1 : Nat) : Int) := by rw [w64 (by omega) (by omega)]; rfl
    have hw10 : IntKind.wrap .i64 (10 * (R : Int)) = ((10 * R : Nat) : Int) := by rw [w64 (by omega) (by omega)]; omega
    have hsh := shr_nat (10 * R) Q (by omega)
    rw [hdd, ← hQ, ← hw10] at hsh
    have hd8 : IntKind.wrap .u8 (IntKind.wrap .i64 (48 + (IntKind.wrap .i64 (10 * (R : Int))).fdiv (2 ^ (min v.q.toNat IntKind.i64.bits)))) = 48 + (dd : Int) := by
      rw [hsh, w64 (by omega) (by omega), w8 (by omega) (by omega)]
    have hm1 := and_mask (n := 10 * R) (Q := Q) (by omega) (by omega)
    rw [← hw10, ← hmask] at hm1
    have htl := text_len 1
    refine runS_x (I := inf) (J := jnf) ⟨false, false, [], 0, 0⟩ 9999 rfl (by repeat (first | exact obs_nil | refine obs_draw (by kernel_rfl) ?_ | refine obs_same ?_ | refine obs_and ?_ | refine obs_by (by (simp [inB, blS, htl, h0q] <;> omega)) ?_)) ?_
    refine runS_drop 2 (Nat.zero_le _) rfl (by repeat (first | exact .nil | refine .row (fun j hj => rfl) ?_ | refine .box rfl ?_ | refine .fam (fun k j hk hj => rfl) ?_ | refine .loop (scrub_under _ _) ?_ | refine .dfr ?_ | refine .gone ?_ | refine .map (fun p hp => by (obtain ⟨k, _, rfl⟩ := List.mem_map.1 hp; rfl)) ?_)) rfl rfl rfl (by repeat (first | exact .nil | refine .cons rfl rfl rfl (scrub_under _ _) ?_)) ?_
    refine ih (i + 1) _ _ (by omega) ⟨⟨rfl, rfl, ?_, ?_, congrArg iv hw1⟩, rfl, hlt⟩
    · rw [hls, ← List.append_assoc, hT]
      refine congrArg (fun z : ByteArray => AV.val (.string z)) ?_
      rw [text_one _ dd b3 hd8 _ rfl]
      rfl
    · rw [b2]
      exact congrArg iv hm1
  · have hie : i = Q := by
      have := of_decide_eq_false h
      omega
    subst hie
    refine runS_x (I := inf) (J := jnf) ⟨false, false, [], 0, 0⟩ 9999 rfl (by repeat (first | exact obs_nil | refine obs_draw (by kernel_rfl) ?_ | refine obs_same ?_ | refine obs_and ?_ | refine obs_by (by (simp [inB, blS] <;> omega)) ?_)) ?_
    refine runS_ret (I := inf) 0 rfl (Nat.le_refl _) rfl .nil rfl ⟨?_, rfl⟩
    refine congrArg (fun z => Out.ret (.tup [sv z, iv 0])) ?_
    show sg ++ T = _
    rw [hlw, ← hT, ← hU]
    by_cases h0 : 0 < i
    · rw [if_pos h0, if_pos h0]
      simp
    · rw [if_neg h0, if_neg h0]
      obtain rfl : i = 0 := by omega
      have : w = [] := List.length_eq_zero_iff.1 hll
      rw [this]
end Go.Iron.Tryz

/- The digits' seat: values of a type, zeros of a type (program and reference). -/
namespace Go.Iron.Tryz
open Go.Proofs Go.RowKit Go.Iron.Tok Go.Iron.Dg

def hasK (t : Typ) (v : Vl) : Bool :=
  if t.kind = 1 ∨ t.kind = 2 then (v.q == t.q) && decide (v.n.natAbs < bsN t.kind ^ t.p.toNat)
  else if t.kind = 3 then decide ((frm v.n.natAbs).length ≤ t.p.toNat)
  else if t.kind = 4 ∨ t.kind = 5 then ((v.s.length : Int) == t.n) || t.vary && decide ((v.s.length : Int) < t.n)
  else true
end Go.Iron.Tryz

/- The digits' seat: zeros of a type; the law of valid values. -/
namespace Go.Iron.Tryz
open Go.Proofs Go.RowKit Go.Iron.Tok Go.Iron.Dg

end Go.Iron.Tryz

/- The digits' seat: the law of valid values. -/
namespace Go.Iron.Tryz
open Go.Proofs Go.RowKit Go.Iron.Tok Go.Iron.Dg

theorem l_light (v : Vl) (t : Typ) : CallT Tryz.prog 29 [.agg (vlE v), .agg (typE t)] [] (fun o A => o = .ret (bv (decide (v.s.length ≤ 600) && decide (t.pic.length ≤ 300))) ∧ A = []) := by
  refine callS_body (n := 15) rfl rfl fun w ρ X => ?_
  refine runS_x (I := inf) (J := jnf) ⟨false, false, [], 0, 0⟩ 9999 rfl (by repeat (first | exact obs_nil | refine obs_draw (by kernel_rfl) ?_ | refine obs_same ?_ | refine obs_and ?_ | refine obs_by (by (simp [inB] <;> omega)) ?_)) ?_
  refine runS_ret (I := inf) 0 rfl (Nat.le_refl _) rfl .nil rfl ⟨?_, rfl⟩
  refine congrArg (fun x => Out.ret (bv x)) ?_
  show (if decide (((bl (bs v.s)).length : Int) ≤ 600) = true then decide (((bl (bs t.pic)).length : Int) ≤ 300) else false) = _
  rw [blS, blS, show decide ((v.s.length : Int) ≤ 600) = decide (v.s.length ≤ 600) by rw [Bool.eq_iff_iff, decide_eq_true_iff, decide_eq_true_iff]; omega, show decide ((t.pic.length : Int) ≤ 300) = decide (t.pic.length ≤ 300) by rw [Bool.eq_iff_iff, decide_eq_true_iff, decide_eq_true_iff]; omega]
  cases decide (v.s.length ≤ 600) <;> rfl
end Go.Iron.Tryz
