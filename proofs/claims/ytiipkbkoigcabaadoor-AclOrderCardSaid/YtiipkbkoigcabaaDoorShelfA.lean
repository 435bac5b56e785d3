/-
  DERIVED: THE SHELF's CONTRACTS AT THIS DUMP, IN PLAIN WORDS (tools/lay-plain.mjs out of 'TrydShelf.lean', which tools/lay-shelf.mjs wrote): THE SAME DECLARATIONS UNDER THE SAME NAMES: 'import', 'namespace', 'open', 'def', 'theorem' AND NOTHING ELSE: no command of the shelf's: FOR A HAND-IN. Each laying: the table of numbers ('.._ren') and one theorem, a field a fact of the dump's own or the kernel's comparison; each contract: ONE APPLICATION.
-/
import Derived.Shelf.Spec.SlicesGrow
import Derived.Shelf.Strings.SlTrimAscii
import Derived.Shelf.Strings.Builder1
import Derived.Shelf.Strings.Builder2
import Derived.Shelf.Strings.OnBuilder
import Derived.Shelf.Strings.Trim
import Derived.Shelf.Small.Utf8
import Derived.Shelf.Small.Strs
import Derived.Shelf.Small.Wraps
import Derived.Shelf.Utf8.RuneCount
import Derived.Shelf.Strings.Search1
import Derived.Shelf.Strings.Search2
import Derived.Shelf.Strings.Search3
import Derived.Shelf.Strings.Cut
import Derived.Shelf.Strings.Count
import Derived.Shelf.LaysM
import Derived.Shelf.Strings.Shaped
import Derived.Shelf.Strings.Prefix
import Derived.Shelf.Strings.Split
import Derived.Shelf.Strings.SplitShaped
import Derived.Shelf.Unicode.Decode
import Derived.Shelf.Strings.Runes
import Derived.Shelf.Strings.RuneCount
import Derived.Shelf.Strings.AsciiSet
import Derived.Shelf.Strings.Explode
import Derived.Shelf.Unicode.DecodeSlow
import Derived.Shelf.Unicode.DecodeAny
import Derived.Shelf.Strings.FieldsFuncAny
import Derived.Shelf.Slices.Turned
import Derived.Ground.Names2Prog
import Derived.Shelf.Slices.SearchI
import Derived.Test.YtiipkbkoigcabaaDoorProg
namespace Go.Proofs
open Go.Shelf
def Tryd.grow244_ren : Go.Shelf.Ren := ⟨fun | 4 => 244 | n => n, fun | 22 => 141 | 25 => 146 | 3 => 3 | 4 => 4 | 9 => 9 | 20 => 20 | 0 => 0 | n => n, fun | n => n⟩
theorem Tryd.grow244 : Go.Proofs.Lays8.n4 Tryd.prog Tryd.grow244_ren := {
  mixed := by kernel_rfl
  f4 := ⟨Tryd.f244.name, by decide, Tryd.func244.trans (congrArg some (by kernel_rfl))⟩
  t0 := Tryd.underlying0
  a0 := Tryd.isAgg0
  z0 := Tryd.sizeOf0
  v0 := Tryd.zeroValue0
  t3 := Tryd.underlying3
  a3 := Tryd.isAgg3
  z3 := Tryd.sizeOf3
  v3 := Tryd.zeroValue3
  t4 := Tryd.underlying4
  a4 := Tryd.isAgg4
  z4 := Tryd.sizeOf4
  v4 := Tryd.zeroValue4
  t9 := Tryd.underlying9
  a9 := Tryd.isAgg9
  z9 := Tryd.sizeOf9
  v9 := Tryd.zeroValue9
  t20 := Tryd.underlying20
  a20 := Tryd.isAgg20
  z20 := Tryd.sizeOf20
  v20 := Tryd.zeroValue20
  t22 := Tryd.underlying141
  a22 := Tryd.isAgg141
  z22 := Tryd.sizeOf141
  v22 := Tryd.zeroValue141 }
def Tryd.lays161_ren : Go.Shelf.Ren := ⟨fun | 161 => 267 | 231 => 279 | 227 => 280 | 233 => 281 | 235 => 282 | 228 => 288 | 197 => 253 | 151 => 289 | 260 => 269 | 152 => 290 | 137 => 291 | 119 => 292 | 224 => 272 | 225 => 271 | 217 => 270 | 266 => 283 | n => n, fun | 9 => 9 | 4 => 4 | 3 => 3 | 5 => 5 | 117 => 385 | 116 => 384 | 0 => 0 | 124 => 388 | 105 => 365 | 21 => 21 | 119 => 389 | 46 => 56 | 139 => 392 | 138 => 391 | n => n, fun | 3 => 2 | 4 => 3 | n => n⟩
theorem Tryd.lays161 : Go.Proofs.Lays.n161 Tryd.prog Tryd.lays161_ren := {
  mixed := by kernel_rfl
  f119 := Tryd.func292.trans (congrArg some (by kernel_rfl))
  f137 := Tryd.func291.trans (congrArg some (by kernel_rfl))
  f151 := Tryd.func289.trans (congrArg some (by kernel_rfl))
  f152 := Tryd.func290.trans (congrArg some (by kernel_rfl))
  f161 := Tryd.func267.trans (congrArg some (by kernel_rfl))
  f197 := Tryd.func253.trans (congrArg some (by kernel_rfl))
  f217 := Tryd.func270.trans (congrArg some (by kernel_rfl))
  f224 := Tryd.func272.trans (congrArg some (by kernel_rfl))
  f225 := Tryd.func271.trans (congrArg some (by kernel_rfl))
  f227 := Tryd.func280.trans (congrArg some (by kernel_rfl))
  f228 := Tryd.func288.trans (congrArg some (by kernel_rfl))
  f231 := Tryd.func279.trans (congrArg some (by kernel_rfl))
  f233 := Tryd.func281.trans (congrArg some (by kernel_rfl))
  f235 := Tryd.func282.trans (congrArg some (by kernel_rfl))
  f260 := Tryd.func269.trans (congrArg some (by kernel_rfl))
  f266 := Tryd.func283.trans (congrArg some (by kernel_rfl))
  t0 := Tryd.underlying0
  a0 := Tryd.isAgg0
  z0 := Tryd.sizeOf0
  v0 := Tryd.zeroValue0
  t3 := Tryd.underlying3
  a3 := Tryd.isAgg3
  z3 := Tryd.sizeOf3
  v3 := Tryd.zeroValue3
  t4 := Tryd.underlying4
  a4 := Tryd.isAgg4
  z4 := Tryd.sizeOf4
  v4 := Tryd.zeroValue4
  t5 := Tryd.underlying5
  a5 := Tryd.isAgg5
  z5 := Tryd.sizeOf5
  v5 := Tryd.zeroValue5
  t9 := Tryd.underlying9
  a9 := Tryd.isAgg9
  z9 := Tryd.sizeOf9
  v9 := Tryd.zeroValue9
  t21 := Tryd.underlying21
  a21 := Tryd.isAgg21
  z21 := Tryd.sizeOf21
  v21 := Tryd.zeroValue21
  t46 := Tryd.underlying56
  a46 := Tryd.isAgg56
  z46 := Tryd.sizeOf56
  v46 := Tryd.zeroValue56
  t105 := Tryd.underlying365
  a105 := Tryd.isAgg365
  z105 := Tryd.sizeOf365
  v105 := Tryd.zeroValue365
  t116 := Tryd.underlying384
  a116 := Tryd.isAgg384
  z116 := Tryd.sizeOf384
  t117 := Tryd.underlying385
  a117 := Tryd.isAgg385
  z117 := Tryd.sizeOf385
  v117 := Tryd.zeroValue385
  t119 := Tryd.underlying389
  a119 := Tryd.isAgg389
  z119 := Tryd.sizeOf389
  t124 := Tryd.underlying388
  a124 := Tryd.isAgg388
  z124 := Tryd.sizeOf388
  v124 := Tryd.zeroValue388
  t138 := Tryd.underlying391
  a138 := Tryd.isAgg391
  z138 := Tryd.sizeOf391
  v138 := Tryd.zeroValue391
  t139 := Tryd.underlying392
  a139 := Tryd.isAgg392
  z139 := Tryd.sizeOf392
  v139 := Tryd.zeroValue392
  g3 := by kernel_rfl
  g4 := by kernel_rfl }
def Tryd.lays146_ren : Go.Shelf.Ren := ⟨fun | 146 => 245 | 221 => 265 | 268 => 276 | 138 => 277 | 143 => 254 | 195 => 285 | 197 => 253 | 218 => 286 | 219 => 255 | 260 => 269 | 217 => 270 | 225 => 271 | 224 => 272 | 267 => 273 | 266 => 283 | 314 => 284 | n => n, fun | 9 => 9 | 31 => 148 | 3 => 3 | 4 => 4 | 0 => 0 | 105 => 365 | 21 => 21 | 5 => 5 | 46 => 56 | 119 => 389 | 139 => 392 | 138 => 391 | 146 => 393 | 51 => 23 | n => n, fun | 1 => 1 | 3 => 2 | 4 => 3 | n => n⟩
theorem Tryd.lays146 : Go.Proofs.Lays.n146 Tryd.prog Tryd.lays146_ren := {
  mixed := by kernel_rfl
  f138 := Tryd.func277.trans (congrArg some (by kernel_rfl))
  f143 := Tryd.func254.trans (congrArg some (by kernel_rfl))
  f146 := Tryd.func245.trans (congrArg some (by kernel_rfl))
  f195 := Tryd.func285.trans (congrArg some (by kernel_rfl))
  f197 := Tryd.func253.trans (congrArg some (by kernel_rfl))
  f217 := Tryd.func270.trans (congrArg some (by kernel_rfl))
  f218 := Tryd.func286.trans (congrArg some (by kernel_rfl))
  f219 := Tryd.func255.trans (congrArg some (by kernel_rfl))
  f221 := Tryd.func265.trans (congrArg some (by kernel_rfl))
  f224 := Tryd.func272.trans (congrArg some (by kernel_rfl))
  f225 := Tryd.func271.trans (congrArg some (by kernel_rfl))
  f260 := Tryd.func269.trans (congrArg some (by kernel_rfl))
  f266 := Tryd.func283.trans (congrArg some (by kernel_rfl))
  f267 := Tryd.func273.trans (congrArg some (by kernel_rfl))
  f268 := Tryd.func276.trans (congrArg some (by kernel_rfl))
  f314 := Tryd.func284.trans (congrArg some (by kernel_rfl))
  t0 := Tryd.underlying0
  a0 := Tryd.isAgg0
  z0 := Tryd.sizeOf0
  v0 := Tryd.zeroValue0
  t3 := Tryd.underlying3
  a3 := Tryd.isAgg3
  z3 := Tryd.sizeOf3
  v3 := Tryd.zeroValue3
  t4 := Tryd.underlying4
  a4 := Tryd.isAgg4
  z4 := Tryd.sizeOf4
  v4 := Tryd.zeroValue4
  t5 := Tryd.underlying5
  a5 := Tryd.isAgg5
  z5 := Tryd.sizeOf5
  v5 := Tryd.zeroValue5
  t9 := Tryd.underlying9
  a9 := Tryd.isAgg9
  z9 := Tryd.sizeOf9
  v9 := Tryd.zeroValue9
  t21 := Tryd.underlying21
  a21 := Tryd.isAgg21
  z21 := Tryd.sizeOf21
  v21 := Tryd.zeroValue21
  t31 := Tryd.underlying148
  a31 := Tryd.isAgg148
  z31 := Tryd.sizeOf148
  v31 := Tryd.zeroValue148
  t46 := Tryd.underlying56
  a46 := Tryd.isAgg56
  z46 := Tryd.sizeOf56
  v46 := Tryd.zeroValue56
  t51 := Tryd.underlying23
  a51 := Tryd.isAgg23
  z51 := Tryd.sizeOf23
  v51 := Tryd.zeroValue23
  t105 := Tryd.underlying365
  a105 := Tryd.isAgg365
  z105 := Tryd.sizeOf365
  v105 := Tryd.zeroValue365
  t119 := Tryd.underlying389
  a119 := Tryd.isAgg389
  z119 := Tryd.sizeOf389
  t138 := Tryd.underlying391
  a138 := Tryd.isAgg391
  z138 := Tryd.sizeOf391
  v138 := Tryd.zeroValue391
  t139 := Tryd.underlying392
  a139 := Tryd.isAgg392
  z139 := Tryd.sizeOf392
  v139 := Tryd.zeroValue392
  t146 := Tryd.underlying393
  a146 := Tryd.isAgg393
  z146 := Tryd.sizeOf393
  v146 := Tryd.zeroValue393
  g1 := by kernel_rfl
  g3 := by kernel_rfl
  g4 := by kernel_rfl }
open Go.RowKit Go.Lib in
/-- strings.Split. (LAID: no walk: one application.) -/
theorem Tryd.strings_Split (s sep : ByteArray) (m : Int) (w : World) (hs : s.size < 4294967281) (hm : w.cell? ⟨1, 0, none⟩ = some (.int .i64 m)) (h1 : 1 ≤ sep.size) :
    Calls Tryd.prog 245 #[.string s, .string sep] w fun e w' =>
      e = .returned (.slice (some ⟨w.heap.size, 0, none⟩) (Lib.countB s sep + 1) (Lib.countB s sep + 1)) ∧ w' = w.alloc (.cells ((Lib.splitB sep 0 (Lib.countB s sep) s).map Value.string).toArray 9) := Any.strings_Split Tryd.lays146 (by kernel_rfl) s sep m w hs hm h1
def Tryd.laysM146_ren : Go.Shelf.Ren := ⟨fun | 146 => 245 | 221 => 265 | 268 => 276 | 138 => 277 | 143 => 254 | 195 => 285 | 197 => 253 | 218 => 286 | 219 => 255 | 260 => 269 | 217 => 270 | 225 => 271 | 224 => 272 | 267 => 273 | 266 => 283 | 314 => 284 | n => n, fun | 9 => 9 | 31 => 148 | 3 => 3 | 4 => 4 | 0 => 0 | 105 => 365 | 21 => 21 | 5 => 5 | 46 => 56 | 119 => 389 | 139 => 392 | 138 => 391 | 146 => 393 | 51 => 23 | n => n, fun | 1 => 1 | 3 => 2 | 4 => 3 | n => n⟩
theorem Tryd.laysM146 : Go.Proofs.LaysM.n146 Tryd.prog Tryd.laysM146_ren := {
  mixed := by kernel_rfl
  f138 := Tryd.func277.trans (congrArg some (by kernel_rfl))
  f143 := Tryd.func254.trans (congrArg some (by kernel_rfl))
  f146 := Tryd.func245.trans (congrArg some (by kernel_rfl))
  f195 := Tryd.func285.trans (congrArg some (by kernel_rfl))
  f197 := Tryd.func253.trans (congrArg some (by kernel_rfl))
  f217 := Tryd.func270.trans (congrArg some (by kernel_rfl))
  f218 := Tryd.func286.trans (congrArg some (by kernel_rfl))
  f219 := Tryd.func255.trans (congrArg some (by kernel_rfl))
  f221 := Tryd.func265.trans (congrArg some (by kernel_rfl))
  f224 := Tryd.func272.trans (congrArg some (by kernel_rfl))
  f225 := Tryd.func271.trans (congrArg some (by kernel_rfl))
  f260 := Tryd.func269.trans (congrArg some (by kernel_rfl))
  f266 := Tryd.func283.trans (congrArg some (by kernel_rfl))
  f267 := Tryd.func273.trans (congrArg some (by kernel_rfl))
  f268 := Tryd.func276.trans (congrArg some (by kernel_rfl))
  f314 := Tryd.func284.trans (congrArg some (by kernel_rfl))
  t0 := Tryd.underlying0
  a0 := Tryd.isAgg0
  z0 := Tryd.sizeOf0
  v0 := Tryd.zeroValue0
  t3 := Tryd.underlying3
  a3 := Tryd.isAgg3
  z3 := Tryd.sizeOf3
  v3 := Tryd.zeroValue3
  t4 := Tryd.underlying4
  a4 := Tryd.isAgg4
  z4 := Tryd.sizeOf4
  v4 := Tryd.zeroValue4
  t5 := Tryd.underlying5
  a5 := Tryd.isAgg5
  z5 := Tryd.sizeOf5
  v5 := Tryd.zeroValue5
  t9 := Tryd.underlying9
  a9 := Tryd.isAgg9
  z9 := Tryd.sizeOf9
  v9 := Tryd.zeroValue9
  t21 := Tryd.underlying21
  a21 := Tryd.isAgg21
  z21 := Tryd.sizeOf21
  v21 := Tryd.zeroValue21
  t31 := Tryd.underlying148
  a31 := Tryd.isAgg148
  z31 := Tryd.sizeOf148
  v31 := Tryd.zeroValue148
  t46 := Tryd.underlying56
  a46 := Tryd.isAgg56
  z46 := Tryd.sizeOf56
  v46 := Tryd.zeroValue56
  t51 := Tryd.underlying23
  a51 := Tryd.isAgg23
  z51 := Tryd.sizeOf23
  v51 := Tryd.zeroValue23
  t105 := Tryd.underlying365
  a105 := Tryd.isAgg365
  z105 := Tryd.sizeOf365
  v105 := Tryd.zeroValue365
  t119 := Tryd.underlying389
  a119 := Tryd.isAgg389
  z119 := Tryd.sizeOf389
  t138 := Tryd.underlying391
  a138 := Tryd.isAgg391
  z138 := Tryd.sizeOf391
  v138 := Tryd.zeroValue391
  t139 := Tryd.underlying392
  a139 := Tryd.isAgg392
  z139 := Tryd.sizeOf392
  v139 := Tryd.zeroValue392
  t146 := Tryd.underlying393
  a146 := Tryd.isAgg393
  z146 := Tryd.sizeOf393
  v146 := Tryd.zeroValue393
  g1 := by kernel_rfl
  g3 := by kernel_rfl
  g4 := by kernel_rfl
  i0 := by kernel_rfl
  i3 := by kernel_rfl
  i4 := by kernel_rfl
  i5 := by kernel_rfl
  i9 := by kernel_rfl
  i21 := by kernel_rfl
  i31 := by kernel_rfl
  i46 := by kernel_rfl
  i51 := by kernel_rfl
  i105 := by kernel_rfl
  i138 := by kernel_rfl
  i139 := by kernel_rfl
  i146 := by kernel_rfl
  m1 := by kernel_rfl
  s1_3 := fun w h => Go.Proofs.cell_of_shapedOpen_int (zero := #[.int .i64 0]) (t := 3) h (of_decide_eq_true (by kernel_rfl)) (by kernel_rfl) rfl (by kernel_rfl) (by kernel_rfl) Tryd.underlying3
  m3 := by kernel_rfl
  m4 := by kernel_rfl }
open Go.RowKit Go.Lib in
/-- strings.Split, sep not empty. (LAID: no walk: one application.) -/
theorem Tryd.strings_Split_shaped (s sep : ByteArray) (w : World) (h : w.ShapedOpen Tryd.prog) (hs : s.size < 4294967281) (h1 : 1 ≤ sep.size) :
    Calls Tryd.prog 245 #[.string s, .string sep] w fun e w' =>
      e = .returned (.slice (some ⟨w.heap.size, 0, none⟩) (Lib.countB s sep + 1) (Lib.countB s sep + 1)) ∧ w' = w.alloc (.cells ((Lib.splitB sep 0 (Lib.countB s sep) s).map Value.string).toArray 9) := Any.strings_Split_shaped Tryd.laysM146 s sep w h hs h1
open Go.RowKit Go.Lib in
theorem Tryd.strings_TrimLeft_laid (s cutset : ByteArray) (w : World) (h116 : (Tryd.prog.info? (Tryd.lays161_ren.t 116)).map (fun i => (i.zero, i.size)) = some (some (.agg (Array.replicate 256 (.bool false))), 256)) (hcs : cutset.size < 4294967281) (hascii : ∀ (j : Nat) b, cutset.data.toList[j]? = some b → b.toNat < 128) :
    Calls Tryd.prog 267 #[.string s, .string cutset] w fun e w' => e = .returned (.string ⟨(Lib.trimLeftS s.data.toList cutset.data.toList).toArray⟩) ∧ Below w.heap.size w w' := Any.strings_TrimLeft_laid Tryd.lays161 h116 s cutset w hcs hascii
end Go.Proofs
