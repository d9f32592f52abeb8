/- Contracts of the program's functions, and the plain law behind them. No condition beyond those in each statement. -/
import Derived.Shelf.Strings.Search1
import Derived.Shelf.Strings.Search2
import Derived.Shelf.Strings.Search3
import Derived.Test.YtipiambcccfhmaaGreatDoorProg
import Derived.Test.YtipiambcccfhmaaGreatDoorAsAll1
import Derived.Test.YtipiambcccfhmaaGreatDoorEvAll6
set_option linter.unusedSimpArgs false
set_option linter.unusedVariables false
set_option linter.unusedSectionVars false
/- Texts in texts, by the shelf's contract. THE SHELF's CONTRACTS AT THIS DUMP, IN PLAIN WORDS (tools/lay-plain.mjs out of 'AsShIn.lean', which tools/lay-shelf.mjs wrote): THE SAME DECLARATIONS UNDER THE SAME NAMES: 'import', 'namespace', 'open', 'def', 'theorem' AND NOTHING ELSE: no command of the shelf's: FOR A HAND-IN. Each laying: the table of numbers ('.._ren') and one theorem, a field a fact of the dump's own or the kernel's comparison; each contract: ONE APPLICATION. -/
namespace Go.Proofs
open Go.Shelf
def Tryz.lays144_ren : Go.Shelf.Ren := ⟨fun | 144 => 114 | 143 => 137 | 219 => 149 | 217 => 157 | 225 => 158 | 224 => 159 | 267 => 160 | 266 => 173 | 314 => 174 | n => n, fun | 9 => 9 | 4 => 4 | 3 => 3 | 5 => 5 | 46 => 65 | 146 => 115 | 51 => 114 | n => n, fun | 1 => 1 | n => n⟩
theorem Tryz.lays144 : Go.Proofs.Lays.n144 Tryz.prog Tryz.lays144_ren := {
  mixed := by kernel_rfl
  f143 := Tryz.func137.trans (congrArg some (by kernel_rfl))
  f144 := Tryz.func114.trans (congrArg some (by kernel_rfl))
  f217 := Tryz.func157.trans (congrArg some (by kernel_rfl))
  f219 := Tryz.func149.trans (congrArg some (by kernel_rfl))
  f224 := Tryz.func159.trans (congrArg some (by kernel_rfl))
  f225 := Tryz.func158.trans (congrArg some (by kernel_rfl))
  f266 := Tryz.func173.trans (congrArg some (by kernel_rfl))
  f267 := Tryz.func160.trans (congrArg some (by kernel_rfl))
  f314 := Tryz.func174.trans (congrArg some (by kernel_rfl))
  t3 := Tryz.underlying3
  a3 := Tryz.isAgg3
  z3 := Tryz.sizeOf3
  v3 := Tryz.zeroValue3
  t4 := Tryz.underlying4
  a4 := Tryz.isAgg4
  z4 := Tryz.sizeOf4
  v4 := Tryz.zeroValue4
  t5 := Tryz.underlying5
  a5 := Tryz.isAgg5
  z5 := Tryz.sizeOf5
  v5 := Tryz.zeroValue5
  t9 := Tryz.underlying9
  a9 := Tryz.isAgg9
  z9 := Tryz.sizeOf9
  v9 := Tryz.zeroValue9
  t46 := Tryz.underlying65
  a46 := Tryz.isAgg65
  z46 := Tryz.sizeOf65
  v46 := Tryz.zeroValue65
  t51 := Tryz.underlying114
  a51 := Tryz.isAgg114
  z51 := Tryz.sizeOf114
  v51 := Tryz.zeroValue114
  t146 := Tryz.underlying115
  a146 := Tryz.isAgg115
  z146 := Tryz.sizeOf115
  v146 := Tryz.zeroValue115
  g1 := by kernel_rfl }
open Go.RowKit Go.Lib in
/-- strings.Contains: "Contains reports whether substr is within s.": IT RETURNS 'Lib.contains s substr'; the world is as it was. (LAID: no walk: one application.) -/
theorem Tryz.strings_Contains (s sub : ByteArray) (m : Int) (w : World) (hs : s.size < 4294967281) (hm : w.cell? ⟨1, 0, none⟩ = some (.int .i64 m)) :
    Calls Tryz.prog 114 #[.string s, .string sub] w fun e w' => e = .returned (.bool (Lib.contains s.data.toList sub.data.toList)) ∧ w' = w := Any.strings_Contains Tryz.lays144 s sub m w hs hm
end Go.Proofs

/- Ast: functions without a body. -/
set_option maxRecDepth 100000
namespace Go.Proofs.As
open Go Go.Ev
variable [MX]

theorem ib_c (s : ByteArray) (c : Int) : PureTo Tryz.prog 173 [.v (.string s), .v (.int .u8 c)] (.v (.int .i64 (ixB (c.toNat.toUInt8).toNat s.data.toList 0))) := indexByte_pure Tryz.func173 (by kernel_rfl) (by kernel_rfl) (by kernel_rfl) (by kernel_rfl) s c
theorem fb_c (x : Int) : PureTo Tryz.prog 139 [.v (.int .u64 x)] (.v (.float .f64 x.toNat)) := frombits_pure Tryz.func139 (by kernel_rfl) (by kernel_rfl) (by kernel_rfl) (by kernel_rfl) x
theorem b2_c (x : Nat) : PureTo Tryz.prog 191 [.v (.float .f64 x)] (.v (.int .u64 x)) := bits_pure Tryz.func191 (by kernel_rfl) (by kernel_rfl) (by kernel_rfl) (by kernel_rfl) x
def sigIB : List AV → Option (AV × List Prop)
  | [.v (.string s), .v (.int .u8 c)] => some (.v (.int .i64 (ixB (c.toNat.toUInt8).toNat s.data.toList 0)), [])
  | _ => none
def sigFB : List AV → Option (AV × List Prop)
  | [.v (.int .u64 x)] => some (.v (.float .f64 x.toNat), [])
  | _ => none
theorem con_c (s t : ByteArray) (hs : s.size < 4294967281) : PureTo Tryz.prog 114 [.v (.string s), .v (.string t)] (.v (.bool (conB s t))) := by
  rw [← conB_eq]
  exact pure_of_calls2w (fn := Tryz.f114) rfl rfl (by kernel_rfl) trivial fun S hwf => Tryz.strings_Contains s t MX.mx S.w hs (mx_cell hwf)
def sigCon : List AV → Option (AV × List Prop)
  | [.v (.string s), .v (.string t)] => some (.v (.bool (conB s t)), [s.size < 4294967281])
  | _ => none
theorem cb_c (s : ByteArray) (c : Int) : PureTo Tryz.prog 183 [.v (.string s), .v (.int .u8 c)] (.v (.int .i64 (cntB (c.toNat.toUInt8).toNat s.data.toList))) :=
  count_pure Tryz.func183 (by kernel_rfl) (by kernel_rfl) (by kernel_rfl) (by kernel_rfl) s c fun w => Go.Lib.run_countString s c w
def sigCB : List AV → Option (AV × List Prop)
  | [.v (.string s), .v (.int .u8 c)] => some (.v (.int .i64 (cntB (c.toNat.toUInt8).toNat s.data.toList)), [])
  | _ => none
def SQ0 : SGT := (114, .p sigCon) :: (183, .p sigCB) :: (173, .p sigIB) :: (139, .p sigFB) :: (191, .p sigBit) :: SM0
theorem soQ0 : SigsOK Tryz.prog SQ0 := by
  refine sigs_cons (sigs_cons (sigs_cons (sigs_cons (sigs_cons soM0 ?_) ?_) ?_) ?_) ?_ <;> intro ys r c hs hc
  · unfold sigBit at hs
    split at hs
    · cases hs; exact b2_c _
    · cases hs
  · unfold sigFB at hs
    split at hs
    · cases hs; exact fb_c _
    · cases hs
  · unfold sigIB at hs
    split at hs
    · cases hs; exact ib_c _ _
    · cases hs
  · unfold sigCB at hs
    split at hs
    · cases hs; exact cb_c _ _
    · cases hs
  · unfold sigCon at hs
    split at hs
    · cases hs; exact con_c _ _ hc.1
    · cases hs
end Go.Proofs.As
