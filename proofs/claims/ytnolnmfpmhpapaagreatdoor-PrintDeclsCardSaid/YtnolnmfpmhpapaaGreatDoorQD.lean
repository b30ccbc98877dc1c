/- Merged texts: FwT FwM FwN. The types of the seat, as the framework wants them (written by gen_ty.py). No condition. Small words for the uses of the framework. No condition. Rules for the uses of the framework: slices of slices, slices that are built, slices that grow, maps with int keys. Conditions stand in each rule. -/
import Derived.Test.YtnolnmfpmhpapaaGreatDoorQC
import Derived.Test.YtnolnmfpmhpapaaGreatDoorProg
import Derived.Laws.AppendOwn
/-! FwT -/
section
namespace Go.Proofs.YtnolnmfpmhpapaaGreatDoor
open Go.Tr

theorem ty22 : TyOK Tryz.prog 22 (.slice 74 6) := ⟨⟨Tryz.isAgg22, Tryz.sizeOf22, Tryz.zeroValue22, rfl⟩, Tryz.underlying22, Tryz.sizeOf74⟩
theorem ty23 : TyOK Tryz.prog 23 (.slice 3 1) := ⟨⟨Tryz.isAgg23, Tryz.sizeOf23, Tryz.zeroValue23, rfl⟩, Tryz.underlying23, Tryz.sizeOf3⟩
theorem ty24 : TyOK Tryz.prog 24 (.struct [0, 1] [1, 1] [Go.Value.int Go.IntKind.i64 0, Go.Value.slice none 0 0]) := tyStruct Tryz.isAgg24 Tryz.sizeOf24 Tryz.zeroValue24 Tryz.underlying24 rfl ⟨⟨rfl, Tryz.sizeOf3⟩, ⟨rfl, Tryz.sizeOf23⟩, trivial⟩
theorem ty25 : TyOK Tryz.prog 25 (.struct [0, 1] [1, 1] [Go.Value.int Go.IntKind.i64 0, Go.Value.slice none 0 0]) := tyStruct Tryz.isAgg25 Tryz.sizeOf25 Tryz.zeroValue25 Tryz.underlying25 rfl ⟨⟨rfl, Tryz.sizeOf3⟩, ⟨rfl, Tryz.sizeOf23⟩, trivial⟩
theorem ty28 : TyOK Tryz.prog 28 (.slice 30 3) := ⟨⟨Tryz.isAgg28, Tryz.sizeOf28, Tryz.zeroValue28, rfl⟩, Tryz.underlying28, Tryz.sizeOf30⟩
theorem ty29 : TyOK Tryz.prog 29 (.struct [0, 1, 2] [1, 1, 1] [Go.Value.int Go.IntKind.i64 0, Go.Value.string { data := #[] }, Go.Value.slice none 0 0]) := tyStruct Tryz.isAgg29 Tryz.sizeOf29 Tryz.zeroValue29 Tryz.underlying29 rfl ⟨⟨rfl, Tryz.sizeOf3⟩, ⟨rfl, Tryz.sizeOf9⟩, ⟨rfl, Tryz.sizeOf28⟩, trivial⟩
theorem ty30 : TyOK Tryz.prog 30 (.struct [0, 1, 2] [1, 1, 1] [Go.Value.int Go.IntKind.i64 0, Go.Value.string { data := #[] }, Go.Value.slice none 0 0]) := tyStruct Tryz.isAgg30 Tryz.sizeOf30 Tryz.zeroValue30 Tryz.underlying30 rfl ⟨⟨rfl, Tryz.sizeOf3⟩, ⟨rfl, Tryz.sizeOf9⟩, ⟨rfl, Tryz.sizeOf28⟩, trivial⟩
theorem ty31 : TyOK Tryz.prog 31 (.slice 41 8) := ⟨⟨Tryz.isAgg31, Tryz.sizeOf31, Tryz.zeroValue31, rfl⟩, Tryz.underlying31, Tryz.sizeOf41⟩
theorem ty32 : TyOK Tryz.prog 32 (.struct [0, 1, 2, 5] [1, 1, 3, 1] [Go.Value.string { data := #[] }, Go.Value.string { data := #[] }, Go.Value.int Go.IntKind.i64 0, Go.Value.string { data := #[] }, Go.Value.slice none 0 0, Go.Value.slice none 0 0]) := tyStruct Tryz.isAgg32 Tryz.sizeOf32 Tryz.zeroValue32 Tryz.underlying32 rfl ⟨⟨rfl, Tryz.sizeOf9⟩, ⟨rfl, Tryz.sizeOf9⟩, ⟨rfl, Tryz.sizeOf30⟩, ⟨rfl, Tryz.sizeOf31⟩, trivial⟩
theorem ty33 : TyOK Tryz.prog 33 (.struct [0, 1, 2, 5] [1, 1, 3, 1] [Go.Value.string { data := #[] }, Go.Value.string { data := #[] }, Go.Value.int Go.IntKind.i64 0, Go.Value.string { data := #[] }, Go.Value.slice none 0 0, Go.Value.slice none 0 0]) := tyStruct Tryz.isAgg33 Tryz.sizeOf33 Tryz.zeroValue33 Tryz.underlying33 rfl ⟨⟨rfl, Tryz.sizeOf9⟩, ⟨rfl, Tryz.sizeOf9⟩, ⟨rfl, Tryz.sizeOf30⟩, ⟨rfl, Tryz.sizeOf31⟩, trivial⟩
theorem ty40 : TyOK Tryz.prog 40 (.struct [0, 1, 2, 3, 4, 7] [1, 1, 1, 1, 3, 1] [Go.Value.int Go.IntKind.i64 0, Go.Value.string { data := #[] }, Go.Value.string { data := #[] }, Go.Value.int Go.IntKind.i64 0, Go.Value.int Go.IntKind.i64 0, Go.Value.string { data := #[] }, Go.Value.slice none 0 0, Go.Value.slice none 0 0]) := tyStruct Tryz.isAgg40 Tryz.sizeOf40 Tryz.zeroValue40 Tryz.underlying40 rfl ⟨⟨rfl, Tryz.sizeOf3⟩, ⟨rfl, Tryz.sizeOf9⟩, ⟨rfl, Tryz.sizeOf9⟩, ⟨rfl, Tryz.sizeOf3⟩, ⟨rfl, Tryz.sizeOf30⟩, ⟨rfl, Tryz.sizeOf31⟩, trivial⟩
theorem ty41 : TyOK Tryz.prog 41 (.struct [0, 1, 2, 3, 4, 7] [1, 1, 1, 1, 3, 1] [Go.Value.int Go.IntKind.i64 0, Go.Value.string { data := #[] }, Go.Value.string { data := #[] }, Go.Value.int Go.IntKind.i64 0, Go.Value.int Go.IntKind.i64 0, Go.Value.string { data := #[] }, Go.Value.slice none 0 0, Go.Value.slice none 0 0]) := tyStruct Tryz.isAgg41 Tryz.sizeOf41 Tryz.zeroValue41 Tryz.underlying41 rfl ⟨⟨rfl, Tryz.sizeOf3⟩, ⟨rfl, Tryz.sizeOf9⟩, ⟨rfl, Tryz.sizeOf9⟩, ⟨rfl, Tryz.sizeOf3⟩, ⟨rfl, Tryz.sizeOf30⟩, ⟨rfl, Tryz.sizeOf31⟩, trivial⟩
theorem ty43 : TyOK Tryz.prog 43 (.slice 25 2) := ⟨⟨Tryz.isAgg43, Tryz.sizeOf43, Tryz.zeroValue43, rfl⟩, Tryz.underlying43, Tryz.sizeOf25⟩
theorem ty51 : TyOK Tryz.prog 51 (.slice 134 10) := ⟨⟨Tryz.isAgg51, Tryz.sizeOf51, Tryz.zeroValue51, rfl⟩, Tryz.underlying51, Tryz.sizeOf134⟩
theorem ty52 : TyOK Tryz.prog 52 (.slice 54 4) := ⟨⟨Tryz.isAgg52, Tryz.sizeOf52, Tryz.zeroValue52, rfl⟩, Tryz.underlying52, Tryz.sizeOf54⟩
theorem ty53 : TyOK Tryz.prog 53 (.struct [0, 1, 2, 3] [1, 1, 1, 1] [Go.Value.int Go.IntKind.i64 0, Go.Value.int Go.IntKind.i64 0, Go.Value.int Go.IntKind.i64 0, Go.Value.slice none 0 0]) := tyStruct Tryz.isAgg53 Tryz.sizeOf53 Tryz.zeroValue53 Tryz.underlying53 rfl ⟨⟨rfl, Tryz.sizeOf3⟩, ⟨rfl, Tryz.sizeOf3⟩, ⟨rfl, Tryz.sizeOf3⟩, ⟨rfl, Tryz.sizeOf52⟩, trivial⟩
theorem ty54 : TyOK Tryz.prog 54 (.struct [0, 1, 2, 3] [1, 1, 1, 1] [Go.Value.int Go.IntKind.i64 0, Go.Value.int Go.IntKind.i64 0, Go.Value.int Go.IntKind.i64 0, Go.Value.slice none 0 0]) := tyStruct Tryz.isAgg54 Tryz.sizeOf54 Tryz.zeroValue54 Tryz.underlying54 rfl ⟨⟨rfl, Tryz.sizeOf3⟩, ⟨rfl, Tryz.sizeOf3⟩, ⟨rfl, Tryz.sizeOf3⟩, ⟨rfl, Tryz.sizeOf52⟩, trivial⟩
theorem ty55 : TyOK Tryz.prog 55 (.struct [0, 1, 2, 3] [1, 1, 1, 4] [Go.Value.slice none 0 0, Go.Value.slice none 0 0, Go.Value.int Go.IntKind.i64 0, Go.Value.int Go.IntKind.i64 0, Go.Value.int Go.IntKind.i64 0, Go.Value.int Go.IntKind.i64 0, Go.Value.slice none 0 0]) := tyStruct Tryz.isAgg55 Tryz.sizeOf55 Tryz.zeroValue55 Tryz.underlying55 rfl ⟨⟨rfl, Tryz.sizeOf22⟩, ⟨rfl, Tryz.sizeOf51⟩, ⟨rfl, Tryz.sizeOf3⟩, ⟨rfl, Tryz.sizeOf54⟩, trivial⟩
theorem ty56 : TyOK Tryz.prog 56 (.struct [0, 1, 2, 3] [1, 1, 1, 4] [Go.Value.slice none 0 0, Go.Value.slice none 0 0, Go.Value.int Go.IntKind.i64 0, Go.Value.int Go.IntKind.i64 0, Go.Value.int Go.IntKind.i64 0, Go.Value.int Go.IntKind.i64 0, Go.Value.slice none 0 0]) := tyStruct Tryz.isAgg56 Tryz.sizeOf56 Tryz.zeroValue56 Tryz.underlying56 rfl ⟨⟨rfl, Tryz.sizeOf22⟩, ⟨rfl, Tryz.sizeOf51⟩, ⟨rfl, Tryz.sizeOf3⟩, ⟨rfl, Tryz.sizeOf54⟩, trivial⟩
theorem ty64 : TyOK Tryz.prog 64 (.slice 9 1) := ⟨⟨Tryz.isAgg64, Tryz.sizeOf64, Tryz.zeroValue64, rfl⟩, Tryz.underlying64, Tryz.sizeOf9⟩
theorem ty65 : TyOK Tryz.prog 65 (.struct [0, 1, 2] [1, 1, 1] [Go.Value.slice none 0 0, Go.Value.slice none 0 0, Go.Value.slice none 0 0]) := tyStruct Tryz.isAgg65 Tryz.sizeOf65 Tryz.zeroValue65 Tryz.underlying65 rfl ⟨⟨rfl, Tryz.sizeOf22⟩, ⟨rfl, Tryz.sizeOf51⟩, ⟨rfl, Tryz.sizeOf64⟩, trivial⟩
theorem ty66 : TyOK Tryz.prog 66 (.struct [0, 1, 2] [1, 1, 1] [Go.Value.slice none 0 0, Go.Value.slice none 0 0, Go.Value.slice none 0 0]) := tyStruct Tryz.isAgg66 Tryz.sizeOf66 Tryz.zeroValue66 Tryz.underlying66 rfl ⟨⟨rfl, Tryz.sizeOf22⟩, ⟨rfl, Tryz.sizeOf51⟩, ⟨rfl, Tryz.sizeOf64⟩, trivial⟩
theorem ty73 : TyOK Tryz.prog 73 (.struct [0, 1, 5] [1, 4, 1] [Go.Value.string { data := #[] }, Go.Value.int Go.IntKind.i64 0, Go.Value.int Go.IntKind.i64 0, Go.Value.int Go.IntKind.i64 0, Go.Value.slice none 0 0, Go.Value.int Go.IntKind.i64 0]) := tyStruct Tryz.isAgg73 Tryz.sizeOf73 Tryz.zeroValue73 Tryz.underlying73 rfl ⟨⟨rfl, Tryz.sizeOf9⟩, ⟨rfl, Tryz.sizeOf54⟩, ⟨rfl, Tryz.sizeOf3⟩, trivial⟩
theorem ty74 : TyOK Tryz.prog 74 (.struct [0, 1, 5] [1, 4, 1] [Go.Value.string { data := #[] }, Go.Value.int Go.IntKind.i64 0, Go.Value.int Go.IntKind.i64 0, Go.Value.int Go.IntKind.i64 0, Go.Value.slice none 0 0, Go.Value.int Go.IntKind.i64 0]) := tyStruct Tryz.isAgg74 Tryz.sizeOf74 Tryz.zeroValue74 Tryz.underlying74 rfl ⟨⟨rfl, Tryz.sizeOf9⟩, ⟨rfl, Tryz.sizeOf54⟩, ⟨rfl, Tryz.sizeOf3⟩, trivial⟩
theorem ty118 : TyOK Tryz.prog 118 (.slice 4 1) := ⟨⟨Tryz.isAgg118, Tryz.sizeOf118, Tryz.zeroValue118, rfl⟩, Tryz.underlying118, Tryz.sizeOf4⟩
theorem ty124 : TyOK Tryz.prog 124 (.struct [0, 1, 2] [1, 1, 1] [Go.Value.slice none 0 0, Go.Value.slice none 0 0, Go.Value.int Go.IntKind.i64 0]) := tyStruct Tryz.isAgg124 Tryz.sizeOf124 Tryz.zeroValue124 Tryz.underlying124 rfl ⟨⟨rfl, Tryz.sizeOf22⟩, ⟨rfl, Tryz.sizeOf51⟩, ⟨rfl, Tryz.sizeOf3⟩, trivial⟩
theorem ty125 : TyOK Tryz.prog 125 (.struct [0, 1, 2] [1, 1, 1] [Go.Value.slice none 0 0, Go.Value.slice none 0 0, Go.Value.int Go.IntKind.i64 0]) := tyStruct Tryz.isAgg125 Tryz.sizeOf125 Tryz.zeroValue125 Tryz.underlying125 rfl ⟨⟨rfl, Tryz.sizeOf22⟩, ⟨rfl, Tryz.sizeOf51⟩, ⟨rfl, Tryz.sizeOf3⟩, trivial⟩
theorem ty133 : TyOK Tryz.prog 133 (.struct [0, 1, 5, 6] [1, 4, 1, 4] [Go.Value.string { data := #[] }, Go.Value.int Go.IntKind.i64 0, Go.Value.int Go.IntKind.i64 0, Go.Value.int Go.IntKind.i64 0, Go.Value.slice none 0 0, Go.Value.bool false, Go.Value.int Go.IntKind.i64 0, Go.Value.int Go.IntKind.i64 0, Go.Value.int Go.IntKind.i64 0, Go.Value.slice none 0 0]) := tyStruct Tryz.isAgg133 Tryz.sizeOf133 Tryz.zeroValue133 Tryz.underlying133 rfl ⟨⟨rfl, Tryz.sizeOf9⟩, ⟨rfl, Tryz.sizeOf54⟩, ⟨rfl, Tryz.sizeOf4⟩, ⟨rfl, Tryz.sizeOf54⟩, trivial⟩
theorem ty134 : TyOK Tryz.prog 134 (.struct [0, 1, 5, 6] [1, 4, 1, 4] [Go.Value.string { data := #[] }, Go.Value.int Go.IntKind.i64 0, Go.Value.int Go.IntKind.i64 0, Go.Value.int Go.IntKind.i64 0, Go.Value.slice none 0 0, Go.Value.bool false, Go.Value.int Go.IntKind.i64 0, Go.Value.int Go.IntKind.i64 0, Go.Value.int Go.IntKind.i64 0, Go.Value.slice none 0 0]) := tyStruct Tryz.isAgg134 Tryz.sizeOf134 Tryz.zeroValue134 Tryz.underlying134 rfl ⟨⟨rfl, Tryz.sizeOf9⟩, ⟨rfl, Tryz.sizeOf54⟩, ⟨rfl, Tryz.sizeOf4⟩, ⟨rfl, Tryz.sizeOf54⟩, trivial⟩
theorem ty143 : TyOK Tryz.prog 143 (.slice 151 3) := ⟨⟨Tryz.isAgg143, Tryz.sizeOf143, Tryz.zeroValue143, rfl⟩, Tryz.underlying143, Tryz.sizeOf151⟩
theorem ty147 : TyOK Tryz.prog 147 (.struct [0, 1, 2] [1, 1, 1] [Go.Value.slice none 0 0, Go.Value.int Go.IntKind.i64 0, Go.Value.bool false]) := tyStruct Tryz.isAgg147 Tryz.sizeOf147 Tryz.zeroValue147 Tryz.underlying147 rfl ⟨⟨rfl, Tryz.sizeOf143⟩, ⟨rfl, Tryz.sizeOf3⟩, ⟨rfl, Tryz.sizeOf4⟩, trivial⟩
theorem ty148 : TyOK Tryz.prog 148 (.struct [0, 1, 2] [1, 1, 1] [Go.Value.slice none 0 0, Go.Value.int Go.IntKind.i64 0, Go.Value.bool false]) := tyStruct Tryz.isAgg148 Tryz.sizeOf148 Tryz.zeroValue148 Tryz.underlying148 rfl ⟨⟨rfl, Tryz.sizeOf143⟩, ⟨rfl, Tryz.sizeOf3⟩, ⟨rfl, Tryz.sizeOf4⟩, trivial⟩
theorem ty150 : TyOK Tryz.prog 150 (.struct [0, 1, 2] [1, 1, 1] [Go.Value.int Go.IntKind.i64 0, Go.Value.string { data := #[] }, Go.Value.int Go.IntKind.i64 0]) := tyStruct Tryz.isAgg150 Tryz.sizeOf150 Tryz.zeroValue150 Tryz.underlying150 rfl ⟨⟨rfl, Tryz.sizeOf3⟩, ⟨rfl, Tryz.sizeOf9⟩, ⟨rfl, Tryz.sizeOf3⟩, trivial⟩
theorem ty151 : TyOK Tryz.prog 151 (.struct [0, 1, 2] [1, 1, 1] [Go.Value.int Go.IntKind.i64 0, Go.Value.string { data := #[] }, Go.Value.int Go.IntKind.i64 0]) := tyStruct Tryz.isAgg151 Tryz.sizeOf151 Tryz.zeroValue151 Tryz.underlying151 rfl ⟨⟨rfl, Tryz.sizeOf3⟩, ⟨rfl, Tryz.sizeOf9⟩, ⟨rfl, Tryz.sizeOf3⟩, trivial⟩
theorem ty157 : TyOK Tryz.prog 157 (.struct [0, 1] [1, 1] [Go.Value.slice none 0 0, Go.Value.slice none 0 0]) := tyStruct Tryz.isAgg157 Tryz.sizeOf157 Tryz.zeroValue157 Tryz.underlying157 rfl ⟨⟨rfl, Tryz.sizeOf22⟩, ⟨rfl, Tryz.sizeOf51⟩, trivial⟩
theorem ty158 : TyOK Tryz.prog 158 (.struct [0, 1] [1, 1] [Go.Value.slice none 0 0, Go.Value.slice none 0 0]) := tyStruct Tryz.isAgg158 Tryz.sizeOf158 Tryz.zeroValue158 Tryz.underlying158 rfl ⟨⟨rfl, Tryz.sizeOf22⟩, ⟨rfl, Tryz.sizeOf51⟩, trivial⟩
theorem ty196 : TyOK Tryz.prog 196 (.slice 5 1) := ⟨⟨Tryz.isAgg196, Tryz.sizeOf196, Tryz.zeroValue196, rfl⟩, Tryz.underlying196, Tryz.sizeOf5⟩
theorem ty197 : TyOK Tryz.prog 197 (.struct [0, 1] [1, 1] [Go.Value.pointer none, Go.Value.slice none 0 0]) := tyStruct Tryz.isAgg197 Tryz.sizeOf197 Tryz.zeroValue197 Tryz.underlying197 rfl ⟨⟨rfl, Tryz.sizeOf195⟩, ⟨rfl, Tryz.sizeOf196⟩, trivial⟩
theorem ty198 : TyOK Tryz.prog 198 (.struct [0, 1] [1, 1] [Go.Value.pointer none, Go.Value.slice none 0 0]) := tyStruct Tryz.isAgg198 Tryz.sizeOf198 Tryz.zeroValue198 Tryz.underlying198 rfl ⟨⟨rfl, Tryz.sizeOf195⟩, ⟨rfl, Tryz.sizeOf196⟩, trivial⟩
theorem ty207 : TyOK Tryz.prog 207 (.struct [0, 1] [1, 1] [Go.Value.int Go.IntKind.i64 0, Go.Value.int Go.IntKind.i64 0]) := tyStruct Tryz.isAgg207 Tryz.sizeOf207 Tryz.zeroValue207 Tryz.underlying207 rfl ⟨⟨rfl, Tryz.sizeOf3⟩, ⟨rfl, Tryz.sizeOf3⟩, trivial⟩
theorem ty208 : TyOK Tryz.prog 208 (.struct [0, 1] [1, 1] [Go.Value.int Go.IntKind.i64 0, Go.Value.int Go.IntKind.i64 0]) := tyStruct Tryz.isAgg208 Tryz.sizeOf208 Tryz.zeroValue208 Tryz.underlying208 rfl ⟨⟨rfl, Tryz.sizeOf3⟩, ⟨rfl, Tryz.sizeOf3⟩, trivial⟩
theorem ty210 : TyOK Tryz.prog 210 (.struct [0, 1] [1, 1] [Go.Value.map none, Go.Value.int Go.IntKind.i64 0]) := tyStruct Tryz.isAgg210 Tryz.sizeOf210 Tryz.zeroValue210 Tryz.underlying210 rfl ⟨⟨rfl, Tryz.sizeOf113⟩, ⟨rfl, Tryz.sizeOf3⟩, trivial⟩
theorem ty211 : TyOK Tryz.prog 211 (.struct [0, 1] [1, 1] [Go.Value.map none, Go.Value.int Go.IntKind.i64 0]) := tyStruct Tryz.isAgg211 Tryz.sizeOf211 Tryz.zeroValue211 Tryz.underlying211 rfl ⟨⟨rfl, Tryz.sizeOf113⟩, ⟨rfl, Tryz.sizeOf3⟩, trivial⟩
theorem ty235 : TyOK Tryz.prog 235 (.slice 4 1) := ⟨⟨Tryz.isAgg235, Tryz.sizeOf235, Tryz.zeroValue235, rfl⟩, Tryz.underlying235, Tryz.sizeOf4⟩
theorem ty236 : TyOK Tryz.prog 236 (.slice 235 1) := ⟨⟨Tryz.isAgg236, Tryz.sizeOf236, Tryz.zeroValue236, rfl⟩, Tryz.underlying236, Tryz.sizeOf235⟩
theorem ty287 : TyOK Tryz.prog 287 (.struct [0] [1] [Go.Value.int Go.IntKind.i64 0]) := tyStruct Tryz.isAgg287 Tryz.sizeOf287 Tryz.zeroValue287 Tryz.underlying287 rfl ⟨⟨rfl, Tryz.sizeOf3⟩, trivial⟩
theorem ty288 : TyOK Tryz.prog 288 (.struct [0] [1] [Go.Value.int Go.IntKind.i64 0]) := tyStruct Tryz.isAgg288 Tryz.sizeOf288 Tryz.zeroValue288 Tryz.underlying288 rfl ⟨⟨rfl, Tryz.sizeOf3⟩, trivial⟩
theorem ty294 : TyOK Tryz.prog 294 (.slice 296 2) := ⟨⟨Tryz.isAgg294, Tryz.sizeOf294, Tryz.zeroValue294, rfl⟩, Tryz.underlying294, Tryz.sizeOf296⟩
theorem ty295 : TyOK Tryz.prog 295 (.struct [0, 1] [1, 1] [Go.Value.slice none 0 0, Go.Value.int Go.IntKind.i64 0]) := tyStruct Tryz.isAgg295 Tryz.sizeOf295 Tryz.zeroValue295 Tryz.underlying295 rfl ⟨⟨rfl, Tryz.sizeOf294⟩, ⟨rfl, Tryz.sizeOf3⟩, trivial⟩
theorem ty296 : TyOK Tryz.prog 296 (.struct [0, 1] [1, 1] [Go.Value.slice none 0 0, Go.Value.int Go.IntKind.i64 0]) := tyStruct Tryz.isAgg296 Tryz.sizeOf296 Tryz.zeroValue296 Tryz.underlying296 rfl ⟨⟨rfl, Tryz.sizeOf294⟩, ⟨rfl, Tryz.sizeOf3⟩, trivial⟩
theorem ty334 : TyOK Tryz.prog 334 (.struct [0, 1, 2, 3, 4, 5, 6, 7, 8, 9, 10] [1, 1, 1, 1, 1, 1, 1, 1, 1, 1, 1] [Go.Value.int Go.IntKind.u64 0, Go.Value.int Go.IntKind.u64 0, Go.Value.int Go.IntKind.u32 0, Go.Value.int Go.IntKind.u8 0, Go.Value.int Go.IntKind.u8 0, Go.Value.int Go.IntKind.u8 0, Go.Value.int Go.IntKind.u8 0, Go.Value.nilFunc, Go.Value.pointer none, Go.Value.int Go.IntKind.i32 0, Go.Value.int Go.IntKind.i32 0]) := tyStruct Tryz.isAgg334 Tryz.sizeOf334 Tryz.zeroValue334 Tryz.underlying334 rfl ⟨⟨rfl, Tryz.sizeOf12⟩, ⟨rfl, Tryz.sizeOf12⟩, ⟨rfl, Tryz.sizeOf275⟩, ⟨rfl, Tryz.sizeOf329⟩, ⟨rfl, Tryz.sizeOf5⟩, ⟨rfl, Tryz.sizeOf5⟩, ⟨rfl, Tryz.sizeOf330⟩, ⟨rfl, Tryz.sizeOf331⟩, ⟨rfl, Tryz.sizeOf232⟩, ⟨rfl, Tryz.sizeOf332⟩, ⟨rfl, Tryz.sizeOf333⟩, trivial⟩
theorem ty1 : TyOK Tryz.prog 1 (.cell Go.Value.nilFunc) := ⟨Tryz.isAgg1, Tryz.sizeOf1, Tryz.zeroValue1, rfl⟩
theorem ty2 : TyOK Tryz.prog 2 (.cell (Go.Value.int Go.IntKind.i64 0)) := ⟨Tryz.isAgg2, Tryz.sizeOf2, Tryz.zeroValue2, rfl⟩
theorem ty3 : TyOK Tryz.prog 3 (.cell (Go.Value.int Go.IntKind.i64 0)) := ⟨Tryz.isAgg3, Tryz.sizeOf3, Tryz.zeroValue3, rfl⟩
theorem ty4 : TyOK Tryz.prog 4 (.cell (Go.Value.bool false)) := ⟨Tryz.isAgg4, Tryz.sizeOf4, Tryz.zeroValue4, rfl⟩
theorem ty5 : TyOK Tryz.prog 5 (.cell (Go.Value.int Go.IntKind.u8 0)) := ⟨Tryz.isAgg5, Tryz.sizeOf5, Tryz.zeroValue5, rfl⟩
theorem ty6 : TyOK Tryz.prog 6 (.cell (Go.Value.int Go.IntKind.u8 0)) := ⟨Tryz.isAgg6, Tryz.sizeOf6, Tryz.zeroValue6, rfl⟩
theorem ty9 : TyOK Tryz.prog 9 (.str) := ⟨⟨Tryz.isAgg9, Tryz.sizeOf9, Tryz.zeroValue9, rfl⟩, Tryz.underlying9⟩
theorem ty10 : TyOK Tryz.prog 10 (.str) := ⟨⟨Tryz.isAgg10, Tryz.sizeOf10, Tryz.zeroValue10, rfl⟩, Tryz.underlying10⟩
theorem ty11 : TyOK Tryz.prog 11 (.str) := ⟨⟨Tryz.isAgg11, Tryz.sizeOf11, Tryz.zeroValue11, rfl⟩, Tryz.underlying11⟩
theorem ty12 : TyOK Tryz.prog 12 (.cell (Go.Value.int Go.IntKind.u64 0)) := ⟨Tryz.isAgg12, Tryz.sizeOf12, Tryz.zeroValue12, rfl⟩
theorem ty15 : TyOK Tryz.prog 15 (.cell (Go.Value.pointer none)) := ⟨Tryz.isAgg15, Tryz.sizeOf15, Tryz.zeroValue15, rfl⟩
theorem ty16 : TyOK Tryz.prog 16 (.cell (Go.Value.pointer none)) := ⟨Tryz.isAgg16, Tryz.sizeOf16, Tryz.zeroValue16, rfl⟩
theorem ty17 : TyOK Tryz.prog 17 (.cell (Go.Value.pointer none)) := ⟨Tryz.isAgg17, Tryz.sizeOf17, Tryz.zeroValue17, rfl⟩
theorem ty20 : TyOK Tryz.prog 20 (.cell Go.Value.nilIface) := ⟨Tryz.isAgg20, Tryz.sizeOf20, Tryz.zeroValue20, rfl⟩
theorem ty21 : TyOK Tryz.prog 21 (.cell (Go.Value.int Go.IntKind.i32 0)) := ⟨Tryz.isAgg21, Tryz.sizeOf21, Tryz.zeroValue21, rfl⟩
theorem ty26 : TyOK Tryz.prog 26 (.cell Go.Value.nilFunc) := ⟨Tryz.isAgg26, Tryz.sizeOf26, Tryz.zeroValue26, rfl⟩
theorem ty27 : TyOK Tryz.prog 27 (.cell Go.Value.nilFunc) := ⟨Tryz.isAgg27, Tryz.sizeOf27, Tryz.zeroValue27, rfl⟩
theorem ty34 : TyOK Tryz.prog 34 (.cell (Go.Value.int Go.IntKind.i64 0)) := ⟨Tryz.isAgg34, Tryz.sizeOf34, Tryz.zeroValue34, rfl⟩
theorem ty36 : TyOK Tryz.prog 36 (.cell Go.Value.nilFunc) := ⟨Tryz.isAgg36, Tryz.sizeOf36, Tryz.zeroValue36, rfl⟩
theorem ty38 : TyOK Tryz.prog 38 (.cell Go.Value.nilFunc) := ⟨Tryz.isAgg38, Tryz.sizeOf38, Tryz.zeroValue38, rfl⟩
theorem ty39 : TyOK Tryz.prog 39 (.cell Go.Value.nilFunc) := ⟨Tryz.isAgg39, Tryz.sizeOf39, Tryz.zeroValue39, rfl⟩
theorem ty42 : TyOK Tryz.prog 42 (.cell Go.Value.nilFunc) := ⟨Tryz.isAgg42, Tryz.sizeOf42, Tryz.zeroValue42, rfl⟩
theorem ty44 : TyOK Tryz.prog 44 (.cell Go.Value.nilFunc) := ⟨Tryz.isAgg44, Tryz.sizeOf44, Tryz.zeroValue44, rfl⟩
theorem ty46 : TyOK Tryz.prog 46 (.cell Go.Value.nilFunc) := ⟨Tryz.isAgg46, Tryz.sizeOf46, Tryz.zeroValue46, rfl⟩
theorem ty47 : TyOK Tryz.prog 47 (.cell Go.Value.nilFunc) := ⟨Tryz.isAgg47, Tryz.sizeOf47, Tryz.zeroValue47, rfl⟩
theorem ty48 : TyOK Tryz.prog 48 (.cell Go.Value.nilFunc) := ⟨Tryz.isAgg48, Tryz.sizeOf48, Tryz.zeroValue48, rfl⟩
theorem ty49 : TyOK Tryz.prog 49 (.cell Go.Value.nilFunc) := ⟨Tryz.isAgg49, Tryz.sizeOf49, Tryz.zeroValue49, rfl⟩
theorem ty50 : TyOK Tryz.prog 50 (.cell Go.Value.nilFunc) := ⟨Tryz.isAgg50, Tryz.sizeOf50, Tryz.zeroValue50, rfl⟩
theorem ty58 : TyOK Tryz.prog 58 (.cell Go.Value.nilFunc) := ⟨Tryz.isAgg58, Tryz.sizeOf58, Tryz.zeroValue58, rfl⟩
theorem ty60 : TyOK Tryz.prog 60 (.cell Go.Value.nilFunc) := ⟨Tryz.isAgg60, Tryz.sizeOf60, Tryz.zeroValue60, rfl⟩
theorem ty61 : TyOK Tryz.prog 61 (.cell Go.Value.nilFunc) := ⟨Tryz.isAgg61, Tryz.sizeOf61, Tryz.zeroValue61, rfl⟩
theorem ty62 : TyOK Tryz.prog 62 (.cell Go.Value.nilFunc) := ⟨Tryz.isAgg62, Tryz.sizeOf62, Tryz.zeroValue62, rfl⟩
theorem ty63 : TyOK Tryz.prog 63 (.cell Go.Value.nilFunc) := ⟨Tryz.isAgg63, Tryz.sizeOf63, Tryz.zeroValue63, rfl⟩
theorem ty68 : TyOK Tryz.prog 68 (.cell Go.Value.nilFunc) := ⟨Tryz.isAgg68, Tryz.sizeOf68, Tryz.zeroValue68, rfl⟩
theorem ty70 : TyOK Tryz.prog 70 (.cell Go.Value.nilFunc) := ⟨Tryz.isAgg70, Tryz.sizeOf70, Tryz.zeroValue70, rfl⟩
theorem ty71 : TyOK Tryz.prog 71 (.cell Go.Value.nilFunc) := ⟨Tryz.isAgg71, Tryz.sizeOf71, Tryz.zeroValue71, rfl⟩
theorem ty72 : TyOK Tryz.prog 72 (.cell Go.Value.nilFunc) := ⟨Tryz.isAgg72, Tryz.sizeOf72, Tryz.zeroValue72, rfl⟩
theorem ty75 : TyOK Tryz.prog 75 (.cell Go.Value.nilFunc) := ⟨Tryz.isAgg75, Tryz.sizeOf75, Tryz.zeroValue75, rfl⟩
theorem ty76 : TyOK Tryz.prog 76 (.cell Go.Value.nilFunc) := ⟨Tryz.isAgg76, Tryz.sizeOf76, Tryz.zeroValue76, rfl⟩
theorem ty77 : TyOK Tryz.prog 77 (.cell Go.Value.nilFunc) := ⟨Tryz.isAgg77, Tryz.sizeOf77, Tryz.zeroValue77, rfl⟩
theorem ty79 : TyOK Tryz.prog 79 (.cell Go.Value.nilFunc) := ⟨Tryz.isAgg79, Tryz.sizeOf79, Tryz.zeroValue79, rfl⟩
theorem ty80 : TyOK Tryz.prog 80 (.arr 2 54 4 [Go.Value.int Go.IntKind.i64 0, Go.Value.int Go.IntKind.i64 0, Go.Value.int Go.IntKind.i64 0, Go.Value.slice none 0 0, Go.Value.int Go.IntKind.i64 0, Go.Value.int Go.IntKind.i64 0, Go.Value.int Go.IntKind.i64 0, Go.Value.slice none 0 0]) := ⟨Tryz.isAgg80, Tryz.sizeOf80, Tryz.zeroValue80, Tryz.underlying80, Tryz.sizeOf54⟩
theorem ty81 : TyOK Tryz.prog 81 (.cell Go.Value.nilFunc) := ⟨Tryz.isAgg81, Tryz.sizeOf81, Tryz.zeroValue81, rfl⟩
theorem ty82 : TyOK Tryz.prog 82 (.cell Go.Value.nilFunc) := ⟨Tryz.isAgg82, Tryz.sizeOf82, Tryz.zeroValue82, rfl⟩
theorem ty83 : TyOK Tryz.prog 83 (.cell Go.Value.nilFunc) := ⟨Tryz.isAgg83, Tryz.sizeOf83, Tryz.zeroValue83, rfl⟩
theorem ty84 : TyOK Tryz.prog 84 (.cell Go.Value.nilFunc) := ⟨Tryz.isAgg84, Tryz.sizeOf84, Tryz.zeroValue84, rfl⟩
theorem ty85 : TyOK Tryz.prog 85 (.cell Go.Value.nilFunc) := ⟨Tryz.isAgg85, Tryz.sizeOf85, Tryz.zeroValue85, rfl⟩
theorem ty86 : TyOK Tryz.prog 86 (.cell Go.Value.nilFunc) := ⟨Tryz.isAgg86, Tryz.sizeOf86, Tryz.zeroValue86, rfl⟩
theorem ty88 : TyOK Tryz.prog 88 (.cell Go.Value.nilFunc) := ⟨Tryz.isAgg88, Tryz.sizeOf88, Tryz.zeroValue88, rfl⟩
theorem ty89 : TyOK Tryz.prog 89 (.cell Go.Value.nilFunc) := ⟨Tryz.isAgg89, Tryz.sizeOf89, Tryz.zeroValue89, rfl⟩
theorem ty90 : TyOK Tryz.prog 90 (.cell Go.Value.nilFunc) := ⟨Tryz.isAgg90, Tryz.sizeOf90, Tryz.zeroValue90, rfl⟩
theorem ty91 : TyOK Tryz.prog 91 (.cell Go.Value.nilFunc) := ⟨Tryz.isAgg91, Tryz.sizeOf91, Tryz.zeroValue91, rfl⟩
theorem ty92 : TyOK Tryz.prog 92 (.cell Go.Value.nilFunc) := ⟨Tryz.isAgg92, Tryz.sizeOf92, Tryz.zeroValue92, rfl⟩
theorem ty93 : TyOK Tryz.prog 93 (.cell Go.Value.nilFunc) := ⟨Tryz.isAgg93, Tryz.sizeOf93, Tryz.zeroValue93, rfl⟩
theorem ty94 : TyOK Tryz.prog 94 (.cell Go.Value.nilFunc) := ⟨Tryz.isAgg94, Tryz.sizeOf94, Tryz.zeroValue94, rfl⟩
theorem ty96 : TyOK Tryz.prog 96 (.cell Go.Value.nilFunc) := ⟨Tryz.isAgg96, Tryz.sizeOf96, Tryz.zeroValue96, rfl⟩
theorem ty97 : TyOK Tryz.prog 97 (.cell Go.Value.nilFunc) := ⟨Tryz.isAgg97, Tryz.sizeOf97, Tryz.zeroValue97, rfl⟩
theorem ty98 : TyOK Tryz.prog 98 (.cell Go.Value.nilFunc) := ⟨Tryz.isAgg98, Tryz.sizeOf98, Tryz.zeroValue98, rfl⟩
theorem ty100 : TyOK Tryz.prog 100 (.cell Go.Value.nilFunc) := ⟨Tryz.isAgg100, Tryz.sizeOf100, Tryz.zeroValue100, rfl⟩
theorem ty101 : TyOK Tryz.prog 101 (.cell Go.Value.nilFunc) := ⟨Tryz.isAgg101, Tryz.sizeOf101, Tryz.zeroValue101, rfl⟩
theorem ty102 : TyOK Tryz.prog 102 (.arr 4 9 1 [Go.Value.string { data := #[] }, Go.Value.string { data := #[] }, Go.Value.string { data := #[] }, Go.Value.string { data := #[] }]) := ⟨Tryz.isAgg102, Tryz.sizeOf102, Tryz.zeroValue102, Tryz.underlying102, Tryz.sizeOf9⟩
theorem ty103 : TyOK Tryz.prog 103 (.cell Go.Value.nilFunc) := ⟨Tryz.isAgg103, Tryz.sizeOf103, Tryz.zeroValue103, rfl⟩
theorem ty104 : TyOK Tryz.prog 104 (.cell Go.Value.nilFunc) := ⟨Tryz.isAgg104, Tryz.sizeOf104, Tryz.zeroValue104, rfl⟩
theorem ty105 : TyOK Tryz.prog 105 (.cell Go.Value.nilFunc) := ⟨Tryz.isAgg105, Tryz.sizeOf105, Tryz.zeroValue105, rfl⟩
theorem ty106 : TyOK Tryz.prog 106 (.map 9 3) := ⟨⟨Tryz.isAgg106, Tryz.sizeOf106, Tryz.zeroValue106, rfl⟩, Tryz.underlying106⟩
theorem ty107 : TyOK Tryz.prog 107 (.cell Go.Value.nilFunc) := ⟨Tryz.isAgg107, Tryz.sizeOf107, Tryz.zeroValue107, rfl⟩
theorem ty109 : TyOK Tryz.prog 109 (.cell Go.Value.nilFunc) := ⟨Tryz.isAgg109, Tryz.sizeOf109, Tryz.zeroValue109, rfl⟩
theorem ty111 : TyOK Tryz.prog 111 (.cell Go.Value.nilFunc) := ⟨Tryz.isAgg111, Tryz.sizeOf111, Tryz.zeroValue111, rfl⟩
theorem ty112 : TyOK Tryz.prog 112 (.cell Go.Value.nilFunc) := ⟨Tryz.isAgg112, Tryz.sizeOf112, Tryz.zeroValue112, rfl⟩
theorem ty113 : TyOK Tryz.prog 113 (.map 3 25) := ⟨⟨Tryz.isAgg113, Tryz.sizeOf113, Tryz.zeroValue113, rfl⟩, Tryz.underlying113⟩
theorem ty115 : TyOK Tryz.prog 115 (.cell Go.Value.nilFunc) := ⟨Tryz.isAgg115, Tryz.sizeOf115, Tryz.zeroValue115, rfl⟩
theorem ty117 : TyOK Tryz.prog 117 (.cell Go.Value.nilFunc) := ⟨Tryz.isAgg117, Tryz.sizeOf117, Tryz.zeroValue117, rfl⟩
theorem ty119 : TyOK Tryz.prog 119 (.cell Go.Value.nilFunc) := ⟨Tryz.isAgg119, Tryz.sizeOf119, Tryz.zeroValue119, rfl⟩
theorem ty120 : TyOK Tryz.prog 120 (.cell Go.Value.nilFunc) := ⟨Tryz.isAgg120, Tryz.sizeOf120, Tryz.zeroValue120, rfl⟩
theorem ty121 : TyOK Tryz.prog 121 (.cell Go.Value.nilFunc) := ⟨Tryz.isAgg121, Tryz.sizeOf121, Tryz.zeroValue121, rfl⟩
theorem ty122 : TyOK Tryz.prog 122 (.cell Go.Value.nilFunc) := ⟨Tryz.isAgg122, Tryz.sizeOf122, Tryz.zeroValue122, rfl⟩
theorem ty123 : TyOK Tryz.prog 123 (.cell (Go.Value.pointer none)) := ⟨Tryz.isAgg123, Tryz.sizeOf123, Tryz.zeroValue123, rfl⟩
theorem ty126 : TyOK Tryz.prog 126 (.cell Go.Value.nilFunc) := ⟨Tryz.isAgg126, Tryz.sizeOf126, Tryz.zeroValue126, rfl⟩
theorem ty127 : TyOK Tryz.prog 127 (.cell Go.Value.nilFunc) := ⟨Tryz.isAgg127, Tryz.sizeOf127, Tryz.zeroValue127, rfl⟩
theorem ty128 : TyOK Tryz.prog 128 (.cell Go.Value.nilFunc) := ⟨Tryz.isAgg128, Tryz.sizeOf128, Tryz.zeroValue128, rfl⟩
theorem ty129 : TyOK Tryz.prog 129 (.cell Go.Value.nilFunc) := ⟨Tryz.isAgg129, Tryz.sizeOf129, Tryz.zeroValue129, rfl⟩
theorem ty130 : TyOK Tryz.prog 130 (.cell Go.Value.nilFunc) := ⟨Tryz.isAgg130, Tryz.sizeOf130, Tryz.zeroValue130, rfl⟩
theorem ty131 : TyOK Tryz.prog 131 (.cell Go.Value.nilFunc) := ⟨Tryz.isAgg131, Tryz.sizeOf131, Tryz.zeroValue131, rfl⟩
theorem ty132 : TyOK Tryz.prog 132 (.cell Go.Value.nilFunc) := ⟨Tryz.isAgg132, Tryz.sizeOf132, Tryz.zeroValue132, rfl⟩
theorem ty135 : TyOK Tryz.prog 135 (.cell Go.Value.nilFunc) := ⟨Tryz.isAgg135, Tryz.sizeOf135, Tryz.zeroValue135, rfl⟩
theorem ty136 : TyOK Tryz.prog 136 (.cell Go.Value.nilFunc) := ⟨Tryz.isAgg136, Tryz.sizeOf136, Tryz.zeroValue136, rfl⟩
theorem ty137 : TyOK Tryz.prog 137 (.cell Go.Value.nilFunc) := ⟨Tryz.isAgg137, Tryz.sizeOf137, Tryz.zeroValue137, rfl⟩
theorem ty138 : TyOK Tryz.prog 138 (.cell Go.Value.nilFunc) := ⟨Tryz.isAgg138, Tryz.sizeOf138, Tryz.zeroValue138, rfl⟩
theorem ty139 : TyOK Tryz.prog 139 (.cell Go.Value.nilFunc) := ⟨Tryz.isAgg139, Tryz.sizeOf139, Tryz.zeroValue139, rfl⟩
theorem ty140 : TyOK Tryz.prog 140 (.cell Go.Value.nilFunc) := ⟨Tryz.isAgg140, Tryz.sizeOf140, Tryz.zeroValue140, rfl⟩
theorem ty141 : TyOK Tryz.prog 141 (.cell Go.Value.nilFunc) := ⟨Tryz.isAgg141, Tryz.sizeOf141, Tryz.zeroValue141, rfl⟩
theorem ty142 : TyOK Tryz.prog 142 (.cell Go.Value.nilFunc) := ⟨Tryz.isAgg142, Tryz.sizeOf142, Tryz.zeroValue142, rfl⟩
theorem ty145 : TyOK Tryz.prog 145 (.cell Go.Value.nilFunc) := ⟨Tryz.isAgg145, Tryz.sizeOf145, Tryz.zeroValue145, rfl⟩
theorem ty146 : TyOK Tryz.prog 146 (.cell (Go.Value.pointer none)) := ⟨Tryz.isAgg146, Tryz.sizeOf146, Tryz.zeroValue146, rfl⟩
theorem ty149 : TyOK Tryz.prog 149 (.cell Go.Value.nilFunc) := ⟨Tryz.isAgg149, Tryz.sizeOf149, Tryz.zeroValue149, rfl⟩
theorem ty152 : TyOK Tryz.prog 152 (.cell Go.Value.nilFunc) := ⟨Tryz.isAgg152, Tryz.sizeOf152, Tryz.zeroValue152, rfl⟩
theorem ty153 : TyOK Tryz.prog 153 (.cell Go.Value.nilFunc) := ⟨Tryz.isAgg153, Tryz.sizeOf153, Tryz.zeroValue153, rfl⟩
theorem ty154 : TyOK Tryz.prog 154 (.cell Go.Value.nilFunc) := ⟨Tryz.isAgg154, Tryz.sizeOf154, Tryz.zeroValue154, rfl⟩
theorem ty155 : TyOK Tryz.prog 155 (.cell Go.Value.nilFunc) := ⟨Tryz.isAgg155, Tryz.sizeOf155, Tryz.zeroValue155, rfl⟩
theorem ty156 : TyOK Tryz.prog 156 (.cell Go.Value.nilFunc) := ⟨Tryz.isAgg156, Tryz.sizeOf156, Tryz.zeroValue156, rfl⟩
theorem ty159 : TyOK Tryz.prog 159 (.cell Go.Value.nilFunc) := ⟨Tryz.isAgg159, Tryz.sizeOf159, Tryz.zeroValue159, rfl⟩
theorem ty160 : TyOK Tryz.prog 160 (.cell Go.Value.nilFunc) := ⟨Tryz.isAgg160, Tryz.sizeOf160, Tryz.zeroValue160, rfl⟩
theorem ty161 : TyOK Tryz.prog 161 (.cell Go.Value.nilFunc) := ⟨Tryz.isAgg161, Tryz.sizeOf161, Tryz.zeroValue161, rfl⟩
theorem ty162 : TyOK Tryz.prog 162 (.map 9 4) := ⟨⟨Tryz.isAgg162, Tryz.sizeOf162, Tryz.zeroValue162, rfl⟩, Tryz.underlying162⟩
theorem ty163 : TyOK Tryz.prog 163 (.cell Go.Value.nilFunc) := ⟨Tryz.isAgg163, Tryz.sizeOf163, Tryz.zeroValue163, rfl⟩
theorem ty164 : TyOK Tryz.prog 164 (.cell Go.Value.nilFunc) := ⟨Tryz.isAgg164, Tryz.sizeOf164, Tryz.zeroValue164, rfl⟩
theorem ty165 : TyOK Tryz.prog 165 (.cell Go.Value.nilFunc) := ⟨Tryz.isAgg165, Tryz.sizeOf165, Tryz.zeroValue165, rfl⟩
theorem ty166 : TyOK Tryz.prog 166 (.cell Go.Value.nilFunc) := ⟨Tryz.isAgg166, Tryz.sizeOf166, Tryz.zeroValue166, rfl⟩
theorem ty167 : TyOK Tryz.prog 167 (.cell Go.Value.nilFunc) := ⟨Tryz.isAgg167, Tryz.sizeOf167, Tryz.zeroValue167, rfl⟩
theorem ty168 : TyOK Tryz.prog 168 (.cell Go.Value.nilFunc) := ⟨Tryz.isAgg168, Tryz.sizeOf168, Tryz.zeroValue168, rfl⟩
theorem ty169 : TyOK Tryz.prog 169 (.cell Go.Value.nilFunc) := ⟨Tryz.isAgg169, Tryz.sizeOf169, Tryz.zeroValue169, rfl⟩
theorem ty170 : TyOK Tryz.prog 170 (.cell (Go.Value.pointer none)) := ⟨Tryz.isAgg170, Tryz.sizeOf170, Tryz.zeroValue170, rfl⟩
theorem ty172 : TyOK Tryz.prog 172 (.cell Go.Value.nilFunc) := ⟨Tryz.isAgg172, Tryz.sizeOf172, Tryz.zeroValue172, rfl⟩
theorem ty173 : TyOK Tryz.prog 173 (.cell Go.Value.nilFunc) := ⟨Tryz.isAgg173, Tryz.sizeOf173, Tryz.zeroValue173, rfl⟩
theorem ty174 : TyOK Tryz.prog 174 (.cell Go.Value.nilFunc) := ⟨Tryz.isAgg174, Tryz.sizeOf174, Tryz.zeroValue174, rfl⟩
theorem ty176 : TyOK Tryz.prog 176 (.cell Go.Value.nilFunc) := ⟨Tryz.isAgg176, Tryz.sizeOf176, Tryz.zeroValue176, rfl⟩
theorem ty177 : TyOK Tryz.prog 177 (.cell Go.Value.nilFunc) := ⟨Tryz.isAgg177, Tryz.sizeOf177, Tryz.zeroValue177, rfl⟩
theorem ty178 : TyOK Tryz.prog 178 (.cell Go.Value.nilFunc) := ⟨Tryz.isAgg178, Tryz.sizeOf178, Tryz.zeroValue178, rfl⟩
theorem ty179 : TyOK Tryz.prog 179 (.cell Go.Value.nilFunc) := ⟨Tryz.isAgg179, Tryz.sizeOf179, Tryz.zeroValue179, rfl⟩
theorem ty180 : TyOK Tryz.prog 180 (.cell Go.Value.nilFunc) := ⟨Tryz.isAgg180, Tryz.sizeOf180, Tryz.zeroValue180, rfl⟩
theorem ty181 : TyOK Tryz.prog 181 (.cell Go.Value.nilFunc) := ⟨Tryz.isAgg181, Tryz.sizeOf181, Tryz.zeroValue181, rfl⟩
theorem ty182 : TyOK Tryz.prog 182 (.cell Go.Value.nilFunc) := ⟨Tryz.isAgg182, Tryz.sizeOf182, Tryz.zeroValue182, rfl⟩
theorem ty183 : TyOK Tryz.prog 183 (.cell Go.Value.nilFunc) := ⟨Tryz.isAgg183, Tryz.sizeOf183, Tryz.zeroValue183, rfl⟩
theorem ty184 : TyOK Tryz.prog 184 (.cell Go.Value.nilFunc) := ⟨Tryz.isAgg184, Tryz.sizeOf184, Tryz.zeroValue184, rfl⟩
theorem ty185 : TyOK Tryz.prog 185 (.cell Go.Value.nilFunc) := ⟨Tryz.isAgg185, Tryz.sizeOf185, Tryz.zeroValue185, rfl⟩
theorem ty186 : TyOK Tryz.prog 186 (.cell Go.Value.nilFunc) := ⟨Tryz.isAgg186, Tryz.sizeOf186, Tryz.zeroValue186, rfl⟩
theorem ty187 : TyOK Tryz.prog 187 (.cell Go.Value.nilFunc) := ⟨Tryz.isAgg187, Tryz.sizeOf187, Tryz.zeroValue187, rfl⟩
theorem ty188 : TyOK Tryz.prog 188 (.cell Go.Value.nilFunc) := ⟨Tryz.isAgg188, Tryz.sizeOf188, Tryz.zeroValue188, rfl⟩
theorem ty189 : TyOK Tryz.prog 189 (.cell Go.Value.nilFunc) := ⟨Tryz.isAgg189, Tryz.sizeOf189, Tryz.zeroValue189, rfl⟩
theorem ty191 : TyOK Tryz.prog 191 (.cell Go.Value.nilFunc) := ⟨Tryz.isAgg191, Tryz.sizeOf191, Tryz.zeroValue191, rfl⟩
theorem ty193 : TyOK Tryz.prog 193 (.cell Go.Value.nilFunc) := ⟨Tryz.isAgg193, Tryz.sizeOf193, Tryz.zeroValue193, rfl⟩
theorem ty194 : TyOK Tryz.prog 194 (.cell Go.Value.nilFunc) := ⟨Tryz.isAgg194, Tryz.sizeOf194, Tryz.zeroValue194, rfl⟩
theorem ty195 : TyOK Tryz.prog 195 (.cell (Go.Value.pointer none)) := ⟨Tryz.isAgg195, Tryz.sizeOf195, Tryz.zeroValue195, rfl⟩
theorem ty199 : TyOK Tryz.prog 199 (.cell Go.Value.nilFunc) := ⟨Tryz.isAgg199, Tryz.sizeOf199, Tryz.zeroValue199, rfl⟩
theorem ty200 : TyOK Tryz.prog 200 (.cell Go.Value.nilIface) := ⟨Tryz.isAgg200, Tryz.sizeOf200, Tryz.zeroValue200, rfl⟩
theorem ty201 : TyOK Tryz.prog 201 (.cell Go.Value.nilIface) := ⟨Tryz.isAgg201, Tryz.sizeOf201, Tryz.zeroValue201, rfl⟩
theorem ty203 : TyOK Tryz.prog 203 (.cell Go.Value.nilFunc) := ⟨Tryz.isAgg203, Tryz.sizeOf203, Tryz.zeroValue203, rfl⟩
theorem ty204 : TyOK Tryz.prog 204 (.cell Go.Value.nilFunc) := ⟨Tryz.isAgg204, Tryz.sizeOf204, Tryz.zeroValue204, rfl⟩
theorem ty205 : TyOK Tryz.prog 205 (.cell Go.Value.nilFunc) := ⟨Tryz.isAgg205, Tryz.sizeOf205, Tryz.zeroValue205, rfl⟩
theorem ty206 : TyOK Tryz.prog 206 (.cell Go.Value.nilFunc) := ⟨Tryz.isAgg206, Tryz.sizeOf206, Tryz.zeroValue206, rfl⟩
theorem ty209 : TyOK Tryz.prog 209 (.cell (Go.Value.pointer none)) := ⟨Tryz.isAgg209, Tryz.sizeOf209, Tryz.zeroValue209, rfl⟩
theorem ty212 : TyOK Tryz.prog 212 (.cell Go.Value.nilFunc) := ⟨Tryz.isAgg212, Tryz.sizeOf212, Tryz.zeroValue212, rfl⟩
theorem ty216 : TyOK Tryz.prog 216 (.cell Go.Value.nilFunc) := ⟨Tryz.isAgg216, Tryz.sizeOf216, Tryz.zeroValue216, rfl⟩
theorem ty217 : TyOK Tryz.prog 217 (.cell Go.Value.nilFunc) := ⟨Tryz.isAgg217, Tryz.sizeOf217, Tryz.zeroValue217, rfl⟩
theorem ty218 : TyOK Tryz.prog 218 (.cell Go.Value.nilFunc) := ⟨Tryz.isAgg218, Tryz.sizeOf218, Tryz.zeroValue218, rfl⟩
theorem ty219 : TyOK Tryz.prog 219 (.cell Go.Value.nilFunc) := ⟨Tryz.isAgg219, Tryz.sizeOf219, Tryz.zeroValue219, rfl⟩
theorem ty220 : TyOK Tryz.prog 220 (.cell Go.Value.nilFunc) := ⟨Tryz.isAgg220, Tryz.sizeOf220, Tryz.zeroValue220, rfl⟩
theorem ty222 : TyOK Tryz.prog 222 (.cell Go.Value.nilFunc) := ⟨Tryz.isAgg222, Tryz.sizeOf222, Tryz.zeroValue222, rfl⟩
theorem ty223 : TyOK Tryz.prog 223 (.cell Go.Value.nilFunc) := ⟨Tryz.isAgg223, Tryz.sizeOf223, Tryz.zeroValue223, rfl⟩
theorem ty224 : TyOK Tryz.prog 224 (.cell Go.Value.nilFunc) := ⟨Tryz.isAgg224, Tryz.sizeOf224, Tryz.zeroValue224, rfl⟩
theorem ty225 : TyOK Tryz.prog 225 (.cell Go.Value.nilFunc) := ⟨Tryz.isAgg225, Tryz.sizeOf225, Tryz.zeroValue225, rfl⟩
theorem ty226 : TyOK Tryz.prog 226 (.cell Go.Value.nilFunc) := ⟨Tryz.isAgg226, Tryz.sizeOf226, Tryz.zeroValue226, rfl⟩
theorem ty228 : TyOK Tryz.prog 228 (.cell Go.Value.nilFunc) := ⟨Tryz.isAgg228, Tryz.sizeOf228, Tryz.zeroValue228, rfl⟩
theorem ty229 : TyOK Tryz.prog 229 (.cell Go.Value.nilFunc) := ⟨Tryz.isAgg229, Tryz.sizeOf229, Tryz.zeroValue229, rfl⟩
theorem ty230 : TyOK Tryz.prog 230 (.cell Go.Value.nilFunc) := ⟨Tryz.isAgg230, Tryz.sizeOf230, Tryz.zeroValue230, rfl⟩
theorem ty231 : TyOK Tryz.prog 231 (.cell Go.Value.nilFunc) := ⟨Tryz.isAgg231, Tryz.sizeOf231, Tryz.zeroValue231, rfl⟩
theorem ty232 : TyOK Tryz.prog 232 (.cell (Go.Value.pointer none)) := ⟨Tryz.isAgg232, Tryz.sizeOf232, Tryz.zeroValue232, rfl⟩
theorem ty233 : TyOK Tryz.prog 233 (.cell Go.Value.nilFunc) := ⟨Tryz.isAgg233, Tryz.sizeOf233, Tryz.zeroValue233, rfl⟩
theorem ty234 : TyOK Tryz.prog 234 (.cell Go.Value.nilFunc) := ⟨Tryz.isAgg234, Tryz.sizeOf234, Tryz.zeroValue234, rfl⟩
theorem ty237 : TyOK Tryz.prog 237 (.cell Go.Value.nilFunc) := ⟨Tryz.isAgg237, Tryz.sizeOf237, Tryz.zeroValue237, rfl⟩
theorem ty238 : TyOK Tryz.prog 238 (.cell Go.Value.nilFunc) := ⟨Tryz.isAgg238, Tryz.sizeOf238, Tryz.zeroValue238, rfl⟩
theorem ty239 : TyOK Tryz.prog 239 (.cell Go.Value.nilFunc) := ⟨Tryz.isAgg239, Tryz.sizeOf239, Tryz.zeroValue239, rfl⟩
theorem ty240 : TyOK Tryz.prog 240 (.cell Go.Value.nilFunc) := ⟨Tryz.isAgg240, Tryz.sizeOf240, Tryz.zeroValue240, rfl⟩
theorem ty241 : TyOK Tryz.prog 241 (.cell Go.Value.nilFunc) := ⟨Tryz.isAgg241, Tryz.sizeOf241, Tryz.zeroValue241, rfl⟩
theorem ty242 : TyOK Tryz.prog 242 (.cell Go.Value.nilFunc) := ⟨Tryz.isAgg242, Tryz.sizeOf242, Tryz.zeroValue242, rfl⟩
theorem ty243 : TyOK Tryz.prog 243 (.cell Go.Value.nilFunc) := ⟨Tryz.isAgg243, Tryz.sizeOf243, Tryz.zeroValue243, rfl⟩
theorem ty244 : TyOK Tryz.prog 244 (.cell Go.Value.nilFunc) := ⟨Tryz.isAgg244, Tryz.sizeOf244, Tryz.zeroValue244, rfl⟩
theorem ty245 : TyOK Tryz.prog 245 (.cell Go.Value.nilFunc) := ⟨Tryz.isAgg245, Tryz.sizeOf245, Tryz.zeroValue245, rfl⟩
theorem ty246 : TyOK Tryz.prog 246 (.cell Go.Value.nilFunc) := ⟨Tryz.isAgg246, Tryz.sizeOf246, Tryz.zeroValue246, rfl⟩
theorem ty247 : TyOK Tryz.prog 247 (.arr 24 5 1 [Go.Value.int Go.IntKind.u8 0, Go.Value.int Go.IntKind.u8 0, Go.Value.int Go.IntKind.u8 0, Go.Value.int Go.IntKind.u8 0, Go.Value.int Go.IntKind.u8 0, Go.Value.int Go.IntKind.u8 0, Go.Value.int Go.IntKind.u8 0, Go.Value.int Go.IntKind.u8 0, Go.Value.int Go.IntKind.u8 0, Go.Value.int Go.IntKind.u8 0, Go.Value.int Go.IntKind.u8 0, Go.Value.int Go.IntKind.u8 0, Go.Value.int Go.IntKind.u8 0, Go.Value.int Go.IntKind.u8 0, Go.Value.int Go.IntKind.u8 0, Go.Value.int Go.IntKind.u8 0, Go.Value.int Go.IntKind.u8 0, Go.Value.int Go.IntKind.u8 0, Go.Value.int Go.IntKind.u8 0, Go.Value.int Go.IntKind.u8 0, Go.Value.int Go.IntKind.u8 0, Go.Value.int Go.IntKind.u8 0, Go.Value.int Go.IntKind.u8 0, Go.Value.int Go.IntKind.u8 0]) := ⟨Tryz.isAgg247, Tryz.sizeOf247, Tryz.zeroValue247, Tryz.underlying247, Tryz.sizeOf5⟩
theorem ty248 : TyOK Tryz.prog 248 (.cell (Go.Value.int Go.IntKind.u64 0)) := ⟨Tryz.isAgg248, Tryz.sizeOf248, Tryz.zeroValue248, rfl⟩
theorem ty249 : TyOK Tryz.prog 249 (.cell Go.Value.nilFunc) := ⟨Tryz.isAgg249, Tryz.sizeOf249, Tryz.zeroValue249, rfl⟩
theorem ty250 : TyOK Tryz.prog 250 (.cell Go.Value.nilFunc) := ⟨Tryz.isAgg250, Tryz.sizeOf250, Tryz.zeroValue250, rfl⟩
theorem ty252 : TyOK Tryz.prog 252 (.cell Go.Value.nilFunc) := ⟨Tryz.isAgg252, Tryz.sizeOf252, Tryz.zeroValue252, rfl⟩
theorem ty253 : TyOK Tryz.prog 253 (.cell Go.Value.nilFunc) := ⟨Tryz.isAgg253, Tryz.sizeOf253, Tryz.zeroValue253, rfl⟩
theorem ty254 : TyOK Tryz.prog 254 (.cell Go.Value.nilFunc) := ⟨Tryz.isAgg254, Tryz.sizeOf254, Tryz.zeroValue254, rfl⟩
theorem ty255 : TyOK Tryz.prog 255 (.cell Go.Value.nilFunc) := ⟨Tryz.isAgg255, Tryz.sizeOf255, Tryz.zeroValue255, rfl⟩
theorem ty256 : TyOK Tryz.prog 256 (.cell Go.Value.nilFunc) := ⟨Tryz.isAgg256, Tryz.sizeOf256, Tryz.zeroValue256, rfl⟩
theorem ty257 : TyOK Tryz.prog 257 (.cell Go.Value.nilFunc) := ⟨Tryz.isAgg257, Tryz.sizeOf257, Tryz.zeroValue257, rfl⟩
theorem ty258 : TyOK Tryz.prog 258 (.cell Go.Value.nilFunc) := ⟨Tryz.isAgg258, Tryz.sizeOf258, Tryz.zeroValue258, rfl⟩
theorem ty259 : TyOK Tryz.prog 259 (.cell Go.Value.nilFunc) := ⟨Tryz.isAgg259, Tryz.sizeOf259, Tryz.zeroValue259, rfl⟩
theorem ty260 : TyOK Tryz.prog 260 (.cell (Go.Value.pointer none)) := ⟨Tryz.isAgg260, Tryz.sizeOf260, Tryz.zeroValue260, rfl⟩
theorem ty261 : TyOK Tryz.prog 261 (.cell Go.Value.nilFunc) := ⟨Tryz.isAgg261, Tryz.sizeOf261, Tryz.zeroValue261, rfl⟩
theorem ty262 : TyOK Tryz.prog 262 (.cell Go.Value.nilFunc) := ⟨Tryz.isAgg262, Tryz.sizeOf262, Tryz.zeroValue262, rfl⟩
theorem ty264 : TyOK Tryz.prog 264 (.cell Go.Value.nilFunc) := ⟨Tryz.isAgg264, Tryz.sizeOf264, Tryz.zeroValue264, rfl⟩
theorem ty265 : TyOK Tryz.prog 265 (.cell Go.Value.nilFunc) := ⟨Tryz.isAgg265, Tryz.sizeOf265, Tryz.zeroValue265, rfl⟩
theorem ty266 : TyOK Tryz.prog 266 (.cell Go.Value.nilFunc) := ⟨Tryz.isAgg266, Tryz.sizeOf266, Tryz.zeroValue266, rfl⟩
theorem ty267 : TyOK Tryz.prog 267 (.cell Go.Value.nilFunc) := ⟨Tryz.isAgg267, Tryz.sizeOf267, Tryz.zeroValue267, rfl⟩
theorem ty268 : TyOK Tryz.prog 268 (.cell Go.Value.nilFunc) := ⟨Tryz.isAgg268, Tryz.sizeOf268, Tryz.zeroValue268, rfl⟩
theorem ty269 : TyOK Tryz.prog 269 (.cell Go.Value.nilFunc) := ⟨Tryz.isAgg269, Tryz.sizeOf269, Tryz.zeroValue269, rfl⟩
theorem ty270 : TyOK Tryz.prog 270 (.cell Go.Value.nilFunc) := ⟨Tryz.isAgg270, Tryz.sizeOf270, Tryz.zeroValue270, rfl⟩
theorem ty271 : TyOK Tryz.prog 271 (.cell Go.Value.nilFunc) := ⟨Tryz.isAgg271, Tryz.sizeOf271, Tryz.zeroValue271, rfl⟩
theorem ty272 : TyOK Tryz.prog 272 (.cell Go.Value.nilFunc) := ⟨Tryz.isAgg272, Tryz.sizeOf272, Tryz.zeroValue272, rfl⟩
theorem ty273 : TyOK Tryz.prog 273 (.cell Go.Value.nilFunc) := ⟨Tryz.isAgg273, Tryz.sizeOf273, Tryz.zeroValue273, rfl⟩
theorem ty274 : TyOK Tryz.prog 274 (.arr 20 248 1 [Go.Value.int Go.IntKind.u64 0, Go.Value.int Go.IntKind.u64 0, Go.Value.int Go.IntKind.u64 0, Go.Value.int Go.IntKind.u64 0, Go.Value.int Go.IntKind.u64 0, Go.Value.int Go.IntKind.u64 0, Go.Value.int Go.IntKind.u64 0, Go.Value.int Go.IntKind.u64 0, Go.Value.int Go.IntKind.u64 0, Go.Value.int Go.IntKind.u64 0, Go.Value.int Go.IntKind.u64 0, Go.Value.int Go.IntKind.u64 0, Go.Value.int Go.IntKind.u64 0, Go.Value.int Go.IntKind.u64 0, Go.Value.int Go.IntKind.u64 0, Go.Value.int Go.IntKind.u64 0, Go.Value.int Go.IntKind.u64 0, Go.Value.int Go.IntKind.u64 0, Go.Value.int Go.IntKind.u64 0, Go.Value.int Go.IntKind.u64 0]) := ⟨Tryz.isAgg274, Tryz.sizeOf274, Tryz.zeroValue274, Tryz.underlying274, Tryz.sizeOf248⟩
theorem ty275 : TyOK Tryz.prog 275 (.cell (Go.Value.int Go.IntKind.u32 0)) := ⟨Tryz.isAgg275, Tryz.sizeOf275, Tryz.zeroValue275, rfl⟩
theorem ty277 : TyOK Tryz.prog 277 (.cell (Go.Value.int Go.IntKind.u64 0)) := ⟨Tryz.isAgg277, Tryz.sizeOf277, Tryz.zeroValue277, rfl⟩
theorem ty278 : TyOK Tryz.prog 278 (.cell Go.Value.nilFunc) := ⟨Tryz.isAgg278, Tryz.sizeOf278, Tryz.zeroValue278, rfl⟩
theorem ty279 : TyOK Tryz.prog 279 (.map 3 4) := ⟨⟨Tryz.isAgg279, Tryz.sizeOf279, Tryz.zeroValue279, rfl⟩, Tryz.underlying279⟩
theorem ty280 : TyOK Tryz.prog 280 (.cell Go.Value.nilFunc) := ⟨Tryz.isAgg280, Tryz.sizeOf280, Tryz.zeroValue280, rfl⟩
theorem ty281 : TyOK Tryz.prog 281 (.cell Go.Value.nilFunc) := ⟨Tryz.isAgg281, Tryz.sizeOf281, Tryz.zeroValue281, rfl⟩
theorem ty282 : TyOK Tryz.prog 282 (.cell Go.Value.nilFunc) := ⟨Tryz.isAgg282, Tryz.sizeOf282, Tryz.zeroValue282, rfl⟩
theorem ty283 : TyOK Tryz.prog 283 (.cell Go.Value.nilFunc) := ⟨Tryz.isAgg283, Tryz.sizeOf283, Tryz.zeroValue283, rfl⟩
theorem ty284 : TyOK Tryz.prog 284 (.cell Go.Value.nilFunc) := ⟨Tryz.isAgg284, Tryz.sizeOf284, Tryz.zeroValue284, rfl⟩
theorem ty285 : TyOK Tryz.prog 285 (.cell Go.Value.nilFunc) := ⟨Tryz.isAgg285, Tryz.sizeOf285, Tryz.zeroValue285, rfl⟩
theorem ty286 : TyOK Tryz.prog 286 (.cell (Go.Value.pointer none)) := ⟨Tryz.isAgg286, Tryz.sizeOf286, Tryz.zeroValue286, rfl⟩
theorem ty289 : TyOK Tryz.prog 289 (.cell Go.Value.nilFunc) := ⟨Tryz.isAgg289, Tryz.sizeOf289, Tryz.zeroValue289, rfl⟩
theorem ty290 : TyOK Tryz.prog 290 (.cell Go.Value.nilFunc) := ⟨Tryz.isAgg290, Tryz.sizeOf290, Tryz.zeroValue290, rfl⟩
theorem ty291 : TyOK Tryz.prog 291 (.cell Go.Value.nilFunc) := ⟨Tryz.isAgg291, Tryz.sizeOf291, Tryz.zeroValue291, rfl⟩
theorem ty292 : TyOK Tryz.prog 292 (.cell Go.Value.nilFunc) := ⟨Tryz.isAgg292, Tryz.sizeOf292, Tryz.zeroValue292, rfl⟩
theorem ty293 : TyOK Tryz.prog 293 (.cell Go.Value.nilFunc) := ⟨Tryz.isAgg293, Tryz.sizeOf293, Tryz.zeroValue293, rfl⟩
theorem ty298 : TyOK Tryz.prog 298 (.cell Go.Value.nilFunc) := ⟨Tryz.isAgg298, Tryz.sizeOf298, Tryz.zeroValue298, rfl⟩
theorem ty299 : TyOK Tryz.prog 299 (.cell Go.Value.nilFunc) := ⟨Tryz.isAgg299, Tryz.sizeOf299, Tryz.zeroValue299, rfl⟩
theorem ty300 : TyOK Tryz.prog 300 (.cell Go.Value.nilFunc) := ⟨Tryz.isAgg300, Tryz.sizeOf300, Tryz.zeroValue300, rfl⟩
theorem ty301 : TyOK Tryz.prog 301 (.cell Go.Value.nilFunc) := ⟨Tryz.isAgg301, Tryz.sizeOf301, Tryz.zeroValue301, rfl⟩
theorem ty302 : TyOK Tryz.prog 302 (.arr 32 5 1 [Go.Value.int Go.IntKind.u8 0, Go.Value.int Go.IntKind.u8 0, Go.Value.int Go.IntKind.u8 0, Go.Value.int Go.IntKind.u8 0, Go.Value.int Go.IntKind.u8 0, Go.Value.int Go.IntKind.u8 0, Go.Value.int Go.IntKind.u8 0, Go.Value.int Go.IntKind.u8 0, Go.Value.int Go.IntKind.u8 0, Go.Value.int Go.IntKind.u8 0, Go.Value.int Go.IntKind.u8 0, Go.Value.int Go.IntKind.u8 0, Go.Value.int Go.IntKind.u8 0, Go.Value.int Go.IntKind.u8 0, Go.Value.int Go.IntKind.u8 0, Go.Value.int Go.IntKind.u8 0, Go.Value.int Go.IntKind.u8 0, Go.Value.int Go.IntKind.u8 0, Go.Value.int Go.IntKind.u8 0, Go.Value.int Go.IntKind.u8 0, Go.Value.int Go.IntKind.u8 0, Go.Value.int Go.IntKind.u8 0, Go.Value.int Go.IntKind.u8 0, Go.Value.int Go.IntKind.u8 0, Go.Value.int Go.IntKind.u8 0, Go.Value.int Go.IntKind.u8 0, Go.Value.int Go.IntKind.u8 0, Go.Value.int Go.IntKind.u8 0, Go.Value.int Go.IntKind.u8 0, Go.Value.int Go.IntKind.u8 0, Go.Value.int Go.IntKind.u8 0, Go.Value.int Go.IntKind.u8 0]) := ⟨Tryz.isAgg302, Tryz.sizeOf302, Tryz.zeroValue302, Tryz.underlying302, Tryz.sizeOf5⟩
theorem ty303 : TyOK Tryz.prog 303 (.arr 64 5 1 [Go.Value.int Go.IntKind.u8 0, Go.Value.int Go.IntKind.u8 0, Go.Value.int Go.IntKind.u8 0, Go.Value.int Go.IntKind.u8 0, Go.Value.int Go.IntKind.u8 0, Go.Value.int Go.IntKind.u8 0, Go.Value.int Go.IntKind.u8 0, Go.Value.int Go.IntKind.u8 0, Go.Value.int Go.IntKind.u8 0, Go.Value.int Go.IntKind.u8 0, Go.Value.int Go.IntKind.u8 0, Go.Value.int Go.IntKind.u8 0, Go.Value.int Go.IntKind.u8 0, Go.Value.int Go.IntKind.u8 0, Go.Value.int Go.IntKind.u8 0, Go.Value.int Go.IntKind.u8 0, Go.Value.int Go.IntKind.u8 0, Go.Value.int Go.IntKind.u8 0, Go.Value.int Go.IntKind.u8 0, Go.Value.int Go.IntKind.u8 0, Go.Value.int Go.IntKind.u8 0, Go.Value.int Go.IntKind.u8 0, Go.Value.int Go.IntKind.u8 0, Go.Value.int Go.IntKind.u8 0, Go.Value.int Go.IntKind.u8 0, Go.Value.int Go.IntKind.u8 0, Go.Value.int Go.IntKind.u8 0, Go.Value.int Go.IntKind.u8 0, Go.Value.int Go.IntKind.u8 0, Go.Value.int Go.IntKind.u8 0, Go.Value.int Go.IntKind.u8 0, Go.Value.int Go.IntKind.u8 0, Go.Value.int Go.IntKind.u8 0, Go.Value.int Go.IntKind.u8 0, Go.Value.int Go.IntKind.u8 0, Go.Value.int Go.IntKind.u8 0, Go.Value.int Go.IntKind.u8 0, Go.Value.int Go.IntKind.u8 0, Go.Value.int Go.IntKind.u8 0, Go.Value.int Go.IntKind.u8 0, Go.Value.int Go.IntKind.u8 0, Go.Value.int Go.IntKind.u8 0, Go.Value.int Go.IntKind.u8 0, Go.Value.int Go.IntKind.u8 0, Go.Value.int Go.IntKind.u8 0, Go.Value.int Go.IntKind.u8 0, Go.Value.int Go.IntKind.u8 0, Go.Value.int Go.IntKind.u8 0, Go.Value.int Go.IntKind.u8 0, Go.Value.int Go.IntKind.u8 0, Go.Value.int Go.IntKind.u8 0, Go.Value.int Go.IntKind.u8 0, Go.Value.int Go.IntKind.u8 0, Go.Value.int Go.IntKind.u8 0, Go.Value.int Go.IntKind.u8 0, Go.Value.int Go.IntKind.u8 0, Go.Value.int Go.IntKind.u8 0, Go.Value.int Go.IntKind.u8 0, Go.Value.int Go.IntKind.u8 0, Go.Value.int Go.IntKind.u8 0, Go.Value.int Go.IntKind.u8 0, Go.Value.int Go.IntKind.u8 0, Go.Value.int Go.IntKind.u8 0, Go.Value.int Go.IntKind.u8 0]) := ⟨Tryz.isAgg303, Tryz.sizeOf303, Tryz.zeroValue303, Tryz.underlying303, Tryz.sizeOf5⟩
theorem ty304 : TyOK Tryz.prog 304 (.cell Go.Value.nilFunc) := ⟨Tryz.isAgg304, Tryz.sizeOf304, Tryz.zeroValue304, rfl⟩
theorem ty305 : TyOK Tryz.prog 305 (.cell Go.Value.nilFunc) := ⟨Tryz.isAgg305, Tryz.sizeOf305, Tryz.zeroValue305, rfl⟩
theorem ty306 : TyOK Tryz.prog 306 (.cell Go.Value.nilFunc) := ⟨Tryz.isAgg306, Tryz.sizeOf306, Tryz.zeroValue306, rfl⟩
theorem ty307 : TyOK Tryz.prog 307 (.cell Go.Value.nilFunc) := ⟨Tryz.isAgg307, Tryz.sizeOf307, Tryz.zeroValue307, rfl⟩
theorem ty308 : TyOK Tryz.prog 308 (.cell Go.Value.nilFunc) := ⟨Tryz.isAgg308, Tryz.sizeOf308, Tryz.zeroValue308, rfl⟩
theorem ty309 : TyOK Tryz.prog 309 (.cell Go.Value.nilFunc) := ⟨Tryz.isAgg309, Tryz.sizeOf309, Tryz.zeroValue309, rfl⟩
theorem ty310 : TyOK Tryz.prog 310 (.cell (Go.Value.int Go.IntKind.i64 0)) := ⟨Tryz.isAgg310, Tryz.sizeOf310, Tryz.zeroValue310, rfl⟩
theorem ty312 : TyOK Tryz.prog 312 (.cell Go.Value.nilFunc) := ⟨Tryz.isAgg312, Tryz.sizeOf312, Tryz.zeroValue312, rfl⟩
theorem ty313 : TyOK Tryz.prog 313 (.cell Go.Value.nilFunc) := ⟨Tryz.isAgg313, Tryz.sizeOf313, Tryz.zeroValue313, rfl⟩
theorem ty314 : TyOK Tryz.prog 314 (.cell Go.Value.nilFunc) := ⟨Tryz.isAgg314, Tryz.sizeOf314, Tryz.zeroValue314, rfl⟩
theorem ty315 : TyOK Tryz.prog 315 (.cell Go.Value.nilFunc) := ⟨Tryz.isAgg315, Tryz.sizeOf315, Tryz.zeroValue315, rfl⟩
theorem ty316 : TyOK Tryz.prog 316 (.cell (Go.Value.int Go.IntKind.u64 0)) := ⟨Tryz.isAgg316, Tryz.sizeOf316, Tryz.zeroValue316, rfl⟩
theorem ty317 : TyOK Tryz.prog 317 (.cell Go.Value.nilFunc) := ⟨Tryz.isAgg317, Tryz.sizeOf317, Tryz.zeroValue317, rfl⟩
theorem ty318 : TyOK Tryz.prog 318 (.cell Go.Value.nilFunc) := ⟨Tryz.isAgg318, Tryz.sizeOf318, Tryz.zeroValue318, rfl⟩
theorem ty319 : TyOK Tryz.prog 319 (.cell Go.Value.nilFunc) := ⟨Tryz.isAgg319, Tryz.sizeOf319, Tryz.zeroValue319, rfl⟩
theorem ty320 : TyOK Tryz.prog 320 (.cell Go.Value.nilFunc) := ⟨Tryz.isAgg320, Tryz.sizeOf320, Tryz.zeroValue320, rfl⟩
theorem ty321 : TyOK Tryz.prog 321 (.cell (Go.Value.pointer none)) := ⟨Tryz.isAgg321, Tryz.sizeOf321, Tryz.zeroValue321, rfl⟩
theorem ty322 : TyOK Tryz.prog 322 (.cell Go.Value.nilFunc) := ⟨Tryz.isAgg322, Tryz.sizeOf322, Tryz.zeroValue322, rfl⟩
theorem ty328 : TyOK Tryz.prog 328 (.cell Go.Value.nilFunc) := ⟨Tryz.isAgg328, Tryz.sizeOf328, Tryz.zeroValue328, rfl⟩
theorem ty329 : TyOK Tryz.prog 329 (.cell (Go.Value.int Go.IntKind.u8 0)) := ⟨Tryz.isAgg329, Tryz.sizeOf329, Tryz.zeroValue329, rfl⟩
theorem ty330 : TyOK Tryz.prog 330 (.cell (Go.Value.int Go.IntKind.u8 0)) := ⟨Tryz.isAgg330, Tryz.sizeOf330, Tryz.zeroValue330, rfl⟩
theorem ty331 : TyOK Tryz.prog 331 (.cell Go.Value.nilFunc) := ⟨Tryz.isAgg331, Tryz.sizeOf331, Tryz.zeroValue331, rfl⟩
theorem ty332 : TyOK Tryz.prog 332 (.cell (Go.Value.int Go.IntKind.i32 0)) := ⟨Tryz.isAgg332, Tryz.sizeOf332, Tryz.zeroValue332, rfl⟩
theorem ty333 : TyOK Tryz.prog 333 (.cell (Go.Value.int Go.IntKind.i32 0)) := ⟨Tryz.isAgg333, Tryz.sizeOf333, Tryz.zeroValue333, rfl⟩
def tyRows : List (Nat × TK) := [(22, .slice 74 6),
  (23, .slice 3 1),
  (24, .struct [0, 1] [1, 1] [Go.Value.int Go.IntKind.i64 0, Go.Value.slice none 0 0]),
  (25, .struct [0, 1] [1, 1] [Go.Value.int Go.IntKind.i64 0, Go.Value.slice none 0 0]),
  (28, .slice 30 3),
  (29, .struct [0, 1, 2] [1, 1, 1] [Go.Value.int Go.IntKind.i64 0, Go.Value.string { data := #[] }, Go.Value.slice none 0 0]),
  (30, .struct [0, 1, 2] [1, 1, 1] [Go.Value.int Go.IntKind.i64 0, Go.Value.string { data := #[] }, Go.Value.slice none 0 0]),
  (31, .slice 41 8),
  (32, .struct [0, 1, 2, 5] [1, 1, 3, 1] [Go.Value.string { data := #[] }, Go.Value.string { data := #[] }, Go.Value.int Go.IntKind.i64 0, Go.Value.string { data := #[] }, Go.Value.slice none 0 0, Go.Value.slice none 0 0]),
  (33, .struct [0, 1, 2, 5] [1, 1, 3, 1] [Go.Value.string { data := #[] }, Go.Value.string { data := #[] }, Go.Value.int Go.IntKind.i64 0, Go.Value.string { data := #[] }, Go.Value.slice none 0 0, Go.Value.slice none 0 0]),
  (40, .struct [0, 1, 2, 3, 4, 7] [1, 1, 1, 1, 3, 1] [Go.Value.int Go.IntKind.i64 0, Go.Value.string { data := #[] }, Go.Value.string { data := #[] }, Go.Value.int Go.IntKind.i64 0, Go.Value.int Go.IntKind.i64 0, Go.Value.string { data := #[] }, Go.Value.slice none 0 0, Go.Value.slice none 0 0]),
  (41, .struct [0, 1, 2, 3, 4, 7] [1, 1, 1, 1, 3, 1] [Go.Value.int Go.IntKind.i64 0, Go.Value.string { data := #[] }, Go.Value.string { data := #[] }, Go.Value.int Go.IntKind.i64 0, Go.Value.int Go.IntKind.i64 0, Go.Value.string { data := #[] }, Go.Value.slice none 0 0, Go.Value.slice none 0 0]),
  (43, .slice 25 2),
  (51, .slice 134 10),
  (52, .slice 54 4),
  (53, .struct [0, 1, 2, 3] [1, 1, 1, 1] [Go.Value.int Go.IntKind.i64 0, Go.Value.int Go.IntKind.i64 0, Go.Value.int Go.IntKind.i64 0, Go.Value.slice none 0 0]),
  (54, .struct [0, 1, 2, 3] [1, 1, 1, 1] [Go.Value.int Go.IntKind.i64 0, Go.Value.int Go.IntKind.i64 0, Go.Value.int Go.IntKind.i64 0, Go.Value.slice none 0 0]),
  (55, .struct [0, 1, 2, 3] [1, 1, 1, 4] [Go.Value.slice none 0 0, Go.Value.slice none 0 0, Go.Value.int Go.IntKind.i64 0, Go.Value.int Go.IntKind.i64 0, Go.Value.int Go.IntKind.i64 0, Go.Value.int Go.IntKind.i64 0, Go.Value.slice none 0 0]),
  (56, .struct [0, 1, 2, 3] [1, 1, 1, 4] [Go.Value.slice none 0 0, Go.Value.slice none 0 0, Go.Value.int Go.IntKind.i64 0, Go.Value.int Go.IntKind.i64 0, Go.Value.int Go.IntKind.i64 0, Go.Value.int Go.IntKind.i64 0, Go.Value.slice none 0 0]),
  (64, .slice 9 1),
  (65, .struct [0, 1, 2] [1, 1, 1] [Go.Value.slice none 0 0, Go.Value.slice none 0 0, Go.Value.slice none 0 0]),
  (66, .struct [0, 1, 2] [1, 1, 1] [Go.Value.slice none 0 0, Go.Value.slice none 0 0, Go.Value.slice none 0 0]),
  (73, .struct [0, 1, 5] [1, 4, 1] [Go.Value.string { data := #[] }, Go.Value.int Go.IntKind.i64 0, Go.Value.int Go.IntKind.i64 0, Go.Value.int Go.IntKind.i64 0, Go.Value.slice none 0 0, Go.Value.int Go.IntKind.i64 0]),
  (74, .struct [0, 1, 5] [1, 4, 1] [Go.Value.string { data := #[] }, Go.Value.int Go.IntKind.i64 0, Go.Value.int Go.IntKind.i64 0, Go.Value.int Go.IntKind.i64 0, Go.Value.slice none 0 0, Go.Value.int Go.IntKind.i64 0]),
  (118, .slice 4 1),
  (124, .struct [0, 1, 2] [1, 1, 1] [Go.Value.slice none 0 0, Go.Value.slice none 0 0, Go.Value.int Go.IntKind.i64 0]),
  (125, .struct [0, 1, 2] [1, 1, 1] [Go.Value.slice none 0 0, Go.Value.slice none 0 0, Go.Value.int Go.IntKind.i64 0]),
  (133, .struct [0, 1, 5, 6] [1, 4, 1, 4] [Go.Value.string { data := #[] }, Go.Value.int Go.IntKind.i64 0, Go.Value.int Go.IntKind.i64 0, Go.Value.int Go.IntKind.i64 0, Go.Value.slice none 0 0, Go.Value.bool false, Go.Value.int Go.IntKind.i64 0, Go.Value.int Go.IntKind.i64 0, Go.Value.int Go.IntKind.i64 0, Go.Value.slice none 0 0]),
  (134, .struct [0, 1, 5, 6] [1, 4, 1, 4] [Go.Value.string { data := #[] }, Go.Value.int Go.IntKind.i64 0, Go.Value.int Go.IntKind.i64 0, Go.Value.int Go.IntKind.i64 0, Go.Value.slice none 0 0, Go.Value.bool false, Go.Value.int Go.IntKind.i64 0, Go.Value.int Go.IntKind.i64 0, Go.Value.int Go.IntKind.i64 0, Go.Value.slice none 0 0]),
  (143, .slice 151 3),
  (147, .struct [0, 1, 2] [1, 1, 1] [Go.Value.slice none 0 0, Go.Value.int Go.IntKind.i64 0, Go.Value.bool false]),
  (148, .struct [0, 1, 2] [1, 1, 1] [Go.Value.slice none 0 0, Go.Value.int Go.IntKind.i64 0, Go.Value.bool false]),
  (150, .struct [0, 1, 2] [1, 1, 1] [Go.Value.int Go.IntKind.i64 0, Go.Value.string { data := #[] }, Go.Value.int Go.IntKind.i64 0]),
  (151, .struct [0, 1, 2] [1, 1, 1] [Go.Value.int Go.IntKind.i64 0, Go.Value.string { data := #[] }, Go.Value.int Go.IntKind.i64 0]),
  (157, .struct [0, 1] [1, 1] [Go.Value.slice none 0 0, Go.Value.slice none 0 0]),
  (158, .struct [0, 1] [1, 1] [Go.Value.slice none 0 0, Go.Value.slice none 0 0]),
  (196, .slice 5 1),
  (197, .struct [0, 1] [1, 1] [Go.Value.pointer none, Go.Value.slice none 0 0]),
  (198, .struct [0, 1] [1, 1] [Go.Value.pointer none, Go.Value.slice none 0 0]),
  (207, .struct [0, 1] [1, 1] [Go.Value.int Go.IntKind.i64 0, Go.Value.int Go.IntKind.i64 0]),
  (208, .struct [0, 1] [1, 1] [Go.Value.int Go.IntKind.i64 0, Go.Value.int Go.IntKind.i64 0]),
  (210, .struct [0, 1] [1, 1] [Go.Value.map none, Go.Value.int Go.IntKind.i64 0]),
  (211, .struct [0, 1] [1, 1] [Go.Value.map none, Go.Value.int Go.IntKind.i64 0]),
  (235, .slice 4 1),
  (236, .slice 235 1),
  (287, .struct [0] [1] [Go.Value.int Go.IntKind.i64 0]),
  (288, .struct [0] [1] [Go.Value.int Go.IntKind.i64 0]),
  (294, .slice 296 2),
  (295, .struct [0, 1] [1, 1] [Go.Value.slice none 0 0, Go.Value.int Go.IntKind.i64 0]),
  (296, .struct [0, 1] [1, 1] [Go.Value.slice none 0 0, Go.Value.int Go.IntKind.i64 0]),
  (334, .struct [0, 1, 2, 3, 4, 5, 6, 7, 8, 9, 10] [1, 1, 1, 1, 1, 1, 1, 1, 1, 1, 1] [Go.Value.int Go.IntKind.u64 0, Go.Value.int Go.IntKind.u64 0, Go.Value.int Go.IntKind.u32 0, Go.Value.int Go.IntKind.u8 0, Go.Value.int Go.IntKind.u8 0, Go.Value.int Go.IntKind.u8 0, Go.Value.int Go.IntKind.u8 0, Go.Value.nilFunc, Go.Value.pointer none, Go.Value.int Go.IntKind.i32 0, Go.Value.int Go.IntKind.i32 0]),
  (1, .cell Go.Value.nilFunc),
  (2, .cell (Go.Value.int Go.IntKind.i64 0)),
  (3, .cell (Go.Value.int Go.IntKind.i64 0)),
  (4, .cell (Go.Value.bool false)),
  (5, .cell (Go.Value.int Go.IntKind.u8 0)),
  (6, .cell (Go.Value.int Go.IntKind.u8 0)),
  (9, .str),
  (10, .str),
  (11, .str),
  (12, .cell (Go.Value.int Go.IntKind.u64 0)),
  (15, .cell (Go.Value.pointer none)),
  (16, .cell (Go.Value.pointer none)),
  (17, .cell (Go.Value.pointer none)),
  (20, .cell Go.Value.nilIface),
  (21, .cell (Go.Value.int Go.IntKind.i32 0)),
  (26, .cell Go.Value.nilFunc),
  (27, .cell Go.Value.nilFunc),
  (34, .cell (Go.Value.int Go.IntKind.i64 0)),
  (36, .cell Go.Value.nilFunc),
  (38, .cell Go.Value.nilFunc),
  (39, .cell Go.Value.nilFunc),
  (42, .cell Go.Value.nilFunc),
  (44, .cell Go.Value.nilFunc),
  (46, .cell Go.Value.nilFunc),
  (47, .cell Go.Value.nilFunc),
  (48, .cell Go.Value.nilFunc),
  (49, .cell Go.Value.nilFunc),
  (50, .cell Go.Value.nilFunc),
  (58, .cell Go.Value.nilFunc),
  (60, .cell Go.Value.nilFunc),
  (61, .cell Go.Value.nilFunc),
  (62, .cell Go.Value.nilFunc),
  (63, .cell Go.Value.nilFunc),
  (68, .cell Go.Value.nilFunc),
  (70, .cell Go.Value.nilFunc),
  (71, .cell Go.Value.nilFunc),
  (72, .cell Go.Value.nilFunc),
  (75, .cell Go.Value.nilFunc),
  (76, .cell Go.Value.nilFunc),
  (77, .cell Go.Value.nilFunc),
  (79, .cell Go.Value.nilFunc),
  (80, .arr 2 54 4 [Go.Value.int Go.IntKind.i64 0, Go.Value.int Go.IntKind.i64 0, Go.Value.int Go.IntKind.i64 0, Go.Value.slice none 0 0, Go.Value.int Go.IntKind.i64 0, Go.Value.int Go.IntKind.i64 0, Go.Value.int Go.IntKind.i64 0, Go.Value.slice none 0 0]),
  (81, .cell Go.Value.nilFunc),
  (82, .cell Go.Value.nilFunc),
  (83, .cell Go.Value.nilFunc),
  (84, .cell Go.Value.nilFunc),
  (85, .cell Go.Value.nilFunc),
  (86, .cell Go.Value.nilFunc),
  (88, .cell Go.Value.nilFunc),
  (89, .cell Go.Value.nilFunc),
  (90, .cell Go.Value.nilFunc),
  (91, .cell Go.Value.nilFunc),
  (92, .cell Go.Value.nilFunc),
  (93, .cell Go.Value.nilFunc),
  (94, .cell Go.Value.nilFunc),
  (96, .cell Go.Value.nilFunc),
  (97, .cell Go.Value.nilFunc),
  (98, .cell Go.Value.nilFunc),
  (100, .cell Go.Value.nilFunc),
  (101, .cell Go.Value.nilFunc),
  (102, .arr 4 9 1 [Go.Value.string { data := #[] }, Go.Value.string { data := #[] }, Go.Value.string { data := #[] }, Go.Value.string { data := #[] }]),
  (103, .cell Go.Value.nilFunc),
  (104, .cell Go.Value.nilFunc),
  (105, .cell Go.Value.nilFunc),
  (106, .map 9 3),
  (107, .cell Go.Value.nilFunc),
  (109, .cell Go.Value.nilFunc),
  (111, .cell Go.Value.nilFunc),
  (112, .cell Go.Value.nilFunc),
  (113, .map 3 25),
  (115, .cell Go.Value.nilFunc),
  (117, .cell Go.Value.nilFunc),
  (119, .cell Go.Value.nilFunc),
  (120, .cell Go.Value.nilFunc),
  (121, .cell Go.Value.nilFunc),
  (122, .cell Go.Value.nilFunc),
  (123, .cell (Go.Value.pointer none)),
  (126, .cell Go.Value.nilFunc),
  (127, .cell Go.Value.nilFunc),
  (128, .cell Go.Value.nilFunc),
  (129, .cell Go.Value.nilFunc),
  (130, .cell Go.Value.nilFunc),
  (131, .cell Go.Value.nilFunc),
  (132, .cell Go.Value.nilFunc),
  (135, .cell Go.Value.nilFunc),
  (136, .cell Go.Value.nilFunc),
  (137, .cell Go.Value.nilFunc),
  (138, .cell Go.Value.nilFunc),
  (139, .cell Go.Value.nilFunc),
  (140, .cell Go.Value.nilFunc),
  (141, .cell Go.Value.nilFunc),
  (142, .cell Go.Value.nilFunc),
  (145, .cell Go.Value.nilFunc),
  (146, .cell (Go.Value.pointer none)),
  (149, .cell Go.Value.nilFunc),
  (152, .cell Go.Value.nilFunc),
  (153, .cell Go.Value.nilFunc),
  (154, .cell Go.Value.nilFunc),
  (155, .cell Go.Value.nilFunc),
  (156, .cell Go.Value.nilFunc),
  (159, .cell Go.Value.nilFunc),
  (160, .cell Go.Value.nilFunc),
  (161, .cell Go.Value.nilFunc),
  (162, .map 9 4),
  (163, .cell Go.Value.nilFunc),
  (164, .cell Go.Value.nilFunc),
  (165, .cell Go.Value.nilFunc),
  (166, .cell Go.Value.nilFunc),
  (167, .cell Go.Value.nilFunc),
  (168, .cell Go.Value.nilFunc),
  (169, .cell Go.Value.nilFunc),
  (170, .cell (Go.Value.pointer none)),
  (172, .cell Go.Value.nilFunc),
  (173, .cell Go.Value.nilFunc),
  (174, .cell Go.Value.nilFunc),
  (176, .cell Go.Value.nilFunc),
  (177, .cell Go.Value.nilFunc),
  (178, .cell Go.Value.nilFunc),
  (179, .cell Go.Value.nilFunc),
  (180, .cell Go.Value.nilFunc),
  (181, .cell Go.Value.nilFunc),
  (182, .cell Go.Value.nilFunc),
  (183, .cell Go.Value.nilFunc),
  (184, .cell Go.Value.nilFunc),
  (185, .cell Go.Value.nilFunc),
  (186, .cell Go.Value.nilFunc),
  (187, .cell Go.Value.nilFunc),
  (188, .cell Go.Value.nilFunc),
  (189, .cell Go.Value.nilFunc),
  (191, .cell Go.Value.nilFunc),
  (193, .cell Go.Value.nilFunc),
  (194, .cell Go.Value.nilFunc),
  (195, .cell (Go.Value.pointer none)),
  (199, .cell Go.Value.nilFunc),
  (200, .cell Go.Value.nilIface),
  (201, .cell Go.Value.nilIface),
  (203, .cell Go.Value.nilFunc),
  (204, .cell Go.Value.nilFunc),
  (205, .cell Go.Value.nilFunc),
  (206, .cell Go.Value.nilFunc),
  (209, .cell (Go.Value.pointer none)),
  (212, .cell Go.Value.nilFunc),
  (216, .cell Go.Value.nilFunc),
  (217, .cell Go.Value.nilFunc),
  (218, .cell Go.Value.nilFunc),
  (219, .cell Go.Value.nilFunc),
  (220, .cell Go.Value.nilFunc),
  (222, .cell Go.Value.nilFunc),
  (223, .cell Go.Value.nilFunc),
  (224, .cell Go.Value.nilFunc),
  (225, .cell Go.Value.nilFunc),
  (226, .cell Go.Value.nilFunc),
  (228, .cell Go.Value.nilFunc),
  (229, .cell Go.Value.nilFunc),
  (230, .cell Go.Value.nilFunc),
  (231, .cell Go.Value.nilFunc),
  (232, .cell (Go.Value.pointer none)),
  (233, .cell Go.Value.nilFunc),
  (234, .cell Go.Value.nilFunc),
  (237, .cell Go.Value.nilFunc),
  (238, .cell Go.Value.nilFunc),
  (239, .cell Go.Value.nilFunc),
  (240, .cell Go.Value.nilFunc),
  (241, .cell Go.Value.nilFunc),
  (242, .cell Go.Value.nilFunc),
  (243, .cell Go.Value.nilFunc),
  (244, .cell Go.Value.nilFunc),
  (245, .cell Go.Value.nilFunc),
  (246, .cell Go.Value.nilFunc),
  (247, .arr 24 5 1 [Go.Value.int Go.IntKind.u8 0, Go.Value.int Go.IntKind.u8 0, Go.Value.int Go.IntKind.u8 0, Go.Value.int Go.IntKind.u8 0, Go.Value.int Go.IntKind.u8 0, Go.Value.int Go.IntKind.u8 0, Go.Value.int Go.IntKind.u8 0, Go.Value.int Go.IntKind.u8 0, Go.Value.int Go.IntKind.u8 0, Go.Value.int Go.IntKind.u8 0, Go.Value.int Go.IntKind.u8 0, Go.Value.int Go.IntKind.u8 0, Go.Value.int Go.IntKind.u8 0, Go.Value.int Go.IntKind.u8 0, Go.Value.int Go.IntKind.u8 0, Go.Value.int Go.IntKind.u8 0, Go.Value.int Go.IntKind.u8 0, Go.Value.int Go.IntKind.u8 0, Go.Value.int Go.IntKind.u8 0, Go.Value.int Go.IntKind.u8 0, Go.Value.int Go.IntKind.u8 0, Go.Value.int Go.IntKind.u8 0, Go.Value.int Go.IntKind.u8 0, Go.Value.int Go.IntKind.u8 0]),
  (248, .cell (Go.Value.int Go.IntKind.u64 0)),
  (249, .cell Go.Value.nilFunc),
  (250, .cell Go.Value.nilFunc),
  (252, .cell Go.Value.nilFunc),
  (253, .cell Go.Value.nilFunc),
  (254, .cell Go.Value.nilFunc),
  (255, .cell Go.Value.nilFunc),
  (256, .cell Go.Value.nilFunc),
  (257, .cell Go.Value.nilFunc),
  (258, .cell Go.Value.nilFunc),
  (259, .cell Go.Value.nilFunc),
  (260, .cell (Go.Value.pointer none)),
  (261, .cell Go.Value.nilFunc),
  (262, .cell Go.Value.nilFunc),
  (264, .cell Go.Value.nilFunc),
  (265, .cell Go.Value.nilFunc),
  (266, .cell Go.Value.nilFunc),
  (267, .cell Go.Value.nilFunc),
  (268, .cell Go.Value.nilFunc),
  (269, .cell Go.Value.nilFunc),
  (270, .cell Go.Value.nilFunc),
  (271, .cell Go.Value.nilFunc),
  (272, .cell Go.Value.nilFunc),
  (273, .cell Go.Value.nilFunc),
  (274, .arr 20 248 1 [Go.Value.int Go.IntKind.u64 0, Go.Value.int Go.IntKind.u64 0, Go.Value.int Go.IntKind.u64 0, Go.Value.int Go.IntKind.u64 0, Go.Value.int Go.IntKind.u64 0, Go.Value.int Go.IntKind.u64 0, Go.Value.int Go.IntKind.u64 0, Go.Value.int Go.IntKind.u64 0, Go.Value.int Go.IntKind.u64 0, Go.Value.int Go.IntKind.u64 0, Go.Value.int Go.IntKind.u64 0, Go.Value.int Go.IntKind.u64 0, Go.Value.int Go.IntKind.u64 0, Go.Value.int Go.IntKind.u64 0, Go.Value.int Go.IntKind.u64 0, Go.Value.int Go.IntKind.u64 0, Go.Value.int Go.IntKind.u64 0, Go.Value.int Go.IntKind.u64 0, Go.Value.int Go.IntKind.u64 0, Go.Value.int Go.IntKind.u64 0]),
  (275, .cell (Go.Value.int Go.IntKind.u32 0)),
  (277, .cell (Go.Value.int Go.IntKind.u64 0)),
  (278, .cell Go.Value.nilFunc),
  (279, .map 3 4),
  (280, .cell Go.Value.nilFunc),
  (281, .cell Go.Value.nilFunc),
  (282, .cell Go.Value.nilFunc),
  (283, .cell Go.Value.nilFunc),
  (284, .cell Go.Value.nilFunc),
  (285, .cell Go.Value.nilFunc),
  (286, .cell (Go.Value.pointer none)),
  (289, .cell Go.Value.nilFunc),
  (290, .cell Go.Value.nilFunc),
  (291, .cell Go.Value.nilFunc),
  (292, .cell Go.Value.nilFunc),
  (293, .cell Go.Value.nilFunc),
  (298, .cell Go.Value.nilFunc),
  (299, .cell Go.Value.nilFunc),
  (300, .cell Go.Value.nilFunc),
  (301, .cell Go.Value.nilFunc),
  (302, .arr 32 5 1 [Go.Value.int Go.IntKind.u8 0, Go.Value.int Go.IntKind.u8 0, Go.Value.int Go.IntKind.u8 0, Go.Value.int Go.IntKind.u8 0, Go.Value.int Go.IntKind.u8 0, Go.Value.int Go.IntKind.u8 0, Go.Value.int Go.IntKind.u8 0, Go.Value.int Go.IntKind.u8 0, Go.Value.int Go.IntKind.u8 0, Go.Value.int Go.IntKind.u8 0, Go.Value.int Go.IntKind.u8 0, Go.Value.int Go.IntKind.u8 0, Go.Value.int Go.IntKind.u8 0, Go.Value.int Go.IntKind.u8 0, Go.Value.int Go.IntKind.u8 0, Go.Value.int Go.IntKind.u8 0, Go.Value.int Go.IntKind.u8 0, Go.Value.int Go.IntKind.u8 0, Go.Value.int Go.IntKind.u8 0, Go.Value.int Go.IntKind.u8 0, Go.Value.int Go.IntKind.u8 0, Go.Value.int Go.IntKind.u8 0, Go.Value.int Go.IntKind.u8 0, Go.Value.int Go.IntKind.u8 0, Go.Value.int Go.IntKind.u8 0, Go.Value.int Go.IntKind.u8 0, Go.Value.int Go.IntKind.u8 0, Go.Value.int Go.IntKind.u8 0, Go.Value.int Go.IntKind.u8 0, Go.Value.int Go.IntKind.u8 0, Go.Value.int Go.IntKind.u8 0, Go.Value.int Go.IntKind.u8 0]),
  (303, .arr 64 5 1 [Go.Value.int Go.IntKind.u8 0, Go.Value.int Go.IntKind.u8 0, Go.Value.int Go.IntKind.u8 0, Go.Value.int Go.IntKind.u8 0, Go.Value.int Go.IntKind.u8 0, Go.Value.int Go.IntKind.u8 0, Go.Value.int Go.IntKind.u8 0, Go.Value.int Go.IntKind.u8 0, Go.Value.int Go.IntKind.u8 0, Go.Value.int Go.IntKind.u8 0, Go.Value.int Go.IntKind.u8 0, Go.Value.int Go.IntKind.u8 0, Go.Value.int Go.IntKind.u8 0, Go.Value.int Go.IntKind.u8 0, Go.Value.int Go.IntKind.u8 0, Go.Value.int Go.IntKind.u8 0, Go.Value.int Go.IntKind.u8 0, Go.Value.int Go.IntKind.u8 0, Go.Value.int Go.IntKind.u8 0, Go.Value.int Go.IntKind.u8 0, Go.Value.int Go.IntKind.u8 0, Go.Value.int Go.IntKind.u8 0, Go.Value.int Go.IntKind.u8 0, Go.Value.int Go.IntKind.u8 0, Go.Value.int Go.IntKind.u8 0, Go.Value.int Go.IntKind.u8 0, Go.Value.int Go.IntKind.u8 0, Go.Value.int Go.IntKind.u8 0, Go.Value.int Go.IntKind.u8 0, Go.Value.int Go.IntKind.u8 0, Go.Value.int Go.IntKind.u8 0, Go.Value.int Go.IntKind.u8 0, Go.Value.int Go.IntKind.u8 0, Go.Value.int Go.IntKind.u8 0, Go.Value.int Go.IntKind.u8 0, Go.Value.int Go.IntKind.u8 0, Go.Value.int Go.IntKind.u8 0, Go.Value.int Go.IntKind.u8 0, Go.Value.int Go.IntKind.u8 0, Go.Value.int Go.IntKind.u8 0, Go.Value.int Go.IntKind.u8 0, Go.Value.int Go.IntKind.u8 0, Go.Value.int Go.IntKind.u8 0, Go.Value.int Go.IntKind.u8 0, Go.Value.int Go.IntKind.u8 0, Go.Value.int Go.IntKind.u8 0, Go.Value.int Go.IntKind.u8 0, Go.Value.int Go.IntKind.u8 0, Go.Value.int Go.IntKind.u8 0, Go.Value.int Go.IntKind.u8 0, Go.Value.int Go.IntKind.u8 0, Go.Value.int Go.IntKind.u8 0, Go.Value.int Go.IntKind.u8 0, Go.Value.int Go.IntKind.u8 0, Go.Value.int Go.IntKind.u8 0, Go.Value.int Go.IntKind.u8 0, Go.Value.int Go.IntKind.u8 0, Go.Value.int Go.IntKind.u8 0, Go.Value.int Go.IntKind.u8 0, Go.Value.int Go.IntKind.u8 0, Go.Value.int Go.IntKind.u8 0, Go.Value.int Go.IntKind.u8 0, Go.Value.int Go.IntKind.u8 0, Go.Value.int Go.IntKind.u8 0]),
  (304, .cell Go.Value.nilFunc),
  (305, .cell Go.Value.nilFunc),
  (306, .cell Go.Value.nilFunc),
  (307, .cell Go.Value.nilFunc),
  (308, .cell Go.Value.nilFunc),
  (309, .cell Go.Value.nilFunc),
  (310, .cell (Go.Value.int Go.IntKind.i64 0)),
  (312, .cell Go.Value.nilFunc),
  (313, .cell Go.Value.nilFunc),
  (314, .cell Go.Value.nilFunc),
  (315, .cell Go.Value.nilFunc),
  (316, .cell (Go.Value.int Go.IntKind.u64 0)),
  (317, .cell Go.Value.nilFunc),
  (318, .cell Go.Value.nilFunc),
  (319, .cell Go.Value.nilFunc),
  (320, .cell Go.Value.nilFunc),
  (321, .cell (Go.Value.pointer none)),
  (322, .cell Go.Value.nilFunc),
  (328, .cell Go.Value.nilFunc),
  (329, .cell (Go.Value.int Go.IntKind.u8 0)),
  (330, .cell (Go.Value.int Go.IntKind.u8 0)),
  (331, .cell Go.Value.nilFunc),
  (332, .cell (Go.Value.int Go.IntKind.i32 0)),
  (333, .cell (Go.Value.int Go.IntKind.i32 0))]
def tt : Tab := tabOf tyRows
set_option maxRecDepth 100000 in
theorem ttOK : TTOK Tryz.prog tt := TTOK_cons ty22 (TTOK_cons ty23 (TTOK_cons ty24 (TTOK_cons ty25 (TTOK_cons ty28 (TTOK_cons ty29 (TTOK_cons ty30 (TTOK_cons ty31 (TTOK_cons ty32 (TTOK_cons ty33 (TTOK_cons ty40 (TTOK_cons ty41 (TTOK_cons ty43 (TTOK_cons ty51 (TTOK_cons ty52 (TTOK_cons ty53 (TTOK_cons ty54 (TTOK_cons ty55 (TTOK_cons ty56 (TTOK_cons ty64 (TTOK_cons ty65 (TTOK_cons ty66 (TTOK_cons ty73 (TTOK_cons ty74 (TTOK_cons ty118 (TTOK_cons ty124 (TTOK_cons ty125 (TTOK_cons ty133 (TTOK_cons ty134 (TTOK_cons ty143 (TTOK_cons ty147 (TTOK_cons ty148 (TTOK_cons ty150 (TTOK_cons ty151 (TTOK_cons ty157 (TTOK_cons ty158 (TTOK_cons ty196 (TTOK_cons ty197 (TTOK_cons ty198 (TTOK_cons ty207 (TTOK_cons ty208 (TTOK_cons ty210 (TTOK_cons ty211 (TTOK_cons ty235 (TTOK_cons ty236 (TTOK_cons ty287 (TTOK_cons ty288 (TTOK_cons ty294 (TTOK_cons ty295 (TTOK_cons ty296 (TTOK_cons ty334 (TTOK_cons ty1 (TTOK_cons ty2 (TTOK_cons ty3 (TTOK_cons ty4 (TTOK_cons ty5 (TTOK_cons ty6 (TTOK_cons ty9 (TTOK_cons ty10 (TTOK_cons ty11 (TTOK_cons ty12 (TTOK_cons ty15 (TTOK_cons ty16 (TTOK_cons ty17 (TTOK_cons ty20 (TTOK_cons ty21 (TTOK_cons ty26 (TTOK_cons ty27 (TTOK_cons ty34 (TTOK_cons ty36 (TTOK_cons ty38 (TTOK_cons ty39 (TTOK_cons ty42 (TTOK_cons ty44 (TTOK_cons ty46 (TTOK_cons ty47 (TTOK_cons ty48 (TTOK_cons ty49 (TTOK_cons ty50 (TTOK_cons ty58 (TTOK_cons ty60 (TTOK_cons ty61 (TTOK_cons ty62 (TTOK_cons ty63 (TTOK_cons ty68 (TTOK_cons ty70 (TTOK_cons ty71 (TTOK_cons ty72 (TTOK_cons ty75 (TTOK_cons ty76 (TTOK_cons ty77 (TTOK_cons ty79 (TTOK_cons ty80 (TTOK_cons ty81 (TTOK_cons ty82 (TTOK_cons ty83 (TTOK_cons ty84 (TTOK_cons ty85 (TTOK_cons ty86 (TTOK_cons ty88 (TTOK_cons ty89 (TTOK_cons ty90 (TTOK_cons ty91 (TTOK_cons ty92 (TTOK_cons ty93 (TTOK_cons ty94 (TTOK_cons ty96 (TTOK_cons ty97 (TTOK_cons ty98 (TTOK_cons ty100 (TTOK_cons ty101 (TTOK_cons ty102 (TTOK_cons ty103 (TTOK_cons ty104 (TTOK_cons ty105 (TTOK_cons ty106 (TTOK_cons ty107 (TTOK_cons ty109 (TTOK_cons ty111 (TTOK_cons ty112 (TTOK_cons ty113 (TTOK_cons ty115 (TTOK_cons ty117 (TTOK_cons ty119 (TTOK_cons ty120 (TTOK_cons ty121 (TTOK_cons ty122 (TTOK_cons ty123 (TTOK_cons ty126 (TTOK_cons ty127 (TTOK_cons ty128 (TTOK_cons ty129 (TTOK_cons ty130 (TTOK_cons ty131 (TTOK_cons ty132 (TTOK_cons ty135 (TTOK_cons ty136 (TTOK_cons ty137 (TTOK_cons ty138 (TTOK_cons ty139 (TTOK_cons ty140 (TTOK_cons ty141 (TTOK_cons ty142 (TTOK_cons ty145 (TTOK_cons ty146 (TTOK_cons ty149 (TTOK_cons ty152 (TTOK_cons ty153 (TTOK_cons ty154 (TTOK_cons ty155 (TTOK_cons ty156 (TTOK_cons ty159 (TTOK_cons ty160 (TTOK_cons ty161 (TTOK_cons ty162 (TTOK_cons ty163 (TTOK_cons ty164 (TTOK_cons ty165 (TTOK_cons ty166 (TTOK_cons ty167 (TTOK_cons ty168 (TTOK_cons ty169 (TTOK_cons ty170 (TTOK_cons ty172 (TTOK_cons ty173 (TTOK_cons ty174 (TTOK_cons ty176 (TTOK_cons ty177 (TTOK_cons ty178 (TTOK_cons ty179 (TTOK_cons ty180 (TTOK_cons ty181 (TTOK_cons ty182 (TTOK_cons ty183 (TTOK_cons ty184 (TTOK_cons ty185 (TTOK_cons ty186 (TTOK_cons ty187 (TTOK_cons ty188 (TTOK_cons ty189 (TTOK_cons ty191 (TTOK_cons ty193 (TTOK_cons ty194 (TTOK_cons ty195 (TTOK_cons ty199 (TTOK_cons ty200 (TTOK_cons ty201 (TTOK_cons ty203 (TTOK_cons ty204 (TTOK_cons ty205 (TTOK_cons ty206 (TTOK_cons ty209 (TTOK_cons ty212 (TTOK_cons ty216 (TTOK_cons ty217 (TTOK_cons ty218 (TTOK_cons ty219 (TTOK_cons ty220 (TTOK_cons ty222 (TTOK_cons ty223 (TTOK_cons ty224 (TTOK_cons ty225 (TTOK_cons ty226 (TTOK_cons ty228 (TTOK_cons ty229 (TTOK_cons ty230 (TTOK_cons ty231 (TTOK_cons ty232 (TTOK_cons ty233 (TTOK_cons ty234 (TTOK_cons ty237 (TTOK_cons ty238 (TTOK_cons ty239 (TTOK_cons ty240 (TTOK_cons ty241 (TTOK_cons ty242 (TTOK_cons ty243 (TTOK_cons ty244 (TTOK_cons ty245 (TTOK_cons ty246 (TTOK_cons ty247 (TTOK_cons ty248 (TTOK_cons ty249 (TTOK_cons ty250 (TTOK_cons ty252 (TTOK_cons ty253 (TTOK_cons ty254 (TTOK_cons ty255 (TTOK_cons ty256 (TTOK_cons ty257 (TTOK_cons ty258 (TTOK_cons ty259 (TTOK_cons ty260 (TTOK_cons ty261 (TTOK_cons ty262 (TTOK_cons ty264 (TTOK_cons ty265 (TTOK_cons ty266 (TTOK_cons ty267 (TTOK_cons ty268 (TTOK_cons ty269 (TTOK_cons ty270 (TTOK_cons ty271 (TTOK_cons ty272 (TTOK_cons ty273 (TTOK_cons ty274 (TTOK_cons ty275 (TTOK_cons ty277 (TTOK_cons ty278 (TTOK_cons ty279 (TTOK_cons ty280 (TTOK_cons ty281 (TTOK_cons ty282 (TTOK_cons ty283 (TTOK_cons ty284 (TTOK_cons ty285 (TTOK_cons ty286 (TTOK_cons ty289 (TTOK_cons ty290 (TTOK_cons ty291 (TTOK_cons ty292 (TTOK_cons ty293 (TTOK_cons ty298 (TTOK_cons ty299 (TTOK_cons ty300 (TTOK_cons ty301 (TTOK_cons ty302 (TTOK_cons ty303 (TTOK_cons ty304 (TTOK_cons ty305 (TTOK_cons ty306 (TTOK_cons ty307 (TTOK_cons ty308 (TTOK_cons ty309 (TTOK_cons ty310 (TTOK_cons ty312 (TTOK_cons ty313 (TTOK_cons ty314 (TTOK_cons ty315 (TTOK_cons ty316 (TTOK_cons ty317 (TTOK_cons ty318 (TTOK_cons ty319 (TTOK_cons ty320 (TTOK_cons ty321 (TTOK_cons ty322 (TTOK_cons ty328 (TTOK_cons ty329 (TTOK_cons ty330 (TTOK_cons ty331 (TTOK_cons ty332 (TTOK_cons ty333 (TTOK_nil Tryz.prog))))))))))))))))))))))))))))))))))))))))))))))))))))))))))))))))))))))))))))))))))))))))))))))))))))))))))))))))))))))))))))))))))))))))))))))))))))))))))))))))))))))))))))))))))))))))))))))))))))))))))))))))))))))))))))))))))))))))))))))))))))))))))))))))))))))))))))))))))))))))))))))))))))
end Go.Proofs.YtnolnmfpmhpapaaGreatDoor
end

/-! FwM -/
section
namespace Go.Tr
open Go
set_option linter.unusedSimpArgs false

def drawsOf : List (Nat × DTree × List Nat × List Nat) → Draws
  | [], _ => none
  | (n, t) :: r, id => match Nat.beq n id with
    | true => some t
    | false => drawsOf r id

end Go.Tr
end

/-! FwN -/
section
namespace Go.Tr
open Go
set_option linter.unusedSimpArgs false

/-- A bound of a slice expression: what is not written is d. -/
def bnd (d : Nat) (n : Nat) : Option SV → Prop
  | none => n = d
  | some (.v (.int _ i)) => i = n
  | _ => False

theorem bnd_cases {d n : Nat} {s : Option SV} (h : bnd d n s) : (s = none ∧ n = d) ∨ ∃ k, s = some (.v (.int k n)) := by
  cases s with
  | none => exact .inl ⟨rfl, h⟩
  | some s =>
    cases s with
    | v x => cases x <;> simp only [bnd] at h; subst h; exact .inr ⟨_, rfl⟩
    | _ => exact h.elim

theorem RepE.take_cells {J : Nat → Prop} {w : World} {k : Nat} {ds : List D} {c : List Value} (h : RepE J w k ds c) (i : Nat) : RepE J w k (ds.take i) c := RepE.take i h

/-- The part x[l:h] of a slice that reads as data. -/
theorem Rep.part {J : Nat → Prop} {w : World} {a : Option Addr} {n c k : Nat} {ds : List D} (h : Rep J w (.slice a n c) (.sl k ds)) {lo hi : Nat} (h1 : lo ≤ hi) (h2 : hi ≤ n) (size : Nat) (hs : size = k) :
    Rep J w (.slice (if c = lo then a else a.map (·.add (lo * size))) (hi - lo) (c - lo)) (.sl k ((ds.take hi).drop lo)) := by
  subst hs
  simp only [Rep, RepC] at h ⊢
  obtain ⟨a', cap, heq, hle, hb⟩ := h
  simp only [List.cons.injEq, Value.slice.injEq, and_true] at heq
  obtain ⟨rfl, rfl, rfl⟩ := heq
  have hlen : ((ds.take hi).drop lo).length = hi - lo := by simp; omega
  refine ⟨_, _, by rw [hlen], ⟨by rw [hlen]; omega, by rw [hlen]; omega⟩, ?_⟩
  rcases hb with h3 | ⟨b, off, cc, T, fz, rfl, hj, hbb, he⟩
  · subst h3; left; simp
  · by_cases hc : c = lo
    · left
      rw [List.drop_eq_nil_iff]
      simp; omega
    · right
      refine ⟨b, off + lo * size, cc, T, fz, by rw [if_neg hc]; simp [addr_add], hj, hbb, ?_⟩
      have := RepE.drop lo (RepE.take hi he)
      rw [List.drop_drop] at this
      exact this

theorem at_slice {P : Program} {tt : Tab} (hT : TTOK P tt) {t e : TypeId} {k : Nat} {x : SV} {sl sh : Option SV} {S : St} {K : SV → St → Prop} {a : Option Addr} {n c : Nat} {ds : List D} (j lo hi : Nat) (hx : x = .v (.slice a n c)) (ht : tt t = some (.slice e k))
    (hr : nth S.reps j = some (.slice a n c, .sl k ds)) (hlo : bnd 0 lo sl) (hhi : bnd n hi sh) (h1 : lo ≤ hi) (h2 : hi ≤ n)
    (h : ∀ a' c', hi - lo ≤ c' → addReps S [(.slice a' (hi - lo) c', .sl k ((ds.take hi).drop lo))] (fun S' => K (.v (.slice a' (hi - lo) c')) S')) : AtPure P (fun ℓ => Instr.sliceAt t (x.den ℓ) (denO ℓ sl) (denO ℓ sh) (denO ℓ none)) S K := by
  subst hx
  constructor
  intro J ℓ w hG hJ
  have hrep := hG.reps _ (List.mem_of_getElem? (by rw [← nth_eq]; exact hr))
  have hcap : n ≤ c := by
    simp only [Rep, RepC] at hrep
    obtain ⟨a', cap, heq, hle, _⟩ := hrep
    simp only [List.cons.injEq, Value.slice.injEq, and_true] at heq
    obtain ⟨rfl, rfl, rfl⟩ := heq
    exact hle.1
  have hpart := hrep.part h1 h2 k rfl
  have hk := h (if c = lo then a else a.map (·.add (lo * k))) (c - lo) (by omega)
  rw [addReps_eq] at hk
  have hG' := hG.reps_add [(_, _)] (by intro p hp; simp only [List.mem_singleton] at hp; subst hp; exact hpart)
  refine ⟨_, ℓ, _, ?_, rfl, List.prefix_refl _, hG', fun b hb => hb, fun i cs hi => hi, hk⟩
  intro w'
  obtain ⟨_, hu, hse⟩ := hT t _ ht
  have hb : (Instr.sliceBounds true n c (denO ℓ sl) (denO ℓ sh) none).run P w' = .ok (lo, hi, c) w' := by
    rcases bnd_cases hlo with ⟨rfl, rfl⟩ | ⟨k1, rfl⟩ <;> rcases bnd_cases hhi with ⟨rfl, rfl⟩ | ⟨k2, rfl⟩ <;> simp [Instr.sliceBounds, Instr.sliceBound, asIntOf, denO, SV.den, h1, Nat.le_trans h2 hcap, h2]
  simp only [Instr.sliceAt, SV.den, Sem.run_bind, run_underlying' hu, Result.andThen_ok]
  simp only [Instr.slice, Sem.run_bind, run_underlying' hu, Result.andThen_ok, denO]
  have hb' := hb
  simp only [denO] at hb'
  rw [hb']
  simp only [Result.andThen_ok, hse, Sem.run_pure]

/-- What is known of a type whose values make up rows. -/
def elemB (P : Program) (e : TypeId) (k bytes : Nat) : Bool :=
  match P.info? e with
  | some i => (Nat.beq i.size k && Nat.beq i.bytes bytes) && (match i.zero with
    | some z => Nat.beq z.cells.size k
    | none => false)
  | none => false

theorem elemB_spec {P : Program} {e : TypeId} {k bytes : Nat} (h : elemB P e k bytes = true) : ∃ i z, P.info? e = some i ∧ i.size = k ∧ i.bytes = bytes ∧ i.zero = some z ∧ z.cells.size = k := by
  unfold elemB at h
  split at h
  · rename_i i hi
    simp only [Bool.and_eq_true] at h
    obtain ⟨⟨h1, h2⟩, h3⟩ := h
    split at h3
    · rename_i z hz
      exact ⟨i, z, hi, Nat.eq_of_beq_eq_true h1, Nat.eq_of_beq_eq_true h2, hz, Nat.eq_of_beq_eq_true h3⟩
    · cases h3
  · cases h

/-- The parts of a slice literal, one behind the other, each of k cells. -/
def partsOK (reps : List (Value × D)) (k : Nat) : Nat → List (Nat × SV) → List D → Prop
  | _, [], [] => True
  | i, (j, s) :: l, d :: ds => (j = i ∧ plainS s = true ∧ (cellsOf s).length = k ∧ RepS reps d (cellsOf s)) ∧ partsOK reps k (i + 1) l ds
  | _, _, _ => False

theorem fill_row (ℓ : List Base) {reps : List (Value × D)} {k : Nat} : ∀ (l : List (Nat × SV)) (ds : List D) (i : Nat) (cells : List Value), partsOK reps k i l ds → i * k + ds.length * k ≤ cells.length →
    ∃ flat, flat.length = ds.length * k ∧ Instr.fill (fun i => some (i * k, k)) cells.toArray (denParts ℓ l) = some (cells.take (i * k) ++ flat ++ cells.drop (i * k + ds.length * k)).toArray ∧
      ∀ {J : Nat → Prop} {w : World}, (∀ p ∈ reps, Rep J w p.1 p.2) → ∀ tail, RepE J w k ds (flat ++ tail)
  | [], [], i, cells, _, hl => ⟨[], by simp, by simp [denParts, Instr.fill], fun _ _ => trivial⟩
  | [], _ :: _, i, cells, h, _ => h.elim
  | _ :: _, [], i, cells, h, _ => h.elim
  | (j, s) :: l, d :: ds, i, cells, h, hl => by
    obtain ⟨⟨rfl, hp, hk, hrep⟩, h⟩ := h
    simp only [List.length_cons, Nat.add_mul, Nat.one_mul] at hl
    have hc : (s.den ℓ).cells = (SV.denL ℓ (cellsOf s)).toArray := den_cells_of_plain ℓ hp
    have hxl : (SV.denL ℓ (cellsOf s)).length = k := by rw [SV.denL_length, hk]
    have hf := foldl_set_range (SV.denL ℓ (cellsOf s)) cells.toArray (j * k) (by simp only [List.size_toArray]; omega)
    have hsr : setRange cells (j * k) (SV.denL ℓ (cellsOf s)) = cells.take (j * k) ++ SV.denL ℓ (cellsOf s) ++ cells.drop (j * k + k) := by
      simp only [setRange, hxl]; try rw [List.append_assoc]
    have hlen : (setRange cells (j * k) (SV.denL ℓ (cellsOf s))).length = cells.length := setRange_length _ _ _ (by omega)
    obtain ⟨flat, hfl, hfill, hrepE⟩ := fill_row ℓ l ds (j + 1) (setRange cells (j * k) (SV.denL ℓ (cellsOf s))) h (by rw [hlen, Nat.add_mul]; omega)
    refine ⟨SV.denL ℓ (cellsOf s) ++ flat, by rw [List.length_append, hxl, hfl, List.length_cons, Nat.add_mul]; omega, ?_, ?_⟩
    · simp only [denParts, Instr.fill, hc]
      rw [if_neg (by simp [hxl]; omega)]
      simp only [] at hf
      rw [hf]
      rw [hfill]
      have e1 : (j + 1) * k = j * k + k := by rw [Nat.add_mul]; omega
      rw [e1, hsr]
      congr 2
      have hpre : (cells.take (j * k) ++ SV.denL ℓ (cellsOf s)).length = j * k + k := by simp [hxl]; omega
      rw [List.take_append_of_le_length (by omega), List.take_of_length_le (by omega)]
      rw [List.drop_append, List.drop_of_length_le (by omega), hpre]
      simp only [List.nil_append, List.drop_drop, List.append_assoc, List.length_cons, Nat.add_mul, Nat.one_mul]
      congr 3
      congr 1
      omega
    · intro J w hr tail
      simp only [RepE, List.append_assoc]
      refine ⟨by simp [hxl], ?_, ?_⟩
      · rw [List.take_append_of_le_length (by omega), List.take_of_length_le (by omega)]
        exact RepS.sound hr d _ hrep
      · rw [List.drop_append, List.drop_of_length_le (by omega), hxl, Nat.sub_self]
        exact hrepE hr tail

theorem run_zeroValue {P : Program} {e : TypeId} {i : TypeInfo} {z : Value} (hi : P.info? e = some i) (hz : i.zero = some z) (w : World) : (zeroValue e).run P w = .ok z w := by
  simp [zeroValue, typeInfo, hi, hz]

/-- A slice literal: what the model does. -/
theorem run_build {P : Program} {tt : Tab} (hT : TTOK P tt) {t e : TypeId} {k bytes n : Nat} (ht : tt t = some (.slice e k)) (hel : elemB P e k bytes = true) {ℓ : List Base} {reps : List (Value × D)} {l : List (Nat × SV)} {ds : List D} (hl : partsOK reps k 0 l ds) (hn : ds.length = n) (hlim : n * k ≤ 16777216) (w : World) :
    ∃ flat : List Value, flat.length = n * k ∧ (Instr.buildSlice t n (denParts ℓ l).toArray).run P w = .ok (.slice (some ⟨w.heap.size, 0, none⟩) n n) (w.alloc (.cells flat.toArray e (0, 0))) ∧
      ∀ {J : Nat → Prop} {w : World}, (∀ p ∈ reps, Rep J w p.1 p.2) → RepE J w k ds flat := by
  obtain ⟨_, hu, hse⟩ := hT t _ ht
  obtain ⟨i, z, hi, hik, _, hz, hzk⟩ := elemB_spec hel
  have hkey : ∀ zero : Array Value, ∃ flat : List Value, flat.length = n * k ∧ Instr.fill (fun i => some (i * k, k)) ((Array.range (n * k)).map (zero[· % zero.size]!)) (denParts ℓ l) = some flat.toArray ∧
      ∀ {J : Nat → Prop} {w : World}, (∀ p ∈ reps, Rep J w p.1 p.2) → RepE J w k ds flat := by
    intro zero
    obtain ⟨flat, h1, h2, h3⟩ := fill_row ℓ l ds 0 ((Array.range (n * k)).map (zero[· % zero.size]!)).toList hl (by simp [hn])
    refine ⟨flat, by rw [h1, hn], ?_, fun hr => by simpa using h3 hr []⟩
    simp only [Array.toArray_toList, Nat.zero_mul, List.take_zero, List.nil_append, Nat.zero_add] at h2
    rw [h2, hn, List.drop_of_length_le (by simp), List.append_nil]
  by_cases h0 : n * k = 0
  · obtain ⟨flat, h1, h2, h3⟩ := hkey #[]
    refine ⟨flat, h1, ?_, h3⟩
    simp only [Instr.buildSlice, Sem.run_bind, run_underlying' hu, Result.andThen_ok, hse]
    rw [if_neg (by omega), if_pos h0]
    simp only [Sem.run_bind, Sem.run_pure, Result.andThen_ok]
    rw [h2]
    simp [newRow]
  · obtain ⟨flat, h1, h2, h3⟩ := hkey z.cells
    refine ⟨flat, h1, ?_, h3⟩
    simp only [Instr.buildSlice, Sem.run_bind, run_underlying' hu, Result.andThen_ok, hse]
    rw [if_neg (by omega), if_neg h0]
    simp only [Sem.run_bind, Sem.run_pure, Result.andThen_ok, run_zeroValue hi hz]
    rw [h2]
    simp [newRow]

/-- A world with a new block beside all that there was. -/
theorem Good.beside {J : Nat → Prop} {ℓ : List Base} {S : St} {w w' : World} (h : Good J ℓ S w) (hsz : w.heap.size ≤ w'.heap.size) (hw : ∀ b, b < w.heap.size → w'.heap[b]? = w.heap[b]?) : Good J ℓ S w' :=
  h.kept (fun _ h => h) hsz (fun b hb _ => hw b hb)

/-- A slice literal that nobody writes to. -/
theorem at_build {P : Program} {tt : Tab} (hT : TTOK P tt) {t e : TypeId} {k n : Nat} {l : List (Nat × SV)} {S : St} {K : SV → St → Prop} (bytes : Nat) (ds : List D) (ht : tt t = some (.slice e k)) (hel : elemB P e k bytes = true) (hl : partsOK S.reps k 0 l ds) (hn : ds.length = n) (hlim : n * k ≤ 16777216) (hpos : n ≤ 16777216)
    (h : ∀ a, addReps S [(.slice a n n, .sl k ds)] (fun S' => K (.v (.slice a n n)) S')) : AtSem P (fun ℓ => Instr.buildSlice t n (denParts ℓ l).toArray) S K := by
  constructor
  intro J ℓ w hG hJ
  obtain ⟨flat, hfl, hrun, hrep⟩ := run_build hT ht hel (ℓ := ℓ) hl hn hlim w
  have hold : ∀ x, x < w.heap.size → (w.alloc (.cells flat.toArray e (0, 0))).heap[x]? = w.heap[x]? := fun x hx => by
    show (w.heap.push _)[x]? = _
    rw [Array.getElem?_push, if_neg (by omega)]
  have hG1 := hG.beside (w' := w.alloc (.cells flat.toArray e (0, 0))) (by simp) hold
  have hk := h (some ⟨w.heap.size, 0, none⟩)
  rw [addReps_eq] at hk
  refine ⟨.v (.slice (some ⟨w.heap.size, 0, none⟩) n n), ℓ, ⟨S.own, S.accs, S.reps ++ [(.slice (some ⟨w.heap.size, 0, none⟩) n n, .sl k ds)]⟩, w.alloc (.cells flat.toArray e (0, 0)), hrun, rfl, List.prefix_refl _, ⟨rfl, rfl, by simp, fun b hb _ => hold b hb⟩, hG1.reps_add [(_, _)] ?_, fun b hb => .inl hb, hk⟩
  intro p hp
  simp only [List.mem_singleton] at hp
  subst hp
  simp only [Rep, RepC]
  refine ⟨_, _, by rw [hn], ⟨by omega, by omega⟩, .inr ⟨w.heap.size, 0, flat.toArray, e, (0, 0), rfl, ⟨hJ _ (Nat.le_refl _), fun hm => by have := hG.lt _ hm; omega⟩, World.alloc_heap_new w _, ?_⟩⟩
  simpa using hrep hG1.reps

/-- Each cell of a datum is one cell. -/
theorem RepC.one {J : Nat → Prop} {w : World} : ∀ (d : D) (cs : List Value), RepC J w d cs → ∀ u ∈ cs, u.oneCell' = true
  | .int k n, cs, h, u, hu => by simp only [RepC] at h; subst h; simp at hu; subst hu; rfl
  | .bool b, cs, h, u, hu => by simp only [RepC] at h; subst h; simp at hu; subst hu; rfl
  | .str s, cs, h, u, hu => by simp only [RepC] at h; subst h; simp at hu; subst hu; rfl
  | .sl k ds, cs, h, u, hu => by simp only [RepC] at h; obtain ⟨a, cap, rfl, _⟩ := h; simp at hu; subst hu; rfl
  | .agg ds, cs, h, u, hu => by simp only [RepC] at h; exact RepA.one ds cs h u hu
  | .ifc t d, cs, h, u, hu => by simp only [RepC] at h; obtain ⟨v, rfl, _⟩ := h; simp at hu; subst hu; rfl
where
  RepA.one {J : Nat → Prop} {w : World} : ∀ (ds : List D) (cs : List Value), RepA J w ds cs → ∀ u ∈ cs, u.oneCell' = true
  | [], cs, h, u, hu => by simp only [RepA] at h; subst h; simp at hu
  | d :: ds, cs, h, u, hu => by
    simp only [RepA] at h
    obtain ⟨x, y, rfl, h1, h2⟩ := h
    rcases List.mem_append.1 hu with h3 | h3
    · exact RepC.one d x h1 u h3
    · exact RepA.one ds y h2 u h3

theorem RepE.one {J : Nat → Prop} {w : World} {k : Nat} : ∀ (ds : List D) (cs : List Value), RepE J w k ds cs → ∀ u ∈ cs.take (ds.length * k), u.oneCell' = true
  | [], cs, _, u, hu => by simp at hu
  | d :: ds, cs, h, u, hu => by
    simp only [RepE] at h
    simp only [List.length_cons, Nat.add_mul, Nat.one_mul] at hu
    rw [Nat.add_comm, List.take_add] at hu
    rcases List.mem_append.1 hu with h3 | h3
    · exact RepC.one d _ h.2.1 u h3
    · exact RepE.one ds _ h.2.2 u h3

/-- A slice that may grow is put in another one's place: it lies where that one lay, or in a new block. -/
theorem Good.regrow {J : Nat → Prop} {ℓ : List Base} {S : St} {w w' : World} (h : Good J ℓ S w) (hJ : Fresh J w) {j : Nat} {a a' : Acc} (ha : S.accs[j]? = some a) (hsz : w.heap.size ≤ w'.heap.size) (hw : ∀ b, b < w.heap.size → b ∉ accBlk a.v → w'.heap[b]? = w.heap[b]?) (hnd : (accBlk a'.v).Nodup)
    (hblk : ∀ b ∈ accBlk a'.v, (b ∈ accBlk a.v ∨ w.heap.size ≤ b) ∧ b < w'.heap.size)
    (hok : ∀ J', (∀ x, x < w.heap.size → Jx J (mutS ℓ S) x → J' x ∧ w'.heap[x]? = w.heap[x]?) → AccOK J' w' a') :
    Good J ℓ ⟨S.own, S.accs.set j a', S.reps⟩ w' ∧ (∀ b ∈ mutS ℓ ⟨S.own, S.accs.set j a', S.reps⟩, b ∈ mutS ℓ S ∨ w.heap.size ≤ b) := by
  have hlt : j < S.accs.length := (List.getElem?_eq_some_iff.1 ha).1
  have hsplit : S.accs = S.accs.take j ++ a :: S.accs.drop (j + 1) := by
    have e1 := (List.getElem?_eq_some_iff.1 ha).2
    rw [← e1, ← List.drop_eq_getElem_cons hlt, List.take_append_drop]
  have hset : S.accs.set j a' = S.accs.take j ++ a' :: S.accs.drop (j + 1) := List.set_eq_take_append_cons_drop .. |>.trans (by rw [if_pos hlt])
  generalize hl1 : S.accs.take j = l1 at *
  generalize hl2 : S.accs.drop (j + 1) = l2 at *
  let bl : Acc → List Nat := fun a => accBlk a.v
  have hM : mutS ℓ S = mutL ℓ S.own ++ (l1.flatMap bl ++ (accBlk a.v ++ l2.flatMap bl)) := by
    simp only [mutS, hsplit, List.flatMap_append, List.flatMap_cons, bl]
  have hM' : mutS ℓ ⟨S.own, S.accs.set j a', S.reps⟩ = mutL ℓ S.own ++ (l1.flatMap bl ++ (accBlk a'.v ++ l2.flatMap bl)) := by
    simp only [mutS, hset, List.flatMap_append, List.flatMap_cons, bl]
  have hn := h.nodup
  rw [hM, List.nodup_append, List.nodup_append, List.nodup_append] at hn
  obtain ⟨n1, ⟨n2, ⟨n3, n4, n34⟩, n234⟩, n1234⟩ := hn
  have oldlt : ∀ b, b ∈ mutL ℓ S.own ∨ b ∈ l1.flatMap bl ∨ b ∈ l2.flatMap bl → b < w.heap.size := fun b hb => h.lt b (by
    rw [hM]; simp only [List.mem_append]
    rcases hb with h1 | h1 | h1
    · exact .inl h1
    · exact .inr (.inl h1)
    · exact .inr (.inr (.inr h1)))
  -- what else may be written is not the slice's block
  have apart : ∀ b, b ∈ mutL ℓ S.own ∨ b ∈ l1.flatMap bl ∨ b ∈ l2.flatMap bl → b ∉ accBlk a.v := by
    intro b hb hm
    rcases hb with h1 | h1 | h1
    · exact n1234 b h1 b (List.mem_append.2 (.inr (List.mem_append.2 (.inl hm)))) rfl
    · exact n234 b h1 b (List.mem_append.2 (.inl hm)) rfl
    · exact n34 b hm b h1 rfl
  have apart' : ∀ b, b ∈ mutL ℓ S.own ∨ b ∈ l1.flatMap bl ∨ b ∈ l2.flatMap bl → b ∉ accBlk a'.v := by
    intro b hb hm
    rcases (hblk b hm).1 with h1 | h1
    · exact apart b hb h1
    · have := oldlt b hb; omega
  have hmem : ∀ b, b ∈ mutS ℓ ⟨S.own, S.accs.set j a', S.reps⟩ → (b ∈ mutL ℓ S.own ∨ b ∈ l1.flatMap bl ∨ b ∈ l2.flatMap bl) ∨ b ∈ accBlk a'.v := by
    intro b hb
    rw [hM'] at hb
    simp only [List.mem_append] at hb
    rcases hb with h1 | h1 | h1 | h1
    · exact .inl (.inl h1)
    · exact .inl (.inr (.inl h1))
    · exact .inr h1
    · exact .inl (.inr (.inr h1))
  have hin : ∀ b, b ∈ mutL ℓ S.own ∨ b ∈ l1.flatMap bl ∨ b ∈ l2.flatMap bl → b ∈ mutS ℓ S := by
    intro b hb
    rw [hM]; simp only [List.mem_append]
    rcases hb with h1 | h1 | h1
    · exact .inl h1
    · exact .inr (.inl h1)
    · exact .inr (.inr (.inr h1))
  have hina : ∀ b, b ∈ accBlk a.v → b ∈ mutS ℓ S := by
    intro b hb; rw [hM]; simp only [List.mem_append]; exact .inr (.inr (.inl hb))
  have hx : ∀ x, x < w.heap.size → Jx J (mutS ℓ S) x → Jx J (mutS ℓ ⟨S.own, S.accs.set j a', S.reps⟩) x ∧ w'.heap[x]? = w.heap[x]? := by
    intro x hlt' hj
    refine ⟨⟨hj.1, fun hm => ?_⟩, hw x hlt' (fun hm => hj.2 (hina x hm))⟩
    rcases hmem x hm with h1 | h1
    · exact hj.2 (hin x h1)
    · rcases (hblk x h1).1 with h2 | h2
      · exact hj.2 (hina x h2)
      · omega
  refine ⟨⟨h.len, ?_, ?_, ?_, h.wf, ?_, ?_, ?_⟩, ?_⟩
  · rw [hM', List.nodup_append, List.nodup_append, List.nodup_append]
    refine ⟨n1, ⟨n2, ⟨hnd, n4, ?_⟩, ?_⟩, ?_⟩
    · intro x h1 y h2 e; subst e; exact apart' x (.inr (.inr h2)) h1
    · intro x h1 y h2 e; subst e
      rcases List.mem_append.1 h2 with h3 | h3
      · exact apart' x (.inr (.inl h1)) h3
      · exact n234 x h1 x (List.mem_append.2 (.inr h3)) rfl
    · intro x h1 y h2 e; subst e
      rcases List.mem_append.1 h2 with h3 | h3
      · exact n1234 x h1 x (List.mem_append.2 (.inl h3)) rfl
      · rcases List.mem_append.1 h3 with h4 | h4
        · exact apart' x (.inl h1) h4
        · exact n1234 x h1 x (List.mem_append.2 (.inr (List.mem_append.2 (.inr h4)))) rfl
  · intro b hb
    rcases hmem b hb with h1 | h1
    · exact Nat.lt_of_lt_of_le (oldlt b h1) hsz
    · exact (hblk b h1).2
  · intro b hb
    rcases hmem b hb with h1 | h1
    · exact h.memJ b (hin b h1)
    · rcases (hblk b h1).1 with h2 | h2
      · exact h.memJ b (hina b h2)
      · exact hJ b h2
  · intro i b k hi hk
    have h0 := h.own i b k hi hk
    have own : k.mut = true → b.block < w.heap.size → w'.heap[b.block]? = w.heap[b.block]? := fun hm hlt => hw _ hlt (apart _ (.inl (mem_mutL.2 ⟨i, b, k, hi, hk, hm, rfl⟩)))
    have hwk := wf_of_mem h.wf hk
    cases k with
    | cells T cs => exact h0.keep hwk (fun _ _ => rfl) (fun x hlt hj => (hx x hlt hj).1) (own rfl)
    | obj o => exact h0.keep hwk (fun _ _ => rfl) (fun x hlt hj => (hx x hlt hj).1) (own rfl)
    | lp x => exact h0.keep hwk (fun _ _ => rfl) (fun x hlt hj => (hx x hlt hj).1) (own rfl)
    | iter i s n p => exact h0.keep hwk (fun _ _ => rfl) (fun x hlt hj => (hx x hlt hj).1) (own rfl)
    | imm cs =>
      have h1 := h0
      simp only [BlkOK] at h1
      exact h0.keep hwk (fun _ _ => rfl) (fun x hlt hj => (hx x hlt hj).1) (fun hlt => (hx _ hlt h1.1).2)
    | dead => trivial
  · intro x hx'
    simp only [hset] at hx'
    have old : (x ∈ l1 ∨ x ∈ l2) → AccOK (Jx J (mutS ℓ ⟨S.own, S.accs.set j a', S.reps⟩)) w' x := by
      intro hm
      refine (h.accs x (by rw [hsplit]; rcases hm with h1 | h1; exact List.mem_append.2 (.inl h1); exact List.mem_append.2 (.inr (List.mem_cons_of_mem _ h1)))).keep hx (fun y hy hlt => hw y hlt (apart y ?_))
      rcases hm with h1 | h1
      · exact .inr (.inl (List.mem_flatMap.2 ⟨x, h1, hy⟩))
      · exact .inr (.inr (List.mem_flatMap.2 ⟨x, h1, hy⟩))
    rcases List.mem_append.1 hx' with h1 | h1
    · exact old (.inl h1)
    · rcases List.mem_cons.1 h1 with h2 | h2
      · subst h2; exact hok _ hx
      · exact old (.inr h2)
  · exact fun p hp => (h.reps p hp).map hx
  · intro b hb
    rcases hmem b hb with h1 | h1
    · exact .inl (hin b h1)
    · exact (hblk b h1).1.imp (hina b) id

/-- append(s, x...) of a slice that may grow. -/
theorem at_append {P : Program} {tt : Tab} (hT : TTOK P tt) {t e ty : TypeId} {k : Nat} {x y : SV} {S : St} {K : SV → St → Prop} {v : Value} {a : Option Addr} {m c : Nat} {ds es : List D} (bytes j i : Nat) (ht : tt t = some (.slice e k)) (hel : elemB P e k bytes = true)
    (hx : x = .v v) (hacc : nth S.accs j = some ⟨v, k, e, ds⟩) (hy : y = .v (.slice a m c)) (hr : nth S.reps i = some (.slice a m c, .sl k es)) (hlim : (ds.length + es.length) * bytes ≤ 140737488355328) (hlen : ds.length + es.length ≤ 1152921504606846976)
    (h : ∀ a' c', forceL (setNth S.accs j ⟨.slice a' (ds.length + es.length) c', k, e, ds ++ es⟩) (fun accs => K (.v (.slice a' (ds.length + es.length) c')) ⟨S.own, accs, S.reps⟩)) : AtSem P (fun ℓ => Builtin.append_ #[t, t] ty (SV.denL ℓ [x, y]).toArray) S K := by
  simp only [forceL_eq] at h
  subst hx hy
  constructor
  intro J ℓ w hG hJ
  obtain ⟨_, hu, hse⟩ := hT t _ ht
  obtain ⟨ti, z, hi, hik, hby, hz, hzk⟩ := elemB_spec hel
  have ha : S.accs[j]? = some ⟨v, k, e, ds⟩ := by rw [← nth_eq]; exact hacc
  have hok := hG.accs _ (List.mem_of_getElem? ha)
  have hrep := hG.reps _ (List.mem_of_getElem? (by rw [← nth_eq]; exact hr))
  simp only [Rep, RepC] at hrep
  obtain ⟨a', cap, heq, hle, hb⟩ := hrep
  simp only [List.cons.injEq, Value.slice.injEq, and_true] at heq
  obtain ⟨rfl, rfl, rfl⟩ := heq
  have hut : P.underlying t = some (.slice e) := hu
  -- put together
  have fin : ∀ v' w' a', a' = (⟨v', k, e, ds ++ es⟩ : Acc) → (∃ b' c', v' = .slice b' (ds.length + es.length) c') → (Builtin.append_ #[t, t] ty #[v, .slice a es.length c]).run P w = .ok v' w' → w'.os = w.os → w'.output = w.output → w.heap.size ≤ w'.heap.size → (∀ b, b < w.heap.size → b ∉ accBlk v → w'.heap[b]? = w.heap[b]?) → (accBlk v').Nodup →
      (∀ b ∈ accBlk v', (b ∈ accBlk v ∨ w.heap.size ≤ b) ∧ b < w'.heap.size) → (∀ J', (∀ x, x < w.heap.size → Jx J (mutS ℓ S) x → J' x ∧ w'.heap[x]? = w.heap[x]?) → AccOK J' w' a') →
      ∃ r ℓ' S' w', (Builtin.append_ #[t, t] ty (SV.denL ℓ [.v v, .v (.slice a es.length c)]).toArray).run P w = .ok (r.den ℓ') w' ∧ r.wf S'.own.length = true ∧ ℓ <+: ℓ' ∧ Ext (mutS ℓ S) w w' ∧ Good J ℓ' S' w' ∧ (∀ b ∈ mutS ℓ' S', b ∈ mutS ℓ S ∨ w.heap.size ≤ b) ∧ K r S' := by
    intro v' w' a' ea hv' hrun h1 h2 h3 h4 h5 h6 h7
    subst ea
    obtain ⟨b', c', rfl⟩ := hv'
    obtain ⟨hG', hf⟩ := hG.regrow hJ ha h3 h4 h5 h6 h7
    refine ⟨.v (.slice b' (ds.length + es.length) c'), ℓ, _, w', hrun, rfl, List.prefix_refl _, ⟨h1, h2, h3, fun b hb hm => h4 b hb (fun hb' => hm ?_)⟩, hG', hf, h b' c'⟩
    simp only [mutS]
    exact List.mem_append.2 (.inr (List.mem_flatMap.2 ⟨_, List.mem_of_getElem? ha, hb'⟩))
  -- nothing is appended
  by_cases hes : es = []
  · subst hes
    rcases hok with ⟨hv, hd⟩ | ⟨b, cp, cc, hv, hbb, hcs, hl, hre⟩
    · simp only at hv hd
      subst hv hd
      refine fin (.slice none 0 0) w _ rfl ⟨_, _, rfl⟩ ?_ rfl rfl (Nat.le_refl _) (fun _ _ _ => rfl) (by simp [accBlk]) (by simp [accBlk]) (fun J' _ => .inl ⟨rfl, rfl⟩)
      cases a with
      | none => simp [Builtin.append_, run_underlying hut, sizeOf, typeInfo, hi, Builtin.lenOf, run_firstCells_none]
      | some ad =>
        have hf := run_firstCells_some (P := P) w ti.size 0 ad 0 c [] (by simp) (by simp)
        simp [Builtin.append_, run_underlying hut, sizeOf, typeInfo, hi, Builtin.lenOf, hf]
    · simp only at hv
      subst hv
      refine fin (.slice (some ⟨b, 0, none⟩) ds.length cp) w _ rfl ⟨_, _, rfl⟩ ?_ rfl rfl (Nat.le_refl _) (fun _ _ _ => rfl) (by simp [accBlk]) (fun x hx => ⟨.inl hx, hG.lt x (by simp only [mutS]; exact List.mem_append.2 (.inr (List.mem_flatMap.2 ⟨_, List.mem_of_getElem? ha, hx⟩)))⟩) (fun J' hj => ?_)
      · cases a with
        | none => simp [Builtin.append_, run_underlying hut, sizeOf, typeInfo, hi, Builtin.lenOf, run_firstCells_none, hl.1, storeCells]
        | some ad =>
          have hf := run_firstCells_some (P := P) w ti.size 0 ad 0 c [] (by simp) (by simp)
          simp [Builtin.append_, run_underlying hut, sizeOf, typeInfo, hi, Builtin.lenOf, hf, hl.1, storeCells]
      · refine .inr ⟨b, cp, cc, by simp, hbb, hcs, by simpa using hl, ?_⟩
        simp only [List.append_nil]
        exact RepE.map hj k _ _ hre
  -- something is
  · obtain ⟨bb, off, bc, bT, fz, rfl, hbj, hbb, hbe⟩ := hb.resolve_left hes
    have hpos : 0 < es.length := List.length_pos_iff.2 hes
    let news := (bc.toList.drop off).take (es.length * k)
    have hnl : news.length = es.length * k := by
      have := hbe.len
      simp only [news, List.length_take]; omega
    have hnews : ∀ q u, news[q]? = some u → w.cell? ((⟨bb, off, none⟩ : Addr).add q) = some u := by
      intro q u hq
      simp only [news, List.getElem?_take, List.getElem?_drop] at hq
      split at hq
      · rw [addr_add]
        simp only [World.cell?, hbb]
        simpa using hq
      · cases hq
    have hone : ∀ u ∈ news, u.oneCell' = true := RepE.one es _ hbe
    have hrn : ∀ {J' : Nat → Prop} {w' : World}, (∀ x, x < w.heap.size → Jx J (mutS ℓ S) x → J' x ∧ w'.heap[x]? = w.heap[x]?) → RepE J' w' k es news := by
      intro J' w' hj
      refine RepE.cut (RepE.map hj k es _ hbe) (Nat.le_of_eq hnl.symm) ?_
      simp only [news, List.take_take, Nat.min_self]
    rcases hok with ⟨hv, hd⟩ | ⟨b, cp, cc, hv, hgb, hcs, hl, hre⟩
    · simp only at hv hd
      subst hv hd
      simp only [List.length_nil, Nat.zero_add] at hlim hlen
      have hrun := run_append_nil (P := P) w t ty e ti z hut hi hz ⟨bb, off, none⟩ es.length c news (by rw [hik]; exact hnl) hnews hpos (by omega) (by rw [hby]; omega)
      have hge := grownCap_ge w es.length 0 e
      refine fin _ _ _ rfl ⟨some ⟨w.heap.size, 0, none⟩, grownCap w es.length 0 e, by simp⟩ hrun rfl rfl (by simp) ?_ (by simp [accBlk]) ?_ ?_
      · intro x hx _
        show (w.drew.heap.push _)[x]? = _
        rw [Array.getElem?_push, if_neg (by show ¬ x = w.heap.size; omega)]; rfl
      · intro x hx
        simp [accBlk] at hx
        subst hx
        exact ⟨.inr (Nat.le_refl _), by show w.heap.size < (w.heap.push _).size; simp⟩
      · intro J' hj
        refine .inr ⟨w.heap.size, grownCap w es.length 0 e, _, by simp, World.alloc_heap_new w.drew _, ?_, by simp; exact ⟨hge, hlen⟩, ?_⟩
        · simp only [Array.size_append, List.size_toArray, hnl, size_zeroCells, hzk, ← Nat.add_mul]
          congr 1; omega
        · simp only [List.nil_append, Array.toList_append]
          exact RepE.cut (hrn hj) (by simp [hnl]) (by rw [List.take_append_of_le_length (by simp [hnl])])
    · simp only at hv hgb hcs hl hre
      subst hv
      have hlen' : ((ds ++ es).length) = ds.length + es.length := by simp
      by_cases hroom : ds.length + es.length ≤ cp
      · have hfit : ds.length * ti.size + news.length ≤ cc.size := by rw [hik, hnl, hcs, ← Nat.add_mul]; exact Nat.mul_le_mul_right _ hroom
        have hrun := run_append_room (P := P) w t ty e ti hut hi b ds.length cp cc hgb ⟨bb, off, none⟩ es.length c news (by rw [hik]; exact hnl) hnews hone hroom hfit
        rw [hik] at hrun hfit
        refine fin _ _ _ rfl ⟨_, _, rfl⟩ hrun rfl rfl (by simp) ?_ (by simp [accBlk]) ?_ ?_
        · intro x hx hm
          exact setRow_other w b x _ (fun e => hm (by simp [accBlk, e]))
        · intro x hx
          simp [accBlk] at hx
          subst hx
          exact ⟨.inl (by simp [accBlk]), by simpa using lt_of_get hgb⟩
        · intro J' hj
          refine .inr ⟨b, cp, _, by rw [hlen'], setRow_heap w b cc _ e _ hgb, ?_, by rw [hlen']; exact ⟨hroom, hlen⟩, ?_⟩
          · simp only [List.size_toArray, List.length_append, List.length_take, List.length_drop, Array.length_toList]
            omega
          · have h1 := RepE.map hj k ds _ hre
            have hdl := hre.len
            have h2 : RepE J' (w.setRow b (cc.toList.take (ds.length * k) ++ news ++ cc.toList.drop (ds.length * k + news.length)).toArray) k (ds ++ es) (cc.toList.take (ds.length * k) ++ news) := by
              have htl : (cc.toList.take (ds.length * k)).length = ds.length * k := by rw [List.length_take, Nat.min_eq_left hdl]
              exact RepE.append (RepE.cut h1 (Nat.le_of_eq htl.symm) (by rw [List.take_take, Nat.min_self])) htl (hrn hj)
            exact RepE.cut h2 (by simp [hnl, Nat.add_mul]; have := hdl; simp at this; omega) (by
              rw [List.append_assoc]
              rw [← List.append_assoc, List.take_append_of_le_length]
              simp [hnl, Nat.add_mul]; have := hdl; simp at this; omega)
      · have hlo : ((cc.toList).take (ds.length * k)).length = ds.length * ti.size := by
          have := hre.len
          rw [hik, List.length_take]; omega
        have holds : ∀ q u, ((cc.toList).take (ds.length * k))[q]? = some u → w.cell? ((⟨b, 0, none⟩ : Addr).add q) = some u := by
          intro q u hq
          rw [List.getElem?_take] at hq
          split at hq
          · rw [addr_add]
            simp only [World.cell?, hgb, Nat.zero_add]
            simpa using hq
          · cases hq
        have hrun := run_append_grow (P := P) w t ty e ti z hut hi hz ⟨b, 0, none⟩ ds.length cp ((cc.toList).take (ds.length * k)) hlo holds ⟨bb, off, none⟩ es.length c news (by rw [hik]; exact hnl) hnews (by omega) (by omega) (growslice_fits (by omega) (by rw [hby]; exact hlim))
        have hge := grownCap_ge w (ds.length + es.length) cp e
        refine fin _ _ _ rfl ⟨_, _, rfl⟩ hrun rfl rfl (by simp) ?_ (by simp [accBlk]) ?_ ?_
        · intro x hx _
          show (w.drew.heap.push _)[x]? = _
          rw [Array.getElem?_push, if_neg (by show ¬ x = w.heap.size; omega)]; rfl
        · intro x hx
          simp [accBlk] at hx
          subst hx
          exact ⟨.inr (Nat.le_refl _), by show w.heap.size < (w.heap.push _).size; simp⟩
        · intro J' hj
          refine .inr ⟨w.heap.size, grownCap w (ds.length + es.length) cp e, _, by rw [hlen'], World.alloc_heap_new w.drew _, ?_, by rw [hlen']; exact ⟨hge, hlen⟩, ?_⟩
          · rw [hik] at hlo
            simp only [Array.size_append, List.size_toArray, hnl, hlo, size_zeroCells, hzk, ← Nat.add_mul]
            congr 1; omega
          · simp only [Array.toList_append]
            rw [hik] at hlo
            have h1 := RepE.map hj k ds _ hre
            have h2 := RepE.append (RepE.cut h1 (ys := cc.toList.take (ds.length * k)) (Nat.le_of_eq hlo.symm) (by rw [List.take_take, Nat.min_self])) hlo (hrn hj)
            exact RepE.cut h2 (by simp only [List.length_append, hlo, hnl, hlen', Nat.add_mul]; omega) (by rw [List.take_append_of_le_length]; simp only [List.length_append, hlo, hnl, hlen', Nat.add_mul]; omega)

/-- What has grown is data from now on. -/
theorem StLe.freeze (S : St) (n : Nat) (hn : n ≤ S.own.length) (hwf : ∀ k ∈ S.own.take n, k.wf n = true) (reps : List (Value × D)) (hr : ∀ p ∈ reps, p ∈ S.reps ∨ ∃ a ∈ S.accs, p = (a.v, .sl a.k a.ds)) : StLe S ⟨S.own.take n, [], reps⟩ := by
  refine ⟨by rw [List.length_take]; omega, fun J ℓ w h => ?_⟩
  obtain ⟨_, h2⟩ := StLe.part S n hn hwf [] (List.nil_sublist _) (reps.filter (fun _ => false)) (by simp)
  obtain ⟨hg, hm⟩ := h2 J ℓ w h
  refine ⟨⟨hg.len, hg.nodup, hg.lt, hg.memJ, hg.wf, hg.own, by simp, fun p hp => ?_⟩, hm⟩
  have hx : ∀ x, x < w.heap.size → Jx J (mutS ℓ S) x → Jx J (mutS (ℓ.take (S.own.take n).length) ⟨S.own.take n, [], reps⟩) x ∧ w.heap[x]? = w.heap[x]? := fun x _ hj => ⟨⟨hj.1, fun hmm => hj.2 (hm x hmm)⟩, rfl⟩
  rcases hr p hp with h1 | ⟨a, ha, rfl⟩
  · exact (h.reps p h1).map hx
  · have hok := h.accs a ha
    simp only [Rep, RepC]
    rcases hok with ⟨hv, hd⟩ | ⟨b, cp, cc, hv, hgb, hcs, hl, hre⟩
    · rw [hv, hd]
      exact ⟨none, 0, rfl, ⟨Nat.le_refl _, Nat.zero_le _⟩, .inl rfl⟩
    · rw [hv]
      have hbm : b ∈ S.accs.flatMap (fun a => accBlk a.v) := List.mem_flatMap.2 ⟨a, ha, by simp [hv, accBlk]⟩
      have hnd := h.nodup
      simp only [mutS] at hnd
      rw [List.nodup_append] at hnd
      refine ⟨_, cp, rfl, hl, .inr ⟨b, 0, cc, a.T, (0, 0), rfl, ⟨h.memJ b (by simp only [mutS]; exact List.mem_append.2 (.inr hbm)), fun hmm => ?_⟩, hgb, ?_⟩⟩
      · simp only [mutS, List.flatMap_nil, List.append_nil, List.length_take, Nat.min_eq_left hn] at hmm
        exact hnd.2.2 b ((mutL_take n).subset hmm) b hbm rfl
      · simpa using RepE.map hx a.k _ _ hre

/-- The end of a pure function that hands back what has grown. -/
theorem AtRet.grown {r : SV} {S : St} {R : SV → List (Value × D) → Prop} (out : List (Value × D)) (hr : r.wf 0 = true) (ho : ∀ p ∈ out, p ∈ S.reps ∨ ∃ a ∈ S.accs, p = (a.v, .sl a.k a.ds)) (h : R r out) : AtRet 0 (.ret r) S (fun o S' => ∃ r out, o = .ret r ∧ S' = ⟨[], [], out⟩ ∧ r.wf 0 = true ∧ R r out) :=
  ⟨⟨[], [], out⟩, StLe.freeze S 0 (Nat.zero_le _) (by simp) out ho, Nat.zero_le _, hr, r, out, rfl, rfl, hr, h⟩

end Go.Tr
end
