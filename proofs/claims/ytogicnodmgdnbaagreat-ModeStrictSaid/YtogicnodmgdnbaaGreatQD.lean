/- Merged texts: FwT FwM FwN FwO FwP Tm Base. The types of the seat, as the framework wants them (written by gen_ty.py). No condition. Small words for the uses of the framework. No condition. Rules for the uses of the framework: slices of slices, slices that are built, slices that grow, maps with int keys. Conditions stand in each rule. Rules for maps with int keys (made by the run itself), for walks over them. Conditions stand in each rule. Rules for interfaces, and for operations whose answer is one value. Conditions stand in each rule. Terms as plain data, and what the packages term and trussref03 compute over them. No condition: definitions and lemmas. What every contract of this seat wants. No condition. -/
import Derived.Test.YtogicnodmgdnbaaGreatQC
import Derived.Test.YtogicnodmgdnbaaGreatProg
import Derived.KernelRfl
import Derived.Laws.AppendOwn
import Derived.Laws.Small
import Derived.Laws.Build
/-! FwT -/
section
namespace Go.Proofs.YtogicnodmgdnbaaGreat
open Go.Tr

theorem ty22 : TyOK Tryz.prog 22 (.slice 49 6) := ⟨⟨Tryz.isAgg22, Tryz.sizeOf22, Tryz.zeroValue22, rfl⟩, Tryz.underlying22, Tryz.sizeOf49⟩
theorem ty23 : TyOK Tryz.prog 23 (.slice 25 3) := ⟨⟨Tryz.isAgg23, Tryz.sizeOf23, Tryz.zeroValue23, rfl⟩, Tryz.underlying23, Tryz.sizeOf25⟩
theorem ty24 : TyOK Tryz.prog 24 (.struct [0, 1, 2] [1, 1, 1] [Go.Value.int Go.IntKind.i64 0, Go.Value.string { data := #[] }, Go.Value.slice none 0 0]) := tyStruct Tryz.isAgg24 Tryz.sizeOf24 Tryz.zeroValue24 Tryz.underlying24 rfl ⟨⟨rfl, Tryz.sizeOf3⟩, ⟨rfl, Tryz.sizeOf9⟩, ⟨rfl, Tryz.sizeOf23⟩, trivial⟩
theorem ty25 : TyOK Tryz.prog 25 (.struct [0, 1, 2] [1, 1, 1] [Go.Value.int Go.IntKind.i64 0, Go.Value.string { data := #[] }, Go.Value.slice none 0 0]) := tyStruct Tryz.isAgg25 Tryz.sizeOf25 Tryz.zeroValue25 Tryz.underlying25 rfl ⟨⟨rfl, Tryz.sizeOf3⟩, ⟨rfl, Tryz.sizeOf9⟩, ⟨rfl, Tryz.sizeOf23⟩, trivial⟩
theorem ty26 : TyOK Tryz.prog 26 (.slice 74 8) := ⟨⟨Tryz.isAgg26, Tryz.sizeOf26, Tryz.zeroValue26, rfl⟩, Tryz.underlying26, Tryz.sizeOf74⟩
theorem ty27 : TyOK Tryz.prog 27 (.struct [0, 1, 2, 5] [1, 1, 3, 1] [Go.Value.string { data := #[] }, Go.Value.string { data := #[] }, Go.Value.int Go.IntKind.i64 0, Go.Value.string { data := #[] }, Go.Value.slice none 0 0, Go.Value.slice none 0 0]) := tyStruct Tryz.isAgg27 Tryz.sizeOf27 Tryz.zeroValue27 Tryz.underlying27 rfl ⟨⟨rfl, Tryz.sizeOf9⟩, ⟨rfl, Tryz.sizeOf9⟩, ⟨rfl, Tryz.sizeOf25⟩, ⟨rfl, Tryz.sizeOf26⟩, trivial⟩
theorem ty28 : TyOK Tryz.prog 28 (.struct [0, 1, 2, 5] [1, 1, 3, 1] [Go.Value.string { data := #[] }, Go.Value.string { data := #[] }, Go.Value.int Go.IntKind.i64 0, Go.Value.string { data := #[] }, Go.Value.slice none 0 0, Go.Value.slice none 0 0]) := tyStruct Tryz.isAgg28 Tryz.sizeOf28 Tryz.zeroValue28 Tryz.underlying28 rfl ⟨⟨rfl, Tryz.sizeOf9⟩, ⟨rfl, Tryz.sizeOf9⟩, ⟨rfl, Tryz.sizeOf25⟩, ⟨rfl, Tryz.sizeOf26⟩, trivial⟩
theorem ty29 : TyOK Tryz.prog 29 (.slice 3 1) := ⟨⟨Tryz.isAgg29, Tryz.sizeOf29, Tryz.zeroValue29, rfl⟩, Tryz.underlying29, Tryz.sizeOf3⟩
theorem ty30 : TyOK Tryz.prog 30 (.struct [0, 1] [1, 1] [Go.Value.int Go.IntKind.i64 0, Go.Value.slice none 0 0]) := tyStruct Tryz.isAgg30 Tryz.sizeOf30 Tryz.zeroValue30 Tryz.underlying30 rfl ⟨⟨rfl, Tryz.sizeOf3⟩, ⟨rfl, Tryz.sizeOf29⟩, trivial⟩
theorem ty31 : TyOK Tryz.prog 31 (.struct [0, 1] [1, 1] [Go.Value.int Go.IntKind.i64 0, Go.Value.slice none 0 0]) := tyStruct Tryz.isAgg31 Tryz.sizeOf31 Tryz.zeroValue31 Tryz.underlying31 rfl ⟨⟨rfl, Tryz.sizeOf3⟩, ⟨rfl, Tryz.sizeOf29⟩, trivial⟩
theorem ty43 : TyOK Tryz.prog 43 (.slice 4 1) := ⟨⟨Tryz.isAgg43, Tryz.sizeOf43, Tryz.zeroValue43, rfl⟩, Tryz.underlying43, Tryz.sizeOf4⟩
theorem ty45 : TyOK Tryz.prog 45 (.slice 47 4) := ⟨⟨Tryz.isAgg45, Tryz.sizeOf45, Tryz.zeroValue45, rfl⟩, Tryz.underlying45, Tryz.sizeOf47⟩
theorem ty46 : TyOK Tryz.prog 46 (.struct [0, 1, 2, 3] [1, 1, 1, 1] [Go.Value.int Go.IntKind.i64 0, Go.Value.int Go.IntKind.i64 0, Go.Value.int Go.IntKind.i64 0, Go.Value.slice none 0 0]) := tyStruct Tryz.isAgg46 Tryz.sizeOf46 Tryz.zeroValue46 Tryz.underlying46 rfl ⟨⟨rfl, Tryz.sizeOf3⟩, ⟨rfl, Tryz.sizeOf3⟩, ⟨rfl, Tryz.sizeOf3⟩, ⟨rfl, Tryz.sizeOf45⟩, trivial⟩
theorem ty47 : TyOK Tryz.prog 47 (.struct [0, 1, 2, 3] [1, 1, 1, 1] [Go.Value.int Go.IntKind.i64 0, Go.Value.int Go.IntKind.i64 0, Go.Value.int Go.IntKind.i64 0, Go.Value.slice none 0 0]) := tyStruct Tryz.isAgg47 Tryz.sizeOf47 Tryz.zeroValue47 Tryz.underlying47 rfl ⟨⟨rfl, Tryz.sizeOf3⟩, ⟨rfl, Tryz.sizeOf3⟩, ⟨rfl, Tryz.sizeOf3⟩, ⟨rfl, Tryz.sizeOf45⟩, trivial⟩
theorem ty48 : TyOK Tryz.prog 48 (.struct [0, 1, 5] [1, 4, 1] [Go.Value.string { data := #[] }, Go.Value.int Go.IntKind.i64 0, Go.Value.int Go.IntKind.i64 0, Go.Value.int Go.IntKind.i64 0, Go.Value.slice none 0 0, Go.Value.int Go.IntKind.i64 0]) := tyStruct Tryz.isAgg48 Tryz.sizeOf48 Tryz.zeroValue48 Tryz.underlying48 rfl ⟨⟨rfl, Tryz.sizeOf9⟩, ⟨rfl, Tryz.sizeOf47⟩, ⟨rfl, Tryz.sizeOf3⟩, trivial⟩
theorem ty49 : TyOK Tryz.prog 49 (.struct [0, 1, 5] [1, 4, 1] [Go.Value.string { data := #[] }, Go.Value.int Go.IntKind.i64 0, Go.Value.int Go.IntKind.i64 0, Go.Value.int Go.IntKind.i64 0, Go.Value.slice none 0 0, Go.Value.int Go.IntKind.i64 0]) := tyStruct Tryz.isAgg49 Tryz.sizeOf49 Tryz.zeroValue49 Tryz.underlying49 rfl ⟨⟨rfl, Tryz.sizeOf9⟩, ⟨rfl, Tryz.sizeOf47⟩, ⟨rfl, Tryz.sizeOf3⟩, trivial⟩
theorem ty53 : TyOK Tryz.prog 53 (.slice 31 2) := ⟨⟨Tryz.isAgg53, Tryz.sizeOf53, Tryz.zeroValue53, rfl⟩, Tryz.underlying53, Tryz.sizeOf31⟩
theorem ty73 : TyOK Tryz.prog 73 (.struct [0, 1, 2, 3, 4, 7] [1, 1, 1, 1, 3, 1] [Go.Value.int Go.IntKind.i64 0, Go.Value.string { data := #[] }, Go.Value.string { data := #[] }, Go.Value.int Go.IntKind.i64 0, Go.Value.int Go.IntKind.i64 0, Go.Value.string { data := #[] }, Go.Value.slice none 0 0, Go.Value.slice none 0 0]) := tyStruct Tryz.isAgg73 Tryz.sizeOf73 Tryz.zeroValue73 Tryz.underlying73 rfl ⟨⟨rfl, Tryz.sizeOf3⟩, ⟨rfl, Tryz.sizeOf9⟩, ⟨rfl, Tryz.sizeOf9⟩, ⟨rfl, Tryz.sizeOf3⟩, ⟨rfl, Tryz.sizeOf25⟩, ⟨rfl, Tryz.sizeOf26⟩, trivial⟩
theorem ty74 : TyOK Tryz.prog 74 (.struct [0, 1, 2, 3, 4, 7] [1, 1, 1, 1, 3, 1] [Go.Value.int Go.IntKind.i64 0, Go.Value.string { data := #[] }, Go.Value.string { data := #[] }, Go.Value.int Go.IntKind.i64 0, Go.Value.int Go.IntKind.i64 0, Go.Value.string { data := #[] }, Go.Value.slice none 0 0, Go.Value.slice none 0 0]) := tyStruct Tryz.isAgg74 Tryz.sizeOf74 Tryz.zeroValue74 Tryz.underlying74 rfl ⟨⟨rfl, Tryz.sizeOf3⟩, ⟨rfl, Tryz.sizeOf9⟩, ⟨rfl, Tryz.sizeOf9⟩, ⟨rfl, Tryz.sizeOf3⟩, ⟨rfl, Tryz.sizeOf25⟩, ⟨rfl, Tryz.sizeOf26⟩, trivial⟩
theorem ty102 : TyOK Tryz.prog 102 (.struct [0, 1] [1, 1] [Go.Value.slice none 0 0, Go.Value.slice none 0 0]) := tyStruct Tryz.isAgg102 Tryz.sizeOf102 Tryz.zeroValue102 Tryz.underlying102 rfl ⟨⟨rfl, Tryz.sizeOf43⟩, ⟨rfl, Tryz.sizeOf43⟩, trivial⟩
theorem ty103 : TyOK Tryz.prog 103 (.struct [0, 1] [1, 1] [Go.Value.slice none 0 0, Go.Value.slice none 0 0]) := tyStruct Tryz.isAgg103 Tryz.sizeOf103 Tryz.zeroValue103 Tryz.underlying103 rfl ⟨⟨rfl, Tryz.sizeOf43⟩, ⟨rfl, Tryz.sizeOf43⟩, trivial⟩
theorem ty106 : TyOK Tryz.prog 106 (.slice 4 1) := ⟨⟨Tryz.isAgg106, Tryz.sizeOf106, Tryz.zeroValue106, rfl⟩, Tryz.underlying106, Tryz.sizeOf4⟩
theorem ty135 : TyOK Tryz.prog 135 (.slice 242 10) := ⟨⟨Tryz.isAgg135, Tryz.sizeOf135, Tryz.zeroValue135, rfl⟩, Tryz.underlying135, Tryz.sizeOf242⟩
theorem ty136 : TyOK Tryz.prog 136 (.struct [0, 1] [1, 1] [Go.Value.slice none 0 0, Go.Value.slice none 0 0]) := tyStruct Tryz.isAgg136 Tryz.sizeOf136 Tryz.zeroValue136 Tryz.underlying136 rfl ⟨⟨rfl, Tryz.sizeOf22⟩, ⟨rfl, Tryz.sizeOf135⟩, trivial⟩
theorem ty137 : TyOK Tryz.prog 137 (.struct [0, 1] [1, 1] [Go.Value.slice none 0 0, Go.Value.slice none 0 0]) := tyStruct Tryz.isAgg137 Tryz.sizeOf137 Tryz.zeroValue137 Tryz.underlying137 rfl ⟨⟨rfl, Tryz.sizeOf22⟩, ⟨rfl, Tryz.sizeOf135⟩, trivial⟩
theorem ty139 : TyOK Tryz.prog 139 (.struct [0, 1] [1, 1] [Go.Value.int Go.IntKind.i64 0, Go.Value.int Go.IntKind.i64 0]) := tyStruct Tryz.isAgg139 Tryz.sizeOf139 Tryz.zeroValue139 Tryz.underlying139 rfl ⟨⟨rfl, Tryz.sizeOf3⟩, ⟨rfl, Tryz.sizeOf3⟩, trivial⟩
theorem ty140 : TyOK Tryz.prog 140 (.struct [0, 1] [1, 1] [Go.Value.int Go.IntKind.i64 0, Go.Value.int Go.IntKind.i64 0]) := tyStruct Tryz.isAgg140 Tryz.sizeOf140 Tryz.zeroValue140 Tryz.underlying140 rfl ⟨⟨rfl, Tryz.sizeOf3⟩, ⟨rfl, Tryz.sizeOf3⟩, trivial⟩
theorem ty142 : TyOK Tryz.prog 142 (.struct [0, 1] [1, 1] [Go.Value.map none, Go.Value.int Go.IntKind.i64 0]) := tyStruct Tryz.isAgg142 Tryz.sizeOf142 Tryz.zeroValue142 Tryz.underlying142 rfl ⟨⟨rfl, Tryz.sizeOf93⟩, ⟨rfl, Tryz.sizeOf3⟩, trivial⟩
theorem ty143 : TyOK Tryz.prog 143 (.struct [0, 1] [1, 1] [Go.Value.map none, Go.Value.int Go.IntKind.i64 0]) := tyStruct Tryz.isAgg143 Tryz.sizeOf143 Tryz.zeroValue143 Tryz.underlying143 rfl ⟨⟨rfl, Tryz.sizeOf93⟩, ⟨rfl, Tryz.sizeOf3⟩, trivial⟩
theorem ty169 : TyOK Tryz.prog 169 (.slice 9 1) := ⟨⟨Tryz.isAgg169, Tryz.sizeOf169, Tryz.zeroValue169, rfl⟩, Tryz.underlying169, Tryz.sizeOf9⟩
theorem ty175 : TyOK Tryz.prog 175 (.slice 106 1) := ⟨⟨Tryz.isAgg175, Tryz.sizeOf175, Tryz.zeroValue175, rfl⟩, Tryz.underlying175, Tryz.sizeOf106⟩
theorem ty230 : TyOK Tryz.prog 230 (.struct [0] [1] [Go.Value.int Go.IntKind.i64 0]) := tyStruct Tryz.isAgg230 Tryz.sizeOf230 Tryz.zeroValue230 Tryz.underlying230 rfl ⟨⟨rfl, Tryz.sizeOf3⟩, trivial⟩
theorem ty231 : TyOK Tryz.prog 231 (.struct [0] [1] [Go.Value.int Go.IntKind.i64 0]) := tyStruct Tryz.isAgg231 Tryz.sizeOf231 Tryz.zeroValue231 Tryz.underlying231 rfl ⟨⟨rfl, Tryz.sizeOf3⟩, trivial⟩
theorem ty233 : TyOK Tryz.prog 233 (.slice 235 2) := ⟨⟨Tryz.isAgg233, Tryz.sizeOf233, Tryz.zeroValue233, rfl⟩, Tryz.underlying233, Tryz.sizeOf235⟩
theorem ty234 : TyOK Tryz.prog 234 (.struct [0, 1] [1, 1] [Go.Value.slice none 0 0, Go.Value.int Go.IntKind.i64 0]) := tyStruct Tryz.isAgg234 Tryz.sizeOf234 Tryz.zeroValue234 Tryz.underlying234 rfl ⟨⟨rfl, Tryz.sizeOf233⟩, ⟨rfl, Tryz.sizeOf3⟩, trivial⟩
theorem ty235 : TyOK Tryz.prog 235 (.struct [0, 1] [1, 1] [Go.Value.slice none 0 0, Go.Value.int Go.IntKind.i64 0]) := tyStruct Tryz.isAgg235 Tryz.sizeOf235 Tryz.zeroValue235 Tryz.underlying235 rfl ⟨⟨rfl, Tryz.sizeOf233⟩, ⟨rfl, Tryz.sizeOf3⟩, trivial⟩
theorem ty241 : TyOK Tryz.prog 241 (.struct [0, 1, 5, 6] [1, 4, 1, 4] [Go.Value.string { data := #[] }, Go.Value.int Go.IntKind.i64 0, Go.Value.int Go.IntKind.i64 0, Go.Value.int Go.IntKind.i64 0, Go.Value.slice none 0 0, Go.Value.bool false, Go.Value.int Go.IntKind.i64 0, Go.Value.int Go.IntKind.i64 0, Go.Value.int Go.IntKind.i64 0, Go.Value.slice none 0 0]) := tyStruct Tryz.isAgg241 Tryz.sizeOf241 Tryz.zeroValue241 Tryz.underlying241 rfl ⟨⟨rfl, Tryz.sizeOf9⟩, ⟨rfl, Tryz.sizeOf47⟩, ⟨rfl, Tryz.sizeOf4⟩, ⟨rfl, Tryz.sizeOf47⟩, trivial⟩
theorem ty242 : TyOK Tryz.prog 242 (.struct [0, 1, 5, 6] [1, 4, 1, 4] [Go.Value.string { data := #[] }, Go.Value.int Go.IntKind.i64 0, Go.Value.int Go.IntKind.i64 0, Go.Value.int Go.IntKind.i64 0, Go.Value.slice none 0 0, Go.Value.bool false, Go.Value.int Go.IntKind.i64 0, Go.Value.int Go.IntKind.i64 0, Go.Value.int Go.IntKind.i64 0, Go.Value.slice none 0 0]) := tyStruct Tryz.isAgg242 Tryz.sizeOf242 Tryz.zeroValue242 Tryz.underlying242 rfl ⟨⟨rfl, Tryz.sizeOf9⟩, ⟨rfl, Tryz.sizeOf47⟩, ⟨rfl, Tryz.sizeOf4⟩, ⟨rfl, Tryz.sizeOf47⟩, trivial⟩
theorem ty260 : TyOK Tryz.prog 260 (.struct [0, 1, 2, 3, 4, 5, 6, 7, 8, 9, 10] [1, 1, 1, 1, 1, 1, 1, 1, 1, 1, 1] [Go.Value.int Go.IntKind.u64 0, Go.Value.int Go.IntKind.u64 0, Go.Value.int Go.IntKind.u32 0, Go.Value.int Go.IntKind.u8 0, Go.Value.int Go.IntKind.u8 0, Go.Value.int Go.IntKind.u8 0, Go.Value.int Go.IntKind.u8 0, Go.Value.nilFunc, Go.Value.pointer none, Go.Value.int Go.IntKind.i32 0, Go.Value.int Go.IntKind.i32 0]) := tyStruct Tryz.isAgg260 Tryz.sizeOf260 Tryz.zeroValue260 Tryz.underlying260 rfl ⟨⟨rfl, Tryz.sizeOf12⟩, ⟨rfl, Tryz.sizeOf12⟩, ⟨rfl, Tryz.sizeOf201⟩, ⟨rfl, Tryz.sizeOf254⟩, ⟨rfl, Tryz.sizeOf5⟩, ⟨rfl, Tryz.sizeOf5⟩, ⟨rfl, Tryz.sizeOf255⟩, ⟨rfl, Tryz.sizeOf256⟩, ⟨rfl, Tryz.sizeOf257⟩, ⟨rfl, Tryz.sizeOf258⟩, ⟨rfl, Tryz.sizeOf259⟩, trivial⟩
theorem ty261 : TyOK Tryz.prog 261 (.struct [0, 1, 2, 3, 4, 5, 6, 7, 8, 9, 10] [1, 1, 1, 1, 1, 1, 1, 1, 1, 1, 1] [Go.Value.int Go.IntKind.u64 0, Go.Value.int Go.IntKind.u64 0, Go.Value.int Go.IntKind.u32 0, Go.Value.int Go.IntKind.u8 0, Go.Value.int Go.IntKind.u8 0, Go.Value.int Go.IntKind.u8 0, Go.Value.int Go.IntKind.u8 0, Go.Value.nilFunc, Go.Value.pointer none, Go.Value.int Go.IntKind.i32 0, Go.Value.int Go.IntKind.i32 0]) := tyStruct Tryz.isAgg261 Tryz.sizeOf261 Tryz.zeroValue261 Tryz.underlying261 rfl ⟨⟨rfl, Tryz.sizeOf12⟩, ⟨rfl, Tryz.sizeOf12⟩, ⟨rfl, Tryz.sizeOf201⟩, ⟨rfl, Tryz.sizeOf254⟩, ⟨rfl, Tryz.sizeOf5⟩, ⟨rfl, Tryz.sizeOf5⟩, ⟨rfl, Tryz.sizeOf255⟩, ⟨rfl, Tryz.sizeOf256⟩, ⟨rfl, Tryz.sizeOf257⟩, ⟨rfl, Tryz.sizeOf258⟩, ⟨rfl, Tryz.sizeOf259⟩, trivial⟩
theorem ty1 : TyOK Tryz.prog 1 (.cell Go.Value.nilFunc) := ⟨Tryz.isAgg1, Tryz.sizeOf1, Tryz.zeroValue1, rfl⟩
theorem ty2 : TyOK Tryz.prog 2 (.cell (Go.Value.int Go.IntKind.i64 0)) := ⟨Tryz.isAgg2, Tryz.sizeOf2, Tryz.zeroValue2, rfl⟩
theorem ty3 : TyOK Tryz.prog 3 (.cell (Go.Value.int Go.IntKind.i64 0)) := ⟨Tryz.isAgg3, Tryz.sizeOf3, Tryz.zeroValue3, rfl⟩
theorem ty4 : TyOK Tryz.prog 4 (.cell (Go.Value.bool false)) := ⟨Tryz.isAgg4, Tryz.sizeOf4, Tryz.zeroValue4, rfl⟩
theorem ty5 : TyOK Tryz.prog 5 (.cell (Go.Value.int Go.IntKind.u8 0)) := ⟨Tryz.isAgg5, Tryz.sizeOf5, Tryz.zeroValue5, rfl⟩
theorem ty6 : TyOK Tryz.prog 6 (.cell (Go.Value.int Go.IntKind.u8 0)) := ⟨Tryz.isAgg6, Tryz.sizeOf6, Tryz.zeroValue6, rfl⟩
theorem ty9 : TyOK Tryz.prog 9 (.str) := ⟨⟨Tryz.isAgg9, Tryz.sizeOf9, Tryz.zeroValue9, rfl⟩, Tryz.underlying9⟩
theorem ty10 : TyOK Tryz.prog 10 (.str) := ⟨⟨Tryz.isAgg10, Tryz.sizeOf10, Tryz.zeroValue10, rfl⟩, Tryz.underlying10⟩
theorem ty11 : TyOK Tryz.prog 11 (.str) := ⟨⟨Tryz.isAgg11, Tryz.sizeOf11, Tryz.zeroValue11, rfl⟩, Tryz.underlying11⟩
theorem ty12 : TyOK Tryz.prog 12 (.cell (Go.Value.int Go.IntKind.u64 0)) := ⟨Tryz.isAgg12, Tryz.sizeOf12, Tryz.zeroValue12, rfl⟩
theorem ty15 : TyOK Tryz.prog 15 (.cell (Go.Value.pointer none)) := ⟨Tryz.isAgg15, Tryz.sizeOf15, Tryz.zeroValue15, rfl⟩
theorem ty16 : TyOK Tryz.prog 16 (.cell (Go.Value.pointer none)) := ⟨Tryz.isAgg16, Tryz.sizeOf16, Tryz.zeroValue16, rfl⟩
theorem ty17 : TyOK Tryz.prog 17 (.cell (Go.Value.pointer none)) := ⟨Tryz.isAgg17, Tryz.sizeOf17, Tryz.zeroValue17, rfl⟩
theorem ty20 : TyOK Tryz.prog 20 (.cell Go.Value.nilIface) := ⟨Tryz.isAgg20, Tryz.sizeOf20, Tryz.zeroValue20, rfl⟩
theorem ty21 : TyOK Tryz.prog 21 (.cell (Go.Value.int Go.IntKind.i32 0)) := ⟨Tryz.isAgg21, Tryz.sizeOf21, Tryz.zeroValue21, rfl⟩
theorem ty32 : TyOK Tryz.prog 32 (.cell (Go.Value.int Go.IntKind.i64 0)) := ⟨Tryz.isAgg32, Tryz.sizeOf32, Tryz.zeroValue32, rfl⟩
theorem ty34 : TyOK Tryz.prog 34 (.cell Go.Value.nilFunc) := ⟨Tryz.isAgg34, Tryz.sizeOf34, Tryz.zeroValue34, rfl⟩
theorem ty35 : TyOK Tryz.prog 35 (.cell Go.Value.nilFunc) := ⟨Tryz.isAgg35, Tryz.sizeOf35, Tryz.zeroValue35, rfl⟩
theorem ty36 : TyOK Tryz.prog 36 (.cell Go.Value.nilFunc) := ⟨Tryz.isAgg36, Tryz.sizeOf36, Tryz.zeroValue36, rfl⟩
theorem ty37 : TyOK Tryz.prog 37 (.cell Go.Value.nilFunc) := ⟨Tryz.isAgg37, Tryz.sizeOf37, Tryz.zeroValue37, rfl⟩
theorem ty38 : TyOK Tryz.prog 38 (.cell Go.Value.nilFunc) := ⟨Tryz.isAgg38, Tryz.sizeOf38, Tryz.zeroValue38, rfl⟩
theorem ty40 : TyOK Tryz.prog 40 (.cell Go.Value.nilFunc) := ⟨Tryz.isAgg40, Tryz.sizeOf40, Tryz.zeroValue40, rfl⟩
theorem ty41 : TyOK Tryz.prog 41 (.cell Go.Value.nilFunc) := ⟨Tryz.isAgg41, Tryz.sizeOf41, Tryz.zeroValue41, rfl⟩
theorem ty42 : TyOK Tryz.prog 42 (.cell Go.Value.nilFunc) := ⟨Tryz.isAgg42, Tryz.sizeOf42, Tryz.zeroValue42, rfl⟩
theorem ty44 : TyOK Tryz.prog 44 (.cell Go.Value.nilFunc) := ⟨Tryz.isAgg44, Tryz.sizeOf44, Tryz.zeroValue44, rfl⟩
theorem ty50 : TyOK Tryz.prog 50 (.cell Go.Value.nilFunc) := ⟨Tryz.isAgg50, Tryz.sizeOf50, Tryz.zeroValue50, rfl⟩
theorem ty52 : TyOK Tryz.prog 52 (.cell Go.Value.nilFunc) := ⟨Tryz.isAgg52, Tryz.sizeOf52, Tryz.zeroValue52, rfl⟩
theorem ty55 : TyOK Tryz.prog 55 (.cell Go.Value.nilFunc) := ⟨Tryz.isAgg55, Tryz.sizeOf55, Tryz.zeroValue55, rfl⟩
theorem ty56 : TyOK Tryz.prog 56 (.cell Go.Value.nilFunc) := ⟨Tryz.isAgg56, Tryz.sizeOf56, Tryz.zeroValue56, rfl⟩
theorem ty58 : TyOK Tryz.prog 58 (.cell Go.Value.nilFunc) := ⟨Tryz.isAgg58, Tryz.sizeOf58, Tryz.zeroValue58, rfl⟩
theorem ty59 : TyOK Tryz.prog 59 (.cell Go.Value.nilFunc) := ⟨Tryz.isAgg59, Tryz.sizeOf59, Tryz.zeroValue59, rfl⟩
theorem ty61 : TyOK Tryz.prog 61 (.cell Go.Value.nilFunc) := ⟨Tryz.isAgg61, Tryz.sizeOf61, Tryz.zeroValue61, rfl⟩
theorem ty62 : TyOK Tryz.prog 62 (.cell Go.Value.nilFunc) := ⟨Tryz.isAgg62, Tryz.sizeOf62, Tryz.zeroValue62, rfl⟩
theorem ty63 : TyOK Tryz.prog 63 (.cell Go.Value.nilFunc) := ⟨Tryz.isAgg63, Tryz.sizeOf63, Tryz.zeroValue63, rfl⟩
theorem ty64 : TyOK Tryz.prog 64 (.cell Go.Value.nilFunc) := ⟨Tryz.isAgg64, Tryz.sizeOf64, Tryz.zeroValue64, rfl⟩
theorem ty65 : TyOK Tryz.prog 65 (.cell Go.Value.nilFunc) := ⟨Tryz.isAgg65, Tryz.sizeOf65, Tryz.zeroValue65, rfl⟩
theorem ty66 : TyOK Tryz.prog 66 (.cell Go.Value.nilFunc) := ⟨Tryz.isAgg66, Tryz.sizeOf66, Tryz.zeroValue66, rfl⟩
theorem ty68 : TyOK Tryz.prog 68 (.cell Go.Value.nilFunc) := ⟨Tryz.isAgg68, Tryz.sizeOf68, Tryz.zeroValue68, rfl⟩
theorem ty69 : TyOK Tryz.prog 69 (.cell Go.Value.nilFunc) := ⟨Tryz.isAgg69, Tryz.sizeOf69, Tryz.zeroValue69, rfl⟩
theorem ty70 : TyOK Tryz.prog 70 (.cell Go.Value.nilFunc) := ⟨Tryz.isAgg70, Tryz.sizeOf70, Tryz.zeroValue70, rfl⟩
theorem ty71 : TyOK Tryz.prog 71 (.cell Go.Value.nilFunc) := ⟨Tryz.isAgg71, Tryz.sizeOf71, Tryz.zeroValue71, rfl⟩
theorem ty72 : TyOK Tryz.prog 72 (.cell Go.Value.nilFunc) := ⟨Tryz.isAgg72, Tryz.sizeOf72, Tryz.zeroValue72, rfl⟩
theorem ty75 : TyOK Tryz.prog 75 (.map 9 3) := ⟨⟨Tryz.isAgg75, Tryz.sizeOf75, Tryz.zeroValue75, rfl⟩, Tryz.underlying75⟩
theorem ty76 : TyOK Tryz.prog 76 (.cell Go.Value.nilFunc) := ⟨Tryz.isAgg76, Tryz.sizeOf76, Tryz.zeroValue76, rfl⟩
theorem ty77 : TyOK Tryz.prog 77 (.cell Go.Value.nilFunc) := ⟨Tryz.isAgg77, Tryz.sizeOf77, Tryz.zeroValue77, rfl⟩
theorem ty79 : TyOK Tryz.prog 79 (.cell Go.Value.nilFunc) := ⟨Tryz.isAgg79, Tryz.sizeOf79, Tryz.zeroValue79, rfl⟩
theorem ty80 : TyOK Tryz.prog 80 (.cell Go.Value.nilFunc) := ⟨Tryz.isAgg80, Tryz.sizeOf80, Tryz.zeroValue80, rfl⟩
theorem ty81 : TyOK Tryz.prog 81 (.cell Go.Value.nilFunc) := ⟨Tryz.isAgg81, Tryz.sizeOf81, Tryz.zeroValue81, rfl⟩
theorem ty82 : TyOK Tryz.prog 82 (.cell Go.Value.nilFunc) := ⟨Tryz.isAgg82, Tryz.sizeOf82, Tryz.zeroValue82, rfl⟩
theorem ty83 : TyOK Tryz.prog 83 (.cell Go.Value.nilFunc) := ⟨Tryz.isAgg83, Tryz.sizeOf83, Tryz.zeroValue83, rfl⟩
theorem ty84 : TyOK Tryz.prog 84 (.cell Go.Value.nilFunc) := ⟨Tryz.isAgg84, Tryz.sizeOf84, Tryz.zeroValue84, rfl⟩
theorem ty85 : TyOK Tryz.prog 85 (.cell Go.Value.nilFunc) := ⟨Tryz.isAgg85, Tryz.sizeOf85, Tryz.zeroValue85, rfl⟩
theorem ty86 : TyOK Tryz.prog 86 (.cell Go.Value.nilFunc) := ⟨Tryz.isAgg86, Tryz.sizeOf86, Tryz.zeroValue86, rfl⟩
theorem ty88 : TyOK Tryz.prog 88 (.cell Go.Value.nilFunc) := ⟨Tryz.isAgg88, Tryz.sizeOf88, Tryz.zeroValue88, rfl⟩
theorem ty89 : TyOK Tryz.prog 89 (.cell Go.Value.nilFunc) := ⟨Tryz.isAgg89, Tryz.sizeOf89, Tryz.zeroValue89, rfl⟩
theorem ty90 : TyOK Tryz.prog 90 (.cell Go.Value.nilFunc) := ⟨Tryz.isAgg90, Tryz.sizeOf90, Tryz.zeroValue90, rfl⟩
theorem ty91 : TyOK Tryz.prog 91 (.cell Go.Value.nilFunc) := ⟨Tryz.isAgg91, Tryz.sizeOf91, Tryz.zeroValue91, rfl⟩
theorem ty92 : TyOK Tryz.prog 92 (.cell Go.Value.nilFunc) := ⟨Tryz.isAgg92, Tryz.sizeOf92, Tryz.zeroValue92, rfl⟩
theorem ty93 : TyOK Tryz.prog 93 (.map 3 31) := ⟨⟨Tryz.isAgg93, Tryz.sizeOf93, Tryz.zeroValue93, rfl⟩, Tryz.underlying93⟩
theorem ty95 : TyOK Tryz.prog 95 (.cell Go.Value.nilFunc) := ⟨Tryz.isAgg95, Tryz.sizeOf95, Tryz.zeroValue95, rfl⟩
theorem ty96 : TyOK Tryz.prog 96 (.cell Go.Value.nilFunc) := ⟨Tryz.isAgg96, Tryz.sizeOf96, Tryz.zeroValue96, rfl⟩
theorem ty97 : TyOK Tryz.prog 97 (.cell Go.Value.nilFunc) := ⟨Tryz.isAgg97, Tryz.sizeOf97, Tryz.zeroValue97, rfl⟩
theorem ty98 : TyOK Tryz.prog 98 (.cell Go.Value.nilFunc) := ⟨Tryz.isAgg98, Tryz.sizeOf98, Tryz.zeroValue98, rfl⟩
theorem ty99 : TyOK Tryz.prog 99 (.cell Go.Value.nilFunc) := ⟨Tryz.isAgg99, Tryz.sizeOf99, Tryz.zeroValue99, rfl⟩
theorem ty100 : TyOK Tryz.prog 100 (.cell Go.Value.nilFunc) := ⟨Tryz.isAgg100, Tryz.sizeOf100, Tryz.zeroValue100, rfl⟩
theorem ty101 : TyOK Tryz.prog 101 (.cell Go.Value.nilFunc) := ⟨Tryz.isAgg101, Tryz.sizeOf101, Tryz.zeroValue101, rfl⟩
theorem ty104 : TyOK Tryz.prog 104 (.cell Go.Value.nilFunc) := ⟨Tryz.isAgg104, Tryz.sizeOf104, Tryz.zeroValue104, rfl⟩
theorem ty105 : TyOK Tryz.prog 105 (.cell Go.Value.nilFunc) := ⟨Tryz.isAgg105, Tryz.sizeOf105, Tryz.zeroValue105, rfl⟩
theorem ty107 : TyOK Tryz.prog 107 (.cell Go.Value.nilFunc) := ⟨Tryz.isAgg107, Tryz.sizeOf107, Tryz.zeroValue107, rfl⟩
theorem ty108 : TyOK Tryz.prog 108 (.cell Go.Value.nilFunc) := ⟨Tryz.isAgg108, Tryz.sizeOf108, Tryz.zeroValue108, rfl⟩
theorem ty109 : TyOK Tryz.prog 109 (.cell Go.Value.nilFunc) := ⟨Tryz.isAgg109, Tryz.sizeOf109, Tryz.zeroValue109, rfl⟩
theorem ty110 : TyOK Tryz.prog 110 (.cell Go.Value.nilFunc) := ⟨Tryz.isAgg110, Tryz.sizeOf110, Tryz.zeroValue110, rfl⟩
theorem ty111 : TyOK Tryz.prog 111 (.cell Go.Value.nilFunc) := ⟨Tryz.isAgg111, Tryz.sizeOf111, Tryz.zeroValue111, rfl⟩
theorem ty112 : TyOK Tryz.prog 112 (.cell Go.Value.nilFunc) := ⟨Tryz.isAgg112, Tryz.sizeOf112, Tryz.zeroValue112, rfl⟩
theorem ty113 : TyOK Tryz.prog 113 (.cell Go.Value.nilFunc) := ⟨Tryz.isAgg113, Tryz.sizeOf113, Tryz.zeroValue113, rfl⟩
theorem ty114 : TyOK Tryz.prog 114 (.cell Go.Value.nilFunc) := ⟨Tryz.isAgg114, Tryz.sizeOf114, Tryz.zeroValue114, rfl⟩
theorem ty115 : TyOK Tryz.prog 115 (.cell Go.Value.nilFunc) := ⟨Tryz.isAgg115, Tryz.sizeOf115, Tryz.zeroValue115, rfl⟩
theorem ty116 : TyOK Tryz.prog 116 (.cell Go.Value.nilFunc) := ⟨Tryz.isAgg116, Tryz.sizeOf116, Tryz.zeroValue116, rfl⟩
theorem ty117 : TyOK Tryz.prog 117 (.cell Go.Value.nilFunc) := ⟨Tryz.isAgg117, Tryz.sizeOf117, Tryz.zeroValue117, rfl⟩
theorem ty118 : TyOK Tryz.prog 118 (.cell Go.Value.nilFunc) := ⟨Tryz.isAgg118, Tryz.sizeOf118, Tryz.zeroValue118, rfl⟩
theorem ty119 : TyOK Tryz.prog 119 (.cell Go.Value.nilFunc) := ⟨Tryz.isAgg119, Tryz.sizeOf119, Tryz.zeroValue119, rfl⟩
theorem ty120 : TyOK Tryz.prog 120 (.map 9 4) := ⟨⟨Tryz.isAgg120, Tryz.sizeOf120, Tryz.zeroValue120, rfl⟩, Tryz.underlying120⟩
theorem ty121 : TyOK Tryz.prog 121 (.cell Go.Value.nilFunc) := ⟨Tryz.isAgg121, Tryz.sizeOf121, Tryz.zeroValue121, rfl⟩
theorem ty122 : TyOK Tryz.prog 122 (.cell Go.Value.nilFunc) := ⟨Tryz.isAgg122, Tryz.sizeOf122, Tryz.zeroValue122, rfl⟩
theorem ty123 : TyOK Tryz.prog 123 (.cell Go.Value.nilFunc) := ⟨Tryz.isAgg123, Tryz.sizeOf123, Tryz.zeroValue123, rfl⟩
theorem ty124 : TyOK Tryz.prog 124 (.cell Go.Value.nilFunc) := ⟨Tryz.isAgg124, Tryz.sizeOf124, Tryz.zeroValue124, rfl⟩
theorem ty125 : TyOK Tryz.prog 125 (.cell Go.Value.nilFunc) := ⟨Tryz.isAgg125, Tryz.sizeOf125, Tryz.zeroValue125, rfl⟩
theorem ty126 : TyOK Tryz.prog 126 (.cell (Go.Value.pointer none)) := ⟨Tryz.isAgg126, Tryz.sizeOf126, Tryz.zeroValue126, rfl⟩
theorem ty128 : TyOK Tryz.prog 128 (.cell Go.Value.nilFunc) := ⟨Tryz.isAgg128, Tryz.sizeOf128, Tryz.zeroValue128, rfl⟩
theorem ty129 : TyOK Tryz.prog 129 (.cell Go.Value.nilFunc) := ⟨Tryz.isAgg129, Tryz.sizeOf129, Tryz.zeroValue129, rfl⟩
theorem ty130 : TyOK Tryz.prog 130 (.cell Go.Value.nilFunc) := ⟨Tryz.isAgg130, Tryz.sizeOf130, Tryz.zeroValue130, rfl⟩
theorem ty131 : TyOK Tryz.prog 131 (.cell Go.Value.nilFunc) := ⟨Tryz.isAgg131, Tryz.sizeOf131, Tryz.zeroValue131, rfl⟩
theorem ty132 : TyOK Tryz.prog 132 (.cell Go.Value.nilFunc) := ⟨Tryz.isAgg132, Tryz.sizeOf132, Tryz.zeroValue132, rfl⟩
theorem ty133 : TyOK Tryz.prog 133 (.cell Go.Value.nilFunc) := ⟨Tryz.isAgg133, Tryz.sizeOf133, Tryz.zeroValue133, rfl⟩
theorem ty134 : TyOK Tryz.prog 134 (.cell Go.Value.nilFunc) := ⟨Tryz.isAgg134, Tryz.sizeOf134, Tryz.zeroValue134, rfl⟩
theorem ty141 : TyOK Tryz.prog 141 (.cell (Go.Value.pointer none)) := ⟨Tryz.isAgg141, Tryz.sizeOf141, Tryz.zeroValue141, rfl⟩
theorem ty144 : TyOK Tryz.prog 144 (.cell Go.Value.nilFunc) := ⟨Tryz.isAgg144, Tryz.sizeOf144, Tryz.zeroValue144, rfl⟩
theorem ty145 : TyOK Tryz.prog 145 (.arr 700 4 1 (List.replicate 700 (.bool false))) := ⟨Tryz.isAgg145, (by intro w; rw [List.length_replicate]; exact Tryz.sizeOf145 w), (by intro w; rw [show (List.replicate 700 (Go.Value.bool false)).toArray = Tryz.zeroCells145 by kernel_rfl]; exact Tryz.zeroValue145 w), Tryz.underlying145, Tryz.sizeOf4⟩
theorem ty146 : TyOK Tryz.prog 146 (.arr 700 4 1 (List.replicate 700 (.bool false))) := ⟨Tryz.isAgg146, (by intro w; rw [List.length_replicate]; exact Tryz.sizeOf146 w), (by intro w; rw [show (List.replicate 700 (Go.Value.bool false)).toArray = Tryz.zeroCells146 by kernel_rfl]; exact Tryz.zeroValue146 w), Tryz.underlying146, Tryz.sizeOf4⟩
theorem ty147 : TyOK Tryz.prog 147 (.cell Go.Value.nilFunc) := ⟨Tryz.isAgg147, Tryz.sizeOf147, Tryz.zeroValue147, rfl⟩
theorem ty148 : TyOK Tryz.prog 148 (.cell Go.Value.nilFunc) := ⟨Tryz.isAgg148, Tryz.sizeOf148, Tryz.zeroValue148, rfl⟩
theorem ty150 : TyOK Tryz.prog 150 (.cell Go.Value.nilFunc) := ⟨Tryz.isAgg150, Tryz.sizeOf150, Tryz.zeroValue150, rfl⟩
theorem ty151 : TyOK Tryz.prog 151 (.cell Go.Value.nilFunc) := ⟨Tryz.isAgg151, Tryz.sizeOf151, Tryz.zeroValue151, rfl⟩
theorem ty152 : TyOK Tryz.prog 152 (.cell Go.Value.nilFunc) := ⟨Tryz.isAgg152, Tryz.sizeOf152, Tryz.zeroValue152, rfl⟩
theorem ty153 : TyOK Tryz.prog 153 (.cell Go.Value.nilFunc) := ⟨Tryz.isAgg153, Tryz.sizeOf153, Tryz.zeroValue153, rfl⟩
theorem ty154 : TyOK Tryz.prog 154 (.cell Go.Value.nilFunc) := ⟨Tryz.isAgg154, Tryz.sizeOf154, Tryz.zeroValue154, rfl⟩
theorem ty155 : TyOK Tryz.prog 155 (.cell Go.Value.nilFunc) := ⟨Tryz.isAgg155, Tryz.sizeOf155, Tryz.zeroValue155, rfl⟩
theorem ty156 : TyOK Tryz.prog 156 (.cell Go.Value.nilFunc) := ⟨Tryz.isAgg156, Tryz.sizeOf156, Tryz.zeroValue156, rfl⟩
theorem ty158 : TyOK Tryz.prog 158 (.cell Go.Value.nilFunc) := ⟨Tryz.isAgg158, Tryz.sizeOf158, Tryz.zeroValue158, rfl⟩
theorem ty159 : TyOK Tryz.prog 159 (.cell Go.Value.nilFunc) := ⟨Tryz.isAgg159, Tryz.sizeOf159, Tryz.zeroValue159, rfl⟩
theorem ty160 : TyOK Tryz.prog 160 (.cell Go.Value.nilFunc) := ⟨Tryz.isAgg160, Tryz.sizeOf160, Tryz.zeroValue160, rfl⟩
theorem ty161 : TyOK Tryz.prog 161 (.cell Go.Value.nilFunc) := ⟨Tryz.isAgg161, Tryz.sizeOf161, Tryz.zeroValue161, rfl⟩
theorem ty162 : TyOK Tryz.prog 162 (.cell (Go.Value.int Go.IntKind.u64 0)) := ⟨Tryz.isAgg162, Tryz.sizeOf162, Tryz.zeroValue162, rfl⟩
theorem ty163 : TyOK Tryz.prog 163 (.cell Go.Value.nilFunc) := ⟨Tryz.isAgg163, Tryz.sizeOf163, Tryz.zeroValue163, rfl⟩
theorem ty164 : TyOK Tryz.prog 164 (.cell Go.Value.nilFunc) := ⟨Tryz.isAgg164, Tryz.sizeOf164, Tryz.zeroValue164, rfl⟩
theorem ty165 : TyOK Tryz.prog 165 (.cell Go.Value.nilFunc) := ⟨Tryz.isAgg165, Tryz.sizeOf165, Tryz.zeroValue165, rfl⟩
theorem ty166 : TyOK Tryz.prog 166 (.cell Go.Value.nilFunc) := ⟨Tryz.isAgg166, Tryz.sizeOf166, Tryz.zeroValue166, rfl⟩
theorem ty167 : TyOK Tryz.prog 167 (.cell Go.Value.nilFunc) := ⟨Tryz.isAgg167, Tryz.sizeOf167, Tryz.zeroValue167, rfl⟩
theorem ty168 : TyOK Tryz.prog 168 (.cell Go.Value.nilFunc) := ⟨Tryz.isAgg168, Tryz.sizeOf168, Tryz.zeroValue168, rfl⟩
theorem ty170 : TyOK Tryz.prog 170 (.cell Go.Value.nilFunc) := ⟨Tryz.isAgg170, Tryz.sizeOf170, Tryz.zeroValue170, rfl⟩
theorem ty171 : TyOK Tryz.prog 171 (.cell Go.Value.nilFunc) := ⟨Tryz.isAgg171, Tryz.sizeOf171, Tryz.zeroValue171, rfl⟩
theorem ty172 : TyOK Tryz.prog 172 (.cell Go.Value.nilFunc) := ⟨Tryz.isAgg172, Tryz.sizeOf172, Tryz.zeroValue172, rfl⟩
theorem ty173 : TyOK Tryz.prog 173 (.cell Go.Value.nilFunc) := ⟨Tryz.isAgg173, Tryz.sizeOf173, Tryz.zeroValue173, rfl⟩
theorem ty174 : TyOK Tryz.prog 174 (.cell Go.Value.nilFunc) := ⟨Tryz.isAgg174, Tryz.sizeOf174, Tryz.zeroValue174, rfl⟩
theorem ty176 : TyOK Tryz.prog 176 (.cell Go.Value.nilFunc) := ⟨Tryz.isAgg176, Tryz.sizeOf176, Tryz.zeroValue176, rfl⟩
theorem ty177 : TyOK Tryz.prog 177 (.cell Go.Value.nilFunc) := ⟨Tryz.isAgg177, Tryz.sizeOf177, Tryz.zeroValue177, rfl⟩
theorem ty178 : TyOK Tryz.prog 178 (.cell Go.Value.nilFunc) := ⟨Tryz.isAgg178, Tryz.sizeOf178, Tryz.zeroValue178, rfl⟩
theorem ty179 : TyOK Tryz.prog 179 (.cell Go.Value.nilFunc) := ⟨Tryz.isAgg179, Tryz.sizeOf179, Tryz.zeroValue179, rfl⟩
theorem ty180 : TyOK Tryz.prog 180 (.cell Go.Value.nilFunc) := ⟨Tryz.isAgg180, Tryz.sizeOf180, Tryz.zeroValue180, rfl⟩
theorem ty181 : TyOK Tryz.prog 181 (.cell Go.Value.nilFunc) := ⟨Tryz.isAgg181, Tryz.sizeOf181, Tryz.zeroValue181, rfl⟩
theorem ty182 : TyOK Tryz.prog 182 (.cell Go.Value.nilFunc) := ⟨Tryz.isAgg182, Tryz.sizeOf182, Tryz.zeroValue182, rfl⟩
theorem ty183 : TyOK Tryz.prog 183 (.cell Go.Value.nilFunc) := ⟨Tryz.isAgg183, Tryz.sizeOf183, Tryz.zeroValue183, rfl⟩
theorem ty184 : TyOK Tryz.prog 184 (.cell Go.Value.nilFunc) := ⟨Tryz.isAgg184, Tryz.sizeOf184, Tryz.zeroValue184, rfl⟩
theorem ty185 : TyOK Tryz.prog 185 (.cell Go.Value.nilFunc) := ⟨Tryz.isAgg185, Tryz.sizeOf185, Tryz.zeroValue185, rfl⟩
theorem ty186 : TyOK Tryz.prog 186 (.map 3 4) := ⟨⟨Tryz.isAgg186, Tryz.sizeOf186, Tryz.zeroValue186, rfl⟩, Tryz.underlying186⟩
theorem ty187 : TyOK Tryz.prog 187 (.cell Go.Value.nilFunc) := ⟨Tryz.isAgg187, Tryz.sizeOf187, Tryz.zeroValue187, rfl⟩
theorem ty188 : TyOK Tryz.prog 188 (.cell Go.Value.nilFunc) := ⟨Tryz.isAgg188, Tryz.sizeOf188, Tryz.zeroValue188, rfl⟩
theorem ty189 : TyOK Tryz.prog 189 (.cell Go.Value.nilFunc) := ⟨Tryz.isAgg189, Tryz.sizeOf189, Tryz.zeroValue189, rfl⟩
theorem ty190 : TyOK Tryz.prog 190 (.cell Go.Value.nilFunc) := ⟨Tryz.isAgg190, Tryz.sizeOf190, Tryz.zeroValue190, rfl⟩
theorem ty191 : TyOK Tryz.prog 191 (.cell Go.Value.nilFunc) := ⟨Tryz.isAgg191, Tryz.sizeOf191, Tryz.zeroValue191, rfl⟩
theorem ty192 : TyOK Tryz.prog 192 (.cell Go.Value.nilFunc) := ⟨Tryz.isAgg192, Tryz.sizeOf192, Tryz.zeroValue192, rfl⟩
theorem ty193 : TyOK Tryz.prog 193 (.cell (Go.Value.int Go.IntKind.i64 0)) := ⟨Tryz.isAgg193, Tryz.sizeOf193, Tryz.zeroValue193, rfl⟩
theorem ty195 : TyOK Tryz.prog 195 (.cell Go.Value.nilFunc) := ⟨Tryz.isAgg195, Tryz.sizeOf195, Tryz.zeroValue195, rfl⟩
theorem ty196 : TyOK Tryz.prog 196 (.cell Go.Value.nilFunc) := ⟨Tryz.isAgg196, Tryz.sizeOf196, Tryz.zeroValue196, rfl⟩
theorem ty197 : TyOK Tryz.prog 197 (.cell Go.Value.nilFunc) := ⟨Tryz.isAgg197, Tryz.sizeOf197, Tryz.zeroValue197, rfl⟩
theorem ty198 : TyOK Tryz.prog 198 (.cell Go.Value.nilFunc) := ⟨Tryz.isAgg198, Tryz.sizeOf198, Tryz.zeroValue198, rfl⟩
theorem ty199 : TyOK Tryz.prog 199 (.cell Go.Value.nilFunc) := ⟨Tryz.isAgg199, Tryz.sizeOf199, Tryz.zeroValue199, rfl⟩
theorem ty200 : TyOK Tryz.prog 200 (.cell Go.Value.nilFunc) := ⟨Tryz.isAgg200, Tryz.sizeOf200, Tryz.zeroValue200, rfl⟩
theorem ty201 : TyOK Tryz.prog 201 (.cell (Go.Value.int Go.IntKind.u32 0)) := ⟨Tryz.isAgg201, Tryz.sizeOf201, Tryz.zeroValue201, rfl⟩
theorem ty202 : TyOK Tryz.prog 202 (.cell Go.Value.nilFunc) := ⟨Tryz.isAgg202, Tryz.sizeOf202, Tryz.zeroValue202, rfl⟩
theorem ty203 : TyOK Tryz.prog 203 (.cell (Go.Value.int Go.IntKind.u64 0)) := ⟨Tryz.isAgg203, Tryz.sizeOf203, Tryz.zeroValue203, rfl⟩
theorem ty204 : TyOK Tryz.prog 204 (.cell Go.Value.nilFunc) := ⟨Tryz.isAgg204, Tryz.sizeOf204, Tryz.zeroValue204, rfl⟩
theorem ty205 : TyOK Tryz.prog 205 (.cell Go.Value.nilFunc) := ⟨Tryz.isAgg205, Tryz.sizeOf205, Tryz.zeroValue205, rfl⟩
theorem ty206 : TyOK Tryz.prog 206 (.cell Go.Value.nilFunc) := ⟨Tryz.isAgg206, Tryz.sizeOf206, Tryz.zeroValue206, rfl⟩
theorem ty207 : TyOK Tryz.prog 207 (.cell Go.Value.nilFunc) := ⟨Tryz.isAgg207, Tryz.sizeOf207, Tryz.zeroValue207, rfl⟩
theorem ty209 : TyOK Tryz.prog 209 (.cell Go.Value.nilFunc) := ⟨Tryz.isAgg209, Tryz.sizeOf209, Tryz.zeroValue209, rfl⟩
theorem ty210 : TyOK Tryz.prog 210 (.cell Go.Value.nilFunc) := ⟨Tryz.isAgg210, Tryz.sizeOf210, Tryz.zeroValue210, rfl⟩
theorem ty211 : TyOK Tryz.prog 211 (.cell Go.Value.nilFunc) := ⟨Tryz.isAgg211, Tryz.sizeOf211, Tryz.zeroValue211, rfl⟩
theorem ty212 : TyOK Tryz.prog 212 (.cell Go.Value.nilFunc) := ⟨Tryz.isAgg212, Tryz.sizeOf212, Tryz.zeroValue212, rfl⟩
theorem ty213 : TyOK Tryz.prog 213 (.cell Go.Value.nilFunc) := ⟨Tryz.isAgg213, Tryz.sizeOf213, Tryz.zeroValue213, rfl⟩
theorem ty214 : TyOK Tryz.prog 214 (.cell Go.Value.nilFunc) := ⟨Tryz.isAgg214, Tryz.sizeOf214, Tryz.zeroValue214, rfl⟩
theorem ty215 : TyOK Tryz.prog 215 (.cell (Go.Value.int Go.IntKind.u64 0)) := ⟨Tryz.isAgg215, Tryz.sizeOf215, Tryz.zeroValue215, rfl⟩
theorem ty216 : TyOK Tryz.prog 216 (.cell Go.Value.nilFunc) := ⟨Tryz.isAgg216, Tryz.sizeOf216, Tryz.zeroValue216, rfl⟩
theorem ty217 : TyOK Tryz.prog 217 (.cell Go.Value.nilFunc) := ⟨Tryz.isAgg217, Tryz.sizeOf217, Tryz.zeroValue217, rfl⟩
theorem ty218 : TyOK Tryz.prog 218 (.cell Go.Value.nilFunc) := ⟨Tryz.isAgg218, Tryz.sizeOf218, Tryz.zeroValue218, rfl⟩
theorem ty219 : TyOK Tryz.prog 219 (.cell Go.Value.nilFunc) := ⟨Tryz.isAgg219, Tryz.sizeOf219, Tryz.zeroValue219, rfl⟩
theorem ty221 : TyOK Tryz.prog 221 (.cell Go.Value.nilFunc) := ⟨Tryz.isAgg221, Tryz.sizeOf221, Tryz.zeroValue221, rfl⟩
theorem ty222 : TyOK Tryz.prog 222 (.cell Go.Value.nilFunc) := ⟨Tryz.isAgg222, Tryz.sizeOf222, Tryz.zeroValue222, rfl⟩
theorem ty223 : TyOK Tryz.prog 223 (.cell Go.Value.nilFunc) := ⟨Tryz.isAgg223, Tryz.sizeOf223, Tryz.zeroValue223, rfl⟩
theorem ty224 : TyOK Tryz.prog 224 (.cell Go.Value.nilFunc) := ⟨Tryz.isAgg224, Tryz.sizeOf224, Tryz.zeroValue224, rfl⟩
theorem ty225 : TyOK Tryz.prog 225 (.cell (Go.Value.pointer none)) := ⟨Tryz.isAgg225, Tryz.sizeOf225, Tryz.zeroValue225, rfl⟩
theorem ty226 : TyOK Tryz.prog 226 (.cell Go.Value.nilFunc) := ⟨Tryz.isAgg226, Tryz.sizeOf226, Tryz.zeroValue226, rfl⟩
theorem ty227 : TyOK Tryz.prog 227 (.cell Go.Value.nilFunc) := ⟨Tryz.isAgg227, Tryz.sizeOf227, Tryz.zeroValue227, rfl⟩
theorem ty228 : TyOK Tryz.prog 228 (.cell Go.Value.nilFunc) := ⟨Tryz.isAgg228, Tryz.sizeOf228, Tryz.zeroValue228, rfl⟩
theorem ty229 : TyOK Tryz.prog 229 (.cell (Go.Value.pointer none)) := ⟨Tryz.isAgg229, Tryz.sizeOf229, Tryz.zeroValue229, rfl⟩
theorem ty232 : TyOK Tryz.prog 232 (.cell Go.Value.nilFunc) := ⟨Tryz.isAgg232, Tryz.sizeOf232, Tryz.zeroValue232, rfl⟩
theorem ty237 : TyOK Tryz.prog 237 (.cell Go.Value.nilFunc) := ⟨Tryz.isAgg237, Tryz.sizeOf237, Tryz.zeroValue237, rfl⟩
theorem ty238 : TyOK Tryz.prog 238 (.cell Go.Value.nilFunc) := ⟨Tryz.isAgg238, Tryz.sizeOf238, Tryz.zeroValue238, rfl⟩
theorem ty239 : TyOK Tryz.prog 239 (.cell Go.Value.nilFunc) := ⟨Tryz.isAgg239, Tryz.sizeOf239, Tryz.zeroValue239, rfl⟩
theorem ty240 : TyOK Tryz.prog 240 (.cell Go.Value.nilFunc) := ⟨Tryz.isAgg240, Tryz.sizeOf240, Tryz.zeroValue240, rfl⟩
theorem ty243 : TyOK Tryz.prog 243 (.cell Go.Value.nilFunc) := ⟨Tryz.isAgg243, Tryz.sizeOf243, Tryz.zeroValue243, rfl⟩
theorem ty244 : TyOK Tryz.prog 244 (.cell Go.Value.nilFunc) := ⟨Tryz.isAgg244, Tryz.sizeOf244, Tryz.zeroValue244, rfl⟩
theorem ty245 : TyOK Tryz.prog 245 (.cell Go.Value.nilFunc) := ⟨Tryz.isAgg245, Tryz.sizeOf245, Tryz.zeroValue245, rfl⟩
theorem ty246 : TyOK Tryz.prog 246 (.cell Go.Value.nilFunc) := ⟨Tryz.isAgg246, Tryz.sizeOf246, Tryz.zeroValue246, rfl⟩
theorem ty247 : TyOK Tryz.prog 247 (.cell Go.Value.nilFunc) := ⟨Tryz.isAgg247, Tryz.sizeOf247, Tryz.zeroValue247, rfl⟩
theorem ty253 : TyOK Tryz.prog 253 (.cell Go.Value.nilFunc) := ⟨Tryz.isAgg253, Tryz.sizeOf253, Tryz.zeroValue253, rfl⟩
theorem ty254 : TyOK Tryz.prog 254 (.cell (Go.Value.int Go.IntKind.u8 0)) := ⟨Tryz.isAgg254, Tryz.sizeOf254, Tryz.zeroValue254, rfl⟩
theorem ty255 : TyOK Tryz.prog 255 (.cell (Go.Value.int Go.IntKind.u8 0)) := ⟨Tryz.isAgg255, Tryz.sizeOf255, Tryz.zeroValue255, rfl⟩
theorem ty256 : TyOK Tryz.prog 256 (.cell Go.Value.nilFunc) := ⟨Tryz.isAgg256, Tryz.sizeOf256, Tryz.zeroValue256, rfl⟩
theorem ty257 : TyOK Tryz.prog 257 (.cell (Go.Value.pointer none)) := ⟨Tryz.isAgg257, Tryz.sizeOf257, Tryz.zeroValue257, rfl⟩
theorem ty258 : TyOK Tryz.prog 258 (.cell (Go.Value.int Go.IntKind.i32 0)) := ⟨Tryz.isAgg258, Tryz.sizeOf258, Tryz.zeroValue258, rfl⟩
theorem ty259 : TyOK Tryz.prog 259 (.cell (Go.Value.int Go.IntKind.i32 0)) := ⟨Tryz.isAgg259, Tryz.sizeOf259, Tryz.zeroValue259, rfl⟩
def tyRows : List (Nat × TK) := [(22, .slice 49 6),
  (23, .slice 25 3),
  (24, .struct [0, 1, 2] [1, 1, 1] [Go.Value.int Go.IntKind.i64 0, Go.Value.string { data := #[] }, Go.Value.slice none 0 0]),
  (25, .struct [0, 1, 2] [1, 1, 1] [Go.Value.int Go.IntKind.i64 0, Go.Value.string { data := #[] }, Go.Value.slice none 0 0]),
  (26, .slice 74 8),
  (27, .struct [0, 1, 2, 5] [1, 1, 3, 1] [Go.Value.string { data := #[] }, Go.Value.string { data := #[] }, Go.Value.int Go.IntKind.i64 0, Go.Value.string { data := #[] }, Go.Value.slice none 0 0, Go.Value.slice none 0 0]),
  (28, .struct [0, 1, 2, 5] [1, 1, 3, 1] [Go.Value.string { data := #[] }, Go.Value.string { data := #[] }, Go.Value.int Go.IntKind.i64 0, Go.Value.string { data := #[] }, Go.Value.slice none 0 0, Go.Value.slice none 0 0]),
  (29, .slice 3 1),
  (30, .struct [0, 1] [1, 1] [Go.Value.int Go.IntKind.i64 0, Go.Value.slice none 0 0]),
  (31, .struct [0, 1] [1, 1] [Go.Value.int Go.IntKind.i64 0, Go.Value.slice none 0 0]),
  (43, .slice 4 1),
  (45, .slice 47 4),
  (46, .struct [0, 1, 2, 3] [1, 1, 1, 1] [Go.Value.int Go.IntKind.i64 0, Go.Value.int Go.IntKind.i64 0, Go.Value.int Go.IntKind.i64 0, Go.Value.slice none 0 0]),
  (47, .struct [0, 1, 2, 3] [1, 1, 1, 1] [Go.Value.int Go.IntKind.i64 0, Go.Value.int Go.IntKind.i64 0, Go.Value.int Go.IntKind.i64 0, Go.Value.slice none 0 0]),
  (48, .struct [0, 1, 5] [1, 4, 1] [Go.Value.string { data := #[] }, Go.Value.int Go.IntKind.i64 0, Go.Value.int Go.IntKind.i64 0, Go.Value.int Go.IntKind.i64 0, Go.Value.slice none 0 0, Go.Value.int Go.IntKind.i64 0]),
  (49, .struct [0, 1, 5] [1, 4, 1] [Go.Value.string { data := #[] }, Go.Value.int Go.IntKind.i64 0, Go.Value.int Go.IntKind.i64 0, Go.Value.int Go.IntKind.i64 0, Go.Value.slice none 0 0, Go.Value.int Go.IntKind.i64 0]),
  (53, .slice 31 2),
  (73, .struct [0, 1, 2, 3, 4, 7] [1, 1, 1, 1, 3, 1] [Go.Value.int Go.IntKind.i64 0, Go.Value.string { data := #[] }, Go.Value.string { data := #[] }, Go.Value.int Go.IntKind.i64 0, Go.Value.int Go.IntKind.i64 0, Go.Value.string { data := #[] }, Go.Value.slice none 0 0, Go.Value.slice none 0 0]),
  (74, .struct [0, 1, 2, 3, 4, 7] [1, 1, 1, 1, 3, 1] [Go.Value.int Go.IntKind.i64 0, Go.Value.string { data := #[] }, Go.Value.string { data := #[] }, Go.Value.int Go.IntKind.i64 0, Go.Value.int Go.IntKind.i64 0, Go.Value.string { data := #[] }, Go.Value.slice none 0 0, Go.Value.slice none 0 0]),
  (102, .struct [0, 1] [1, 1] [Go.Value.slice none 0 0, Go.Value.slice none 0 0]),
  (103, .struct [0, 1] [1, 1] [Go.Value.slice none 0 0, Go.Value.slice none 0 0]),
  (106, .slice 4 1),
  (135, .slice 242 10),
  (136, .struct [0, 1] [1, 1] [Go.Value.slice none 0 0, Go.Value.slice none 0 0]),
  (137, .struct [0, 1] [1, 1] [Go.Value.slice none 0 0, Go.Value.slice none 0 0]),
  (139, .struct [0, 1] [1, 1] [Go.Value.int Go.IntKind.i64 0, Go.Value.int Go.IntKind.i64 0]),
  (140, .struct [0, 1] [1, 1] [Go.Value.int Go.IntKind.i64 0, Go.Value.int Go.IntKind.i64 0]),
  (142, .struct [0, 1] [1, 1] [Go.Value.map none, Go.Value.int Go.IntKind.i64 0]),
  (143, .struct [0, 1] [1, 1] [Go.Value.map none, Go.Value.int Go.IntKind.i64 0]),
  (169, .slice 9 1),
  (175, .slice 106 1),
  (230, .struct [0] [1] [Go.Value.int Go.IntKind.i64 0]),
  (231, .struct [0] [1] [Go.Value.int Go.IntKind.i64 0]),
  (233, .slice 235 2),
  (234, .struct [0, 1] [1, 1] [Go.Value.slice none 0 0, Go.Value.int Go.IntKind.i64 0]),
  (235, .struct [0, 1] [1, 1] [Go.Value.slice none 0 0, Go.Value.int Go.IntKind.i64 0]),
  (241, .struct [0, 1, 5, 6] [1, 4, 1, 4] [Go.Value.string { data := #[] }, Go.Value.int Go.IntKind.i64 0, Go.Value.int Go.IntKind.i64 0, Go.Value.int Go.IntKind.i64 0, Go.Value.slice none 0 0, Go.Value.bool false, Go.Value.int Go.IntKind.i64 0, Go.Value.int Go.IntKind.i64 0, Go.Value.int Go.IntKind.i64 0, Go.Value.slice none 0 0]),
  (242, .struct [0, 1, 5, 6] [1, 4, 1, 4] [Go.Value.string { data := #[] }, Go.Value.int Go.IntKind.i64 0, Go.Value.int Go.IntKind.i64 0, Go.Value.int Go.IntKind.i64 0, Go.Value.slice none 0 0, Go.Value.bool false, Go.Value.int Go.IntKind.i64 0, Go.Value.int Go.IntKind.i64 0, Go.Value.int Go.IntKind.i64 0, Go.Value.slice none 0 0]),
  (260, .struct [0, 1, 2, 3, 4, 5, 6, 7, 8, 9, 10] [1, 1, 1, 1, 1, 1, 1, 1, 1, 1, 1] [Go.Value.int Go.IntKind.u64 0, Go.Value.int Go.IntKind.u64 0, Go.Value.int Go.IntKind.u32 0, Go.Value.int Go.IntKind.u8 0, Go.Value.int Go.IntKind.u8 0, Go.Value.int Go.IntKind.u8 0, Go.Value.int Go.IntKind.u8 0, Go.Value.nilFunc, Go.Value.pointer none, Go.Value.int Go.IntKind.i32 0, Go.Value.int Go.IntKind.i32 0]),
  (261, .struct [0, 1, 2, 3, 4, 5, 6, 7, 8, 9, 10] [1, 1, 1, 1, 1, 1, 1, 1, 1, 1, 1] [Go.Value.int Go.IntKind.u64 0, Go.Value.int Go.IntKind.u64 0, Go.Value.int Go.IntKind.u32 0, Go.Value.int Go.IntKind.u8 0, Go.Value.int Go.IntKind.u8 0, Go.Value.int Go.IntKind.u8 0, Go.Value.int Go.IntKind.u8 0, Go.Value.nilFunc, Go.Value.pointer none, Go.Value.int Go.IntKind.i32 0, Go.Value.int Go.IntKind.i32 0]),
  (1, .cell Go.Value.nilFunc),
  (2, .cell (Go.Value.int Go.IntKind.i64 0)),
  (3, .cell (Go.Value.int Go.IntKind.i64 0)),
  (4, .cell (Go.Value.bool false)),
  (5, .cell (Go.Value.int Go.IntKind.u8 0)),
  (6, .cell (Go.Value.int Go.IntKind.u8 0)),
  (9, .str),
  (10, .str),
  (11, .str),
  (12, .cell (Go.Value.int Go.IntKind.u64 0)),
  (15, .cell (Go.Value.pointer none)),
  (16, .cell (Go.Value.pointer none)),
  (17, .cell (Go.Value.pointer none)),
  (20, .cell Go.Value.nilIface),
  (21, .cell (Go.Value.int Go.IntKind.i32 0)),
  (32, .cell (Go.Value.int Go.IntKind.i64 0)),
  (34, .cell Go.Value.nilFunc),
  (35, .cell Go.Value.nilFunc),
  (36, .cell Go.Value.nilFunc),
  (37, .cell Go.Value.nilFunc),
  (38, .cell Go.Value.nilFunc),
  (40, .cell Go.Value.nilFunc),
  (41, .cell Go.Value.nilFunc),
  (42, .cell Go.Value.nilFunc),
  (44, .cell Go.Value.nilFunc),
  (50, .cell Go.Value.nilFunc),
  (52, .cell Go.Value.nilFunc),
  (55, .cell Go.Value.nilFunc),
  (56, .cell Go.Value.nilFunc),
  (58, .cell Go.Value.nilFunc),
  (59, .cell Go.Value.nilFunc),
  (61, .cell Go.Value.nilFunc),
  (62, .cell Go.Value.nilFunc),
  (63, .cell Go.Value.nilFunc),
  (64, .cell Go.Value.nilFunc),
  (65, .cell Go.Value.nilFunc),
  (66, .cell Go.Value.nilFunc),
  (68, .cell Go.Value.nilFunc),
  (69, .cell Go.Value.nilFunc),
  (70, .cell Go.Value.nilFunc),
  (71, .cell Go.Value.nilFunc),
  (72, .cell Go.Value.nilFunc),
  (75, .map 9 3),
  (76, .cell Go.Value.nilFunc),
  (77, .cell Go.Value.nilFunc),
  (79, .cell Go.Value.nilFunc),
  (80, .cell Go.Value.nilFunc),
  (81, .cell Go.Value.nilFunc),
  (82, .cell Go.Value.nilFunc),
  (83, .cell Go.Value.nilFunc),
  (84, .cell Go.Value.nilFunc),
  (85, .cell Go.Value.nilFunc),
  (86, .cell Go.Value.nilFunc),
  (88, .cell Go.Value.nilFunc),
  (89, .cell Go.Value.nilFunc),
  (90, .cell Go.Value.nilFunc),
  (91, .cell Go.Value.nilFunc),
  (92, .cell Go.Value.nilFunc),
  (93, .map 3 31),
  (95, .cell Go.Value.nilFunc),
  (96, .cell Go.Value.nilFunc),
  (97, .cell Go.Value.nilFunc),
  (98, .cell Go.Value.nilFunc),
  (99, .cell Go.Value.nilFunc),
  (100, .cell Go.Value.nilFunc),
  (101, .cell Go.Value.nilFunc),
  (104, .cell Go.Value.nilFunc),
  (105, .cell Go.Value.nilFunc),
  (107, .cell Go.Value.nilFunc),
  (108, .cell Go.Value.nilFunc),
  (109, .cell Go.Value.nilFunc),
  (110, .cell Go.Value.nilFunc),
  (111, .cell Go.Value.nilFunc),
  (112, .cell Go.Value.nilFunc),
  (113, .cell Go.Value.nilFunc),
  (114, .cell Go.Value.nilFunc),
  (115, .cell Go.Value.nilFunc),
  (116, .cell Go.Value.nilFunc),
  (117, .cell Go.Value.nilFunc),
  (118, .cell Go.Value.nilFunc),
  (119, .cell Go.Value.nilFunc),
  (120, .map 9 4),
  (121, .cell Go.Value.nilFunc),
  (122, .cell Go.Value.nilFunc),
  (123, .cell Go.Value.nilFunc),
  (124, .cell Go.Value.nilFunc),
  (125, .cell Go.Value.nilFunc),
  (126, .cell (Go.Value.pointer none)),
  (128, .cell Go.Value.nilFunc),
  (129, .cell Go.Value.nilFunc),
  (130, .cell Go.Value.nilFunc),
  (131, .cell Go.Value.nilFunc),
  (132, .cell Go.Value.nilFunc),
  (133, .cell Go.Value.nilFunc),
  (134, .cell Go.Value.nilFunc),
  (141, .cell (Go.Value.pointer none)),
  (144, .cell Go.Value.nilFunc),
  (145, .arr 700 4 1 (List.replicate 700 (.bool false))),
  (146, .arr 700 4 1 (List.replicate 700 (.bool false))),
  (147, .cell Go.Value.nilFunc),
  (148, .cell Go.Value.nilFunc),
  (150, .cell Go.Value.nilFunc),
  (151, .cell Go.Value.nilFunc),
  (152, .cell Go.Value.nilFunc),
  (153, .cell Go.Value.nilFunc),
  (154, .cell Go.Value.nilFunc),
  (155, .cell Go.Value.nilFunc),
  (156, .cell Go.Value.nilFunc),
  (158, .cell Go.Value.nilFunc),
  (159, .cell Go.Value.nilFunc),
  (160, .cell Go.Value.nilFunc),
  (161, .cell Go.Value.nilFunc),
  (162, .cell (Go.Value.int Go.IntKind.u64 0)),
  (163, .cell Go.Value.nilFunc),
  (164, .cell Go.Value.nilFunc),
  (165, .cell Go.Value.nilFunc),
  (166, .cell Go.Value.nilFunc),
  (167, .cell Go.Value.nilFunc),
  (168, .cell Go.Value.nilFunc),
  (170, .cell Go.Value.nilFunc),
  (171, .cell Go.Value.nilFunc),
  (172, .cell Go.Value.nilFunc),
  (173, .cell Go.Value.nilFunc),
  (174, .cell Go.Value.nilFunc),
  (176, .cell Go.Value.nilFunc),
  (177, .cell Go.Value.nilFunc),
  (178, .cell Go.Value.nilFunc),
  (179, .cell Go.Value.nilFunc),
  (180, .cell Go.Value.nilFunc),
  (181, .cell Go.Value.nilFunc),
  (182, .cell Go.Value.nilFunc),
  (183, .cell Go.Value.nilFunc),
  (184, .cell Go.Value.nilFunc),
  (185, .cell Go.Value.nilFunc),
  (186, .map 3 4),
  (187, .cell Go.Value.nilFunc),
  (188, .cell Go.Value.nilFunc),
  (189, .cell Go.Value.nilFunc),
  (190, .cell Go.Value.nilFunc),
  (191, .cell Go.Value.nilFunc),
  (192, .cell Go.Value.nilFunc),
  (193, .cell (Go.Value.int Go.IntKind.i64 0)),
  (195, .cell Go.Value.nilFunc),
  (196, .cell Go.Value.nilFunc),
  (197, .cell Go.Value.nilFunc),
  (198, .cell Go.Value.nilFunc),
  (199, .cell Go.Value.nilFunc),
  (200, .cell Go.Value.nilFunc),
  (201, .cell (Go.Value.int Go.IntKind.u32 0)),
  (202, .cell Go.Value.nilFunc),
  (203, .cell (Go.Value.int Go.IntKind.u64 0)),
  (204, .cell Go.Value.nilFunc),
  (205, .cell Go.Value.nilFunc),
  (206, .cell Go.Value.nilFunc),
  (207, .cell Go.Value.nilFunc),
  (209, .cell Go.Value.nilFunc),
  (210, .cell Go.Value.nilFunc),
  (211, .cell Go.Value.nilFunc),
  (212, .cell Go.Value.nilFunc),
  (213, .cell Go.Value.nilFunc),
  (214, .cell Go.Value.nilFunc),
  (215, .cell (Go.Value.int Go.IntKind.u64 0)),
  (216, .cell Go.Value.nilFunc),
  (217, .cell Go.Value.nilFunc),
  (218, .cell Go.Value.nilFunc),
  (219, .cell Go.Value.nilFunc),
  (221, .cell Go.Value.nilFunc),
  (222, .cell Go.Value.nilFunc),
  (223, .cell Go.Value.nilFunc),
  (224, .cell Go.Value.nilFunc),
  (225, .cell (Go.Value.pointer none)),
  (226, .cell Go.Value.nilFunc),
  (227, .cell Go.Value.nilFunc),
  (228, .cell Go.Value.nilFunc),
  (229, .cell (Go.Value.pointer none)),
  (232, .cell Go.Value.nilFunc),
  (237, .cell Go.Value.nilFunc),
  (238, .cell Go.Value.nilFunc),
  (239, .cell Go.Value.nilFunc),
  (240, .cell Go.Value.nilFunc),
  (243, .cell Go.Value.nilFunc),
  (244, .cell Go.Value.nilFunc),
  (245, .cell Go.Value.nilFunc),
  (246, .cell Go.Value.nilFunc),
  (247, .cell Go.Value.nilFunc),
  (253, .cell Go.Value.nilFunc),
  (254, .cell (Go.Value.int Go.IntKind.u8 0)),
  (255, .cell (Go.Value.int Go.IntKind.u8 0)),
  (256, .cell Go.Value.nilFunc),
  (257, .cell (Go.Value.pointer none)),
  (258, .cell (Go.Value.int Go.IntKind.i32 0)),
  (259, .cell (Go.Value.int Go.IntKind.i32 0))]
def tt : Tab := tabOf tyRows
set_option maxRecDepth 100000 in
theorem ttOK : TTOK Tryz.prog tt := TTOK_cons ty22 (TTOK_cons ty23 (TTOK_cons ty24 (TTOK_cons ty25 (TTOK_cons ty26 (TTOK_cons ty27 (TTOK_cons ty28 (TTOK_cons ty29 (TTOK_cons ty30 (TTOK_cons ty31 (TTOK_cons ty43 (TTOK_cons ty45 (TTOK_cons ty46 (TTOK_cons ty47 (TTOK_cons ty48 (TTOK_cons ty49 (TTOK_cons ty53 (TTOK_cons ty73 (TTOK_cons ty74 (TTOK_cons ty102 (TTOK_cons ty103 (TTOK_cons ty106 (TTOK_cons ty135 (TTOK_cons ty136 (TTOK_cons ty137 (TTOK_cons ty139 (TTOK_cons ty140 (TTOK_cons ty142 (TTOK_cons ty143 (TTOK_cons ty169 (TTOK_cons ty175 (TTOK_cons ty230 (TTOK_cons ty231 (TTOK_cons ty233 (TTOK_cons ty234 (TTOK_cons ty235 (TTOK_cons ty241 (TTOK_cons ty242 (TTOK_cons ty260 (TTOK_cons ty261 (TTOK_cons ty1 (TTOK_cons ty2 (TTOK_cons ty3 (TTOK_cons ty4 (TTOK_cons ty5 (TTOK_cons ty6 (TTOK_cons ty9 (TTOK_cons ty10 (TTOK_cons ty11 (TTOK_cons ty12 (TTOK_cons ty15 (TTOK_cons ty16 (TTOK_cons ty17 (TTOK_cons ty20 (TTOK_cons ty21 (TTOK_cons ty32 (TTOK_cons ty34 (TTOK_cons ty35 (TTOK_cons ty36 (TTOK_cons ty37 (TTOK_cons ty38 (TTOK_cons ty40 (TTOK_cons ty41 (TTOK_cons ty42 (TTOK_cons ty44 (TTOK_cons ty50 (TTOK_cons ty52 (TTOK_cons ty55 (TTOK_cons ty56 (TTOK_cons ty58 (TTOK_cons ty59 (TTOK_cons ty61 (TTOK_cons ty62 (TTOK_cons ty63 (TTOK_cons ty64 (TTOK_cons ty65 (TTOK_cons ty66 (TTOK_cons ty68 (TTOK_cons ty69 (TTOK_cons ty70 (TTOK_cons ty71 (TTOK_cons ty72 (TTOK_cons ty75 (TTOK_cons ty76 (TTOK_cons ty77 (TTOK_cons ty79 (TTOK_cons ty80 (TTOK_cons ty81 (TTOK_cons ty82 (TTOK_cons ty83 (TTOK_cons ty84 (TTOK_cons ty85 (TTOK_cons ty86 (TTOK_cons ty88 (TTOK_cons ty89 (TTOK_cons ty90 (TTOK_cons ty91 (TTOK_cons ty92 (TTOK_cons ty93 (TTOK_cons ty95 (TTOK_cons ty96 (TTOK_cons ty97 (TTOK_cons ty98 (TTOK_cons ty99 (TTOK_cons ty100 (TTOK_cons ty101 (TTOK_cons ty104 (TTOK_cons ty105 (TTOK_cons ty107 (TTOK_cons ty108 (TTOK_cons ty109 (TTOK_cons ty110 (TTOK_cons ty111 (TTOK_cons ty112 (TTOK_cons ty113 (TTOK_cons ty114 (TTOK_cons ty115 (TTOK_cons ty116 (TTOK_cons ty117 (TTOK_cons ty118 (TTOK_cons ty119 (TTOK_cons ty120 (TTOK_cons ty121 (TTOK_cons ty122 (TTOK_cons ty123 (TTOK_cons ty124 (TTOK_cons ty125 (TTOK_cons ty126 (TTOK_cons ty128 (TTOK_cons ty129 (TTOK_cons ty130 (TTOK_cons ty131 (TTOK_cons ty132 (TTOK_cons ty133 (TTOK_cons ty134 (TTOK_cons ty141 (TTOK_cons ty144 (TTOK_cons ty145 (TTOK_cons ty146 (TTOK_cons ty147 (TTOK_cons ty148 (TTOK_cons ty150 (TTOK_cons ty151 (TTOK_cons ty152 (TTOK_cons ty153 (TTOK_cons ty154 (TTOK_cons ty155 (TTOK_cons ty156 (TTOK_cons ty158 (TTOK_cons ty159 (TTOK_cons ty160 (TTOK_cons ty161 (TTOK_cons ty162 (TTOK_cons ty163 (TTOK_cons ty164 (TTOK_cons ty165 (TTOK_cons ty166 (TTOK_cons ty167 (TTOK_cons ty168 (TTOK_cons ty170 (TTOK_cons ty171 (TTOK_cons ty172 (TTOK_cons ty173 (TTOK_cons ty174 (TTOK_cons ty176 (TTOK_cons ty177 (TTOK_cons ty178 (TTOK_cons ty179 (TTOK_cons ty180 (TTOK_cons ty181 (TTOK_cons ty182 (TTOK_cons ty183 (TTOK_cons ty184 (TTOK_cons ty185 (TTOK_cons ty186 (TTOK_cons ty187 (TTOK_cons ty188 (TTOK_cons ty189 (TTOK_cons ty190 (TTOK_cons ty191 (TTOK_cons ty192 (TTOK_cons ty193 (TTOK_cons ty195 (TTOK_cons ty196 (TTOK_cons ty197 (TTOK_cons ty198 (TTOK_cons ty199 (TTOK_cons ty200 (TTOK_cons ty201 (TTOK_cons ty202 (TTOK_cons ty203 (TTOK_cons ty204 (TTOK_cons ty205 (TTOK_cons ty206 (TTOK_cons ty207 (TTOK_cons ty209 (TTOK_cons ty210 (TTOK_cons ty211 (TTOK_cons ty212 (TTOK_cons ty213 (TTOK_cons ty214 (TTOK_cons ty215 (TTOK_cons ty216 (TTOK_cons ty217 (TTOK_cons ty218 (TTOK_cons ty219 (TTOK_cons ty221 (TTOK_cons ty222 (TTOK_cons ty223 (TTOK_cons ty224 (TTOK_cons ty225 (TTOK_cons ty226 (TTOK_cons ty227 (TTOK_cons ty228 (TTOK_cons ty229 (TTOK_cons ty232 (TTOK_cons ty237 (TTOK_cons ty238 (TTOK_cons ty239 (TTOK_cons ty240 (TTOK_cons ty243 (TTOK_cons ty244 (TTOK_cons ty245 (TTOK_cons ty246 (TTOK_cons ty247 (TTOK_cons ty253 (TTOK_cons ty254 (TTOK_cons ty255 (TTOK_cons ty256 (TTOK_cons ty257 (TTOK_cons ty258 (TTOK_cons ty259 (TTOK_nil Tryz.prog))))))))))))))))))))))))))))))))))))))))))))))))))))))))))))))))))))))))))))))))))))))))))))))))))))))))))))))))))))))))))))))))))))))))))))))))))))))))))))))))))))))))))))))))))))))))))))))))))))))))))))))))))))))))))))))))))))))))
end Go.Proofs.YtogicnodmgdnbaaGreat
end

/-! FwM -/
section
namespace Go.Tr
open Go
set_option linter.unusedSimpArgs false

def drawsOf : List (Nat × DTree × List Nat × List Nat) → Draws
  | [], _ => none
  | (n, t) :: r, id => match Nat.beq n id with
    | true => some t
    | false => drawsOf r id

end Go.Tr
end

/-! FwN -/
section
namespace Go.Tr
open Go
set_option linter.unusedSimpArgs false

/-- A bound of a slice expression: what is not written is d. -/
def bnd (d : Nat) (n : Nat) : Option SV → Prop
  | none => n = d
  | some (.v (.int _ i)) => i = n
  | _ => False

theorem bnd_cases {d n : Nat} {s : Option SV} (h : bnd d n s) : (s = none ∧ n = d) ∨ ∃ k, s = some (.v (.int k n)) := by
  cases s with
  | none => exact .inl ⟨rfl, h⟩
  | some s =>
    cases s with
    | v x => cases x <;> simp only [bnd] at h; subst h; exact .inr ⟨_, rfl⟩
    | _ => exact h.elim

/-- The part x[l:h] of a slice that reads as data. -/
theorem Rep.part {J : Nat → Prop} {w : World} {a : Option Addr} {n c k : Nat} {ds : List D} (h : Rep J w (.slice a n c) (.sl k ds)) {lo hi : Nat} (h1 : lo ≤ hi) (h2 : hi ≤ n) (size : Nat) (hs : size = k) :
    Rep J w (.slice (if c = lo then a else a.map (·.add (lo * size))) (hi - lo) (c - lo)) (.sl k ((ds.take hi).drop lo)) := by
  subst hs
  simp only [Rep, RepC] at h ⊢
  obtain ⟨a', cap, heq, hle, hb⟩ := h
  simp only [List.cons.injEq, Value.slice.injEq, and_true] at heq
  obtain ⟨rfl, rfl, rfl⟩ := heq
  have hlen : ((ds.take hi).drop lo).length = hi - lo := by simp; omega
  refine ⟨_, _, by rw [hlen], ⟨by rw [hlen]; omega, by rw [hlen]; omega⟩, ?_⟩
  rcases hb with h3 | ⟨b, off, cc, T, fz, rfl, hj, hbb, he⟩
  · subst h3; left; simp
  · by_cases hc : c = lo
    · left
      rw [List.drop_eq_nil_iff]
      simp; omega
    · right
      refine ⟨b, off + lo * size, cc, T, fz, by rw [if_neg hc]; simp [addr_add], hj, hbb, ?_⟩
      have := RepE.drop lo (RepE.take hi he)
      rw [List.drop_drop] at this
      exact this

theorem at_slice {P : Program} {tt : Tab} (hT : TTOK P tt) {t e : TypeId} {k : Nat} {x : SV} {sl sh : Option SV} {S : St} {K : SV → St → Prop} {a : Option Addr} {n c : Nat} {ds : List D} (j lo hi : Nat) (hx : x = .v (.slice a n c)) (ht : tt t = some (.slice e k))
    (hr : nth S.reps j = some (.slice a n c, .sl k ds)) (hlo : bnd 0 lo sl) (hhi : bnd n hi sh) (h1 : lo ≤ hi) (h2 : hi ≤ n)
    (h : ∀ a' c', hi - lo ≤ c' → addReps S [(.slice a' (hi - lo) c', .sl k ((ds.take hi).drop lo))] (fun S' => K (.v (.slice a' (hi - lo) c')) S')) : AtPure P (fun ℓ => Instr.sliceAt t (x.den ℓ) (denO ℓ sl) (denO ℓ sh) (denO ℓ none)) S K := by
  subst hx
  constructor
  intro J ℓ w hG hJ
  have hrep := hG.reps _ (List.mem_of_getElem? (by rw [← nth_eq]; exact hr))
  have hcap : n ≤ c := by
    simp only [Rep, RepC] at hrep
    obtain ⟨a', cap, heq, hle, _⟩ := hrep
    simp only [List.cons.injEq, Value.slice.injEq, and_true] at heq
    obtain ⟨rfl, rfl, rfl⟩ := heq
    exact hle.1
  have hpart := hrep.part h1 h2 k rfl
  have hk := h (if c = lo then a else a.map (·.add (lo * k))) (c - lo) (by omega)
  rw [addReps_eq] at hk
  have hG' := hG.reps_add [(_, _)] (by intro p hp; simp only [List.mem_singleton] at hp; subst hp; exact hpart)
  refine ⟨_, ℓ, _, ?_, rfl, List.prefix_refl _, hG', fun b hb => hb, fun i cs hi => hi, hk⟩
  intro w'
  obtain ⟨_, hu, hse⟩ := hT t _ ht
  have hb : (Instr.sliceBounds true n c (denO ℓ sl) (denO ℓ sh) none).run P w' = .ok (lo, hi, c) w' := by
    rcases bnd_cases hlo with ⟨rfl, rfl⟩ | ⟨k1, rfl⟩ <;> rcases bnd_cases hhi with ⟨rfl, rfl⟩ | ⟨k2, rfl⟩ <;> simp [Instr.sliceBounds, Instr.sliceBound, asIntOf, denO, SV.den, h1, Nat.le_trans h2 hcap, h2]
  simp only [Instr.sliceAt, SV.den, Sem.run_bind, run_underlying' hu, Result.andThen_ok]
  simp only [Instr.slice, Sem.run_bind, run_underlying' hu, Result.andThen_ok, denO]
  have hb' := hb
  simp only [denO] at hb'
  rw [hb']
  simp only [Result.andThen_ok, hse, Sem.run_pure]

/-- What is known of a type whose values make up rows. -/
def elemB (P : Program) (e : TypeId) (k bytes : Nat) : Bool :=
  match P.info? e with
  | some i => (Nat.beq i.size k && Nat.beq i.bytes bytes) && (match i.zero with
    | some z => Nat.beq z.cells.size k
    | none => false)
  | none => false

theorem elemB_spec {P : Program} {e : TypeId} {k bytes : Nat} (h : elemB P e k bytes = true) : ∃ i z, P.info? e = some i ∧ i.size = k ∧ i.bytes = bytes ∧ i.zero = some z ∧ z.cells.size = k := by
  unfold elemB at h
  split at h
  · rename_i i hi
    simp only [Bool.and_eq_true] at h
    obtain ⟨⟨h1, h2⟩, h3⟩ := h
    split at h3
    · rename_i z hz
      exact ⟨i, z, hi, Nat.eq_of_beq_eq_true h1, Nat.eq_of_beq_eq_true h2, hz, Nat.eq_of_beq_eq_true h3⟩
    · cases h3
  · cases h

/-- The parts of a slice literal, one behind the other, each of k cells. -/
def partsOK (reps : List (Value × D)) (k : Nat) : Nat → List (Nat × SV) → List D → Prop
  | _, [], [] => True
  | i, (j, s) :: l, d :: ds => (j = i ∧ plainS s = true ∧ (cellsOf s).length = k ∧ RepS reps d (cellsOf s)) ∧ partsOK reps k (i + 1) l ds
  | _, _, _ => False

theorem fill_row (ℓ : List Base) {reps : List (Value × D)} {k : Nat} : ∀ (l : List (Nat × SV)) (ds : List D) (i : Nat) (cells : List Value), partsOK reps k i l ds → i * k + ds.length * k ≤ cells.length →
    ∃ flat, flat.length = ds.length * k ∧ Instr.fill (fun i => some (i * k, k)) cells.toArray (denParts ℓ l) = some (cells.take (i * k) ++ flat ++ cells.drop (i * k + ds.length * k)).toArray ∧
      ∀ {J : Nat → Prop} {w : World}, (∀ p ∈ reps, Rep J w p.1 p.2) → ∀ tail, RepE J w k ds (flat ++ tail)
  | [], [], i, cells, _, hl => ⟨[], by simp, by simp [denParts, Instr.fill], fun _ _ => trivial⟩
  | [], _ :: _, i, cells, h, _ => h.elim
  | _ :: _, [], i, cells, h, _ => h.elim
  | (j, s) :: l, d :: ds, i, cells, h, hl => by
    obtain ⟨⟨rfl, hp, hk, hrep⟩, h⟩ := h
    simp only [List.length_cons, Nat.add_mul, Nat.one_mul] at hl
    have hc : (s.den ℓ).cells = (SV.denL ℓ (cellsOf s)).toArray := den_cells_of_plain ℓ hp
    have hxl : (SV.denL ℓ (cellsOf s)).length = k := by rw [SV.denL_length, hk]
    have hf := foldl_set_range (SV.denL ℓ (cellsOf s)) cells.toArray (j * k) (by simp only [List.size_toArray]; omega)
    have hsr : setRange cells (j * k) (SV.denL ℓ (cellsOf s)) = cells.take (j * k) ++ SV.denL ℓ (cellsOf s) ++ cells.drop (j * k + k) := by
      simp only [setRange, hxl]; try rw [List.append_assoc]
    have hlen : (setRange cells (j * k) (SV.denL ℓ (cellsOf s))).length = cells.length := setRange_length _ _ _ (by omega)
    obtain ⟨flat, hfl, hfill, hrepE⟩ := fill_row ℓ l ds (j + 1) (setRange cells (j * k) (SV.denL ℓ (cellsOf s))) h (by rw [hlen, Nat.add_mul]; omega)
    refine ⟨SV.denL ℓ (cellsOf s) ++ flat, by rw [List.length_append, hxl, hfl, List.length_cons, Nat.add_mul]; omega, ?_, ?_⟩
    · simp only [denParts, Instr.fill, hc]
      rw [if_neg (by simp [hxl]; omega)]
      simp only [] at hf
      rw [hf]
      rw [hfill]
      have e1 : (j + 1) * k = j * k + k := by rw [Nat.add_mul]; omega
      rw [e1, hsr]
      congr 2
      have hpre : (cells.take (j * k) ++ SV.denL ℓ (cellsOf s)).length = j * k + k := by simp [hxl]; omega
      rw [List.take_append_of_le_length (by omega), List.take_of_length_le (by omega)]
      rw [List.drop_append, List.drop_of_length_le (by omega), hpre]
      simp only [List.nil_append, List.drop_drop, List.append_assoc, List.length_cons, Nat.add_mul, Nat.one_mul]
      congr 3
      congr 1
      omega
    · intro J w hr tail
      simp only [RepE, List.append_assoc]
      refine ⟨by simp [hxl], ?_, ?_⟩
      · rw [List.take_append_of_le_length (by omega), List.take_of_length_le (by omega)]
        exact RepS.sound hr d _ hrep
      · rw [List.drop_append, List.drop_of_length_le (by omega), hxl, Nat.sub_self]
        exact hrepE hr tail

theorem run_zeroValue {P : Program} {e : TypeId} {i : TypeInfo} {z : Value} (hi : P.info? e = some i) (hz : i.zero = some z) (w : World) : (zeroValue e).run P w = .ok z w := by
  simp [zeroValue, typeInfo, hi, hz]

/-- A slice literal: what the model does. -/
theorem run_build {P : Program} {tt : Tab} (hT : TTOK P tt) {t e : TypeId} {k bytes n : Nat} (ht : tt t = some (.slice e k)) (hel : elemB P e k bytes = true) {ℓ : List Base} {reps : List (Value × D)} {l : List (Nat × SV)} {ds : List D} (hl : partsOK reps k 0 l ds) (hn : ds.length = n) (hlim : n * k ≤ 16777216) (w : World) :
    ∃ flat : List Value, flat.length = n * k ∧ (Instr.buildSlice t n (denParts ℓ l).toArray).run P w = .ok (.slice (some ⟨w.heap.size, 0, none⟩) n n) (w.alloc (.cells flat.toArray e (0, 0))) ∧
      ∀ {J : Nat → Prop} {w : World}, (∀ p ∈ reps, Rep J w p.1 p.2) → RepE J w k ds flat := by
  obtain ⟨_, hu, hse⟩ := hT t _ ht
  obtain ⟨i, z, hi, hik, _, hz, hzk⟩ := elemB_spec hel
  have hkey : ∀ zero : Array Value, ∃ flat : List Value, flat.length = n * k ∧ Instr.fill (fun i => some (i * k, k)) ((Array.range (n * k)).map (zero[· % zero.size]!)) (denParts ℓ l) = some flat.toArray ∧
      ∀ {J : Nat → Prop} {w : World}, (∀ p ∈ reps, Rep J w p.1 p.2) → RepE J w k ds flat := by
    intro zero
    obtain ⟨flat, h1, h2, h3⟩ := fill_row ℓ l ds 0 ((Array.range (n * k)).map (zero[· % zero.size]!)).toList hl (by simp [hn])
    refine ⟨flat, by rw [h1, hn], ?_, fun hr => by simpa using h3 hr []⟩
    simp only [Array.toArray_toList, Nat.zero_mul, List.take_zero, List.nil_append, Nat.zero_add] at h2
    rw [h2, hn, List.drop_of_length_le (by simp), List.append_nil]
  by_cases h0 : n * k = 0
  · obtain ⟨flat, h1, h2, h3⟩ := hkey #[]
    refine ⟨flat, h1, ?_, h3⟩
    simp only [Instr.buildSlice, Sem.run_bind, run_underlying' hu, Result.andThen_ok, hse]
    rw [if_neg (by omega), if_pos h0]
    simp only [Sem.run_bind, Sem.run_pure, Result.andThen_ok]
    rw [h2]
    simp [newRow]
  · obtain ⟨flat, h1, h2, h3⟩ := hkey z.cells
    refine ⟨flat, h1, ?_, h3⟩
    simp only [Instr.buildSlice, Sem.run_bind, run_underlying' hu, Result.andThen_ok, hse]
    rw [if_neg (by omega), if_neg h0]
    simp only [Sem.run_bind, Sem.run_pure, Result.andThen_ok, run_zeroValue hi hz]
    rw [h2]
    simp [newRow]

/-- A world with a new block beside all that there was. -/
theorem Good.beside {J : Nat → Prop} {ℓ : List Base} {S : St} {w w' : World} (h : Good J ℓ S w) (hsz : w.heap.size ≤ w'.heap.size) (hw : ∀ b, b < w.heap.size → w'.heap[b]? = w.heap[b]?) : Good J ℓ S w' :=
  h.kept (fun _ h => h) hsz (fun b hb _ => hw b hb)

/-- A slice literal that nobody writes to. -/
theorem at_build {P : Program} {tt : Tab} (hT : TTOK P tt) {t e : TypeId} {k n : Nat} {l : List (Nat × SV)} {S : St} {K : SV → St → Prop} (bytes : Nat) (ds : List D) (ht : tt t = some (.slice e k)) (hel : elemB P e k bytes = true) (hl : partsOK S.reps k 0 l ds) (hn : ds.length = n) (hlim : n * k ≤ 16777216) (hpos : n ≤ 16777216)
    (h : ∀ a, addReps S [(.slice a n n, .sl k ds)] (fun S' => K (.v (.slice a n n)) S')) : AtSem P (fun ℓ => Instr.buildSlice t n (denParts ℓ l).toArray) S K := by
  constructor
  intro J ℓ w hG hJ
  obtain ⟨flat, hfl, hrun, hrep⟩ := run_build hT ht hel (ℓ := ℓ) hl hn hlim w
  have hold : ∀ x, x < w.heap.size → (w.alloc (.cells flat.toArray e (0, 0))).heap[x]? = w.heap[x]? := fun x hx => by
    show (w.heap.push _)[x]? = _
    rw [Array.getElem?_push, if_neg (by omega)]
  have hG1 := hG.beside (w' := w.alloc (.cells flat.toArray e (0, 0))) (by simp) hold
  have hk := h (some ⟨w.heap.size, 0, none⟩)
  rw [addReps_eq] at hk
  refine ⟨.v (.slice (some ⟨w.heap.size, 0, none⟩) n n), ℓ, ⟨S.own, S.accs, S.reps ++ [(.slice (some ⟨w.heap.size, 0, none⟩) n n, .sl k ds)]⟩, w.alloc (.cells flat.toArray e (0, 0)), hrun, rfl, List.prefix_refl _, ⟨rfl, rfl, by simp, fun b hb _ => hold b hb⟩, hG1.reps_add [(_, _)] ?_, fun b hb => .inl hb, hk⟩
  intro p hp
  simp only [List.mem_singleton] at hp
  subst hp
  simp only [Rep, RepC]
  refine ⟨_, _, by rw [hn], ⟨by omega, by omega⟩, .inr ⟨w.heap.size, 0, flat.toArray, e, (0, 0), rfl, ⟨hJ _ (Nat.le_refl _), fun hm => by have := hG.lt _ hm; omega⟩, World.alloc_heap_new w _, ?_⟩⟩
  simpa using hrep hG1.reps

/-- Each cell of a datum is one cell. -/
theorem RepC.one {J : Nat → Prop} {w : World} : ∀ (d : D) (cs : List Value), RepC J w d cs → ∀ u ∈ cs, u.oneCell' = true
  | .int k n, cs, h, u, hu => by simp only [RepC] at h; subst h; simp at hu; subst hu; rfl
  | .bool b, cs, h, u, hu => by simp only [RepC] at h; subst h; simp at hu; subst hu; rfl
  | .str s, cs, h, u, hu => by simp only [RepC] at h; subst h; simp at hu; subst hu; rfl
  | .sl k ds, cs, h, u, hu => by simp only [RepC] at h; obtain ⟨a, cap, rfl, _⟩ := h; simp at hu; subst hu; rfl
  | .agg ds, cs, h, u, hu => by simp only [RepC] at h; exact RepA.one ds cs h u hu
  | .ifc t d, cs, h, u, hu => by simp only [RepC] at h; obtain ⟨v, rfl, _⟩ := h; simp at hu; subst hu; rfl
where
  RepA.one {J : Nat → Prop} {w : World} : ∀ (ds : List D) (cs : List Value), RepA J w ds cs → ∀ u ∈ cs, u.oneCell' = true
  | [], cs, h, u, hu => by simp only [RepA] at h; subst h; simp at hu
  | d :: ds, cs, h, u, hu => by
    simp only [RepA] at h
    obtain ⟨x, y, rfl, h1, h2⟩ := h
    rcases List.mem_append.1 hu with h3 | h3
    · exact RepC.one d x h1 u h3
    · exact RepA.one ds y h2 u h3

theorem RepE.one {J : Nat → Prop} {w : World} {k : Nat} : ∀ (ds : List D) (cs : List Value), RepE J w k ds cs → ∀ u ∈ cs.take (ds.length * k), u.oneCell' = true
  | [], cs, _, u, hu => by simp at hu
  | d :: ds, cs, h, u, hu => by
    simp only [RepE] at h
    simp only [List.length_cons, Nat.add_mul, Nat.one_mul] at hu
    rw [Nat.add_comm, List.take_add] at hu
    rcases List.mem_append.1 hu with h3 | h3
    · exact RepC.one d _ h.2.1 u h3
    · exact RepE.one ds _ h.2.2 u h3

/-- A slice that may grow is put in another one's place: it lies where that one lay, or in a new block. -/
theorem Good.regrow {J : Nat → Prop} {ℓ : List Base} {S : St} {w w' : World} (h : Good J ℓ S w) (hJ : Fresh J w) {j : Nat} {a a' : Acc} (ha : S.accs[j]? = some a) (hsz : w.heap.size ≤ w'.heap.size) (hw : ∀ b, b < w.heap.size → b ∉ accBlk a.v → w'.heap[b]? = w.heap[b]?) (hnd : (accBlk a'.v).Nodup)
    (hblk : ∀ b ∈ accBlk a'.v, (b ∈ accBlk a.v ∨ w.heap.size ≤ b) ∧ b < w'.heap.size)
    (hok : ∀ J', (∀ x, x < w.heap.size → Jx J (mutS ℓ S) x → J' x ∧ w'.heap[x]? = w.heap[x]?) → AccOK J' w' a') :
    Good J ℓ ⟨S.own, S.accs.set j a', S.reps⟩ w' ∧ (∀ b ∈ mutS ℓ ⟨S.own, S.accs.set j a', S.reps⟩, b ∈ mutS ℓ S ∨ w.heap.size ≤ b) := by
  have hlt : j < S.accs.length := (List.getElem?_eq_some_iff.1 ha).1
  have hsplit : S.accs = S.accs.take j ++ a :: S.accs.drop (j + 1) := by
    have e1 := (List.getElem?_eq_some_iff.1 ha).2
    rw [← e1, ← List.drop_eq_getElem_cons hlt, List.take_append_drop]
  have hset : S.accs.set j a' = S.accs.take j ++ a' :: S.accs.drop (j + 1) := List.set_eq_take_append_cons_drop .. |>.trans (by rw [if_pos hlt])
  generalize hl1 : S.accs.take j = l1 at *
  generalize hl2 : S.accs.drop (j + 1) = l2 at *
  let bl : Acc → List Nat := fun a => accBlk a.v
  have hM : mutS ℓ S = mutL ℓ S.own ++ (l1.flatMap bl ++ (accBlk a.v ++ l2.flatMap bl)) := by
    simp only [mutS, hsplit, List.flatMap_append, List.flatMap_cons, bl]
  have hM' : mutS ℓ ⟨S.own, S.accs.set j a', S.reps⟩ = mutL ℓ S.own ++ (l1.flatMap bl ++ (accBlk a'.v ++ l2.flatMap bl)) := by
    simp only [mutS, hset, List.flatMap_append, List.flatMap_cons, bl]
  have hn := h.nodup
  rw [hM, List.nodup_append, List.nodup_append, List.nodup_append] at hn
  obtain ⟨n1, ⟨n2, ⟨n3, n4, n34⟩, n234⟩, n1234⟩ := hn
  have oldlt : ∀ b, b ∈ mutL ℓ S.own ∨ b ∈ l1.flatMap bl ∨ b ∈ l2.flatMap bl → b < w.heap.size := fun b hb => h.lt b (by
    rw [hM]; simp only [List.mem_append]
    rcases hb with h1 | h1 | h1
    · exact .inl h1
    · exact .inr (.inl h1)
    · exact .inr (.inr (.inr h1)))
  -- what else may be written is not the slice's block
  have apart : ∀ b, b ∈ mutL ℓ S.own ∨ b ∈ l1.flatMap bl ∨ b ∈ l2.flatMap bl → b ∉ accBlk a.v := by
    intro b hb hm
    rcases hb with h1 | h1 | h1
    · exact n1234 b h1 b (List.mem_append.2 (.inr (List.mem_append.2 (.inl hm)))) rfl
    · exact n234 b h1 b (List.mem_append.2 (.inl hm)) rfl
    · exact n34 b hm b h1 rfl
  have apart' : ∀ b, b ∈ mutL ℓ S.own ∨ b ∈ l1.flatMap bl ∨ b ∈ l2.flatMap bl → b ∉ accBlk a'.v := by
    intro b hb hm
    rcases (hblk b hm).1 with h1 | h1
    · exact apart b hb h1
    · have := oldlt b hb; omega
  have hmem : ∀ b, b ∈ mutS ℓ ⟨S.own, S.accs.set j a', S.reps⟩ → (b ∈ mutL ℓ S.own ∨ b ∈ l1.flatMap bl ∨ b ∈ l2.flatMap bl) ∨ b ∈ accBlk a'.v := by
    intro b hb
    rw [hM'] at hb
    simp only [List.mem_append] at hb
    rcases hb with h1 | h1 | h1 | h1
    · exact .inl (.inl h1)
    · exact .inl (.inr (.inl h1))
    · exact .inr h1
    · exact .inl (.inr (.inr h1))
  have hin : ∀ b, b ∈ mutL ℓ S.own ∨ b ∈ l1.flatMap bl ∨ b ∈ l2.flatMap bl → b ∈ mutS ℓ S := by
    intro b hb
    rw [hM]; simp only [List.mem_append]
    rcases hb with h1 | h1 | h1
    · exact .inl h1
    · exact .inr (.inl h1)
    · exact .inr (.inr (.inr h1))
  have hina : ∀ b, b ∈ accBlk a.v → b ∈ mutS ℓ S := by
    intro b hb; rw [hM]; simp only [List.mem_append]; exact .inr (.inr (.inl hb))
  have hx : ∀ x, x < w.heap.size → Jx J (mutS ℓ S) x → Jx J (mutS ℓ ⟨S.own, S.accs.set j a', S.reps⟩) x ∧ w'.heap[x]? = w.heap[x]? := by
    intro x hlt' hj
    refine ⟨⟨hj.1, fun hm => ?_⟩, hw x hlt' (fun hm => hj.2 (hina x hm))⟩
    rcases hmem x hm with h1 | h1
    · exact hj.2 (hin x h1)
    · rcases (hblk x h1).1 with h2 | h2
      · exact hj.2 (hina x h2)
      · omega
  refine ⟨⟨h.len, ?_, ?_, ?_, h.wf, ?_, ?_, ?_⟩, ?_⟩
  · rw [hM', List.nodup_append, List.nodup_append, List.nodup_append]
    refine ⟨n1, ⟨n2, ⟨hnd, n4, ?_⟩, ?_⟩, ?_⟩
    · intro x h1 y h2 e; subst e; exact apart' x (.inr (.inr h2)) h1
    · intro x h1 y h2 e; subst e
      rcases List.mem_append.1 h2 with h3 | h3
      · exact apart' x (.inr (.inl h1)) h3
      · exact n234 x h1 x (List.mem_append.2 (.inr h3)) rfl
    · intro x h1 y h2 e; subst e
      rcases List.mem_append.1 h2 with h3 | h3
      · exact n1234 x h1 x (List.mem_append.2 (.inl h3)) rfl
      · rcases List.mem_append.1 h3 with h4 | h4
        · exact apart' x (.inl h1) h4
        · exact n1234 x h1 x (List.mem_append.2 (.inr (List.mem_append.2 (.inr h4)))) rfl
  · intro b hb
    rcases hmem b hb with h1 | h1
    · exact Nat.lt_of_lt_of_le (oldlt b h1) hsz
    · exact (hblk b h1).2
  · intro b hb
    rcases hmem b hb with h1 | h1
    · exact h.memJ b (hin b h1)
    · rcases (hblk b h1).1 with h2 | h2
      · exact h.memJ b (hina b h2)
      · exact hJ b h2
  · intro i b k hi hk
    have h0 := h.own i b k hi hk
    have own : k.mut = true → b.block < w.heap.size → w'.heap[b.block]? = w.heap[b.block]? := fun hm hlt => hw _ hlt (apart _ (.inl (mem_mutL.2 ⟨i, b, k, hi, hk, hm, rfl⟩)))
    have hwk := wf_of_mem h.wf hk
    cases k with
    | cells T cs => exact h0.keep hwk (fun _ _ => rfl) (fun x hlt hj => (hx x hlt hj).1) (own rfl)
    | obj o => exact h0.keep hwk (fun _ _ => rfl) (fun x hlt hj => (hx x hlt hj).1) (own rfl)
    | lp x => exact h0.keep hwk (fun _ _ => rfl) (fun x hlt hj => (hx x hlt hj).1) (own rfl)
    | iter i s n p => exact h0.keep hwk (fun _ _ => rfl) (fun x hlt hj => (hx x hlt hj).1) (own rfl)
    | imm cs =>
      have h1 := h0
      simp only [BlkOK] at h1
      exact h0.keep hwk (fun _ _ => rfl) (fun x hlt hj => (hx x hlt hj).1) (fun hlt => (hx _ hlt h1.1).2)
    | dead => trivial
  · intro x hx'
    simp only [hset] at hx'
    have old : (x ∈ l1 ∨ x ∈ l2) → AccOK (Jx J (mutS ℓ ⟨S.own, S.accs.set j a', S.reps⟩)) w' x := by
      intro hm
      refine (h.accs x (by rw [hsplit]; rcases hm with h1 | h1; exact List.mem_append.2 (.inl h1); exact List.mem_append.2 (.inr (List.mem_cons_of_mem _ h1)))).keep hx (fun y hy hlt => hw y hlt (apart y ?_))
      rcases hm with h1 | h1
      · exact .inr (.inl (List.mem_flatMap.2 ⟨x, h1, hy⟩))
      · exact .inr (.inr (List.mem_flatMap.2 ⟨x, h1, hy⟩))
    rcases List.mem_append.1 hx' with h1 | h1
    · exact old (.inl h1)
    · rcases List.mem_cons.1 h1 with h2 | h2
      · subst h2; exact hok _ hx
      · exact old (.inr h2)
  · exact fun p hp => (h.reps p hp).map hx
  · intro b hb
    rcases hmem b hb with h1 | h1
    · exact .inl (hin b h1)
    · exact (hblk b h1).1.imp (hina b) id

/-- append(s, x...) of a slice that may grow. -/
theorem at_append {P : Program} {tt : Tab} (hT : TTOK P tt) {t e ty : TypeId} {k : Nat} {x y : SV} {S : St} {K : SV → St → Prop} {v : Value} {a : Option Addr} {m c : Nat} {ds es : List D} (bytes j i : Nat) (ht : tt t = some (.slice e k)) (hel : elemB P e k bytes = true)
    (hx : x = .v v) (hacc : nth S.accs j = some ⟨v, k, e, ds⟩) (hy : y = .v (.slice a m c)) (hr : nth S.reps i = some (.slice a m c, .sl k es)) (hlim : (ds.length + es.length) * bytes ≤ 140737488355328) (hlen : ds.length + es.length ≤ 1152921504606846976)
    (h : ∀ a' c', forceL (setNth S.accs j ⟨.slice a' (ds.length + es.length) c', k, e, ds ++ es⟩) (fun accs => K (.v (.slice a' (ds.length + es.length) c')) ⟨S.own, accs, S.reps⟩)) : AtSem P (fun ℓ => Builtin.append_ #[t, t] ty (SV.denL ℓ [x, y]).toArray) S K := by
  simp only [forceL_eq] at h
  subst hx hy
  constructor
  intro J ℓ w hG hJ
  obtain ⟨_, hu, hse⟩ := hT t _ ht
  obtain ⟨ti, z, hi, hik, hby, hz, hzk⟩ := elemB_spec hel
  have ha : S.accs[j]? = some ⟨v, k, e, ds⟩ := by rw [← nth_eq]; exact hacc
  have hok := hG.accs _ (List.mem_of_getElem? ha)
  have hrep := hG.reps _ (List.mem_of_getElem? (by rw [← nth_eq]; exact hr))
  simp only [Rep, RepC] at hrep
  obtain ⟨a', cap, heq, hle, hb⟩ := hrep
  simp only [List.cons.injEq, Value.slice.injEq, and_true] at heq
  obtain ⟨rfl, rfl, rfl⟩ := heq
  have hut : P.underlying t = some (.slice e) := hu
  -- put together
  have fin : ∀ v' w' a', a' = (⟨v', k, e, ds ++ es⟩ : Acc) → (∃ b' c', v' = .slice b' (ds.length + es.length) c') → (Builtin.append_ #[t, t] ty #[v, .slice a es.length c]).run P w = .ok v' w' → w'.os = w.os → w'.output = w.output → w.heap.size ≤ w'.heap.size → (∀ b, b < w.heap.size → b ∉ accBlk v → w'.heap[b]? = w.heap[b]?) → (accBlk v').Nodup →
      (∀ b ∈ accBlk v', (b ∈ accBlk v ∨ w.heap.size ≤ b) ∧ b < w'.heap.size) → (∀ J', (∀ x, x < w.heap.size → Jx J (mutS ℓ S) x → J' x ∧ w'.heap[x]? = w.heap[x]?) → AccOK J' w' a') →
      ∃ r ℓ' S' w', (Builtin.append_ #[t, t] ty (SV.denL ℓ [.v v, .v (.slice a es.length c)]).toArray).run P w = .ok (r.den ℓ') w' ∧ r.wf S'.own.length = true ∧ ℓ <+: ℓ' ∧ Ext (mutS ℓ S) w w' ∧ Good J ℓ' S' w' ∧ (∀ b ∈ mutS ℓ' S', b ∈ mutS ℓ S ∨ w.heap.size ≤ b) ∧ K r S' := by
    intro v' w' a' ea hv' hrun h1 h2 h3 h4 h5 h6 h7
    subst ea
    obtain ⟨b', c', rfl⟩ := hv'
    obtain ⟨hG', hf⟩ := hG.regrow hJ ha h3 h4 h5 h6 h7
    refine ⟨.v (.slice b' (ds.length + es.length) c'), ℓ, _, w', hrun, rfl, List.prefix_refl _, ⟨h1, h2, h3, fun b hb hm => h4 b hb (fun hb' => hm ?_)⟩, hG', hf, h b' c'⟩
    simp only [mutS]
    exact List.mem_append.2 (.inr (List.mem_flatMap.2 ⟨_, List.mem_of_getElem? ha, hb'⟩))
  -- nothing is appended
  by_cases hes : es = []
  · subst hes
    rcases hok with ⟨hv, hd⟩ | ⟨b, cp, cc, hv, hbb, hcs, hl, hre⟩
    · simp only at hv hd
      subst hv hd
      refine fin (.slice none 0 0) w _ rfl ⟨_, _, rfl⟩ ?_ rfl rfl (Nat.le_refl _) (fun _ _ _ => rfl) (by simp [accBlk]) (by simp [accBlk]) (fun J' _ => .inl ⟨rfl, rfl⟩)
      cases a with
      | none => simp [Builtin.append_, run_underlying hut, sizeOf, typeInfo, hi, Builtin.lenOf, run_firstCells_none]
      | some ad =>
        have hf := run_firstCells_some (P := P) w ti.size 0 ad 0 c [] (by simp) (by simp)
        simp [Builtin.append_, run_underlying hut, sizeOf, typeInfo, hi, Builtin.lenOf, hf]
    · simp only at hv
      subst hv
      refine fin (.slice (some ⟨b, 0, none⟩) ds.length cp) w _ rfl ⟨_, _, rfl⟩ ?_ rfl rfl (Nat.le_refl _) (fun _ _ _ => rfl) (by simp [accBlk]) (fun x hx => ⟨.inl hx, hG.lt x (by simp only [mutS]; exact List.mem_append.2 (.inr (List.mem_flatMap.2 ⟨_, List.mem_of_getElem? ha, hx⟩)))⟩) (fun J' hj => ?_)
      · cases a with
        | none => simp [Builtin.append_, run_underlying hut, sizeOf, typeInfo, hi, Builtin.lenOf, run_firstCells_none, hl.1, storeCells]
        | some ad =>
          have hf := run_firstCells_some (P := P) w ti.size 0 ad 0 c [] (by simp) (by simp)
          simp [Builtin.append_, run_underlying hut, sizeOf, typeInfo, hi, Builtin.lenOf, hf, hl.1, storeCells]
      · refine .inr ⟨b, cp, cc, by simp, hbb, hcs, by simpa using hl, ?_⟩
        simp only [List.append_nil]
        exact RepE.map hj k _ _ hre
  -- something is
  · obtain ⟨bb, off, bc, bT, fz, rfl, hbj, hbb, hbe⟩ := hb.resolve_left hes
    have hpos : 0 < es.length := List.length_pos_iff.2 hes
    let news := (bc.toList.drop off).take (es.length * k)
    have hnl : news.length = es.length * k := by
      have := hbe.len
      simp only [news, List.length_take]; omega
    have hnews : ∀ q u, news[q]? = some u → w.cell? ((⟨bb, off, none⟩ : Addr).add q) = some u := by
      intro q u hq
      simp only [news, List.getElem?_take, List.getElem?_drop] at hq
      split at hq
      · rw [addr_add]
        simp only [World.cell?, hbb]
        simpa using hq
      · cases hq
    have hone : ∀ u ∈ news, u.oneCell' = true := RepE.one es _ hbe
    have hrn : ∀ {J' : Nat → Prop} {w' : World}, (∀ x, x < w.heap.size → Jx J (mutS ℓ S) x → J' x ∧ w'.heap[x]? = w.heap[x]?) → RepE J' w' k es news := by
      intro J' w' hj
      refine RepE.cut (RepE.map hj k es _ hbe) (Nat.le_of_eq hnl.symm) ?_
      simp only [news, List.take_take, Nat.min_self]
    rcases hok with ⟨hv, hd⟩ | ⟨b, cp, cc, hv, hgb, hcs, hl, hre⟩
    · simp only at hv hd
      subst hv hd
      simp only [List.length_nil, Nat.zero_add] at hlim hlen
      have hrun := run_append_nil (P := P) w t ty e ti z hut hi hz ⟨bb, off, none⟩ es.length c news (by rw [hik]; exact hnl) hnews hpos (by omega) (by rw [hby]; omega)
      have hge := grownCap_ge w es.length 0 e
      refine fin _ _ _ rfl ⟨some ⟨w.heap.size, 0, none⟩, grownCap w es.length 0 e, by simp⟩ hrun rfl rfl (by simp) ?_ (by simp [accBlk]) ?_ ?_
      · intro x hx _
        show (w.drew.heap.push _)[x]? = _
        rw [Array.getElem?_push, if_neg (by show ¬ x = w.heap.size; omega)]; rfl
      · intro x hx
        simp [accBlk] at hx
        subst hx
        exact ⟨.inr (Nat.le_refl _), by show w.heap.size < (w.heap.push _).size; simp⟩
      · intro J' hj
        refine .inr ⟨w.heap.size, grownCap w es.length 0 e, _, by simp, World.alloc_heap_new w.drew _, ?_, by simp; exact ⟨hge, hlen⟩, ?_⟩
        · simp only [Array.size_append, List.size_toArray, hnl, size_zeroCells, hzk, ← Nat.add_mul]
          congr 1; omega
        · simp only [List.nil_append, Array.toList_append]
          exact RepE.cut (hrn hj) (by simp [hnl]) (by rw [List.take_append_of_le_length (by simp [hnl])])
    · simp only at hv hgb hcs hl hre
      subst hv
      have hlen' : ((ds ++ es).length) = ds.length + es.length := by simp
      by_cases hroom : ds.length + es.length ≤ cp
      · have hfit : ds.length * ti.size + news.length ≤ cc.size := by rw [hik, hnl, hcs, ← Nat.add_mul]; exact Nat.mul_le_mul_right _ hroom
        have hrun := run_append_room (P := P) w t ty e ti hut hi b ds.length cp cc hgb ⟨bb, off, none⟩ es.length c news (by rw [hik]; exact hnl) hnews hone hroom hfit
        rw [hik] at hrun hfit
        refine fin _ _ _ rfl ⟨_, _, rfl⟩ hrun rfl rfl (by simp) ?_ (by simp [accBlk]) ?_ ?_
        · intro x hx hm
          exact setRow_other w b x _ (fun e => hm (by simp [accBlk, e]))
        · intro x hx
          simp [accBlk] at hx
          subst hx
          exact ⟨.inl (by simp [accBlk]), by simpa using lt_of_get hgb⟩
        · intro J' hj
          refine .inr ⟨b, cp, _, by rw [hlen'], setRow_heap w b cc _ e _ hgb, ?_, by rw [hlen']; exact ⟨hroom, hlen⟩, ?_⟩
          · simp only [List.size_toArray, List.length_append, List.length_take, List.length_drop, Array.length_toList]
            omega
          · have h1 := RepE.map hj k ds _ hre
            have hdl := hre.len
            have h2 : RepE J' (w.setRow b (cc.toList.take (ds.length * k) ++ news ++ cc.toList.drop (ds.length * k + news.length)).toArray) k (ds ++ es) (cc.toList.take (ds.length * k) ++ news) := by
              have htl : (cc.toList.take (ds.length * k)).length = ds.length * k := by rw [List.length_take, Nat.min_eq_left hdl]
              exact RepE.append (RepE.cut h1 (Nat.le_of_eq htl.symm) (by rw [List.take_take, Nat.min_self])) htl (hrn hj)
            exact RepE.cut h2 (by simp [hnl, Nat.add_mul]; have := hdl; simp at this; omega) (by
              rw [List.append_assoc]
              rw [← List.append_assoc, List.take_append_of_le_length]
              simp [hnl, Nat.add_mul]; have := hdl; simp at this; omega)
      · have hlo : ((cc.toList).take (ds.length * k)).length = ds.length * ti.size := by
          have := hre.len
          rw [hik, List.length_take]; omega
        have holds : ∀ q u, ((cc.toList).take (ds.length * k))[q]? = some u → w.cell? ((⟨b, 0, none⟩ : Addr).add q) = some u := by
          intro q u hq
          rw [List.getElem?_take] at hq
          split at hq
          · rw [addr_add]
            simp only [World.cell?, hgb, Nat.zero_add]
            simpa using hq
          · cases hq
        have hrun := run_append_grow (P := P) w t ty e ti z hut hi hz ⟨b, 0, none⟩ ds.length cp ((cc.toList).take (ds.length * k)) hlo holds ⟨bb, off, none⟩ es.length c news (by rw [hik]; exact hnl) hnews (by omega) (by omega) (growslice_fits (by omega) (by rw [hby]; exact hlim))
        have hge := grownCap_ge w (ds.length + es.length) cp e
        refine fin _ _ _ rfl ⟨_, _, rfl⟩ hrun rfl rfl (by simp) ?_ (by simp [accBlk]) ?_ ?_
        · intro x hx _
          show (w.drew.heap.push _)[x]? = _
          rw [Array.getElem?_push, if_neg (by show ¬ x = w.heap.size; omega)]; rfl
        · intro x hx
          simp [accBlk] at hx
          subst hx
          exact ⟨.inr (Nat.le_refl _), by show w.heap.size < (w.heap.push _).size; simp⟩
        · intro J' hj
          refine .inr ⟨w.heap.size, grownCap w (ds.length + es.length) cp e, _, by rw [hlen'], World.alloc_heap_new w.drew _, ?_, by rw [hlen']; exact ⟨hge, hlen⟩, ?_⟩
          · rw [hik] at hlo
            simp only [Array.size_append, List.size_toArray, hnl, hlo, size_zeroCells, hzk, ← Nat.add_mul]
            congr 1; omega
          · simp only [Array.toList_append]
            rw [hik] at hlo
            have h1 := RepE.map hj k ds _ hre
            have h2 := RepE.append (RepE.cut h1 (ys := cc.toList.take (ds.length * k)) (Nat.le_of_eq hlo.symm) (by rw [List.take_take, Nat.min_self])) hlo (hrn hj)
            exact RepE.cut h2 (by simp only [List.length_append, hlo, hnl, hlen', Nat.add_mul]; omega) (by rw [List.take_append_of_le_length]; simp only [List.length_append, hlo, hnl, hlen', Nat.add_mul]; omega)

/-- What has grown is data from now on. -/
theorem StLe.freeze (S : St) (n : Nat) (hn : n ≤ S.own.length) (hwf : ∀ k ∈ S.own.take n, k.wf n = true) (reps : List (Value × D)) (hr : ∀ p ∈ reps, p ∈ S.reps ∨ ∃ a ∈ S.accs, p = (a.v, .sl a.k a.ds)) : StLe S ⟨S.own.take n, [], reps⟩ := by
  refine ⟨by rw [List.length_take]; omega, fun J ℓ w h => ?_⟩
  obtain ⟨_, h2⟩ := StLe.part S n hn hwf [] (List.nil_sublist _) (reps.filter (fun _ => false)) (by simp)
  obtain ⟨hg, hm⟩ := h2 J ℓ w h
  refine ⟨⟨hg.len, hg.nodup, hg.lt, hg.memJ, hg.wf, hg.own, by simp, fun p hp => ?_⟩, hm⟩
  have hx : ∀ x, x < w.heap.size → Jx J (mutS ℓ S) x → Jx J (mutS (ℓ.take (S.own.take n).length) ⟨S.own.take n, [], reps⟩) x ∧ w.heap[x]? = w.heap[x]? := fun x _ hj => ⟨⟨hj.1, fun hmm => hj.2 (hm x hmm)⟩, rfl⟩
  rcases hr p hp with h1 | ⟨a, ha, rfl⟩
  · exact (h.reps p h1).map hx
  · have hok := h.accs a ha
    simp only [Rep, RepC]
    rcases hok with ⟨hv, hd⟩ | ⟨b, cp, cc, hv, hgb, hcs, hl, hre⟩
    · rw [hv, hd]
      exact ⟨none, 0, rfl, ⟨Nat.le_refl _, Nat.zero_le _⟩, .inl rfl⟩
    · rw [hv]
      have hbm : b ∈ S.accs.flatMap (fun a => accBlk a.v) := List.mem_flatMap.2 ⟨a, ha, by simp [hv, accBlk]⟩
      have hnd := h.nodup
      simp only [mutS] at hnd
      rw [List.nodup_append] at hnd
      refine ⟨_, cp, rfl, hl, .inr ⟨b, 0, cc, a.T, (0, 0), rfl, ⟨h.memJ b (by simp only [mutS]; exact List.mem_append.2 (.inr hbm)), fun hmm => ?_⟩, hgb, ?_⟩⟩
      · simp only [mutS, List.flatMap_nil, List.append_nil, List.length_take, Nat.min_eq_left hn] at hmm
        exact hnd.2.2 b ((mutL_take n).subset hmm) b hbm rfl
      · simpa using RepE.map hx a.k _ _ hre

/-- The end of a pure function that hands back what has grown. -/
theorem AtRet.grown {r : SV} {S : St} {R : SV → List (Value × D) → Prop} (out : List (Value × D)) (hr : r.wf 0 = true) (ho : ∀ p ∈ out, p ∈ S.reps ∨ ∃ a ∈ S.accs, p = (a.v, .sl a.k a.ds)) (h : R r out) : AtRet 0 (.ret r) S (fun o S' => ∃ r out, o = .ret r ∧ S' = ⟨[], [], out⟩ ∧ r.wf 0 = true ∧ R r out) :=
  ⟨⟨[], [], out⟩, StLe.freeze S 0 (Nat.zero_le _) (by simp) out ho, Nat.zero_le _, hr, r, out, rfl, rfl, hr, h⟩

end Go.Tr
end

/-! FwO -/
section
namespace Go.Tr
open Go
set_option linter.unusedSimpArgs false

/-- The entries of a map that nothing was taken from, the n-th one laid as the n-th. -/
def entries (q : IntKind) : List (Int × Value) → Nat → List MapEntry
  | [], _ => []
  | (k, v) :: r, i => ⟨.int q k, v, i⟩ :: entries q r (i + 1)

def mapO (q : IntKind) (l : List (Int × Value)) : Obj := .map (entries q l 0).toArray l.length

def lookM : List (Int × Value) → Int → Option Value
  | [], _ => none
  | (k, v) :: r, n => if n = k then some v else lookM r n

def putAt (n : Int) (v : Value) : List (Int × Value) → List (Int × Value)
  | [] => [(n, v)]
  | (k, u) :: r => if n = k then (k, v) :: r else (k, u) :: putAt n v r

theorem entries_length (q : IntKind) : ∀ (l : List (Int × Value)) (i : Nat), (entries q l i).length = l.length
  | [], _ => rfl
  | _ :: r, i => by simp [entries, entries_length q r]

theorem entries_append (q : IntKind) : ∀ (l l' : List (Int × Value)) (i : Nat), entries q (l ++ l') i = entries q l i ++ entries q l' (i + l.length)
  | [], l', i => by simp [entries]
  | (k, v) :: r, l', i => by
    simp only [List.cons_append, entries, entries_append q r l', List.length_cons]
    congr 3; omega

theorem findNow_entries (q : IntKind) (n : Int) : ∀ (l : List (Int × Value)) (i j : Nat), Instr.findNow (.int q) (.int q n) (entries q l i) j =
    some (match l.findIdx? (fun p => n = p.1) with
      | some m => (l[m]?).map (fun p => (j + m, p.2))
      | none => none)
  | [], i, j => by simp [entries, Instr.findNow]
  | (k, v) :: r, i, j => by
    simp only [entries, Instr.findNow, Instr.sameNow, if_true]
    by_cases h : n = k
    · subst h; simp [List.findIdx?_cons]
    · have hb : (n == k) = false := by simpa using h
      simp only [hb, findNow_entries q n r (i + 1) (j + 1), List.findIdx?_cons, h, decide_false]
      cases hf : r.findIdx? (fun p => n = p.1) with
      | none => simp
      | some m =>
        have e : j + 1 + m = j + (m + 1) := by omega
        simp [e]

theorem look_idx (n : Int) : ∀ (l : List (Int × Value)), lookM l n = match l.findIdx? (fun p => n = p.1) with
    | some m => (l[m]?).map (·.2)
    | none => none
  | [] => rfl
  | (k, v) :: r => by
    simp only [lookM, List.findIdx?_cons]
    by_cases h : n = k
    · subst h; simp
    · rw [if_neg h, look_idx n r]
      simp only [h, decide_false]
      cases hf : r.findIdx? (fun p => n = p.1) with
      | none => simp
      | some m => simp

theorem putAt_none (n : Int) (v : Value) : ∀ (l : List (Int × Value)), l.findIdx? (fun p => n = p.1) = none → putAt n v l = l ++ [(n, v)]
  | [], _ => rfl
  | (k, u) :: r, h => by
    simp only [List.findIdx?_cons] at h
    by_cases hk : n = k
    · subst hk; simp at h
    · simp only [putAt, if_neg hk, List.cons_append]
      rw [putAt_none n v r]
      cases hf : r.findIdx? (fun p => n = p.1) with
      | none => rfl
      | some m => rw [hf] at h; simp [hk] at h

theorem putAt_some (q : IntKind) (n : Int) (v : Value) : ∀ (l : List (Int × Value)) (m i : Nat), l.findIdx? (fun p => n = p.1) = some m → (entries q l i).modify m (fun e => { e with key := .int q n, val := v }) = entries q (putAt n v l) i ∧ (putAt n v l).length = l.length
  | [], m, i, h => by simp at h
  | (k, u) :: r, m, i, h => by
    simp only [List.findIdx?_cons] at h
    by_cases hk : n = k
    · subst hk
      simp at h
      subst h
      simp [putAt, entries]
    · simp only [hk, decide_false] at h
      cases hf : r.findIdx? (fun p => n = p.1) with
      | none => rw [hf] at h; simp at h
      | some m' =>
        rw [hf] at h
        simp at h
        subst h
        obtain ⟨h1, h2⟩ := putAt_some q n v r m' (i + 1) hf
        simp only [putAt, if_neg hk, entries, List.modify_succ_cons, h1, List.length_cons, h2, and_self]

theorem entries_key (q : IntKind) (l : List (Int × Value)) (i m : Nat) : ((entries q l i)[m]?).map (·.key) = (l[m]?).map (fun p => Value.int q p.1) := by
  induction l generalizing i m with
  | nil => simp [entries]
  | cons p r ih =>
    obtain ⟨k, v⟩ := p
    cases m with
    | zero => simp [entries]
    | succ m => simpa [entries] using ih (i + 1) m

theorem run_checkKey_int {P : Program} {k : TypeId} {q : IntKind} (hk : P.underlying k = some (.int q)) (b : Bool) (n : Int) (w : World) : (Instr.checkKey b 10000 k (.int q n)).run P w = .ok () w := by
  unfold Instr.checkKey
  simp [run_underlying hk]

/-- A map is made. -/
theorem at_makeMap {P : Program} {t : TypeId} (q : IntKind) {S : St} {K : SV → St → Prop} (h : forceL (S.own ++ [.obj (mapO q [])]) (fun own => putOwn S own (fun S' => K (.mp S.own.length) S'))) : AtSem P (fun ℓ => Instr.makeMap t (denO ℓ none)) S K := by
  rw [forceL_eq, putOwn_eq] at h
  constructor
  intro J ℓ w hG hJ
  have hold : ∀ x, x < w.heap.size → (w.alloc (mapO q [])).heap[x]? = w.heap[x]? := fun x hx => by
    show (w.heap.push _)[x]? = _
    rw [Array.getElem?_push, if_neg (by omega)]
  have hm := mutS_push hG.len (S := S) ⟨w.heap.size, 0⟩ (.obj (mapO q []))
  refine ⟨.mp S.own.length, ℓ ++ [⟨w.heap.size, 0⟩], _, w.alloc (mapO q []), ?_, by simp [SV.wf], List.prefix_append _ _, ⟨rfl, rfl, by simp, fun x hx _ => hold x hx⟩, ?_, ?_, h⟩
  · simp only [Instr.makeMap, denO, SV.den]
    rw [← hG.len, getD_new]
    simp [mapO, entries]
  · exact hG.push ⟨w.heap.size, 0⟩ (.obj _) rfl (fun _ => ⟨Nat.le_refl _, by simp, hJ _ (Nat.le_refl _)⟩) (by simp) hold ⟨rfl, World.alloc_heap_new w _⟩
  · intro x hx
    rcases (hm x).1 hx with h1 | ⟨_, h1⟩
    · exact .inl h1
    · subst h1; exact .inr (Nat.le_refl _)

theorem own_obj {J : Nat → Prop} {ℓ : List Base} {S : St} {w : World} (hG : Good J ℓ S w) {i : Nat} {o : Obj} (hi : nth S.own i = some (.obj o)) : ∃ b, ℓ[i]? = some b ∧ S.own[i]? = some (.obj o) ∧ (ℓ.getD i default).block = b.block ∧ b.off = 0 ∧ w.heap[b.block]? = some o := by
  have hk : S.own[i]? = some (.obj o) := by rw [← nth_eq]; exact hi
  obtain ⟨b, hb, hok⟩ := own_at hG hk
  simp only [BlkOK] at hok
  exact ⟨b, hb, hk, by simp [List.getD, hb], hok.1, hok.2⟩

theorem run_getMap {P : Program} {w : World} {r : Nat} {es : Array MapEntry} {c : Nat} (h : w.heap[r]? = some (.map es c)) : (getObj r).run P w = .ok (.map es c) w := by simp [getObj, Sem.run, h]
theorem run_setMap {P : Program} {w : World} {r : Nat} {es : Array MapEntry} {c : Nat} (o' : Obj) (h : w.heap[r]? = some (.map es c)) : (setObj r o').run P w = .ok () (w.putObj r o') := by simp [setObj, Sem.run, h, World.putObj]

/-- An own object is written. -/
theorem Good.putObj {J : Nat → Prop} {ℓ : List Base} {S : St} {w : World} (hG : Good J ℓ S w) {i : Nat} {b : Base} {k k' : Blk} (hk : S.own[i]? = some k) (hb : ℓ[i]? = some b) (hm : k.mut = true) (hm' : k'.mut = true) (hwf : k'.wf S.own.length = true) (o' : Obj)
    (hok : BlkOK (Jx J (mutS ℓ S)) ℓ (w.putObj b.block o') b k') : Ext (mutS ℓ S) w (w.putObj b.block o') ∧ Good J ℓ ⟨S.own.set i k', S.accs, S.reps⟩ (w.putObj b.block o') ∧ ∀ x ∈ mutS ℓ ⟨S.own.set i k', S.accs, S.reps⟩, x ∈ mutS ℓ S ∨ w.heap.size ≤ x := by
  have hbm : b.block ∈ mutS ℓ S := by simp only [mutS]; exact List.mem_append.2 (.inl (mem_mutL.2 ⟨i, b, k, hb, hk, hm, rfl⟩))
  have hmut : mutS ℓ ⟨S.own.set i k', S.accs, S.reps⟩ = mutS ℓ S := by
    simp only [mutS]; rw [mutL_set hk (hm'.trans hm.symm)]
  have hoth : ∀ y, y ≠ b.block → (w.putObj b.block o').heap[y]? = w.heap[y]? := fun y hy => World.putObj_heap_other hy
  refine ⟨⟨rfl, rfl, by simp, fun y _ hy => hoth y (fun e => hy (e ▸ hbm))⟩, ?_, fun x hx => .inl (by rw [hmut] at hx; exact hx)⟩
  exact hG.update hk hb hm hm' hwf (by simp) (fun y _ hy => hoth y hy) hok

/-- m[n], with or without the word whether it is there. -/
theorem at_lookup {P : Program} {tt : Tab} (hT : TTOK P tt) {t k e : TypeId} {q : IntKind} {x ix : SV} {S : St} {K : SV → St → Prop} {i : Nat} {n : Int} {l : List (Int × Value)} {ok : Bool} (z : Value) (ht : tt t = some (.map k e)) (hk : P.underlying k = some (.int q)) (hz : ∀ w, (zeroValue e).run P w = .ok z w)
    (hx : x = .mp i) (hi : nth S.own i = some (.obj (mapO q l))) (hix : ix = .v (.int q n))
    (h1 : ∀ v, lookM l n = some v → K (if ok then .tup [.v v, .v (.bool true)] else .v v) S) (h2 : lookM l n = none → K (if ok then .tup [.v z, .v (.bool false)] else .v z) S) : AtSem P (fun ℓ => Instr.lookup t (x.den ℓ) (ix.den ℓ) ok) S K := by
  subst hx hix
  constructor
  intro J ℓ w hG hJ
  obtain ⟨b, hb, hk', hbl, hoff, hh⟩ := own_obj hG hi
  have hu := (hT t _ ht).2
  have hrun : (Instr.lookup t ((SV.mp i).den ℓ) ((SV.v (.int q n)).den ℓ) ok).run P w = .ok ((match lookM l n with
      | some v => (if ok then SV.tup [.v v, .v (.bool true)] else .v v)
      | none => (if ok then .tup [.v z, .v (.bool false)] else .v z)).den ℓ) w := by
    simp only [Instr.lookup, SV.den, Sem.run_bind, run_underlying' hu, Result.andThen_ok]
    have hg := run_getMap (P := P) hh
    rw [hbl]
    simp only [Sem.run_bind, hg, Result.andThen_ok, Sem.run_pure]
    simp only [run_checkKey_int hk, Result.andThen_ok, Instr.findKey, Sem.run_bind, run_underlying hk, findNow_entries]
    rw [look_idx]
    cases hf : l.findIdx? (fun p => n = p.1) with
    | none => simp [hz, Result.andThen]; cases ok <;> simp [SV.den, SV.denL]
    | some m =>
      have hlt : m < l.length := by
        obtain ⟨hlt, _⟩ := List.findIdx?_eq_some_iff_getElem.1 hf
        exact hlt
      simp only [List.getElem?_eq_getElem hlt, Option.map_some, Sem.run_pure, Result.andThen_ok]
      cases ok <;> simp [SV.den, SV.denL]
  cases hl : lookM l n with
  | some v =>
    rw [hl] at hrun
    exact ⟨_, ℓ, S, w, hrun, by cases ok <;> rfl, List.prefix_refl _, Ext.refl _ _, hG, fun b hb => .inl hb, h1 v hl⟩
  | none =>
    rw [hl] at hrun
    exact ⟨_, ℓ, S, w, hrun, by cases ok <;> rfl, List.prefix_refl _, Ext.refl _ _, hG, fun b hb => .inl hb, h2 hl⟩

/-- m[n] = x. -/
theorem at_mapPut {P : Program} {tt : Tab} (hT : TTOK P tt) {t k e : TypeId} {q : IntKind} {x ix y : SV} {S : St} {K : SV → St → Prop} {i : Nat} {n : Int} {l : List (Int × Value)} (v : Value) (ht : tt t = some (.map k e)) (hk : P.underlying k = some (.int q))
    (hx : x = .mp i) (hi : nth S.own i = some (.obj (mapO q l))) (hix : ix = .v (.int q n)) (hy : ∀ ℓ, y.den ℓ = v)
    (h : forceL (setNth S.own i (.obj (mapO q (putAt n v l)))) (fun own => putOwn S own (fun S' => K undefS S'))) : AtSem P (fun ℓ => do Instr.mapUpdate t (x.den ℓ) (ix.den ℓ) (y.den ℓ); pure undef) S K := by
  subst hx hix
  rw [forceL_eq, putOwn_eq] at h
  constructor
  intro J ℓ w hG hJ
  obtain ⟨b, hb, hk', hbl, hoff, hh⟩ := own_obj hG hi
  have hu := (hT t _ ht).2
  have hrun : (Instr.mapUpdate t ((SV.mp i).den ℓ) ((SV.v (.int q n)).den ℓ) (y.den ℓ)).run P w = .ok () (w.putObj b.block (mapO q (putAt n v l))) := by
    simp only [Instr.mapUpdate, SV.den, hy, Sem.run_bind, run_underlying' hu, Result.andThen_ok, hbl]
    have hg := run_getMap (P := P) hh
    simp only [hg, Result.andThen_ok, run_checkKey_int hk, Instr.findKey, Sem.run_bind, run_underlying hk, findNow_entries]
    cases hf : l.findIdx? (fun p => n = p.1) with
    | none =>
      simp only [Sem.run_pure, Result.andThen_ok]
      rw [run_setMap _ hh, putAt_none n v l hf]
      simp [mapO, entries_append, entries]
    | some m =>
      obtain ⟨hlt, hpm, _⟩ := List.findIdx?_eq_some_iff_getElem.1 hf
      simp only [decide_eq_true_eq] at hpm
      simp only [List.getElem?_eq_getElem hlt, Option.map_some, Sem.run_pure, Result.andThen_ok, Nat.zero_add]
      have hkey : (((entries q l 0).toArray[m]?).map (·.key)).getD (.int q n) = .int q n := by
        have := entries_key q l 0 m
        simp only [List.getElem?_toArray]
        rw [this, List.getElem?_eq_getElem hlt]
        simp [← hpm]
      rw [hkey]
      have hst : (Instr.keyThatStays (.int q n) (.int q n)).run P w = .ok (.int q n) w := by simp [Instr.keyThatStays, Instr.sameBits]
      simp only [Sem.run_bind, hst, Result.andThen_ok]
      rw [run_setMap _ hh]
      obtain ⟨h1, h2⟩ := putAt_some q n v l m 0 hf
      simp only [mapO, h2]
      rw [← h1]
      simp
  obtain ⟨g1, g2, g3⟩ := hG.putObj (k' := .obj (mapO q (putAt n v l))) hk' hb rfl rfl rfl (mapO q (putAt n v l)) ⟨hoff, World.putObj_heap_same (lt_of_get hh)⟩
  refine ⟨undefS, ℓ, _, w.putObj b.block (mapO q (putAt n v l)), ?_, rfl, List.prefix_refl _, g1, g2, g3, h⟩
  simp only [Sem.run_bind, hrun, Result.andThen_ok, Sem.run_pure]
  rfl

theorem entries_get (q : IntKind) : ∀ (l : List (Int × Value)) (i m : Nat), (entries q l i)[m]? = (l[m]?).map (fun p => ⟨.int q p.1, p.2, i + m⟩)
  | [], i, m => by simp [entries]
  | (k, v) :: r, i, 0 => by simp [entries]
  | (k, v) :: r, i, m + 1 => by
    simp only [entries, List.getElem?_cons_succ, entries_get q r (i + 1) m]
    have e : i + 1 + m = i + (m + 1) := by omega
    rw [e]

theorem mem_entries {q : IntKind} {l : List (Int × Value)} {e : MapEntry} (h : e ∈ entries q l 0) : ∃ m p, l[m]? = some p ∧ e = ⟨.int q p.1, p.2, m⟩ := by
  obtain ⟨m, hm⟩ := List.getElem?_of_mem h
  rw [entries_get] at hm
  cases hp : l[m]? with
  | none => rw [hp] at hm; cases hm
  | some p => rw [hp] at hm; simp at hm; exact ⟨m, p, hp, hm.symm⟩

theorem run_choose_map {P : Program} (n : Nat) (hn : 0 < n) (w : World) : ∃ j w1, j < n ∧ (w1 = w ∨ w1 = w.drew) ∧ (choose (.mapNext n)).run P w = .ok j w1 := by
  rw [run_choose]
  by_cases h : n ≤ 1
  · exact ⟨0, w, hn, .inl rfl, by simp [Question.forced, h]⟩
  · exact ⟨_, _, Nat.mod_lt _ hn, .inr rfl, by simp [Question.forced, h, Question.cut]; rfl⟩

/-- One step of a walk over a map that stays as it is. -/
theorem run_next_map {P : Program} {ty : TypeId} {q : IntKind} {l : List (Int × Value)} {bi bm : Nat} {seen : Array Nat} {w : World} (hi : w.heap[bi]? = some (.mapIter (some bm) l.length seen l.length)) (hm : w.heap[bm]? = some (mapO q l)) :
    ∃ w1, (w1 = w ∨ w1 = w.drew) ∧
      (((∀ m, m < l.length → m ∈ seen) ∧ (Instr.next (.pointer (some ⟨bi, 0, none⟩)) false ty).run P w = .ok (.tuple #[.bool false]) w1) ∨
       ∃ m p, l[m]? = some p ∧ m ∉ seen ∧ (Instr.next (.pointer (some ⟨bi, 0, none⟩)) false ty).run P w = .ok (.tuple #[.bool true, .int q p.1, p.2]) (w1.putObj bi (.mapIter (some bm) l.length (seen.push m) l.length))) := by
  have hgi : (getObj bi).run P w = .ok (.mapIter (some bm) l.length seen l.length) w := by simp [getObj, Sem.run, hi]
  have hgm : (getObj bm).run P w = .ok (.map (entries q l 0).toArray l.length) w := run_getMap hm
  have hnot : (!seen.isEmpty && !(entries q l 0).toArray.isEmpty && (entries q l 0).toArray.all (·.born ≥ l.length)) = false := by
    cases l with
    | nil => simp [entries]
    | cons p r => obtain ⟨k, v⟩ := p; simp [entries]
  let left := (entries q l 0).toArray.filter fun e => !seen.contains e.born
  have hold : left.filter (·.born < l.length) = left := by
    rw [Array.filter_eq_self]
    intro e he
    simp only [left, Array.mem_filter, List.mem_toArray] at he
    obtain ⟨m, p, hp, rfl⟩ := mem_entries he.1
    simpa using (List.getElem?_eq_some_iff.1 hp).1
  have hnew : left.filter (·.born ≥ l.length) = #[] := by
    rw [Array.filter_eq_empty_iff]
    intro e he
    simp only [left, Array.mem_filter, List.mem_toArray] at he
    obtain ⟨m, p, hp, rfl⟩ := mem_entries he.1
    simpa using (List.getElem?_eq_some_iff.1 hp).1
  by_cases hl : left = #[]
  · have hc : ((if left.isEmpty then #[none] else #[]) ++ (left ++ #[]).map some : Array (Option MapEntry)) = #[none] := by simp [hl]
    refine ⟨w, .inl rfl, .inl ⟨?_, ?_⟩⟩
    · intro m hlt
      have h1 := Array.filter_eq_empty_iff.1 hl
      have h2 := h1 (⟨.int q l[m].1, l[m].2, m⟩ : MapEntry) (by
        rw [List.mem_toArray]
        refine List.mem_of_getElem? (i := m) ?_
        rw [entries_get, List.getElem?_eq_getElem hlt]; simp)
      simpa using h2
    · simp only [Instr.next, Sem.run_bind, hgi, Result.andThen_ok, hgm]
      rw [if_neg (by rw [hnot]; simp)]
      simp only [Sem.run_bind, Sem.run_pure, Result.andThen_ok]
      rw [show (entries q l 0).toArray.filter (fun e => !seen.contains e.born) = left from rfl, hold, hnew, hc]
      simp [Question.forced]
  · have hc : ((if left.isEmpty then #[none] else #[]) ++ (left ++ #[]).map some : Array (Option MapEntry)) = left.map some := by
      have : left.isEmpty = false := by simpa using hl
      simp [this]
    have hpos : 0 < left.size := by
      rcases Nat.eq_zero_or_pos left.size with h | h
      · exact (hl (Array.size_eq_zero_iff.1 h)).elim
      · exact h
    obtain ⟨j, w1, hj, hw1, hch⟩ := run_choose_map (P := P) (left.map some).size (by simpa using hpos) w
    have hj' : j < left.size := by simpa using hj
    have hmem : left[j] ∈ left := Array.getElem_mem hj'
    have hmem' := hmem
    simp only [left, Array.mem_filter, List.mem_toArray] at hmem'
    obtain ⟨m, p, hp, he⟩ := mem_entries hmem'.1
    have hns : m ∉ seen := by
      have := hmem'.2
      rw [he] at this
      simpa using this
    refine ⟨w1, hw1, .inr ⟨m, p, hp, hns, ?_⟩⟩
    have hset : (setObj bi (.mapIter (some bm) l.length (seen.push m) l.length)).run P w1 = .ok () (w1.putObj bi (.mapIter (some bm) l.length (seen.push m) l.length)) := by
      have : w1.heap[bi]? = some (.mapIter (some bm) l.length seen l.length) := by rcases hw1 with rfl | rfl <;> exact hi
      simp [setObj, Sem.run, this, World.putObj]
    simp only [Instr.next, Sem.run_bind, hgi, Result.andThen_ok, hgm]
    rw [if_neg (by rw [hnot]; simp)]
    simp only [Sem.run_bind, Sem.run_pure, Result.andThen_ok]
    rw [show (entries q l 0).toArray.filter (fun e => !seen.contains e.born) = left from rfl, hold, hnew, hc, hch]
    simp only [Result.andThen_ok]
    have hget : (left.map some)[j]? = some (some left[j]) := by simp [hj']
    rw [hget]
    have he' : left[j] = { key := Value.int q p.fst, val := p.snd, born := m } := he
    simp only [Sem.run_bind, he', hset, Result.andThen_ok, Sem.run_pure]

/-- 'for .. range m' begins. -/
theorem at_range {P : Program} {tt : Tab} (hT : TTOK P tt) {t k e : TypeId} {q : IntKind} {x : SV} {S : St} {K : SV → St → Prop} {i : Nat} {l : List (Int × Value)} (ht : tt t = some (.map k e)) (hx : x = .mp i) (hi : nth S.own i = some (.obj (mapO q l)))
    (h : forceL (S.own ++ [.iter i l.length #[] l.length]) (fun own => putOwn S own (fun S' => K (.loc S.own.length 0) S'))) : AtSem P (fun ℓ => Instr.range t (x.den ℓ)) S K := by
  subst hx
  rw [forceL_eq, putOwn_eq] at h
  constructor
  intro J ℓ w hG hJ
  obtain ⟨b, hb, hk', hbl, hoff, hh⟩ := own_obj hG hi
  have hu := (hT t _ ht).2
  have hilt : i < S.own.length := (List.getElem?_eq_some_iff.1 hk').1
  have hold : ∀ x, x < w.heap.size → (w.alloc (.mapIter (some b.block) l.length #[] l.length)).heap[x]? = w.heap[x]? := fun x hx => by
    show (w.heap.push _)[x]? = _
    rw [Array.getElem?_push, if_neg (by omega)]
  have hm := mutS_push hG.len (S := S) ⟨w.heap.size, 0⟩ (.iter i l.length #[] l.length)
  refine ⟨.loc S.own.length 0, ℓ ++ [⟨w.heap.size, 0⟩], _, w.alloc (.mapIter (some b.block) l.length #[] l.length), ?_, by simp [SV.wf], List.prefix_append _ _, ⟨rfl, rfl, by simp, fun x hx _ => hold x hx⟩, ?_, ?_, h⟩
  · have hg : (getObj b.block).run P w = .ok (.map (entries q l 0).toArray l.length) w := run_getMap hh
    simp only [Instr.range, SV.den, Sem.run_bind, run_underlying' hu, Result.andThen_ok, hbl, hg, Sem.run_pure]
    rw [← hG.len, getD_new]
    simp
  · refine hG.push ⟨w.heap.size, 0⟩ (.iter i l.length #[] l.length) (by simp [Blk.wf, hilt]) (fun _ => ⟨Nat.le_refl _, by simp, hJ _ (Nat.le_refl _)⟩) (by simp) hold ⟨rfl, ?_⟩
    rw [hbl]
    exact World.alloc_heap_new w _
  · intro x hx
    rcases (hm x).1 hx with h1 | ⟨_, h1⟩
    · exact .inl h1
    · subst h1; exact .inr (Nat.le_refl _)

theorem Good.drew {J : Nat → Prop} {ℓ : List Base} {S : St} {w : World} (h : Good J ℓ S w) : Good J ℓ S w.drew := h.kept (fun _ h => h) (Nat.le_refl _) (fun _ _ _ => rfl)

theorem own_iter {J : Nat → Prop} {ℓ : List Base} {S : St} {w : World} (hG : Good J ℓ S w) {i j since : Nat} {seen : Array Nat} {stepped : Nat} (hi : nth S.own i = some (.iter j since seen stepped)) : ∃ b, ℓ[i]? = some b ∧ S.own[i]? = some (.iter j since seen stepped) ∧ (ℓ.getD i default).block = b.block ∧ (ℓ.getD i default).off = 0 ∧ b.off = 0 ∧ w.heap[b.block]? = some (.mapIter (some (ℓ.getD j default).block) since seen stepped) := by
  have hk : S.own[i]? = some (.iter j since seen stepped) := by rw [← nth_eq]; exact hi
  obtain ⟨b, hb, hok⟩ := own_at hG hk
  simp only [BlkOK] at hok
  exact ⟨b, hb, hk, by simp [List.getD, hb], by simp [List.getD, hb, hok.1], hok.1, hok.2⟩

/-- A walk's next entry: some one that has not been met; or all have been. -/
theorem at_next {P : Program} {ty : TypeId} {q : IntKind} {x : SV} {S : St} {K : SV → St → Prop} {i j : Nat} {l : List (Int × Value)} {seen : Array Nat} (hx : x = .loc i 0) (hi : nth S.own i = some (.iter j l.length seen l.length)) (hj : nth S.own j = some (.obj (mapO q l)))
    (h0 : (∀ m, m < l.length → m ∈ seen) → K (.tup [.v (.bool false)]) S)
    (h1 : ∀ m p, l[m]? = some p → m ∉ seen → forceL (setNth S.own i (.iter j l.length (seen.push m) l.length)) (fun own => putOwn S own (fun S' => K (.tup [.v (.bool true), .v (.int q p.1), .v p.2]) S'))) : AtSem P (fun ℓ => Instr.next (x.den ℓ) false ty) S K := by
  subst hx
  simp only [forceL_eq, putOwn_eq] at h1
  constructor
  intro J ℓ w hG hJ
  obtain ⟨b, hb, hk, hbl, hbo, hoff, hh⟩ := own_iter hG hi
  obtain ⟨b2, hb2, hk2, hbl2, hoff2, hh2⟩ := own_obj hG hj
  rw [hbl2] at hh
  have hden : (SV.loc i 0).den ℓ = .pointer (some ⟨b.block, 0, none⟩) := by simp only [SV.den, hbl, hbo, Nat.zero_add]
  obtain ⟨w1, hw1, hor⟩ := run_next_map (P := P) (ty := ty) hh hh2
  have hG1 : Good J ℓ S w1 := by rcases hw1 with rfl | rfl; exact hG; exact hG.drew
  have hx1 : Ext (mutS ℓ S) w w1 := by rcases hw1 with rfl | rfl; exact Ext.refl _ _; exact ⟨rfl, rfl, Nat.le_refl _, fun _ _ _ => rfl⟩
  have hh1 : w1.heap[b.block]? = some (.mapIter (some b2.block) l.length seen l.length) := by rcases hw1 with rfl | rfl <;> exact hh
  rcases hor with ⟨hall, hrun⟩ | ⟨m, p, hp, hns, hrun⟩
  · exact ⟨.tup [.v (.bool false)], ℓ, S, w1, by rw [hden, hrun]; rfl, rfl, List.prefix_refl _, hx1, hG1, fun b hb => .inl hb, h0 hall⟩
  · have hjlt : j < S.own.length := (List.getElem?_eq_some_iff.1 hk2).1
    obtain ⟨g1, g2, g3⟩ := hG1.putObj (k' := .iter j l.length (seen.push m) l.length) hk hb rfl rfl (by simp [Blk.wf, hjlt]) (.mapIter (some b2.block) l.length (seen.push m) l.length) ⟨hoff, by rw [hbl2]; exact World.putObj_heap_same (lt_of_get hh1)⟩
    have hsz : w1.heap.size = w.heap.size := by rcases hw1 with rfl | rfl <;> rfl
    refine ⟨.tup [.v (.bool true), .v (.int q p.1), .v p.2], ℓ, _, _, by rw [hden, hrun]; rfl, rfl, List.prefix_refl _, hx1.trans g1, g2, fun b hb => by rw [← hsz]; exact g3 b hb, h1 m p hp hns⟩

/-- The entry that a walk is at. -/
theorem at_entry {P : Program} {q : IntKind} {x : SV} {S : St} {K : SV → St → Prop} {i j m : Nat} {p : Int × Value} {l : List (Int × Value)} {seen : Array Nat} (hx : x = .loc i 0) (hi : nth S.own i = some (.iter j l.length (seen.push m) l.length)) (hj : nth S.own j = some (.obj (mapO q l))) (hp : l[m]? = some p)
    (h : K (.tup [.v (.int q p.1), .v p.2]) S) : AtSem P (fun ℓ => Instr.entry (x.den ℓ)) S K := by
  subst hx
  constructor
  intro J ℓ w hG hJ
  obtain ⟨b, hb, hk, hbl, hbo, hoff, hh⟩ := own_iter hG hi
  obtain ⟨b2, hb2, hk2, hbl2, hoff2, hh2⟩ := own_obj hG hj
  rw [hbl2] at hh
  have hden : (SV.loc i 0).den ℓ = .pointer (some ⟨b.block, 0, none⟩) := by simp only [SV.den, hbl, hbo, Nat.zero_add]
  have hgi : (getObj b.block).run P w = .ok (.mapIter (some b2.block) l.length (seen.push m) l.length) w := by simp [getObj, Sem.run, hh]
  have hgm : (getObj b2.block).run P w = .ok (.map (entries q l 0).toArray l.length) w := run_getMap hh2
  have hfind : (entries q l 0).toArray.find? (·.born == m) = some ⟨.int q p.1, p.2, m⟩ := by
    rw [List.find?_toArray, List.find?_eq_some_iff_getElem]
    refine ⟨by simp, m, by rw [entries_length]; exact (List.getElem?_eq_some_iff.1 hp).1, ?_, ?_⟩
    · have := entries_get q l 0 m
      rw [hp] at this
      simpa using (List.getElem?_eq_some_iff.1 this).2
    · intro j' hj'
      have := entries_get q l 0 j'
      have hlt : j' < l.length := by have := (List.getElem?_eq_some_iff.1 hp).1; omega
      rw [List.getElem?_eq_getElem hlt] at this
      have h2 := (List.getElem?_eq_some_iff.1 this).2
      rw [h2]
      simp; omega
  refine ⟨_, ℓ, S, w, ?_, rfl, List.prefix_refl _, Ext.refl _ _, hG, fun b hb => .inl hb, h⟩
  rw [hden]
  simp only [Instr.entry, Sem.run_bind, hgi, Result.andThen_ok, Array.back?_push, hgm]
  rw [if_neg (by simp)]
  simp only [Sem.run_bind, Sem.run_pure, Result.andThen_ok, hfind]
  rfl

end Go.Tr
end

/-! FwP -/
section
namespace Go.Tr
open Go
set_option linter.unusedSimpArgs false

/-- An operation whose answer is one value, whatever the world. -/
theorem AtPure.val {P : Program} {m : List Base → Sem Value} {S : St} {K : SV → St → Prop} (r : SV) (hr : r.wf S.own.length = true) (h : ∀ ℓ w, (m ℓ).run P w = .ok (r.den ℓ) w) (k : K r S) : AtPure P m S K :=
  ⟨fun _ ℓ _ hG _ => ⟨r, ℓ, S, fun w' => h ℓ w', hr, List.prefix_refl _, hG, fun _ hb => hb, fun _ _ hi => hi, k⟩⟩

theorem AtSem.val {P : Program} {m : List Base → Sem Value} {S : St} {K : SV → St → Prop} (r : SV) (hr : r.wf S.own.length = true) (h : ∀ ℓ w, (m ℓ).run P w = .ok (r.den ℓ) w) (k : K r S) : AtSem P m S K :=
  ⟨fun _ ℓ w hG _ => ⟨r, ℓ, S, w, h ℓ w, hr, List.prefix_refl _, Ext.refl _ _, hG, fun _ hb => .inl hb, k⟩⟩

/-- max, min of two ints. -/
theorem at_max {P : Program} {ts : Array TypeId} {t : TypeId} {k k' : IntKind} {x y : Int} {S : St} {K : SV → St → Prop} (h : K (.v (.int k (if y > x then y else x))) S) : AtPure P (fun ℓ => Builtin.max_ ts t (SV.denL ℓ [.v (.int k x), .v (.int k' y)]).toArray) S K :=
  AtPure.val _ rfl (fun _ _ => run_max_int2 ..) h
theorem at_min {P : Program} {ts : Array TypeId} {t : TypeId} {k k' : IntKind} {x y : Int} {S : St} {K : SV → St → Prop} (h : K (.v (.int k (if y < x then y else x))) S) : AtPure P (fun ℓ => Builtin.min_ ts t (SV.denL ℓ [.v (.int k x), .v (.int k' y)]).toArray) S K :=
  AtPure.val _ rfl (fun _ _ => run_min_int2 ..) h

/-- A call of an interface's method is one of the function that the value's type has for it. -/
theorem Meets.meth {P : Program} {t : TypeId} {f : FuncId} {name : String} {s : SV} {args : List SV} {S : St} {R : Out → St → Prop} (hm : ∀ v ag w, (callMethod (.iface t v) name ag).run P w = .ok (.enter f (#[v] ++ ag)) w) (hf : ∀ ag w, (callFunc f ag).run P w = .ok (.enter f ag) w)
    (h : Meets P (.val (.fn (.func f) [] [])) (s :: args) S R) : Meets P (.meth (.ifc t s) name) args S R := by
  intro J ℓ w hG hJ
  obtain ⟨nx, h1, h2⟩ := h J ℓ w hG hJ
  refine ⟨nx, ?_, h2⟩
  rw [← h1]
  simp only [Cal.sem, SV.den, SV.denL, Deferred.ofValue, Sem.run_bind, Sem.run_pure, Result.andThen_ok, invoke]
  rw [hf]
  have e1 : (#[Value.iface t (s.den ℓ)] ++ (SV.denL ℓ args).toArray)[0]? = some (Value.iface t (s.den ℓ)) := by simp
  have e2 : (#[Value.iface t (s.den ℓ)] ++ (SV.denL ℓ args).toArray).extract 1 (#[Value.iface t (s.den ℓ)] ++ (SV.denL ℓ args).toArray).size = (SV.denL ℓ args).toArray := by
    apply Array.ext'
    simp [Array.toList_extract, List.extract]
  simp only [e1, e2, hm]
  simp

mutual
theorem SV.ren_id {n : Nat} {r : Nat → Nat} (h : ∀ i, i < n → r i = i) : ∀ (s : SV), s.wf n = true → s.ren r = s
  | .v _, _ => rfl
  | .loc i off, hw => by simp only [SV.wf, blt_true] at hw; simp only [SV.ren, h i hw]
  | .fn f first caps, hw => by
    simp only [SV.wf, Bool.and_eq_true] at hw
    simp only [SV.ren, SV.renL_id h first hw.1, SV.renL_id h caps hw.2]
  | .agg cs, hw => by simp only [SV.wf] at hw; simp only [SV.ren, SV.renL_id h cs hw]
  | .tup xs, hw => by simp only [SV.wf] at hw; simp only [SV.ren, SV.renL_id h xs hw]
  | .mp i, hw => by simp only [SV.wf, blt_true] at hw; simp only [SV.ren, h i hw]
  | .ifc t s, hw => by simp only [SV.wf] at hw; simp only [SV.ren, SV.ren_id h s hw]
  | .yld i, hw => by simp only [SV.wf, blt_true] at hw; simp only [SV.ren, h i hw]
theorem SV.renL_id {n : Nat} {r : Nat → Nat} (h : ∀ i, i < n → r i = i) : ∀ (l : List SV), SV.wfL n l = true → SV.renL r l = l
  | [], _ => rfl
  | s :: ss, hw => by
    simp only [SV.wfL, Bool.and_eq_true] at hw
    simp only [SV.renL, SV.ren_id h s hw.1, SV.renL_id h ss hw.2]
 end

theorem envRen_id {n : Nat} {r : Nat → Nat} (h : ∀ i, i < n → r i = i) : ∀ {env : Env}, envWf n env = true → envRen r env = env
  | [], _ => rfl
  | (t, s) :: e, hw => by
    simp only [envWf] at hw
    split at hw
    · rename_i hs; simp only [envRen, SV.ren_id h s hs, envRen_id h hw]
    · cases hw

theorem Blk.ren_id {n : Nat} {r : Nat → Nat} (h : ∀ i, i < n → r i = i) {k : Blk} (hw : k.wf n = true) : k.ren r = k := by
  cases k <;> simp only [Blk.wf, Blk.ren] at hw ⊢
  · rw [SV.renL_id h _ hw]
  · rw [SV.renL_id h _ hw]
  · rw [envRen_id h hw]
  · simp only [blt_true] at hw; rw [h _ hw]

theorem setAll_range (ks own extra : List Blk) (hl : ks.length = own.length) : setAll (own ++ extra) (List.range own.length) ks = ks ++ extra := by
  have hnd : (List.range own.length).Nodup := List.nodup_range
  apply List.ext_getElem?
  intro i
  rcases Nat.lt_or_ge i own.length with h | h
  · have hk : ks[i]? = some (ks[i]'(by omega)) := List.getElem?_eq_getElem (by omega)
    rw [setAll_at _ _ _ i i _ hnd (by simp [h]) hk (by simp; omega), List.getElem?_append_left (by omega), hk]
  · rw [setAll_other _ _ _ i (by simp; omega), List.getElem?_append_right h, List.getElem?_append_right (by omega), hl]

/-- At a call that is handed the first own blocks, as they stand, and some of the slices that may grow. -/
theorem Meets.frame0 {P : Program} {cl : Cal} {args : List SV} {own : List Blk} {accs : List Acc} {rs : List (Value × D)} {R : Out → St → Prop} {S : St} {K : Out → St → Prop} (h : Meets P cl args ⟨own, accs, rs⟩ R) (extra : List Blk) (rest : List Acc) (hS : S.own = own ++ extra) (hac : S.accs.Perm (accs ++ rest))
    (hown : ∀ k ∈ own, k.wf own.length = true) (hrs : ∀ p ∈ rs, p ∈ S.reps) (hargs : SV.wfL own.length args = true) (hcl : cl.wf own.length = true)
    (k : ∀ o s', R o s' → s'.own.map Blk.mut = own.map Blk.mut ∧ K o ⟨s'.own ++ extra, s'.accs ++ rest, S.reps ++ s'.reps⟩) : Meets P cl args S K := by
  have hid : ∀ i, i < own.length → rixN (List.range own.length) S.own.length i = i := fun i hi => by simp [rixN, hi, List.getD]
  refine Meets.frameG (rest := rest) h (List.range own.length) ?_ (SV.renL_id hid args hargs).symm hac List.nodup_range (by simp) ?_ hrs (by simpa using hargs) (by simpa using hcl) ?_
  · cases cl with
    | val F => simp only [Cal.ren]; rw [SV.ren_id hid F hcl]
    | meth x name => simp only [Cal.ren]; rw [SV.ren_id hid x hcl]
  · intro p q hp
    have hlt : p < own.length := (List.getElem?_eq_some_iff.1 hp).1
    have hw := hown q (List.mem_of_getElem? hp)
    refine ⟨p, by simp [hlt], ?_, by simpa using hw⟩
    rw [hS, List.getElem?_append_left hlt, hp, Blk.ren_id (fun i hi => by simp [rixN, hi, List.getD]) hw]
  · intro o s' hR hwo hws
    obtain ⟨hm, hK⟩ := k o s' hR
    have hl : s'.own.length = own.length := by simpa using congrArg List.length hm
    refine ⟨s'.own, [], by simp, hm, ?_⟩
    have e1 : s'.own.map (Blk.ren (rixN (List.range own.length) S.own.length)) = s'.own := by
      have := List.map_congr_left (f := Blk.ren (rixN (List.range own.length) S.own.length)) (g := id) (l := s'.own) (fun q hq => Blk.ren_id (n := s'.own.length) (by rw [hl]; exact hid) (hws q hq))
      rw [this, List.map_id]
    have e2 : o.ren (rixN (List.range own.length) S.own.length) = o := by
      cases o with
      | ret x => simp only [Out.ren]; rw [SV.ren_id (n := s'.own.length) (by rw [hl]; exact hid) x hwo]
      | pan x => simp only [Out.ren]; rw [SV.ren_id (n := s'.own.length) (by rw [hl]; exact hid) x hwo]
    rw [e1, e2, hS, setAll_range _ _ _ hl]
    simpa using hK

/-- The end of a function: own blocks and what may grow stay in hand. -/
theorem ret_keep {m : Nat} {o : Out} {S : St} {R : Out → St → Prop} (own : List Blk) (h1 : S.own.take own.length = own) (hm : Nat.beq own.length m = true) (hle : Nat.ble own.length S.own.length = true) (hwf : wfB own.length own = true) (ho : o.wf own.length = true) (h : R o ⟨own, S.accs, []⟩) : AtRet m o S R :=
  ⟨⟨own, S.accs, []⟩, StLe.of h1 (List.Sublist.refl _) (by simp) hle hwf, Nat.le_of_eq (Nat.eq_of_beq_eq_true hm).symm, ho, h⟩

theorem Good.nilAcc {J : Nat → Prop} {ℓ : List Base} {own : List Blk} {accs : List Acc} {rs : List (Value × D)} {w : World} (k : Nat) (T : TypeId) (h : Good J ℓ ⟨own, accs, rs⟩ w) : Good J ℓ ⟨own, ⟨.slice none 0 0, k, T, []⟩ :: accs, rs⟩ w := by
  have hm : mutS ℓ ⟨own, ⟨.slice none 0 0, k, T, []⟩ :: accs, rs⟩ = mutS ℓ ⟨own, accs, rs⟩ := by simp [mutS, accBlk]
  refine ⟨h.len, by rw [hm]; exact h.nodup, by rw [hm]; exact h.lt, by rw [hm]; exact h.memJ, h.wf, by rw [hm]; exact h.own, ?_, by rw [hm]; exact h.reps⟩
  rw [hm]
  intro a ha
  rcases List.mem_cons.1 ha with e | e
  · subst e; exact .inl ⟨rfl, rfl⟩
  · exact h.accs a e

/-- A slice that is nil may grow. -/
theorem Meets.nilAcc {P : Program} {cl : Cal} {args : List SV} {own : List Blk} {accs : List Acc} {rs : List (Value × D)} {R : Out → St → Prop} (k : Nat) (T : TypeId) (h : Meets P cl args ⟨own, ⟨.slice none 0 0, k, T, []⟩ :: accs, rs⟩ R) : Meets P cl args ⟨own, accs, rs⟩ R := by
  intro J ℓ w hG hJ
  have hm : mutS ℓ ⟨own, ⟨.slice none 0 0, k, T, []⟩ :: accs, rs⟩ = mutS ℓ ⟨own, accs, rs⟩ := by simp [mutS, accBlk]
  obtain ⟨nx, h1, h2⟩ := h J ℓ w (hG.nilAcc k T) hJ
  refine ⟨nx, h1, h2.mono ?_⟩
  rintro e w' ⟨ℓ', o, S', a1, a2, a3, a4, a5, a6, a7⟩
  rw [hm] at a4 a6
  exact ⟨ℓ', o, S', a1, a2, a3, a4, a5, a6, a7⟩

theorem StLe.nilAcc {S : St} {own : List Blk} {accs : List Acc} {rs : List (Value × D)} (k : Nat) (T : TypeId) (h : StLe S ⟨own, accs, rs⟩) : StLe S ⟨own, ⟨.slice none 0 0, k, T, []⟩ :: accs, rs⟩ := by
  refine ⟨h.1, fun J ℓ w hG => ?_⟩
  have hm : ∀ ℓ, mutS ℓ ⟨own, ⟨.slice none 0 0, k, T, []⟩ :: accs, rs⟩ = mutS ℓ ⟨own, accs, rs⟩ := by intro ℓ; simp [mutS, accBlk]
  obtain ⟨h1, h2⟩ := h.2 J ℓ w hG
  exact ⟨h1.nilAcc k T, by rw [hm]; exact h2⟩

/-- What reads as a slice is one. -/
def isSl : Value × D → Prop
  | (v, .sl _ ds) => ∃ a c, v = .slice a ds.length c ∧ ds.length ≤ c ∧ ds.length ≤ 1152921504606846976
  | _ => True

theorem isSl_of_rep {J : Nat → Prop} {w : World} {p : Value × D} (h : Rep J w p.1 p.2) : isSl p := by
  obtain ⟨v, d⟩ := p
  cases d with
  | sl k ds =>
    simp only [Rep, RepC] at h
    obtain ⟨a, cap, heq, hle, _⟩ := h
    simp only [List.cons.injEq, and_true] at heq
    exact ⟨a, cap, heq, hle.1, hle.2⟩
  | _ => trivial

/-- A contract's slices are slices. -/
theorem Pure.opened {P : Program} {cl : Cal} {args : List SV} {rs : List (Value × D)} {R : SV → List (Value × D) → Prop} (h : Pure P cl args rs R) : Pure P cl args rs (fun r out => R r out ∧ ∀ p ∈ out, isSl p) := by
  intro J ℓ w hG hJ
  obtain ⟨nx, h1, h2⟩ := h J ℓ w hG hJ
  refine ⟨nx, h1, h2.mono ?_⟩
  rintro e w' ⟨ℓ', o, S', a1, a2, a3, a4, a5, a6, r, out, rfl, rfl, hr, hR⟩
  exact ⟨ℓ', _, _, a1, a2, a3, a4, a5, a6, r, out, rfl, rfl, hr, hR, fun p hp => isSl_of_rep (a5.reps p hp)⟩

end Go.Tr
end

/-! Tm -/
section
namespace Go.Proofs.YtogicnodmgdnbaaGreat
open Go.Tr Go

inductive Tm where
  | mk (op hd n : Int) (args : List Tm)

def Tm.op : Tm → Int | .mk o _ _ _ => o
def Tm.hd : Tm → Int | .mk _ h _ _ => h
def Tm.n : Tm → Int | .mk _ _ n _ => n
def Tm.args : Tm → List Tm | .mk _ _ _ a => a

mutual
def Tm.enc : Tm → D
  | .mk o h n a => .agg [.int .i64 o, .int .i64 h, .int .i64 n, .sl 4 (Tm.encL a)]
def Tm.encL : List Tm → List D
  | [] => []
  | t :: ts => t.enc :: Tm.encL ts
 end

theorem Tm.encL_eq : ∀ (l : List Tm), Tm.encL l = l.map Tm.enc
  | [] => rfl
  | t :: ts => by simp only [Tm.encL, List.map_cons, Tm.encL_eq ts]
theorem Tm.encL_length (l : List Tm) : (Tm.encL l).length = l.length := by simp [Tm.encL_eq]
theorem Tm.encL_get {l : List Tm} {i : Nat} {t : Tm} (h : l[i]? = some t) : (Tm.encL l)[i]? = some (.agg [.int .i64 t.op, .int .i64 t.hd, .int .i64 t.n, .sl 4 (Tm.encL t.args)]) := by
  rw [Tm.encL_eq, List.getElem?_map, h]; cases t; rfl

/-- Induction over a term: what holds of all its Args holds of it. -/
theorem Tm.ind {motive : Tm → Prop} (h : ∀ t, (∀ x ∈ t.args, motive x) → motive t) (t : Tm) : motive t := by
  induction t using Tm.rec (motive_2 := fun ts => ∀ x ∈ ts, motive x) with
  | nil => rename_i x hx; cases hx
  | cons t ts ih1 ih2 => rename_i x hx; rcases List.mem_cons.1 hx with e | e; (subst e; exact ih1); exact ih2 x e
  | mk op hd n args ih => exact h _ ih

/-- A term's slice, as the machine has it. -/
abbrev tmS (t : Tm) (a : Option Addr) (c : Nat) : SV := .agg [.v (.int .i64 t.op), .v (.int .i64 t.hd), .v (.int .i64 t.n), .v (.slice a (Tm.encL t.args).length c)]
abbrev tmR (t : Tm) (a : Option Addr) (c : Nat) : Value × D := (.slice a (Tm.encL t.args).length c, .sl 4 (Tm.encL t.args))
abbrev iS (n : Int) : SV := .v (.int .i64 n)
abbrev bS (b : Bool) : SV := .v (.bool b)
abbrev fnS (f : Nat) : Cal := .val (.fn (.func f) [] [])

/-- What a node shows by itself. -/
def okNode (op hd n : Int) (len : Nat) : Bool :=
  if op = 1 then decide ((hd = 0 ∧ n = 0) ∧ len = 0)
  else if op = 2 then decide ((hd = 0 ∧ n = 0) ∧ len = 2)
  else if op = 3 then decide ((hd = 0 ∧ n = 0) ∧ len = 1)
  else if op = 4 then decide (((1 ≤ hd ∧ hd ≤ 3) ∧ 0 ≤ n) ∧ n ≤ 9999)
  else false

mutual
def properF : Tm → Int → Int → Bool × Int
  | .mk op hd n args, depth, k =>
    if 600 < k + 1 ∨ 40 < depth then (false, k + 1)
    else if okNode op hd n args.length = true then properL args (depth + 1) (k + 1) else (false, k + 1)
def properL : List Tm → Int → Int → Bool × Int
  | [], _, k => (true, k)
  | t :: ts, depth, k => match properF t depth k with
    | (true, k') => properL ts depth k'
    | (false, k') => (false, k')
 end

theorem properF_eq (t : Tm) (depth k : Int) : properF t depth k = if 600 < k + 1 ∨ 40 < depth then (false, k + 1)
    else if okNode t.op t.hd t.n t.args.length = true then properL t.args (depth + 1) (k + 1) else (false, k + 1) := by
  cases t; rfl

theorem properF_le (t : Tm) : ∀ (depth k : Int), 0 ≤ k → k ≤ 600 → k ≤ (properF t depth k).2 ∧ (properF t depth k).2 ≤ 601 ∧ ((properF t depth k).1 = true → (properF t depth k).2 ≤ 600) := by
  induction t using Tm.ind with
  | h t ih =>
    intro depth k h1 h2
    have hl : ∀ (ts : List Tm), (∀ x ∈ ts, x ∈ t.args) → ∀ (depth k : Int), 0 ≤ k → k ≤ 600 → k ≤ (properL ts depth k).2 ∧ (properL ts depth k).2 ≤ 601 ∧ ((properL ts depth k).1 = true → (properL ts depth k).2 ≤ 600) := by
      intro ts
      induction ts with
      | nil => intro _ depth k h1 h2; simp only [properL]; exact ⟨Int.le_refl _, by omega, fun _ => h2⟩
      | cons x ts ihl =>
        intro hx depth k h1 h2
        have hx1 := ih x (hx x (by simp)) depth k h1 h2
        simp only [properL]
        cases hp : properF x depth k with
        | mk b k' =>
          rw [hp] at hx1
          cases b with
          | true =>
            have := ihl (fun y hy => hx y (by simp [hy])) depth k' (by simp at hx1; omega) (hx1.2.2 rfl)
            simp only at hx1 ⊢
            exact ⟨by omega, this.2.1, this.2.2⟩
          | false => simpa using hx1
    rw [properF_eq]
    split
    · exact ⟨by simp only; omega, by simp only; omega, fun h => by simp at h⟩
    · split
      · have := hl t.args (fun _ h => h) (depth + 1) (k + 1) (by omega) (by omega)
        exact ⟨by omega, this.2.1, this.2.2⟩
      · exact ⟨by simp; omega, by simp; omega, by simp⟩

end Go.Proofs.YtogicnodmgdnbaaGreat
end

/-! Base -/
section
namespace Go.Proofs.YtogicnodmgdnbaaGreat
open Go.Tr Go
theorem mixed : Tryz.prog.follows .mixedOrders = true := by kernel_rfl

/-- Two bools are compared. -/
theorem at_boolNe {x y : Operand} {a b : Bool} {S : St} {K : SV → St → Prop} (h : K (bS (a != b)) S) : AtPure Tryz.prog (fun ℓ => do eqGuard .neq 4 x y ((bS a).den ℓ) ((bS b).den ℓ); binOp .neq 4 ((bS a).den ℓ) ((bS b).den ℓ)) S K := by
  refine AtPure.val _ rfl (fun ℓ w => ?_) h
  cases a <;> cases b <;> kernel_rfl
end Go.Proofs.YtogicnodmgdnbaaGreat
end
