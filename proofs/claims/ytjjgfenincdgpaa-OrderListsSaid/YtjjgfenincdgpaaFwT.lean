/- The types of the seat, as the framework wants them (written by gen_ty.py). No condition. -/
import Derived.Test.YtjjgfenincdgpaaFwL
import Derived.Test.YtjjgfenincdgpaaProg
namespace Go.Proofs.Ytjjgfenincdgpaa
open Go.Tr

theorem ty22 : TyOK Try.prog 22 (.slice 24 4) := ⟨⟨Try.isAgg22, Try.sizeOf22, Try.zeroValue22, rfl⟩, Try.underlying22, Try.sizeOf24⟩
theorem ty23 : TyOK Try.prog 23 (.struct [0, 1, 2, 3] [1, 1, 1, 1] [Go.Value.int Go.IntKind.i64 0, Go.Value.int Go.IntKind.i64 0, Go.Value.int Go.IntKind.i64 0, Go.Value.slice none 0 0]) := tyStruct Try.isAgg23 Try.sizeOf23 Try.zeroValue23 Try.underlying23 rfl ⟨⟨rfl, Try.sizeOf3⟩, ⟨rfl, Try.sizeOf3⟩, ⟨rfl, Try.sizeOf3⟩, ⟨rfl, Try.sizeOf22⟩, trivial⟩
theorem ty24 : TyOK Try.prog 24 (.struct [0, 1, 2, 3] [1, 1, 1, 1] [Go.Value.int Go.IntKind.i64 0, Go.Value.int Go.IntKind.i64 0, Go.Value.int Go.IntKind.i64 0, Go.Value.slice none 0 0]) := tyStruct Try.isAgg24 Try.sizeOf24 Try.zeroValue24 Try.underlying24 rfl ⟨⟨rfl, Try.sizeOf3⟩, ⟨rfl, Try.sizeOf3⟩, ⟨rfl, Try.sizeOf3⟩, ⟨rfl, Try.sizeOf22⟩, trivial⟩
theorem ty39 : TyOK Try.prog 39 (.slice 41 3) := ⟨⟨Try.isAgg39, Try.sizeOf39, Try.zeroValue39, rfl⟩, Try.underlying39, Try.sizeOf41⟩
theorem ty40 : TyOK Try.prog 40 (.struct [0, 1, 2] [1, 1, 1] [Go.Value.int Go.IntKind.i64 0, Go.Value.int Go.IntKind.i64 0, Go.Value.slice none 0 0]) := tyStruct Try.isAgg40 Try.sizeOf40 Try.zeroValue40 Try.underlying40 rfl ⟨⟨rfl, Try.sizeOf3⟩, ⟨rfl, Try.sizeOf3⟩, ⟨rfl, Try.sizeOf39⟩, trivial⟩
theorem ty41 : TyOK Try.prog 41 (.struct [0, 1, 2] [1, 1, 1] [Go.Value.int Go.IntKind.i64 0, Go.Value.int Go.IntKind.i64 0, Go.Value.slice none 0 0]) := tyStruct Try.isAgg41 Try.sizeOf41 Try.zeroValue41 Try.underlying41 rfl ⟨⟨rfl, Try.sizeOf3⟩, ⟨rfl, Try.sizeOf3⟩, ⟨rfl, Try.sizeOf39⟩, trivial⟩
theorem ty50 : TyOK Try.prog 50 (.slice 3 1) := ⟨⟨Try.isAgg50, Try.sizeOf50, Try.zeroValue50, rfl⟩, Try.underlying50, Try.sizeOf3⟩
theorem ty53 : TyOK Try.prog 53 (.struct [0, 1] [1, 1] [Go.Value.int Go.IntKind.i64 0, Go.Value.int Go.IntKind.i64 0]) := tyStruct Try.isAgg53 Try.sizeOf53 Try.zeroValue53 Try.underlying53 rfl ⟨⟨rfl, Try.sizeOf3⟩, ⟨rfl, Try.sizeOf3⟩, trivial⟩
theorem ty54 : TyOK Try.prog 54 (.struct [0, 1] [1, 1] [Go.Value.int Go.IntKind.i64 0, Go.Value.int Go.IntKind.i64 0]) := tyStruct Try.isAgg54 Try.sizeOf54 Try.zeroValue54 Try.underlying54 rfl ⟨⟨rfl, Try.sizeOf3⟩, ⟨rfl, Try.sizeOf3⟩, trivial⟩
theorem ty83 : TyOK Try.prog 83 (.slice 66 1) := ⟨⟨Try.isAgg83, Try.sizeOf83, Try.zeroValue83, rfl⟩, Try.underlying83, Try.sizeOf66⟩
theorem ty84 : TyOK Try.prog 84 (.slice 66 1) := ⟨⟨Try.isAgg84, Try.sizeOf84, Try.zeroValue84, rfl⟩, Try.underlying84, Try.sizeOf66⟩
theorem ty85 : TyOK Try.prog 85 (.slice 66 1) := ⟨⟨Try.isAgg85, Try.sizeOf85, Try.zeroValue85, rfl⟩, Try.underlying85, Try.sizeOf66⟩
theorem ty103 : TyOK Try.prog 103 (.struct [0, 1] [1, 1] [Go.Value.int Go.IntKind.i64 0, Go.Value.slice none 0 0]) := tyStruct Try.isAgg103 Try.sizeOf103 Try.zeroValue103 Try.underlying103 rfl ⟨⟨rfl, Try.sizeOf3⟩, ⟨rfl, Try.sizeOf50⟩, trivial⟩
theorem ty104 : TyOK Try.prog 104 (.struct [0, 1] [1, 1] [Go.Value.int Go.IntKind.i64 0, Go.Value.slice none 0 0]) := tyStruct Try.isAgg104 Try.sizeOf104 Try.zeroValue104 Try.underlying104 rfl ⟨⟨rfl, Try.sizeOf3⟩, ⟨rfl, Try.sizeOf50⟩, trivial⟩
theorem ty145 : TyOK Try.prog 145 (.struct [0, 1, 2, 3, 4, 5, 6, 7, 8, 9, 10] [1, 1, 1, 1, 1, 1, 1, 1, 1, 1, 1] [Go.Value.int Go.IntKind.u64 0, Go.Value.int Go.IntKind.u64 0, Go.Value.int Go.IntKind.u32 0, Go.Value.int Go.IntKind.u8 0, Go.Value.int Go.IntKind.u8 0, Go.Value.int Go.IntKind.u8 0, Go.Value.int Go.IntKind.u8 0, Go.Value.nilFunc, Go.Value.pointer none, Go.Value.int Go.IntKind.i32 0, Go.Value.int Go.IntKind.i32 0]) := tyStruct Try.isAgg145 Try.sizeOf145 Try.zeroValue145 Try.underlying145 rfl ⟨⟨rfl, Try.sizeOf12⟩, ⟨rfl, Try.sizeOf12⟩, ⟨rfl, Try.sizeOf122⟩, ⟨rfl, Try.sizeOf139⟩, ⟨rfl, Try.sizeOf5⟩, ⟨rfl, Try.sizeOf5⟩, ⟨rfl, Try.sizeOf140⟩, ⟨rfl, Try.sizeOf141⟩, ⟨rfl, Try.sizeOf142⟩, ⟨rfl, Try.sizeOf143⟩, ⟨rfl, Try.sizeOf144⟩, trivial⟩
theorem ty146 : TyOK Try.prog 146 (.struct [0, 1, 2, 3, 4, 5, 6, 7, 8, 9, 10] [1, 1, 1, 1, 1, 1, 1, 1, 1, 1, 1] [Go.Value.int Go.IntKind.u64 0, Go.Value.int Go.IntKind.u64 0, Go.Value.int Go.IntKind.u32 0, Go.Value.int Go.IntKind.u8 0, Go.Value.int Go.IntKind.u8 0, Go.Value.int Go.IntKind.u8 0, Go.Value.int Go.IntKind.u8 0, Go.Value.nilFunc, Go.Value.pointer none, Go.Value.int Go.IntKind.i32 0, Go.Value.int Go.IntKind.i32 0]) := tyStruct Try.isAgg146 Try.sizeOf146 Try.zeroValue146 Try.underlying146 rfl ⟨⟨rfl, Try.sizeOf12⟩, ⟨rfl, Try.sizeOf12⟩, ⟨rfl, Try.sizeOf122⟩, ⟨rfl, Try.sizeOf139⟩, ⟨rfl, Try.sizeOf5⟩, ⟨rfl, Try.sizeOf5⟩, ⟨rfl, Try.sizeOf140⟩, ⟨rfl, Try.sizeOf141⟩, ⟨rfl, Try.sizeOf142⟩, ⟨rfl, Try.sizeOf143⟩, ⟨rfl, Try.sizeOf144⟩, trivial⟩
theorem ty1 : TyOK Try.prog 1 (.cell Go.Value.nilFunc) := ⟨Try.isAgg1, Try.sizeOf1, Try.zeroValue1, rfl⟩
theorem ty2 : TyOK Try.prog 2 (.cell (Go.Value.int Go.IntKind.i64 0)) := ⟨Try.isAgg2, Try.sizeOf2, Try.zeroValue2, rfl⟩
theorem ty3 : TyOK Try.prog 3 (.cell (Go.Value.int Go.IntKind.i64 0)) := ⟨Try.isAgg3, Try.sizeOf3, Try.zeroValue3, rfl⟩
theorem ty4 : TyOK Try.prog 4 (.cell (Go.Value.bool false)) := ⟨Try.isAgg4, Try.sizeOf4, Try.zeroValue4, rfl⟩
theorem ty5 : TyOK Try.prog 5 (.cell (Go.Value.int Go.IntKind.u8 0)) := ⟨Try.isAgg5, Try.sizeOf5, Try.zeroValue5, rfl⟩
theorem ty6 : TyOK Try.prog 6 (.cell (Go.Value.int Go.IntKind.u8 0)) := ⟨Try.isAgg6, Try.sizeOf6, Try.zeroValue6, rfl⟩
theorem ty9 : TyOK Try.prog 9 (.str) := ⟨⟨Try.isAgg9, Try.sizeOf9, Try.zeroValue9, rfl⟩, Try.underlying9⟩
theorem ty10 : TyOK Try.prog 10 (.str) := ⟨⟨Try.isAgg10, Try.sizeOf10, Try.zeroValue10, rfl⟩, Try.underlying10⟩
theorem ty11 : TyOK Try.prog 11 (.str) := ⟨⟨Try.isAgg11, Try.sizeOf11, Try.zeroValue11, rfl⟩, Try.underlying11⟩
theorem ty12 : TyOK Try.prog 12 (.cell (Go.Value.int Go.IntKind.u64 0)) := ⟨Try.isAgg12, Try.sizeOf12, Try.zeroValue12, rfl⟩
theorem ty15 : TyOK Try.prog 15 (.cell (Go.Value.pointer none)) := ⟨Try.isAgg15, Try.sizeOf15, Try.zeroValue15, rfl⟩
theorem ty16 : TyOK Try.prog 16 (.cell (Go.Value.pointer none)) := ⟨Try.isAgg16, Try.sizeOf16, Try.zeroValue16, rfl⟩
theorem ty17 : TyOK Try.prog 17 (.cell (Go.Value.pointer none)) := ⟨Try.isAgg17, Try.sizeOf17, Try.zeroValue17, rfl⟩
theorem ty20 : TyOK Try.prog 20 (.cell Go.Value.nilIface) := ⟨Try.isAgg20, Try.sizeOf20, Try.zeroValue20, rfl⟩
theorem ty21 : TyOK Try.prog 21 (.cell (Go.Value.int Go.IntKind.i32 0)) := ⟨Try.isAgg21, Try.sizeOf21, Try.zeroValue21, rfl⟩
theorem ty25 : TyOK Try.prog 25 (.cell (Go.Value.int Go.IntKind.i64 0)) := ⟨Try.isAgg25, Try.sizeOf25, Try.zeroValue25, rfl⟩
theorem ty27 : TyOK Try.prog 27 (.cell Go.Value.nilFunc) := ⟨Try.isAgg27, Try.sizeOf27, Try.zeroValue27, rfl⟩
theorem ty28 : TyOK Try.prog 28 (.cell Go.Value.nilFunc) := ⟨Try.isAgg28, Try.sizeOf28, Try.zeroValue28, rfl⟩
theorem ty29 : TyOK Try.prog 29 (.cell Go.Value.nilFunc) := ⟨Try.isAgg29, Try.sizeOf29, Try.zeroValue29, rfl⟩
theorem ty30 : TyOK Try.prog 30 (.cell Go.Value.nilFunc) := ⟨Try.isAgg30, Try.sizeOf30, Try.zeroValue30, rfl⟩
theorem ty31 : TyOK Try.prog 31 (.cell Go.Value.nilFunc) := ⟨Try.isAgg31, Try.sizeOf31, Try.zeroValue31, rfl⟩
theorem ty33 : TyOK Try.prog 33 (.cell Go.Value.nilFunc) := ⟨Try.isAgg33, Try.sizeOf33, Try.zeroValue33, rfl⟩
theorem ty34 : TyOK Try.prog 34 (.cell Go.Value.nilFunc) := ⟨Try.isAgg34, Try.sizeOf34, Try.zeroValue34, rfl⟩
theorem ty36 : TyOK Try.prog 36 (.cell Go.Value.nilFunc) := ⟨Try.isAgg36, Try.sizeOf36, Try.zeroValue36, rfl⟩
theorem ty37 : TyOK Try.prog 37 (.cell Go.Value.nilFunc) := ⟨Try.isAgg37, Try.sizeOf37, Try.zeroValue37, rfl⟩
theorem ty38 : TyOK Try.prog 38 (.cell Go.Value.nilFunc) := ⟨Try.isAgg38, Try.sizeOf38, Try.zeroValue38, rfl⟩
theorem ty42 : TyOK Try.prog 42 (.arr 2 3 1 [Go.Value.int Go.IntKind.i64 0, Go.Value.int Go.IntKind.i64 0]) := ⟨Try.isAgg42, Try.sizeOf42, Try.zeroValue42, Try.underlying42, Try.sizeOf3⟩
theorem ty43 : TyOK Try.prog 43 (.arr 2 22 1 [Go.Value.slice none 0 0, Go.Value.slice none 0 0]) := ⟨Try.isAgg43, Try.sizeOf43, Try.zeroValue43, Try.underlying43, Try.sizeOf22⟩
theorem ty44 : TyOK Try.prog 44 (.cell Go.Value.nilFunc) := ⟨Try.isAgg44, Try.sizeOf44, Try.zeroValue44, rfl⟩
theorem ty45 : TyOK Try.prog 45 (.cell Go.Value.nilFunc) := ⟨Try.isAgg45, Try.sizeOf45, Try.zeroValue45, rfl⟩
theorem ty46 : TyOK Try.prog 46 (.cell Go.Value.nilFunc) := ⟨Try.isAgg46, Try.sizeOf46, Try.zeroValue46, rfl⟩
theorem ty47 : TyOK Try.prog 47 (.cell Go.Value.nilFunc) := ⟨Try.isAgg47, Try.sizeOf47, Try.zeroValue47, rfl⟩
theorem ty48 : TyOK Try.prog 48 (.cell Go.Value.nilFunc) := ⟨Try.isAgg48, Try.sizeOf48, Try.zeroValue48, rfl⟩
theorem ty49 : TyOK Try.prog 49 (.cell Go.Value.nilFunc) := ⟨Try.isAgg49, Try.sizeOf49, Try.zeroValue49, rfl⟩
theorem ty51 : TyOK Try.prog 51 (.cell Go.Value.nilFunc) := ⟨Try.isAgg51, Try.sizeOf51, Try.zeroValue51, rfl⟩
theorem ty52 : TyOK Try.prog 52 (.cell Go.Value.nilFunc) := ⟨Try.isAgg52, Try.sizeOf52, Try.zeroValue52, rfl⟩
theorem ty55 : TyOK Try.prog 55 (.cell Go.Value.nilFunc) := ⟨Try.isAgg55, Try.sizeOf55, Try.zeroValue55, rfl⟩
theorem ty56 : TyOK Try.prog 56 (.cell Go.Value.nilFunc) := ⟨Try.isAgg56, Try.sizeOf56, Try.zeroValue56, rfl⟩
theorem ty57 : TyOK Try.prog 57 (.cell Go.Value.nilFunc) := ⟨Try.isAgg57, Try.sizeOf57, Try.zeroValue57, rfl⟩
theorem ty58 : TyOK Try.prog 58 (.cell Go.Value.nilFunc) := ⟨Try.isAgg58, Try.sizeOf58, Try.zeroValue58, rfl⟩
theorem ty59 : TyOK Try.prog 59 (.cell Go.Value.nilFunc) := ⟨Try.isAgg59, Try.sizeOf59, Try.zeroValue59, rfl⟩
theorem ty60 : TyOK Try.prog 60 (.cell Go.Value.nilFunc) := ⟨Try.isAgg60, Try.sizeOf60, Try.zeroValue60, rfl⟩
theorem ty61 : TyOK Try.prog 61 (.cell Go.Value.nilFunc) := ⟨Try.isAgg61, Try.sizeOf61, Try.zeroValue61, rfl⟩
theorem ty62 : TyOK Try.prog 62 (.cell Go.Value.nilFunc) := ⟨Try.isAgg62, Try.sizeOf62, Try.zeroValue62, rfl⟩
theorem ty63 : TyOK Try.prog 63 (.cell Go.Value.nilFunc) := ⟨Try.isAgg63, Try.sizeOf63, Try.zeroValue63, rfl⟩
theorem ty64 : TyOK Try.prog 64 (.cell Go.Value.nilFunc) := ⟨Try.isAgg64, Try.sizeOf64, Try.zeroValue64, rfl⟩
theorem ty65 : TyOK Try.prog 65 (.cell Go.Value.nilIface) := ⟨Try.isAgg65, Try.sizeOf65, Try.zeroValue65, rfl⟩
theorem ty66 : TyOK Try.prog 66 (.cell Go.Value.nilIface) := ⟨Try.isAgg66, Try.sizeOf66, Try.zeroValue66, rfl⟩
theorem ty67 : TyOK Try.prog 67 (.cell Go.Value.nilFunc) := ⟨Try.isAgg67, Try.sizeOf67, Try.zeroValue67, rfl⟩
theorem ty68 : TyOK Try.prog 68 (.cell Go.Value.nilFunc) := ⟨Try.isAgg68, Try.sizeOf68, Try.zeroValue68, rfl⟩
theorem ty69 : TyOK Try.prog 69 (.cell Go.Value.nilFunc) := ⟨Try.isAgg69, Try.sizeOf69, Try.zeroValue69, rfl⟩
theorem ty71 : TyOK Try.prog 71 (.cell Go.Value.nilFunc) := ⟨Try.isAgg71, Try.sizeOf71, Try.zeroValue71, rfl⟩
theorem ty72 : TyOK Try.prog 72 (.cell Go.Value.nilFunc) := ⟨Try.isAgg72, Try.sizeOf72, Try.zeroValue72, rfl⟩
theorem ty73 : TyOK Try.prog 73 (.cell Go.Value.nilFunc) := ⟨Try.isAgg73, Try.sizeOf73, Try.zeroValue73, rfl⟩
theorem ty74 : TyOK Try.prog 74 (.cell Go.Value.nilFunc) := ⟨Try.isAgg74, Try.sizeOf74, Try.zeroValue74, rfl⟩
theorem ty75 : TyOK Try.prog 75 (.cell Go.Value.nilFunc) := ⟨Try.isAgg75, Try.sizeOf75, Try.zeroValue75, rfl⟩
theorem ty76 : TyOK Try.prog 76 (.cell Go.Value.nilFunc) := ⟨Try.isAgg76, Try.sizeOf76, Try.zeroValue76, rfl⟩
theorem ty77 : TyOK Try.prog 77 (.cell Go.Value.nilFunc) := ⟨Try.isAgg77, Try.sizeOf77, Try.zeroValue77, rfl⟩
theorem ty79 : TyOK Try.prog 79 (.cell Go.Value.nilFunc) := ⟨Try.isAgg79, Try.sizeOf79, Try.zeroValue79, rfl⟩
theorem ty80 : TyOK Try.prog 80 (.cell Go.Value.nilFunc) := ⟨Try.isAgg80, Try.sizeOf80, Try.zeroValue80, rfl⟩
theorem ty81 : TyOK Try.prog 81 (.cell Go.Value.nilFunc) := ⟨Try.isAgg81, Try.sizeOf81, Try.zeroValue81, rfl⟩
theorem ty82 : TyOK Try.prog 82 (.cell (Go.Value.int Go.IntKind.i64 0)) := ⟨Try.isAgg82, Try.sizeOf82, Try.zeroValue82, rfl⟩
theorem ty86 : TyOK Try.prog 86 (.cell Go.Value.nilFunc) := ⟨Try.isAgg86, Try.sizeOf86, Try.zeroValue86, rfl⟩
theorem ty87 : TyOK Try.prog 87 (.cell Go.Value.nilFunc) := ⟨Try.isAgg87, Try.sizeOf87, Try.zeroValue87, rfl⟩
theorem ty88 : TyOK Try.prog 88 (.cell Go.Value.nilFunc) := ⟨Try.isAgg88, Try.sizeOf88, Try.zeroValue88, rfl⟩
theorem ty89 : TyOK Try.prog 89 (.cell Go.Value.nilFunc) := ⟨Try.isAgg89, Try.sizeOf89, Try.zeroValue89, rfl⟩
theorem ty90 : TyOK Try.prog 90 (.map 3 3) := ⟨⟨Try.isAgg90, Try.sizeOf90, Try.zeroValue90, rfl⟩, Try.underlying90⟩
theorem ty92 : TyOK Try.prog 92 (.cell Go.Value.nilFunc) := ⟨Try.isAgg92, Try.sizeOf92, Try.zeroValue92, rfl⟩
theorem ty93 : TyOK Try.prog 93 (.cell Go.Value.nilFunc) := ⟨Try.isAgg93, Try.sizeOf93, Try.zeroValue93, rfl⟩
theorem ty94 : TyOK Try.prog 94 (.cell Go.Value.nilFunc) := ⟨Try.isAgg94, Try.sizeOf94, Try.zeroValue94, rfl⟩
theorem ty95 : TyOK Try.prog 95 (.map 3 4) := ⟨⟨Try.isAgg95, Try.sizeOf95, Try.zeroValue95, rfl⟩, Try.underlying95⟩
theorem ty96 : TyOK Try.prog 96 (.cell Go.Value.nilFunc) := ⟨Try.isAgg96, Try.sizeOf96, Try.zeroValue96, rfl⟩
theorem ty97 : TyOK Try.prog 97 (.cell Go.Value.nilFunc) := ⟨Try.isAgg97, Try.sizeOf97, Try.zeroValue97, rfl⟩
theorem ty98 : TyOK Try.prog 98 (.cell Go.Value.nilFunc) := ⟨Try.isAgg98, Try.sizeOf98, Try.zeroValue98, rfl⟩
theorem ty99 : TyOK Try.prog 99 (.cell Go.Value.nilFunc) := ⟨Try.isAgg99, Try.sizeOf99, Try.zeroValue99, rfl⟩
theorem ty100 : TyOK Try.prog 100 (.cell Go.Value.nilFunc) := ⟨Try.isAgg100, Try.sizeOf100, Try.zeroValue100, rfl⟩
theorem ty101 : TyOK Try.prog 101 (.cell Go.Value.nilFunc) := ⟨Try.isAgg101, Try.sizeOf101, Try.zeroValue101, rfl⟩
theorem ty102 : TyOK Try.prog 102 (.cell (Go.Value.pointer none)) := ⟨Try.isAgg102, Try.sizeOf102, Try.zeroValue102, rfl⟩
theorem ty105 : TyOK Try.prog 105 (.cell Go.Value.nilFunc) := ⟨Try.isAgg105, Try.sizeOf105, Try.zeroValue105, rfl⟩
theorem ty106 : TyOK Try.prog 106 (.cell (Go.Value.pointer none)) := ⟨Try.isAgg106, Try.sizeOf106, Try.zeroValue106, rfl⟩
theorem ty107 : TyOK Try.prog 107 (.cell Go.Value.nilFunc) := ⟨Try.isAgg107, Try.sizeOf107, Try.zeroValue107, rfl⟩
theorem ty108 : TyOK Try.prog 108 (.cell Go.Value.nilFunc) := ⟨Try.isAgg108, Try.sizeOf108, Try.zeroValue108, rfl⟩
theorem ty109 : TyOK Try.prog 109 (.cell Go.Value.nilFunc) := ⟨Try.isAgg109, Try.sizeOf109, Try.zeroValue109, rfl⟩
theorem ty110 : TyOK Try.prog 110 (.cell Go.Value.nilFunc) := ⟨Try.isAgg110, Try.sizeOf110, Try.zeroValue110, rfl⟩
theorem ty111 : TyOK Try.prog 111 (.cell Go.Value.nilFunc) := ⟨Try.isAgg111, Try.sizeOf111, Try.zeroValue111, rfl⟩
theorem ty112 : TyOK Try.prog 112 (.cell Go.Value.nilFunc) := ⟨Try.isAgg112, Try.sizeOf112, Try.zeroValue112, rfl⟩
theorem ty113 : TyOK Try.prog 113 (.cell (Go.Value.int Go.IntKind.u64 0)) := ⟨Try.isAgg113, Try.sizeOf113, Try.zeroValue113, rfl⟩
theorem ty114 : TyOK Try.prog 114 (.cell Go.Value.nilFunc) := ⟨Try.isAgg114, Try.sizeOf114, Try.zeroValue114, rfl⟩
theorem ty115 : TyOK Try.prog 115 (.cell (Go.Value.int Go.IntKind.i64 0)) := ⟨Try.isAgg115, Try.sizeOf115, Try.zeroValue115, rfl⟩
theorem ty117 : TyOK Try.prog 117 (.cell Go.Value.nilFunc) := ⟨Try.isAgg117, Try.sizeOf117, Try.zeroValue117, rfl⟩
theorem ty118 : TyOK Try.prog 118 (.cell Go.Value.nilFunc) := ⟨Try.isAgg118, Try.sizeOf118, Try.zeroValue118, rfl⟩
theorem ty119 : TyOK Try.prog 119 (.cell Go.Value.nilFunc) := ⟨Try.isAgg119, Try.sizeOf119, Try.zeroValue119, rfl⟩
theorem ty120 : TyOK Try.prog 120 (.cell Go.Value.nilFunc) := ⟨Try.isAgg120, Try.sizeOf120, Try.zeroValue120, rfl⟩
theorem ty121 : TyOK Try.prog 121 (.cell Go.Value.nilFunc) := ⟨Try.isAgg121, Try.sizeOf121, Try.zeroValue121, rfl⟩
theorem ty122 : TyOK Try.prog 122 (.cell (Go.Value.int Go.IntKind.u32 0)) := ⟨Try.isAgg122, Try.sizeOf122, Try.zeroValue122, rfl⟩
theorem ty123 : TyOK Try.prog 123 (.cell Go.Value.nilFunc) := ⟨Try.isAgg123, Try.sizeOf123, Try.zeroValue123, rfl⟩
theorem ty124 : TyOK Try.prog 124 (.cell (Go.Value.int Go.IntKind.u64 0)) := ⟨Try.isAgg124, Try.sizeOf124, Try.zeroValue124, rfl⟩
theorem ty125 : TyOK Try.prog 125 (.cell (Go.Value.int Go.IntKind.u64 0)) := ⟨Try.isAgg125, Try.sizeOf125, Try.zeroValue125, rfl⟩
theorem ty126 : TyOK Try.prog 126 (.cell Go.Value.nilFunc) := ⟨Try.isAgg126, Try.sizeOf126, Try.zeroValue126, rfl⟩
theorem ty127 : TyOK Try.prog 127 (.cell Go.Value.nilFunc) := ⟨Try.isAgg127, Try.sizeOf127, Try.zeroValue127, rfl⟩
theorem ty128 : TyOK Try.prog 128 (.cell Go.Value.nilFunc) := ⟨Try.isAgg128, Try.sizeOf128, Try.zeroValue128, rfl⟩
theorem ty129 : TyOK Try.prog 129 (.cell Go.Value.nilFunc) := ⟨Try.isAgg129, Try.sizeOf129, Try.zeroValue129, rfl⟩
theorem ty130 : TyOK Try.prog 130 (.cell (Go.Value.pointer none)) := ⟨Try.isAgg130, Try.sizeOf130, Try.zeroValue130, rfl⟩
theorem ty131 : TyOK Try.prog 131 (.cell Go.Value.nilFunc) := ⟨Try.isAgg131, Try.sizeOf131, Try.zeroValue131, rfl⟩
theorem ty132 : TyOK Try.prog 132 (.cell Go.Value.nilFunc) := ⟨Try.isAgg132, Try.sizeOf132, Try.zeroValue132, rfl⟩
theorem ty138 : TyOK Try.prog 138 (.cell Go.Value.nilFunc) := ⟨Try.isAgg138, Try.sizeOf138, Try.zeroValue138, rfl⟩
theorem ty139 : TyOK Try.prog 139 (.cell (Go.Value.int Go.IntKind.u8 0)) := ⟨Try.isAgg139, Try.sizeOf139, Try.zeroValue139, rfl⟩
theorem ty140 : TyOK Try.prog 140 (.cell (Go.Value.int Go.IntKind.u8 0)) := ⟨Try.isAgg140, Try.sizeOf140, Try.zeroValue140, rfl⟩
theorem ty141 : TyOK Try.prog 141 (.cell Go.Value.nilFunc) := ⟨Try.isAgg141, Try.sizeOf141, Try.zeroValue141, rfl⟩
theorem ty142 : TyOK Try.prog 142 (.cell (Go.Value.pointer none)) := ⟨Try.isAgg142, Try.sizeOf142, Try.zeroValue142, rfl⟩
theorem ty143 : TyOK Try.prog 143 (.cell (Go.Value.int Go.IntKind.i32 0)) := ⟨Try.isAgg143, Try.sizeOf143, Try.zeroValue143, rfl⟩
theorem ty144 : TyOK Try.prog 144 (.cell (Go.Value.int Go.IntKind.i32 0)) := ⟨Try.isAgg144, Try.sizeOf144, Try.zeroValue144, rfl⟩
def tyRows : List (Nat × TK) := [(22, .slice 24 4),
  (23, .struct [0, 1, 2, 3] [1, 1, 1, 1] [Go.Value.int Go.IntKind.i64 0, Go.Value.int Go.IntKind.i64 0, Go.Value.int Go.IntKind.i64 0, Go.Value.slice none 0 0]),
  (24, .struct [0, 1, 2, 3] [1, 1, 1, 1] [Go.Value.int Go.IntKind.i64 0, Go.Value.int Go.IntKind.i64 0, Go.Value.int Go.IntKind.i64 0, Go.Value.slice none 0 0]),
  (39, .slice 41 3),
  (40, .struct [0, 1, 2] [1, 1, 1] [Go.Value.int Go.IntKind.i64 0, Go.Value.int Go.IntKind.i64 0, Go.Value.slice none 0 0]),
  (41, .struct [0, 1, 2] [1, 1, 1] [Go.Value.int Go.IntKind.i64 0, Go.Value.int Go.IntKind.i64 0, Go.Value.slice none 0 0]),
  (50, .slice 3 1),
  (53, .struct [0, 1] [1, 1] [Go.Value.int Go.IntKind.i64 0, Go.Value.int Go.IntKind.i64 0]),
  (54, .struct [0, 1] [1, 1] [Go.Value.int Go.IntKind.i64 0, Go.Value.int Go.IntKind.i64 0]),
  (83, .slice 66 1),
  (84, .slice 66 1),
  (85, .slice 66 1),
  (103, .struct [0, 1] [1, 1] [Go.Value.int Go.IntKind.i64 0, Go.Value.slice none 0 0]),
  (104, .struct [0, 1] [1, 1] [Go.Value.int Go.IntKind.i64 0, Go.Value.slice none 0 0]),
  (145, .struct [0, 1, 2, 3, 4, 5, 6, 7, 8, 9, 10] [1, 1, 1, 1, 1, 1, 1, 1, 1, 1, 1] [Go.Value.int Go.IntKind.u64 0, Go.Value.int Go.IntKind.u64 0, Go.Value.int Go.IntKind.u32 0, Go.Value.int Go.IntKind.u8 0, Go.Value.int Go.IntKind.u8 0, Go.Value.int Go.IntKind.u8 0, Go.Value.int Go.IntKind.u8 0, Go.Value.nilFunc, Go.Value.pointer none, Go.Value.int Go.IntKind.i32 0, Go.Value.int Go.IntKind.i32 0]),
  (146, .struct [0, 1, 2, 3, 4, 5, 6, 7, 8, 9, 10] [1, 1, 1, 1, 1, 1, 1, 1, 1, 1, 1] [Go.Value.int Go.IntKind.u64 0, Go.Value.int Go.IntKind.u64 0, Go.Value.int Go.IntKind.u32 0, Go.Value.int Go.IntKind.u8 0, Go.Value.int Go.IntKind.u8 0, Go.Value.int Go.IntKind.u8 0, Go.Value.int Go.IntKind.u8 0, Go.Value.nilFunc, Go.Value.pointer none, Go.Value.int Go.IntKind.i32 0, Go.Value.int Go.IntKind.i32 0]),
  (1, .cell Go.Value.nilFunc),
  (2, .cell (Go.Value.int Go.IntKind.i64 0)),
  (3, .cell (Go.Value.int Go.IntKind.i64 0)),
  (4, .cell (Go.Value.bool false)),
  (5, .cell (Go.Value.int Go.IntKind.u8 0)),
  (6, .cell (Go.Value.int Go.IntKind.u8 0)),
  (9, .str),
  (10, .str),
  (11, .str),
  (12, .cell (Go.Value.int Go.IntKind.u64 0)),
  (15, .cell (Go.Value.pointer none)),
  (16, .cell (Go.Value.pointer none)),
  (17, .cell (Go.Value.pointer none)),
  (20, .cell Go.Value.nilIface),
  (21, .cell (Go.Value.int Go.IntKind.i32 0)),
  (25, .cell (Go.Value.int Go.IntKind.i64 0)),
  (27, .cell Go.Value.nilFunc),
  (28, .cell Go.Value.nilFunc),
  (29, .cell Go.Value.nilFunc),
  (30, .cell Go.Value.nilFunc),
  (31, .cell Go.Value.nilFunc),
  (33, .cell Go.Value.nilFunc),
  (34, .cell Go.Value.nilFunc),
  (36, .cell Go.Value.nilFunc),
  (37, .cell Go.Value.nilFunc),
  (38, .cell Go.Value.nilFunc),
  (42, .arr 2 3 1 [Go.Value.int Go.IntKind.i64 0, Go.Value.int Go.IntKind.i64 0]),
  (43, .arr 2 22 1 [Go.Value.slice none 0 0, Go.Value.slice none 0 0]),
  (44, .cell Go.Value.nilFunc),
  (45, .cell Go.Value.nilFunc),
  (46, .cell Go.Value.nilFunc),
  (47, .cell Go.Value.nilFunc),
  (48, .cell Go.Value.nilFunc),
  (49, .cell Go.Value.nilFunc),
  (51, .cell Go.Value.nilFunc),
  (52, .cell Go.Value.nilFunc),
  (55, .cell Go.Value.nilFunc),
  (56, .cell Go.Value.nilFunc),
  (57, .cell Go.Value.nilFunc),
  (58, .cell Go.Value.nilFunc),
  (59, .cell Go.Value.nilFunc),
  (60, .cell Go.Value.nilFunc),
  (61, .cell Go.Value.nilFunc),
  (62, .cell Go.Value.nilFunc),
  (63, .cell Go.Value.nilFunc),
  (64, .cell Go.Value.nilFunc),
  (65, .cell Go.Value.nilIface),
  (66, .cell Go.Value.nilIface),
  (67, .cell Go.Value.nilFunc),
  (68, .cell Go.Value.nilFunc),
  (69, .cell Go.Value.nilFunc),
  (71, .cell Go.Value.nilFunc),
  (72, .cell Go.Value.nilFunc),
  (73, .cell Go.Value.nilFunc),
  (74, .cell Go.Value.nilFunc),
  (75, .cell Go.Value.nilFunc),
  (76, .cell Go.Value.nilFunc),
  (77, .cell Go.Value.nilFunc),
  (79, .cell Go.Value.nilFunc),
  (80, .cell Go.Value.nilFunc),
  (81, .cell Go.Value.nilFunc),
  (82, .cell (Go.Value.int Go.IntKind.i64 0)),
  (86, .cell Go.Value.nilFunc),
  (87, .cell Go.Value.nilFunc),
  (88, .cell Go.Value.nilFunc),
  (89, .cell Go.Value.nilFunc),
  (90, .map 3 3),
  (92, .cell Go.Value.nilFunc),
  (93, .cell Go.Value.nilFunc),
  (94, .cell Go.Value.nilFunc),
  (95, .map 3 4),
  (96, .cell Go.Value.nilFunc),
  (97, .cell Go.Value.nilFunc),
  (98, .cell Go.Value.nilFunc),
  (99, .cell Go.Value.nilFunc),
  (100, .cell Go.Value.nilFunc),
  (101, .cell Go.Value.nilFunc),
  (102, .cell (Go.Value.pointer none)),
  (105, .cell Go.Value.nilFunc),
  (106, .cell (Go.Value.pointer none)),
  (107, .cell Go.Value.nilFunc),
  (108, .cell Go.Value.nilFunc),
  (109, .cell Go.Value.nilFunc),
  (110, .cell Go.Value.nilFunc),
  (111, .cell Go.Value.nilFunc),
  (112, .cell Go.Value.nilFunc),
  (113, .cell (Go.Value.int Go.IntKind.u64 0)),
  (114, .cell Go.Value.nilFunc),
  (115, .cell (Go.Value.int Go.IntKind.i64 0)),
  (117, .cell Go.Value.nilFunc),
  (118, .cell Go.Value.nilFunc),
  (119, .cell Go.Value.nilFunc),
  (120, .cell Go.Value.nilFunc),
  (121, .cell Go.Value.nilFunc),
  (122, .cell (Go.Value.int Go.IntKind.u32 0)),
  (123, .cell Go.Value.nilFunc),
  (124, .cell (Go.Value.int Go.IntKind.u64 0)),
  (125, .cell (Go.Value.int Go.IntKind.u64 0)),
  (126, .cell Go.Value.nilFunc),
  (127, .cell Go.Value.nilFunc),
  (128, .cell Go.Value.nilFunc),
  (129, .cell Go.Value.nilFunc),
  (130, .cell (Go.Value.pointer none)),
  (131, .cell Go.Value.nilFunc),
  (132, .cell Go.Value.nilFunc),
  (138, .cell Go.Value.nilFunc),
  (139, .cell (Go.Value.int Go.IntKind.u8 0)),
  (140, .cell (Go.Value.int Go.IntKind.u8 0)),
  (141, .cell Go.Value.nilFunc),
  (142, .cell (Go.Value.pointer none)),
  (143, .cell (Go.Value.int Go.IntKind.i32 0)),
  (144, .cell (Go.Value.int Go.IntKind.i32 0))]
def tt : Tab := tabOf tyRows
theorem ttOK : TTOK Try.prog tt := TTOK_cons ty22 (TTOK_cons ty23 (TTOK_cons ty24 (TTOK_cons ty39 (TTOK_cons ty40 (TTOK_cons ty41 (TTOK_cons ty50 (TTOK_cons ty53 (TTOK_cons ty54 (TTOK_cons ty83 (TTOK_cons ty84 (TTOK_cons ty85 (TTOK_cons ty103 (TTOK_cons ty104 (TTOK_cons ty145 (TTOK_cons ty146 (TTOK_cons ty1 (TTOK_cons ty2 (TTOK_cons ty3 (TTOK_cons ty4 (TTOK_cons ty5 (TTOK_cons ty6 (TTOK_cons ty9 (TTOK_cons ty10 (TTOK_cons ty11 (TTOK_cons ty12 (TTOK_cons ty15 (TTOK_cons ty16 (TTOK_cons ty17 (TTOK_cons ty20 (TTOK_cons ty21 (TTOK_cons ty25 (TTOK_cons ty27 (TTOK_cons ty28 (TTOK_cons ty29 (TTOK_cons ty30 (TTOK_cons ty31 (TTOK_cons ty33 (TTOK_cons ty34 (TTOK_cons ty36 (TTOK_cons ty37 (TTOK_cons ty38 (TTOK_cons ty42 (TTOK_cons ty43 (TTOK_cons ty44 (TTOK_cons ty45 (TTOK_cons ty46 (TTOK_cons ty47 (TTOK_cons ty48 (TTOK_cons ty49 (TTOK_cons ty51 (TTOK_cons ty52 (TTOK_cons ty55 (TTOK_cons ty56 (TTOK_cons ty57 (TTOK_cons ty58 (TTOK_cons ty59 (TTOK_cons ty60 (TTOK_cons ty61 (TTOK_cons ty62 (TTOK_cons ty63 (TTOK_cons ty64 (TTOK_cons ty65 (TTOK_cons ty66 (TTOK_cons ty67 (TTOK_cons ty68 (TTOK_cons ty69 (TTOK_cons ty71 (TTOK_cons ty72 (TTOK_cons ty73 (TTOK_cons ty74 (TTOK_cons ty75 (TTOK_cons ty76 (TTOK_cons ty77 (TTOK_cons ty79 (TTOK_cons ty80 (TTOK_cons ty81 (TTOK_cons ty82 (TTOK_cons ty86 (TTOK_cons ty87 (TTOK_cons ty88 (TTOK_cons ty89 (TTOK_cons ty90 (TTOK_cons ty92 (TTOK_cons ty93 (TTOK_cons ty94 (TTOK_cons ty95 (TTOK_cons ty96 (TTOK_cons ty97 (TTOK_cons ty98 (TTOK_cons ty99 (TTOK_cons ty100 (TTOK_cons ty101 (TTOK_cons ty102 (TTOK_cons ty105 (TTOK_cons ty106 (TTOK_cons ty107 (TTOK_cons ty108 (TTOK_cons ty109 (TTOK_cons ty110 (TTOK_cons ty111 (TTOK_cons ty112 (TTOK_cons ty113 (TTOK_cons ty114 (TTOK_cons ty115 (TTOK_cons ty117 (TTOK_cons ty118 (TTOK_cons ty119 (TTOK_cons ty120 (TTOK_cons ty121 (TTOK_cons ty122 (TTOK_cons ty123 (TTOK_cons ty124 (TTOK_cons ty125 (TTOK_cons ty126 (TTOK_cons ty127 (TTOK_cons ty128 (TTOK_cons ty129 (TTOK_cons ty130 (TTOK_cons ty131 (TTOK_cons ty132 (TTOK_cons ty138 (TTOK_cons ty139 (TTOK_cons ty140 (TTOK_cons ty141 (TTOK_cons ty142 (TTOK_cons ty143 (TTOK_cons ty144 (TTOK_nil Try.prog))))))))))))))))))))))))))))))))))))))))))))))))))))))))))))))))))))))))))))))))))))))))))))))))))))))))))))))))))))))))))))))))
end Go.Proofs.Ytjjgfenincdgpaa
