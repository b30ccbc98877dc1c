/- Merged texts: FwT FwM FwN FwO FwP Tm Base SortLay TermA. Conditions stand in each rule. -/
import Derived.Test.YthkgcfplebgolaaGreatQC
import Derived.Test.YthkgcfplebgolaaGreatProg
import Derived.KernelRfl
import Derived.Laws.AppendOwn
import Derived.Laws.Small
import Derived.Laws.Build
import Derived.Shelf.Sort.Plain
set_option linter.unusedSimpArgs false
set_option linter.unusedVariables false

namespace Go.Proofs.YthkgcfplebgolaaGreat
section
open Go.Tr Tryz
theorem ty22 : TyOK Tryz.prog 22 (.slice 165 6) := ⟨⟨isAgg22, sizeOf22, zeroValue22, rfl⟩, underlying22, sizeOf165⟩
theorem ty23 : TyOK Tryz.prog 23 (.slice 43 10) := ⟨⟨isAgg23, sizeOf23, zeroValue23, rfl⟩, underlying23, sizeOf43⟩
theorem ty24 : TyOK Tryz.prog 24 (.slice 46 13) := ⟨⟨isAgg24, sizeOf24, zeroValue24, rfl⟩, underlying24, sizeOf46⟩
theorem ty25 : TyOK Tryz.prog 25 (.struct [0, 1, 2] [1, 1, 1] [.slice none 0 0, .slice none 0 0, .slice none 0 0]) := tyStruct isAgg25 sizeOf25 zeroValue25 underlying25 rfl ⟨⟨rfl, sizeOf22⟩, ⟨rfl, sizeOf23⟩, ⟨rfl, sizeOf24⟩, trivial⟩
theorem ty26 : TyOK Tryz.prog 26 (.struct [0, 1, 2] [1, 1, 1] [.slice none 0 0, .slice none 0 0, .slice none 0 0]) := tyStruct isAgg26 sizeOf26 zeroValue26 underlying26 rfl ⟨⟨rfl, sizeOf22⟩, ⟨rfl, sizeOf23⟩, ⟨rfl, sizeOf24⟩, trivial⟩
theorem ty27 : TyOK Tryz.prog 27 (.struct [0, 1] [1, 1] [.slice none 0 0, .slice none 0 0]) := tyStruct isAgg27 sizeOf27 zeroValue27 underlying27 rfl ⟨⟨rfl, sizeOf23⟩, ⟨rfl, sizeOf24⟩, trivial⟩
theorem ty28 : TyOK Tryz.prog 28 (.struct [0, 1] [1, 1] [.slice none 0 0, .slice none 0 0]) := tyStruct isAgg28 sizeOf28 zeroValue28 underlying28 rfl ⟨⟨rfl, sizeOf23⟩, ⟨rfl, sizeOf24⟩, trivial⟩
theorem ty39 : TyOK Tryz.prog 39 (.slice 41 4) := ⟨⟨isAgg39, sizeOf39, zeroValue39, rfl⟩, underlying39, sizeOf41⟩
theorem ty40 : TyOK Tryz.prog 40 (.struct [0, 1, 2, 3] [1, 1, 1, 1] [.int .i64 0, .int .i64 0, .int .i64 0, .slice none 0 0]) := tyStruct isAgg40 sizeOf40 zeroValue40 underlying40 rfl ⟨⟨rfl, sizeOf3⟩, ⟨rfl, sizeOf3⟩, ⟨rfl, sizeOf3⟩, ⟨rfl, sizeOf39⟩, trivial⟩
theorem ty41 : TyOK Tryz.prog 41 (.struct [0, 1, 2, 3] [1, 1, 1, 1] [.int .i64 0, .int .i64 0, .int .i64 0, .slice none 0 0]) := tyStruct isAgg41 sizeOf41 zeroValue41 underlying41 rfl ⟨⟨rfl, sizeOf3⟩, ⟨rfl, sizeOf3⟩, ⟨rfl, sizeOf3⟩, ⟨rfl, sizeOf39⟩, trivial⟩
theorem ty42 : TyOK Tryz.prog 42 (.struct [0, 1, 5, 6] [1, 4, 1, 4] [.string ⟨#[]⟩, .int .i64 0, .int .i64 0, .int .i64 0, .slice none 0 0, .bool false, .int .i64 0, .int .i64 0, .int .i64 0, .slice none 0 0]) := tyStruct isAgg42 sizeOf42 zeroValue42 underlying42 rfl ⟨⟨rfl, sizeOf9⟩, ⟨rfl, sizeOf41⟩, ⟨rfl, sizeOf4⟩, ⟨rfl, sizeOf41⟩, trivial⟩
theorem ty43 : TyOK Tryz.prog 43 (.struct [0, 1, 5, 6] [1, 4, 1, 4] [.string ⟨#[]⟩, .int .i64 0, .int .i64 0, .int .i64 0, .slice none 0 0, .bool false, .int .i64 0, .int .i64 0, .int .i64 0, .slice none 0 0]) := tyStruct isAgg43 sizeOf43 zeroValue43 underlying43 rfl ⟨⟨rfl, sizeOf9⟩, ⟨rfl, sizeOf41⟩, ⟨rfl, sizeOf4⟩, ⟨rfl, sizeOf41⟩, trivial⟩
theorem ty45 : TyOK Tryz.prog 45 (.struct [0, 1, 5, 9] [1, 4, 4, 4] [.slice none 0 0, .int .i64 0, .int .i64 0, .int .i64 0, .slice none 0 0, .int .i64 0, .int .i64 0, .int .i64 0, .slice none 0 0, .int .i64 0, .int .i64 0, .int .i64 0, .slice none 0 0]) := tyStruct isAgg45 sizeOf45 zeroValue45 underlying45 rfl ⟨⟨rfl, sizeOf39⟩, ⟨rfl, sizeOf41⟩, ⟨rfl, sizeOf41⟩, ⟨rfl, sizeOf41⟩, trivial⟩
theorem ty46 : TyOK Tryz.prog 46 (.struct [0, 1, 5, 9] [1, 4, 4, 4] [.slice none 0 0, .int .i64 0, .int .i64 0, .int .i64 0, .slice none 0 0, .int .i64 0, .int .i64 0, .int .i64 0, .slice none 0 0, .int .i64 0, .int .i64 0, .int .i64 0, .slice none 0 0]) := tyStruct isAgg46 sizeOf46 zeroValue46 underlying46 rfl ⟨⟨rfl, sizeOf39⟩, ⟨rfl, sizeOf41⟩, ⟨rfl, sizeOf41⟩, ⟨rfl, sizeOf41⟩, trivial⟩
theorem ty52 : TyOK Tryz.prog 52 (.struct [0, 1, 5] [1, 4, 4] [.slice none 0 0, .int .i64 0, .int .i64 0, .int .i64 0, .slice none 0 0, .int .i64 0, .int .i64 0, .int .i64 0, .slice none 0 0]) := tyStruct isAgg52 sizeOf52 zeroValue52 underlying52 rfl ⟨⟨rfl, sizeOf39⟩, ⟨rfl, sizeOf41⟩, ⟨rfl, sizeOf41⟩, trivial⟩
theorem ty53 : TyOK Tryz.prog 53 (.struct [0, 1, 5] [1, 4, 4] [.slice none 0 0, .int .i64 0, .int .i64 0, .int .i64 0, .slice none 0 0, .int .i64 0, .int .i64 0, .int .i64 0, .slice none 0 0]) := tyStruct isAgg53 sizeOf53 zeroValue53 underlying53 rfl ⟨⟨rfl, sizeOf39⟩, ⟨rfl, sizeOf41⟩, ⟨rfl, sizeOf41⟩, trivial⟩
theorem ty73 : TyOK Tryz.prog 73 (.slice 3 1) := ⟨⟨isAgg73, sizeOf73, zeroValue73, rfl⟩, underlying73, sizeOf3⟩
theorem ty74 : TyOK Tryz.prog 74 (.struct [0, 1] [1, 1] [.slice none 0 0, .slice none 0 0]) := tyStruct isAgg74 sizeOf74 zeroValue74 underlying74 rfl ⟨⟨rfl, sizeOf73⟩, ⟨rfl, sizeOf73⟩, trivial⟩
theorem ty75 : TyOK Tryz.prog 75 (.struct [0, 1] [1, 1] [.slice none 0 0, .slice none 0 0]) := tyStruct isAgg75 sizeOf75 zeroValue75 underlying75 rfl ⟨⟨rfl, sizeOf73⟩, ⟨rfl, sizeOf73⟩, trivial⟩
theorem ty86 : TyOK Tryz.prog 86 (.struct [0, 1, 2, 3, 7] [1, 1, 1, 4, 1] [.slice none 0 0, .slice none 0 0, .slice none 0 0, .int .i64 0, .int .i64 0, .int .i64 0, .slice none 0 0, .int .i64 0]) := tyStruct isAgg86 sizeOf86 zeroValue86 underlying86 rfl ⟨⟨rfl, sizeOf22⟩, ⟨rfl, sizeOf23⟩, ⟨rfl, sizeOf39⟩, ⟨rfl, sizeOf41⟩, ⟨rfl, sizeOf3⟩, trivial⟩
theorem ty87 : TyOK Tryz.prog 87 (.struct [0, 1, 2, 3, 7] [1, 1, 1, 4, 1] [.slice none 0 0, .slice none 0 0, .slice none 0 0, .int .i64 0, .int .i64 0, .int .i64 0, .slice none 0 0, .int .i64 0]) := tyStruct isAgg87 sizeOf87 zeroValue87 underlying87 rfl ⟨⟨rfl, sizeOf22⟩, ⟨rfl, sizeOf23⟩, ⟨rfl, sizeOf39⟩, ⟨rfl, sizeOf41⟩, ⟨rfl, sizeOf3⟩, trivial⟩
theorem ty89 : TyOK Tryz.prog 89 (.slice 100 5) := ⟨⟨isAgg89, sizeOf89, zeroValue89, rfl⟩, underlying89, sizeOf100⟩
theorem ty90 : TyOK Tryz.prog 90 (.struct [0, 1, 2] [1, 1, 1] [.slice none 0 0, .bool false, .int .i64 0]) := tyStruct isAgg90 sizeOf90 zeroValue90 underlying90 rfl ⟨⟨rfl, sizeOf89⟩, ⟨rfl, sizeOf4⟩, ⟨rfl, sizeOf3⟩, trivial⟩
theorem ty91 : TyOK Tryz.prog 91 (.struct [0, 1, 2] [1, 1, 1] [.slice none 0 0, .bool false, .int .i64 0]) := tyStruct isAgg91 sizeOf91 zeroValue91 underlying91 rfl ⟨⟨rfl, sizeOf89⟩, ⟨rfl, sizeOf4⟩, ⟨rfl, sizeOf3⟩, trivial⟩
theorem ty99 : TyOK Tryz.prog 99 (.struct [0, 1] [1, 4] [.slice none 0 0, .int .i64 0, .int .i64 0, .int .i64 0, .slice none 0 0]) := tyStruct isAgg99 sizeOf99 zeroValue99 underlying99 rfl ⟨⟨rfl, sizeOf23⟩, ⟨rfl, sizeOf41⟩, trivial⟩
theorem ty100 : TyOK Tryz.prog 100 (.struct [0, 1] [1, 4] [.slice none 0 0, .int .i64 0, .int .i64 0, .int .i64 0, .slice none 0 0]) := tyStruct isAgg100 sizeOf100 zeroValue100 underlying100 rfl ⟨⟨rfl, sizeOf23⟩, ⟨rfl, sizeOf41⟩, trivial⟩
theorem ty106 : TyOK Tryz.prog 106 (.slice 110 2) := ⟨⟨isAgg106, sizeOf106, zeroValue106, rfl⟩, underlying106, sizeOf110⟩
theorem ty107 : TyOK Tryz.prog 107 (.struct [0, 1, 2] [1, 1, 1] [.slice none 0 0, .slice none 0 0, .slice none 0 0]) := tyStruct isAgg107 sizeOf107 zeroValue107 underlying107 rfl ⟨⟨rfl, sizeOf22⟩, ⟨rfl, sizeOf106⟩, ⟨rfl, sizeOf39⟩, trivial⟩
theorem ty108 : TyOK Tryz.prog 108 (.struct [0, 1, 2] [1, 1, 1] [.slice none 0 0, .slice none 0 0, .slice none 0 0]) := tyStruct isAgg108 sizeOf108 zeroValue108 underlying108 rfl ⟨⟨rfl, sizeOf22⟩, ⟨rfl, sizeOf106⟩, ⟨rfl, sizeOf39⟩, trivial⟩
theorem ty109 : TyOK Tryz.prog 109 (.struct [0, 1] [1, 1] [.slice none 0 0, .slice none 0 0]) := tyStruct isAgg109 sizeOf109 zeroValue109 underlying109 rfl ⟨⟨rfl, sizeOf39⟩, ⟨rfl, sizeOf39⟩, trivial⟩
theorem ty110 : TyOK Tryz.prog 110 (.struct [0, 1] [1, 1] [.slice none 0 0, .slice none 0 0]) := tyStruct isAgg110 sizeOf110 zeroValue110 underlying110 rfl ⟨⟨rfl, sizeOf39⟩, ⟨rfl, sizeOf39⟩, trivial⟩
theorem ty133 : TyOK Tryz.prog 133 (.struct [0, 1, 2, 3, 4, 5] [1, 1, 1, 1, 1, 1] [.slice none 0 0, .slice none 0 0, .slice none 0 0, .slice none 0 0, .int .i64 0, .int .i64 0]) := tyStruct isAgg133 sizeOf133 zeroValue133 underlying133 rfl ⟨⟨rfl, sizeOf22⟩, ⟨rfl, sizeOf23⟩, ⟨rfl, sizeOf24⟩, ⟨rfl, sizeOf24⟩, ⟨rfl, sizeOf3⟩, ⟨rfl, sizeOf3⟩, trivial⟩
theorem ty134 : TyOK Tryz.prog 134 (.struct [0, 1, 2, 3, 4, 5] [1, 1, 1, 1, 1, 1] [.slice none 0 0, .slice none 0 0, .slice none 0 0, .slice none 0 0, .int .i64 0, .int .i64 0]) := tyStruct isAgg134 sizeOf134 zeroValue134 underlying134 rfl ⟨⟨rfl, sizeOf22⟩, ⟨rfl, sizeOf23⟩, ⟨rfl, sizeOf24⟩, ⟨rfl, sizeOf24⟩, ⟨rfl, sizeOf3⟩, ⟨rfl, sizeOf3⟩, trivial⟩
theorem ty143 : TyOK Tryz.prog 143 (.struct [0, 1] [1, 1] [.slice none 0 0, .slice none 0 0]) := tyStruct isAgg143 sizeOf143 zeroValue143 underlying143 rfl ⟨⟨rfl, sizeOf22⟩, ⟨rfl, sizeOf23⟩, trivial⟩
theorem ty144 : TyOK Tryz.prog 144 (.struct [0, 1] [1, 1] [.slice none 0 0, .slice none 0 0]) := tyStruct isAgg144 sizeOf144 zeroValue144 underlying144 rfl ⟨⟨rfl, sizeOf22⟩, ⟨rfl, sizeOf23⟩, trivial⟩
theorem ty162 : TyOK Tryz.prog 162 (.struct [0] [1] [.int .i64 0]) := tyStruct isAgg162 sizeOf162 zeroValue162 underlying162 rfl ⟨⟨rfl, sizeOf29⟩, trivial⟩
theorem ty163 : TyOK Tryz.prog 163 (.struct [0] [1] [.int .i64 0]) := tyStruct isAgg163 sizeOf163 zeroValue163 underlying163 rfl ⟨⟨rfl, sizeOf29⟩, trivial⟩
theorem ty164 : TyOK Tryz.prog 164 (.struct [0, 1, 5] [1, 4, 1] [.string ⟨#[]⟩, .int .i64 0, .int .i64 0, .int .i64 0, .slice none 0 0, .int .i64 0]) := tyStruct isAgg164 sizeOf164 zeroValue164 underlying164 rfl ⟨⟨rfl, sizeOf9⟩, ⟨rfl, sizeOf41⟩, ⟨rfl, sizeOf3⟩, trivial⟩
theorem ty165 : TyOK Tryz.prog 165 (.struct [0, 1, 5] [1, 4, 1] [.string ⟨#[]⟩, .int .i64 0, .int .i64 0, .int .i64 0, .slice none 0 0, .int .i64 0]) := tyStruct isAgg165 sizeOf165 zeroValue165 underlying165 rfl ⟨⟨rfl, sizeOf9⟩, ⟨rfl, sizeOf41⟩, ⟨rfl, sizeOf3⟩, trivial⟩
theorem ty173 : TyOK Tryz.prog 173 (.slice 4 1) := ⟨⟨isAgg173, sizeOf173, zeroValue173, rfl⟩, underlying173, sizeOf4⟩
theorem ty186 : TyOK Tryz.prog 186 (.slice 273 5) := ⟨⟨isAgg186, sizeOf186, zeroValue186, rfl⟩, underlying186, sizeOf273⟩
theorem ty187 : TyOK Tryz.prog 187 (.struct [0, 1, 2, 3, 4, 5, 6, 7] [1, 1, 1, 1, 1, 1, 1, 1] [.slice none 0 0, .int .i64 0, .slice none 0 0, .bool false, .int .i64 0, .int .i64 0, .int .i64 0, .slice none 0 0]) := tyStruct isAgg187 sizeOf187 zeroValue187 underlying187 rfl ⟨⟨rfl, sizeOf22⟩, ⟨rfl, sizeOf3⟩, ⟨rfl, sizeOf89⟩, ⟨rfl, sizeOf4⟩, ⟨rfl, sizeOf3⟩, ⟨rfl, sizeOf3⟩, ⟨rfl, sizeOf3⟩, ⟨rfl, sizeOf186⟩, trivial⟩
theorem ty188 : TyOK Tryz.prog 188 (.struct [0, 1, 2, 3, 4, 5, 6, 7] [1, 1, 1, 1, 1, 1, 1, 1] [.slice none 0 0, .int .i64 0, .slice none 0 0, .bool false, .int .i64 0, .int .i64 0, .int .i64 0, .slice none 0 0]) := tyStruct isAgg188 sizeOf188 zeroValue188 underlying188 rfl ⟨⟨rfl, sizeOf22⟩, ⟨rfl, sizeOf3⟩, ⟨rfl, sizeOf89⟩, ⟨rfl, sizeOf4⟩, ⟨rfl, sizeOf3⟩, ⟨rfl, sizeOf3⟩, ⟨rfl, sizeOf3⟩, ⟨rfl, sizeOf186⟩, trivial⟩
theorem ty199 : TyOK Tryz.prog 199 (.struct [0, 1, 2, 3] [1, 1, 1, 1] [.slice none 0 0, .slice none 0 0, .slice none 0 0, .slice none 0 0]) := tyStruct isAgg199 sizeOf199 zeroValue199 underlying199 rfl ⟨⟨rfl, sizeOf22⟩, ⟨rfl, sizeOf106⟩, ⟨rfl, sizeOf39⟩, ⟨rfl, sizeOf173⟩, trivial⟩
theorem ty200 : TyOK Tryz.prog 200 (.struct [0, 1, 2, 3] [1, 1, 1, 1] [.slice none 0 0, .slice none 0 0, .slice none 0 0, .slice none 0 0]) := tyStruct isAgg200 sizeOf200 zeroValue200 underlying200 rfl ⟨⟨rfl, sizeOf22⟩, ⟨rfl, sizeOf106⟩, ⟨rfl, sizeOf39⟩, ⟨rfl, sizeOf173⟩, trivial⟩
theorem ty214 : TyOK Tryz.prog 214 (.struct [0] [1] [.slice none 0 0]) := tyStruct isAgg214 sizeOf214 zeroValue214 underlying214 rfl ⟨⟨rfl, sizeOf24⟩, trivial⟩
theorem ty215 : TyOK Tryz.prog 215 (.struct [0] [1] [.slice none 0 0]) := tyStruct isAgg215 sizeOf215 zeroValue215 underlying215 rfl ⟨⟨rfl, sizeOf24⟩, trivial⟩
theorem ty216 : TyOK Tryz.prog 216 (.struct [0, 1, 2, 3, 4, 5] [1, 1, 1, 1, 1, 1] [.slice none 0 0, .slice none 0 0, .int .i64 0, .int .i64 0, .slice none 0 0, .slice none 0 0]) := tyStruct isAgg216 sizeOf216 zeroValue216 underlying216 rfl ⟨⟨rfl, sizeOf22⟩, ⟨rfl, sizeOf23⟩, ⟨rfl, sizeOf3⟩, ⟨rfl, sizeOf3⟩, ⟨rfl, sizeOf215⟩, ⟨rfl, sizeOf24⟩, trivial⟩
theorem ty217 : TyOK Tryz.prog 217 (.struct [0, 1, 2, 3, 4, 5] [1, 1, 1, 1, 1, 1] [.slice none 0 0, .slice none 0 0, .int .i64 0, .int .i64 0, .slice none 0 0, .slice none 0 0]) := tyStruct isAgg217 sizeOf217 zeroValue217 underlying217 rfl ⟨⟨rfl, sizeOf22⟩, ⟨rfl, sizeOf23⟩, ⟨rfl, sizeOf3⟩, ⟨rfl, sizeOf3⟩, ⟨rfl, sizeOf215⟩, ⟨rfl, sizeOf24⟩, trivial⟩
theorem ty220 : TyOK Tryz.prog 220 (.struct [0, 1, 2, 3] [1, 1, 1, 1] [.slice none 0 0, .slice none 0 0, .slice none 0 0, .slice none 0 0]) := tyStruct isAgg220 sizeOf220 zeroValue220 underlying220 rfl ⟨⟨rfl, sizeOf23⟩, ⟨rfl, sizeOf73⟩, ⟨rfl, sizeOf39⟩, ⟨rfl, sizeOf73⟩, trivial⟩
theorem ty221 : TyOK Tryz.prog 221 (.struct [0, 1, 2, 3] [1, 1, 1, 1] [.slice none 0 0, .slice none 0 0, .slice none 0 0, .slice none 0 0]) := tyStruct isAgg221 sizeOf221 zeroValue221 underlying221 rfl ⟨⟨rfl, sizeOf23⟩, ⟨rfl, sizeOf73⟩, ⟨rfl, sizeOf39⟩, ⟨rfl, sizeOf73⟩, trivial⟩
theorem ty222 : TyOK Tryz.prog 222 (.slice 224 2) := ⟨⟨isAgg222, sizeOf222, zeroValue222, rfl⟩, underlying222, sizeOf224⟩
theorem ty223 : TyOK Tryz.prog 223 (.struct [0, 1] [1, 1] [.slice none 0 0, .int .i64 0]) := tyStruct isAgg223 sizeOf223 zeroValue223 underlying223 rfl ⟨⟨rfl, sizeOf222⟩, ⟨rfl, sizeOf3⟩, trivial⟩
theorem ty224 : TyOK Tryz.prog 224 (.struct [0, 1] [1, 1] [.slice none 0 0, .int .i64 0]) := tyStruct isAgg224 sizeOf224 zeroValue224 underlying224 rfl ⟨⟨rfl, sizeOf222⟩, ⟨rfl, sizeOf3⟩, trivial⟩
theorem ty270 : TyOK Tryz.prog 270 (.struct [0, 1, 2] [1, 1, 1] [.slice none 0 0, .int .i64 0, .bool false]) := tyStruct isAgg270 sizeOf270 zeroValue270 underlying270 rfl ⟨⟨rfl, sizeOf22⟩, ⟨rfl, sizeOf3⟩, ⟨rfl, sizeOf4⟩, trivial⟩
theorem ty271 : TyOK Tryz.prog 271 (.struct [0, 1, 2] [1, 1, 1] [.slice none 0 0, .int .i64 0, .bool false]) := tyStruct isAgg271 sizeOf271 zeroValue271 underlying271 rfl ⟨⟨rfl, sizeOf22⟩, ⟨rfl, sizeOf3⟩, ⟨rfl, sizeOf4⟩, trivial⟩
theorem ty272 : TyOK Tryz.prog 272 (.struct [0, 1, 2, 3, 4] [1, 1, 1, 1, 1] [.bool false, .int .i64 0, .int .i64 0, .slice none 0 0, .slice none 0 0]) := tyStruct isAgg272 sizeOf272 zeroValue272 underlying272 rfl ⟨⟨rfl, sizeOf4⟩, ⟨rfl, sizeOf3⟩, ⟨rfl, sizeOf3⟩, ⟨rfl, sizeOf39⟩, ⟨rfl, sizeOf73⟩, trivial⟩
theorem ty273 : TyOK Tryz.prog 273 (.struct [0, 1, 2, 3, 4] [1, 1, 1, 1, 1] [.bool false, .int .i64 0, .int .i64 0, .slice none 0 0, .slice none 0 0]) := tyStruct isAgg273 sizeOf273 zeroValue273 underlying273 rfl ⟨⟨rfl, sizeOf4⟩, ⟨rfl, sizeOf3⟩, ⟨rfl, sizeOf3⟩, ⟨rfl, sizeOf39⟩, ⟨rfl, sizeOf73⟩, trivial⟩
theorem ty275 : TyOK Tryz.prog 275 (.struct [0, 1, 5, 6] [1, 4, 1, 1] [.slice none 0 0, .int .i64 0, .int .i64 0, .int .i64 0, .slice none 0 0, .int .i64 0, .int .i64 0]) := tyStruct isAgg275 sizeOf275 zeroValue275 underlying275 rfl ⟨⟨rfl, sizeOf39⟩, ⟨rfl, sizeOf41⟩, ⟨rfl, sizeOf3⟩, ⟨rfl, sizeOf3⟩, trivial⟩
theorem ty276 : TyOK Tryz.prog 276 (.struct [0, 1, 5, 6] [1, 4, 1, 1] [.slice none 0 0, .int .i64 0, .int .i64 0, .int .i64 0, .slice none 0 0, .int .i64 0, .int .i64 0]) := tyStruct isAgg276 sizeOf276 zeroValue276 underlying276 rfl ⟨⟨rfl, sizeOf39⟩, ⟨rfl, sizeOf41⟩, ⟨rfl, sizeOf3⟩, ⟨rfl, sizeOf3⟩, trivial⟩
theorem ty277 : TyOK Tryz.prog 277 (.slice 276 7) := ⟨⟨isAgg277, sizeOf277, zeroValue277, rfl⟩, underlying277, sizeOf276⟩
theorem ty293 : TyOK Tryz.prog 293 (.struct [0] [1] [.int .i64 0]) := tyStruct isAgg293 sizeOf293 zeroValue293 underlying293 rfl ⟨⟨rfl, sizeOf29⟩, trivial⟩
theorem ty294 : TyOK Tryz.prog 294 (.struct [0] [1] [.int .i64 0]) := tyStruct isAgg294 sizeOf294 zeroValue294 underlying294 rfl ⟨⟨rfl, sizeOf29⟩, trivial⟩
theorem ty302 : TyOK Tryz.prog 302 (.struct [0] [1] [.int .i64 0]) := tyStruct isAgg302 sizeOf302 zeroValue302 underlying302 rfl ⟨⟨rfl, sizeOf29⟩, trivial⟩
theorem ty303 : TyOK Tryz.prog 303 (.struct [0] [1] [.int .i64 0]) := tyStruct isAgg303 sizeOf303 zeroValue303 underlying303 rfl ⟨⟨rfl, sizeOf29⟩, trivial⟩
theorem ty308 : TyOK Tryz.prog 308 (.slice 311 1) := ⟨⟨isAgg308, sizeOf308, zeroValue308, rfl⟩, underlying308, sizeOf311⟩
theorem ty313 : TyOK Tryz.prog 313 (.struct [0] [1] [.int .i64 0]) := tyStruct isAgg313 sizeOf313 zeroValue313 underlying313 rfl ⟨⟨rfl, sizeOf3⟩, trivial⟩
theorem ty314 : TyOK Tryz.prog 314 (.struct [0] [1] [.int .i64 0]) := tyStruct isAgg314 sizeOf314 zeroValue314 underlying314 rfl ⟨⟨rfl, sizeOf3⟩, trivial⟩
theorem ty317 : TyOK Tryz.prog 317 (.struct [0, 1] [1, 1] [.slice none 0 0, Go.Value.map none]) := tyStruct isAgg317 sizeOf317 zeroValue317 underlying317 rfl ⟨⟨rfl, sizeOf23⟩, ⟨rfl, sizeOf316⟩, trivial⟩
theorem ty318 : TyOK Tryz.prog 318 (.struct [0, 1] [1, 1] [.slice none 0 0, Go.Value.map none]) := tyStruct isAgg318 sizeOf318 zeroValue318 underlying318 rfl ⟨⟨rfl, sizeOf23⟩, ⟨rfl, sizeOf316⟩, trivial⟩
theorem ty329 : TyOK Tryz.prog 329 (.slice 39 1) := ⟨⟨isAgg329, sizeOf329, zeroValue329, rfl⟩, underlying329, sizeOf39⟩
theorem ty348 : TyOK Tryz.prog 348 (.struct [0, 1] [1, 1] [Go.Value.nilIface, .slice none 0 0]) := tyStruct isAgg348 sizeOf348 zeroValue348 underlying348 rfl ⟨⟨rfl, sizeOf347⟩, ⟨rfl, sizeOf22⟩, trivial⟩
theorem ty349 : TyOK Tryz.prog 349 (.struct [0, 1] [1, 1] [Go.Value.nilIface, .slice none 0 0]) := tyStruct isAgg349 sizeOf349 zeroValue349 underlying349 rfl ⟨⟨rfl, sizeOf347⟩, ⟨rfl, sizeOf22⟩, trivial⟩
theorem ty358 : TyOK Tryz.prog 358 (.struct [0] [1] [.int .i64 0]) := tyStruct isAgg358 sizeOf358 zeroValue358 underlying358 rfl ⟨⟨rfl, sizeOf3⟩, trivial⟩
theorem ty359 : TyOK Tryz.prog 359 (.struct [0] [1] [.int .i64 0]) := tyStruct isAgg359 sizeOf359 zeroValue359 underlying359 rfl ⟨⟨rfl, sizeOf3⟩, trivial⟩
theorem ty374 : TyOK Tryz.prog 374 (.slice 24 1) := ⟨⟨isAgg374, sizeOf374, zeroValue374, rfl⟩, underlying374, sizeOf24⟩
theorem ty389 : TyOK Tryz.prog 389 (.struct [0, 1, 2, 3] [1, 1, 1, 4] [.slice none 0 0, .slice none 0 0, .slice none 0 0, .int .i64 0, .int .i64 0, .int .i64 0, .slice none 0 0]) := tyStruct isAgg389 sizeOf389 zeroValue389 underlying389 rfl ⟨⟨rfl, sizeOf39⟩, ⟨rfl, sizeOf73⟩, ⟨rfl, sizeOf39⟩, ⟨rfl, sizeOf41⟩, trivial⟩
theorem ty390 : TyOK Tryz.prog 390 (.struct [0, 1, 2, 3] [1, 1, 1, 4] [.slice none 0 0, .slice none 0 0, .slice none 0 0, .int .i64 0, .int .i64 0, .int .i64 0, .slice none 0 0]) := tyStruct isAgg390 sizeOf390 zeroValue390 underlying390 rfl ⟨⟨rfl, sizeOf39⟩, ⟨rfl, sizeOf73⟩, ⟨rfl, sizeOf39⟩, ⟨rfl, sizeOf41⟩, trivial⟩
theorem ty398 : TyOK Tryz.prog 398 (.struct [0, 1] [1, 1] [.slice none 0 0, .slice none 0 0]) := tyStruct isAgg398 sizeOf398 zeroValue398 underlying398 rfl ⟨⟨rfl, sizeOf22⟩, ⟨rfl, sizeOf23⟩, trivial⟩
theorem ty399 : TyOK Tryz.prog 399 (.struct [0, 1] [1, 1] [.slice none 0 0, .slice none 0 0]) := tyStruct isAgg399 sizeOf399 zeroValue399 underlying399 rfl ⟨⟨rfl, sizeOf22⟩, ⟨rfl, sizeOf23⟩, trivial⟩
theorem ty404 : TyOK Tryz.prog 404 (.struct [0] [1] [.int .i64 0]) := tyStruct isAgg404 sizeOf404 zeroValue404 underlying404 rfl ⟨⟨rfl, sizeOf29⟩, trivial⟩
theorem ty405 : TyOK Tryz.prog 405 (.struct [0] [1] [.int .i64 0]) := tyStruct isAgg405 sizeOf405 zeroValue405 underlying405 rfl ⟨⟨rfl, sizeOf29⟩, trivial⟩
theorem ty408 : TyOK Tryz.prog 408 (.struct [0, 1, 2] [1, 1, 1] [.int .i64 0, .int .i64 0, .slice none 0 0]) := tyStruct isAgg408 sizeOf408 zeroValue408 underlying408 rfl ⟨⟨rfl, sizeOf3⟩, ⟨rfl, sizeOf3⟩, ⟨rfl, sizeOf173⟩, trivial⟩
theorem ty409 : TyOK Tryz.prog 409 (.struct [0, 1, 2] [1, 1, 1] [.int .i64 0, .int .i64 0, .slice none 0 0]) := tyStruct isAgg409 sizeOf409 zeroValue409 underlying409 rfl ⟨⟨rfl, sizeOf3⟩, ⟨rfl, sizeOf3⟩, ⟨rfl, sizeOf173⟩, trivial⟩
theorem ty417 : TyOK Tryz.prog 417 (.slice 416 8) := ⟨⟨isAgg417, sizeOf417, zeroValue417, rfl⟩, underlying417, sizeOf416⟩
theorem ty444 : TyOK Tryz.prog 444 (.struct [0, 1, 2, 3, 4, 5, 6, 7, 8, 9] [1, 1, 1, 1, 1, 1, 1, 1, 1, 1] [Go.Value.pointer none, .int .i64 0, .slice none 0 0, .bool false, .bool false, .int .i64 0, .int .i64 0, .int .i64 0, .slice none 0 0, .bool false]) := tyStruct isAgg444 sizeOf444 zeroValue444 underlying444 rfl ⟨⟨rfl, sizeOf210⟩, ⟨rfl, sizeOf3⟩, ⟨rfl, sizeOf73⟩, ⟨rfl, sizeOf4⟩, ⟨rfl, sizeOf4⟩, ⟨rfl, sizeOf29⟩, ⟨rfl, sizeOf3⟩, ⟨rfl, sizeOf3⟩, ⟨rfl, sizeOf73⟩, ⟨rfl, sizeOf4⟩, trivial⟩
theorem ty445 : TyOK Tryz.prog 445 (.struct [0, 1, 2, 3, 4, 5, 6, 7, 8, 9] [1, 1, 1, 1, 1, 1, 1, 1, 1, 1] [Go.Value.pointer none, .int .i64 0, .slice none 0 0, .bool false, .bool false, .int .i64 0, .int .i64 0, .int .i64 0, .slice none 0 0, .bool false]) := tyStruct isAgg445 sizeOf445 zeroValue445 underlying445 rfl ⟨⟨rfl, sizeOf210⟩, ⟨rfl, sizeOf3⟩, ⟨rfl, sizeOf73⟩, ⟨rfl, sizeOf4⟩, ⟨rfl, sizeOf4⟩, ⟨rfl, sizeOf29⟩, ⟨rfl, sizeOf3⟩, ⟨rfl, sizeOf3⟩, ⟨rfl, sizeOf73⟩, ⟨rfl, sizeOf4⟩, trivial⟩
theorem ty490 : TyOK Tryz.prog 490 (.struct [0, 1, 2, 3, 4, 5, 6, 7, 8, 9, 10] [1, 1, 1, 1, 1, 1, 1, 1, 1, 1, 1] [.int .u64 0, .int .u64 0, .int .u32 0, .int .u8 0, .int .u8 0, .int .u8 0, .int .u8 0, Go.Value.nilFunc, Go.Value.pointer none, .int .i32 0, .int .i32 0]) := tyStruct isAgg490 sizeOf490 zeroValue490 underlying490 rfl ⟨⟨rfl, sizeOf12⟩, ⟨rfl, sizeOf12⟩, ⟨rfl, sizeOf467⟩, ⟨rfl, sizeOf484⟩, ⟨rfl, sizeOf5⟩, ⟨rfl, sizeOf5⟩, ⟨rfl, sizeOf485⟩, ⟨rfl, sizeOf486⟩, ⟨rfl, sizeOf487⟩, ⟨rfl, sizeOf488⟩, ⟨rfl, sizeOf489⟩, trivial⟩
theorem ty491 : TyOK Tryz.prog 491 (.struct [0, 1, 2, 3, 4, 5, 6, 7, 8, 9, 10] [1, 1, 1, 1, 1, 1, 1, 1, 1, 1, 1] [.int .u64 0, .int .u64 0, .int .u32 0, .int .u8 0, .int .u8 0, .int .u8 0, .int .u8 0, Go.Value.nilFunc, Go.Value.pointer none, .int .i32 0, .int .i32 0]) := tyStruct isAgg491 sizeOf491 zeroValue491 underlying491 rfl ⟨⟨rfl, sizeOf12⟩, ⟨rfl, sizeOf12⟩, ⟨rfl, sizeOf467⟩, ⟨rfl, sizeOf484⟩, ⟨rfl, sizeOf5⟩, ⟨rfl, sizeOf5⟩, ⟨rfl, sizeOf485⟩, ⟨rfl, sizeOf486⟩, ⟨rfl, sizeOf487⟩, ⟨rfl, sizeOf488⟩, ⟨rfl, sizeOf489⟩, trivial⟩
theorem ty2 : TyOK Tryz.prog 2 (.cell (.int .i64 0)) := ⟨isAgg2, sizeOf2, zeroValue2, rfl⟩
theorem ty3 : TyOK Tryz.prog 3 (.cell (.int .i64 0)) := ⟨isAgg3, sizeOf3, zeroValue3, rfl⟩
theorem ty4 : TyOK Tryz.prog 4 (.cell (.bool false)) := ⟨isAgg4, sizeOf4, zeroValue4, rfl⟩
theorem ty5 : TyOK Tryz.prog 5 (.cell (.int .u8 0)) := ⟨isAgg5, sizeOf5, zeroValue5, rfl⟩
theorem ty6 : TyOK Tryz.prog 6 (.cell (.int .u8 0)) := ⟨isAgg6, sizeOf6, zeroValue6, rfl⟩
theorem ty9 : TyOK Tryz.prog 9 (.str) := ⟨⟨isAgg9, sizeOf9, zeroValue9, rfl⟩, underlying9⟩
theorem ty10 : TyOK Tryz.prog 10 (.str) := ⟨⟨isAgg10, sizeOf10, zeroValue10, rfl⟩, underlying10⟩
theorem ty11 : TyOK Tryz.prog 11 (.str) := ⟨⟨isAgg11, sizeOf11, zeroValue11, rfl⟩, underlying11⟩
theorem ty12 : TyOK Tryz.prog 12 (.cell (.int .u64 0)) := ⟨isAgg12, sizeOf12, zeroValue12, rfl⟩
theorem ty15 : TyOK Tryz.prog 15 (.cell (Go.Value.pointer none)) := ⟨isAgg15, sizeOf15, zeroValue15, rfl⟩
theorem ty16 : TyOK Tryz.prog 16 (.cell (Go.Value.pointer none)) := ⟨isAgg16, sizeOf16, zeroValue16, rfl⟩
theorem ty17 : TyOK Tryz.prog 17 (.cell (Go.Value.pointer none)) := ⟨isAgg17, sizeOf17, zeroValue17, rfl⟩
theorem ty20 : TyOK Tryz.prog 20 (.cell Go.Value.nilIface) := ⟨isAgg20, sizeOf20, zeroValue20, rfl⟩
theorem ty21 : TyOK Tryz.prog 21 (.cell (.int .i32 0)) := ⟨isAgg21, sizeOf21, zeroValue21, rfl⟩
theorem ty29 : TyOK Tryz.prog 29 (.cell (.int .i64 0)) := ⟨isAgg29, sizeOf29, zeroValue29, rfl⟩
theorem ty132 : TyOK Tryz.prog 132 (.cell (Go.Value.pointer none)) := ⟨isAgg132, sizeOf132, zeroValue132, rfl⟩
theorem ty136 : TyOK Tryz.prog 136 (.cell (Go.Value.pointer none)) := ⟨isAgg136, sizeOf136, zeroValue136, rfl⟩
theorem ty156 : TyOK Tryz.prog 156 (.map 3 3) := ⟨⟨isAgg156, sizeOf156, zeroValue156, rfl⟩, underlying156⟩
theorem ty161 : TyOK Tryz.prog 161 (.cell Go.Value.nilFunc) := ⟨isAgg161, sizeOf161, zeroValue161, rfl⟩
theorem ty185 : TyOK Tryz.prog 185 (.cell (Go.Value.pointer none)) := ⟨isAgg185, sizeOf185, zeroValue185, rfl⟩
theorem ty198 : TyOK Tryz.prog 198 (.cell (Go.Value.pointer none)) := ⟨isAgg198, sizeOf198, zeroValue198, rfl⟩
theorem ty208 : TyOK Tryz.prog 208 (.cell (Go.Value.pointer none)) := ⟨isAgg208, sizeOf208, zeroValue208, rfl⟩
theorem ty209 : TyOK Tryz.prog 209 (.cell (Go.Value.pointer none)) := ⟨isAgg209, sizeOf209, zeroValue209, rfl⟩
theorem ty210 : TyOK Tryz.prog 210 (.cell (Go.Value.pointer none)) := ⟨isAgg210, sizeOf210, zeroValue210, rfl⟩
theorem ty233 : TyOK Tryz.prog 233 (.cell (Go.Value.pointer none)) := ⟨isAgg233, sizeOf233, zeroValue233, rfl⟩
theorem ty241 : TyOK Tryz.prog 241 (.map 9 4) := ⟨⟨isAgg241, sizeOf241, zeroValue241, rfl⟩, underlying241⟩
theorem ty243 : TyOK Tryz.prog 243 (.arr 80 4 1 (List.replicate 80 (.bool false))) := ⟨isAgg243, (by intro w; rw [List.length_replicate]; exact sizeOf243 w), (by intro w; rw [show (List.replicate 80 (.bool false)).toArray = Tryz.zeroCells243 by kernel_rfl]; exact zeroValue243 w), underlying243, sizeOf4⟩
theorem ty244 : TyOK Tryz.prog 244 (.arr 80 4 1 (List.replicate 80 (.bool false))) := ⟨isAgg244, (by intro w; rw [List.length_replicate]; exact sizeOf244 w), (by intro w; rw [show (List.replicate 80 (.bool false)).toArray = Tryz.zeroCells244 by kernel_rfl]; exact zeroValue244 w), underlying244, sizeOf4⟩
theorem ty263 : TyOK Tryz.prog 263 (.cell (Go.Value.pointer none)) := ⟨isAgg263, sizeOf263, zeroValue263, rfl⟩
theorem ty304 : TyOK Tryz.prog 304 (.cell (Go.Value.pointer none)) := ⟨isAgg304, sizeOf304, zeroValue304, rfl⟩
theorem ty311 : TyOK Tryz.prog 311 (.cell Go.Value.nilFunc) := ⟨isAgg311, sizeOf311, zeroValue311, rfl⟩
theorem ty312 : TyOK Tryz.prog 312 (.cell (Go.Value.pointer none)) := ⟨isAgg312, sizeOf312, zeroValue312, rfl⟩
theorem ty316 : TyOK Tryz.prog 316 (.map 3 41) := ⟨⟨isAgg316, sizeOf316, zeroValue316, rfl⟩, underlying316⟩
theorem ty322 : TyOK Tryz.prog 322 (.cell Go.Value.nilFunc) := ⟨isAgg322, sizeOf322, zeroValue322, rfl⟩
theorem ty325 : TyOK Tryz.prog 325 (.cell Go.Value.nilFunc) := ⟨isAgg325, sizeOf325, zeroValue325, rfl⟩
theorem ty332 : TyOK Tryz.prog 332 (.cell (Go.Value.pointer none)) := ⟨isAgg332, sizeOf332, zeroValue332, rfl⟩
theorem ty338 : TyOK Tryz.prog 338 (.cell Go.Value.nilFunc) := ⟨isAgg338, sizeOf338, zeroValue338, rfl⟩
theorem ty346 : TyOK Tryz.prog 346 (.cell Go.Value.nilIface) := ⟨isAgg346, sizeOf346, zeroValue346, rfl⟩
theorem ty347 : TyOK Tryz.prog 347 (.cell Go.Value.nilIface) := ⟨isAgg347, sizeOf347, zeroValue347, rfl⟩
theorem ty356 : TyOK Tryz.prog 356 (.cell (Go.Value.pointer none)) := ⟨isAgg356, sizeOf356, zeroValue356, rfl⟩
theorem ty357 : TyOK Tryz.prog 357 (.cell (Go.Value.pointer none)) := ⟨isAgg357, sizeOf357, zeroValue357, rfl⟩
theorem ty362 : TyOK Tryz.prog 362 (.cell Go.Value.nilFunc) := ⟨isAgg362, sizeOf362, zeroValue362, rfl⟩
theorem ty363 : TyOK Tryz.prog 363 (.map 3 4) := ⟨⟨isAgg363, sizeOf363, zeroValue363, rfl⟩, underlying363⟩
theorem ty364 : TyOK Tryz.prog 364 (.cell Go.Value.nilFunc) := ⟨isAgg364, sizeOf364, zeroValue364, rfl⟩
theorem ty388 : TyOK Tryz.prog 388 (.cell Go.Value.nilFunc) := ⟨isAgg388, sizeOf388, zeroValue388, rfl⟩
theorem ty416 : TyOK Tryz.prog 416 (.arr 2 41 4 [.int .i64 0, .int .i64 0, .int .i64 0, .slice none 0 0, .int .i64 0, .int .i64 0, .int .i64 0, .slice none 0 0]) := ⟨isAgg416, sizeOf416, zeroValue416, underlying416, sizeOf41⟩
theorem ty422 : TyOK Tryz.prog 422 (.cell Go.Value.nilFunc) := ⟨isAgg422, sizeOf422, zeroValue422, rfl⟩
theorem ty443 : TyOK Tryz.prog 443 (.cell (Go.Value.pointer none)) := ⟨isAgg443, sizeOf443, zeroValue443, rfl⟩
theorem ty450 : TyOK Tryz.prog 450 (.cell (.int .u64 0)) := ⟨isAgg450, sizeOf450, zeroValue450, rfl⟩
theorem ty460 : TyOK Tryz.prog 460 (.cell (.int .i64 0)) := ⟨isAgg460, sizeOf460, zeroValue460, rfl⟩
theorem ty467 : TyOK Tryz.prog 467 (.cell (.int .u32 0)) := ⟨isAgg467, sizeOf467, zeroValue467, rfl⟩
theorem ty469 : TyOK Tryz.prog 469 (.cell (.int .u64 0)) := ⟨isAgg469, sizeOf469, zeroValue469, rfl⟩
theorem ty471 : TyOK Tryz.prog 471 (.cell (.int .u64 0)) := ⟨isAgg471, sizeOf471, zeroValue471, rfl⟩
theorem ty476 : TyOK Tryz.prog 476 (.cell (Go.Value.pointer none)) := ⟨isAgg476, sizeOf476, zeroValue476, rfl⟩
theorem ty484 : TyOK Tryz.prog 484 (.cell (.int .u8 0)) := ⟨isAgg484, sizeOf484, zeroValue484, rfl⟩
theorem ty485 : TyOK Tryz.prog 485 (.cell (.int .u8 0)) := ⟨isAgg485, sizeOf485, zeroValue485, rfl⟩
theorem ty487 : TyOK Tryz.prog 487 (.cell (Go.Value.pointer none)) := ⟨isAgg487, sizeOf487, zeroValue487, rfl⟩
theorem ty488 : TyOK Tryz.prog 488 (.cell (.int .i32 0)) := ⟨isAgg488, sizeOf488, zeroValue488, rfl⟩
theorem ty489 : TyOK Tryz.prog 489 (.cell (.int .i32 0)) := ⟨isAgg489, sizeOf489, zeroValue489, rfl⟩
def tyRows : List (Nat × TK) := [(22, .slice 165 6),
 (23, .slice 43 10),
 (24, .slice 46 13),
 (25, .struct [0, 1, 2] [1, 1, 1] [.slice none 0 0, .slice none 0 0, .slice none 0 0]),
 (26, .struct [0, 1, 2] [1, 1, 1] [.slice none 0 0, .slice none 0 0, .slice none 0 0]),
 (27, .struct [0, 1] [1, 1] [.slice none 0 0, .slice none 0 0]),
 (28, .struct [0, 1] [1, 1] [.slice none 0 0, .slice none 0 0]),
 (39, .slice 41 4),
 (40, .struct [0, 1, 2, 3] [1, 1, 1, 1] [.int .i64 0, .int .i64 0, .int .i64 0, .slice none 0 0]),
 (41, .struct [0, 1, 2, 3] [1, 1, 1, 1] [.int .i64 0, .int .i64 0, .int .i64 0, .slice none 0 0]),
 (42, .struct [0, 1, 5, 6] [1, 4, 1, 4] [.string ⟨#[]⟩, .int .i64 0, .int .i64 0, .int .i64 0, .slice none 0 0, .bool false, .int .i64 0, .int .i64 0, .int .i64 0, .slice none 0 0]),
 (43, .struct [0, 1, 5, 6] [1, 4, 1, 4] [.string ⟨#[]⟩, .int .i64 0, .int .i64 0, .int .i64 0, .slice none 0 0, .bool false, .int .i64 0, .int .i64 0, .int .i64 0, .slice none 0 0]),
 (45, .struct [0, 1, 5, 9] [1, 4, 4, 4] [.slice none 0 0, .int .i64 0, .int .i64 0, .int .i64 0, .slice none 0 0, .int .i64 0, .int .i64 0, .int .i64 0, .slice none 0 0, .int .i64 0, .int .i64 0, .int .i64 0, .slice none 0 0]),
 (46, .struct [0, 1, 5, 9] [1, 4, 4, 4] [.slice none 0 0, .int .i64 0, .int .i64 0, .int .i64 0, .slice none 0 0, .int .i64 0, .int .i64 0, .int .i64 0, .slice none 0 0, .int .i64 0, .int .i64 0, .int .i64 0, .slice none 0 0]),
 (52, .struct [0, 1, 5] [1, 4, 4] [.slice none 0 0, .int .i64 0, .int .i64 0, .int .i64 0, .slice none 0 0, .int .i64 0, .int .i64 0, .int .i64 0, .slice none 0 0]),
 (53, .struct [0, 1, 5] [1, 4, 4] [.slice none 0 0, .int .i64 0, .int .i64 0, .int .i64 0, .slice none 0 0, .int .i64 0, .int .i64 0, .int .i64 0, .slice none 0 0]),
 (73, .slice 3 1),
 (74, .struct [0, 1] [1, 1] [.slice none 0 0, .slice none 0 0]),
 (75, .struct [0, 1] [1, 1] [.slice none 0 0, .slice none 0 0]),
 (86, .struct [0, 1, 2, 3, 7] [1, 1, 1, 4, 1] [.slice none 0 0, .slice none 0 0, .slice none 0 0, .int .i64 0, .int .i64 0, .int .i64 0, .slice none 0 0, .int .i64 0]),
 (87, .struct [0, 1, 2, 3, 7] [1, 1, 1, 4, 1] [.slice none 0 0, .slice none 0 0, .slice none 0 0, .int .i64 0, .int .i64 0, .int .i64 0, .slice none 0 0, .int .i64 0]),
 (89, .slice 100 5),
 (90, .struct [0, 1, 2] [1, 1, 1] [.slice none 0 0, .bool false, .int .i64 0]),
 (91, .struct [0, 1, 2] [1, 1, 1] [.slice none 0 0, .bool false, .int .i64 0]),
 (99, .struct [0, 1] [1, 4] [.slice none 0 0, .int .i64 0, .int .i64 0, .int .i64 0, .slice none 0 0]),
 (100, .struct [0, 1] [1, 4] [.slice none 0 0, .int .i64 0, .int .i64 0, .int .i64 0, .slice none 0 0]),
 (106, .slice 110 2),
 (107, .struct [0, 1, 2] [1, 1, 1] [.slice none 0 0, .slice none 0 0, .slice none 0 0]),
 (108, .struct [0, 1, 2] [1, 1, 1] [.slice none 0 0, .slice none 0 0, .slice none 0 0]),
 (109, .struct [0, 1] [1, 1] [.slice none 0 0, .slice none 0 0]),
 (110, .struct [0, 1] [1, 1] [.slice none 0 0, .slice none 0 0]),
 (133, .struct [0, 1, 2, 3, 4, 5] [1, 1, 1, 1, 1, 1] [.slice none 0 0, .slice none 0 0, .slice none 0 0, .slice none 0 0, .int .i64 0, .int .i64 0]),
 (134, .struct [0, 1, 2, 3, 4, 5] [1, 1, 1, 1, 1, 1] [.slice none 0 0, .slice none 0 0, .slice none 0 0, .slice none 0 0, .int .i64 0, .int .i64 0]),
 (143, .struct [0, 1] [1, 1] [.slice none 0 0, .slice none 0 0]),
 (144, .struct [0, 1] [1, 1] [.slice none 0 0, .slice none 0 0]),
 (162, .struct [0] [1] [.int .i64 0]),
 (163, .struct [0] [1] [.int .i64 0]),
 (164, .struct [0, 1, 5] [1, 4, 1] [.string ⟨#[]⟩, .int .i64 0, .int .i64 0, .int .i64 0, .slice none 0 0, .int .i64 0]),
 (165, .struct [0, 1, 5] [1, 4, 1] [.string ⟨#[]⟩, .int .i64 0, .int .i64 0, .int .i64 0, .slice none 0 0, .int .i64 0]),
 (173, .slice 4 1),
 (186, .slice 273 5),
 (187, .struct [0, 1, 2, 3, 4, 5, 6, 7] [1, 1, 1, 1, 1, 1, 1, 1] [.slice none 0 0, .int .i64 0, .slice none 0 0, .bool false, .int .i64 0, .int .i64 0, .int .i64 0, .slice none 0 0]),
 (188, .struct [0, 1, 2, 3, 4, 5, 6, 7] [1, 1, 1, 1, 1, 1, 1, 1] [.slice none 0 0, .int .i64 0, .slice none 0 0, .bool false, .int .i64 0, .int .i64 0, .int .i64 0, .slice none 0 0]),
 (199, .struct [0, 1, 2, 3] [1, 1, 1, 1] [.slice none 0 0, .slice none 0 0, .slice none 0 0, .slice none 0 0]),
 (200, .struct [0, 1, 2, 3] [1, 1, 1, 1] [.slice none 0 0, .slice none 0 0, .slice none 0 0, .slice none 0 0]),
 (214, .struct [0] [1] [.slice none 0 0]),
 (215, .struct [0] [1] [.slice none 0 0]),
 (216, .struct [0, 1, 2, 3, 4, 5] [1, 1, 1, 1, 1, 1] [.slice none 0 0, .slice none 0 0, .int .i64 0, .int .i64 0, .slice none 0 0, .slice none 0 0]),
 (217, .struct [0, 1, 2, 3, 4, 5] [1, 1, 1, 1, 1, 1] [.slice none 0 0, .slice none 0 0, .int .i64 0, .int .i64 0, .slice none 0 0, .slice none 0 0]),
 (220, .struct [0, 1, 2, 3] [1, 1, 1, 1] [.slice none 0 0, .slice none 0 0, .slice none 0 0, .slice none 0 0]),
 (221, .struct [0, 1, 2, 3] [1, 1, 1, 1] [.slice none 0 0, .slice none 0 0, .slice none 0 0, .slice none 0 0]),
 (222, .slice 224 2),
 (223, .struct [0, 1] [1, 1] [.slice none 0 0, .int .i64 0]),
 (224, .struct [0, 1] [1, 1] [.slice none 0 0, .int .i64 0]),
 (270, .struct [0, 1, 2] [1, 1, 1] [.slice none 0 0, .int .i64 0, .bool false]),
 (271, .struct [0, 1, 2] [1, 1, 1] [.slice none 0 0, .int .i64 0, .bool false]),
 (272, .struct [0, 1, 2, 3, 4] [1, 1, 1, 1, 1] [.bool false, .int .i64 0, .int .i64 0, .slice none 0 0, .slice none 0 0]),
 (273, .struct [0, 1, 2, 3, 4] [1, 1, 1, 1, 1] [.bool false, .int .i64 0, .int .i64 0, .slice none 0 0, .slice none 0 0]),
 (275, .struct [0, 1, 5, 6] [1, 4, 1, 1] [.slice none 0 0, .int .i64 0, .int .i64 0, .int .i64 0, .slice none 0 0, .int .i64 0, .int .i64 0]),
 (276, .struct [0, 1, 5, 6] [1, 4, 1, 1] [.slice none 0 0, .int .i64 0, .int .i64 0, .int .i64 0, .slice none 0 0, .int .i64 0, .int .i64 0]),
 (277, .slice 276 7),
 (293, .struct [0] [1] [.int .i64 0]),
 (294, .struct [0] [1] [.int .i64 0]),
 (302, .struct [0] [1] [.int .i64 0]),
 (303, .struct [0] [1] [.int .i64 0]),
 (308, .slice 311 1),
 (313, .struct [0] [1] [.int .i64 0]),
 (314, .struct [0] [1] [.int .i64 0]),
 (317, .struct [0, 1] [1, 1] [.slice none 0 0, Go.Value.map none]),
 (318, .struct [0, 1] [1, 1] [.slice none 0 0, Go.Value.map none]),
 (329, .slice 39 1),
 (348, .struct [0, 1] [1, 1] [Go.Value.nilIface, .slice none 0 0]),
 (349, .struct [0, 1] [1, 1] [Go.Value.nilIface, .slice none 0 0]),
 (358, .struct [0] [1] [.int .i64 0]),
 (359, .struct [0] [1] [.int .i64 0]),
 (374, .slice 24 1),
 (389, .struct [0, 1, 2, 3] [1, 1, 1, 4] [.slice none 0 0, .slice none 0 0, .slice none 0 0, .int .i64 0, .int .i64 0, .int .i64 0, .slice none 0 0]),
 (390, .struct [0, 1, 2, 3] [1, 1, 1, 4] [.slice none 0 0, .slice none 0 0, .slice none 0 0, .int .i64 0, .int .i64 0, .int .i64 0, .slice none 0 0]),
 (398, .struct [0, 1] [1, 1] [.slice none 0 0, .slice none 0 0]),
 (399, .struct [0, 1] [1, 1] [.slice none 0 0, .slice none 0 0]),
 (404, .struct [0] [1] [.int .i64 0]),
 (405, .struct [0] [1] [.int .i64 0]),
 (408, .struct [0, 1, 2] [1, 1, 1] [.int .i64 0, .int .i64 0, .slice none 0 0]),
 (409, .struct [0, 1, 2] [1, 1, 1] [.int .i64 0, .int .i64 0, .slice none 0 0]),
 (417, .slice 416 8),
 (444, .struct [0, 1, 2, 3, 4, 5, 6, 7, 8, 9] [1, 1, 1, 1, 1, 1, 1, 1, 1, 1] [Go.Value.pointer none, .int .i64 0, .slice none 0 0, .bool false, .bool false, .int .i64 0, .int .i64 0, .int .i64 0, .slice none 0 0, .bool false]),
 (445, .struct [0, 1, 2, 3, 4, 5, 6, 7, 8, 9] [1, 1, 1, 1, 1, 1, 1, 1, 1, 1] [Go.Value.pointer none, .int .i64 0, .slice none 0 0, .bool false, .bool false, .int .i64 0, .int .i64 0, .int .i64 0, .slice none 0 0, .bool false]),
 (490, .struct [0, 1, 2, 3, 4, 5, 6, 7, 8, 9, 10] [1, 1, 1, 1, 1, 1, 1, 1, 1, 1, 1] [.int .u64 0, .int .u64 0, .int .u32 0, .int .u8 0, .int .u8 0, .int .u8 0, .int .u8 0, Go.Value.nilFunc, Go.Value.pointer none, .int .i32 0, .int .i32 0]),
 (491, .struct [0, 1, 2, 3, 4, 5, 6, 7, 8, 9, 10] [1, 1, 1, 1, 1, 1, 1, 1, 1, 1, 1] [.int .u64 0, .int .u64 0, .int .u32 0, .int .u8 0, .int .u8 0, .int .u8 0, .int .u8 0, Go.Value.nilFunc, Go.Value.pointer none, .int .i32 0, .int .i32 0]),
 (2, .cell (.int .i64 0)),
 (3, .cell (.int .i64 0)),
 (4, .cell (.bool false)),
 (5, .cell (.int .u8 0)),
 (6, .cell (.int .u8 0)),
 (9, .str),
 (10, .str),
 (11, .str),
 (12, .cell (.int .u64 0)),
 (15, .cell (Go.Value.pointer none)),
 (16, .cell (Go.Value.pointer none)),
 (17, .cell (Go.Value.pointer none)),
 (20, .cell Go.Value.nilIface),
 (21, .cell (.int .i32 0)),
 (29, .cell (.int .i64 0)),
 (132, .cell (Go.Value.pointer none)),
 (136, .cell (Go.Value.pointer none)),
 (156, .map 3 3),
 (161, .cell Go.Value.nilFunc),
 (185, .cell (Go.Value.pointer none)),
 (198, .cell (Go.Value.pointer none)),
 (208, .cell (Go.Value.pointer none)),
 (209, .cell (Go.Value.pointer none)),
 (210, .cell (Go.Value.pointer none)),
 (233, .cell (Go.Value.pointer none)),
 (241, .map 9 4),
 (243, .arr 80 4 1 (List.replicate 80 (.bool false))),
 (244, .arr 80 4 1 (List.replicate 80 (.bool false))),
 (263, .cell (Go.Value.pointer none)),
 (304, .cell (Go.Value.pointer none)),
 (311, .cell Go.Value.nilFunc),
 (312, .cell (Go.Value.pointer none)),
 (316, .map 3 41),
 (322, .cell Go.Value.nilFunc),
 (325, .cell Go.Value.nilFunc),
 (332, .cell (Go.Value.pointer none)),
 (338, .cell Go.Value.nilFunc),
 (346, .cell Go.Value.nilIface),
 (347, .cell Go.Value.nilIface),
 (356, .cell (Go.Value.pointer none)),
 (357, .cell (Go.Value.pointer none)),
 (362, .cell Go.Value.nilFunc),
 (363, .map 3 4),
 (364, .cell Go.Value.nilFunc),
 (388, .cell Go.Value.nilFunc),
 (416, .arr 2 41 4 [.int .i64 0, .int .i64 0, .int .i64 0, .slice none 0 0, .int .i64 0, .int .i64 0, .int .i64 0, .slice none 0 0]),
 (422, .cell Go.Value.nilFunc),
 (443, .cell (Go.Value.pointer none)),
 (450, .cell (.int .u64 0)),
 (460, .cell (.int .i64 0)),
 (467, .cell (.int .u32 0)),
 (469, .cell (.int .u64 0)),
 (471, .cell (.int .u64 0)),
 (476, .cell (Go.Value.pointer none)),
 (484, .cell (.int .u8 0)),
 (485, .cell (.int .u8 0)),
 (487, .cell (Go.Value.pointer none)),
 (488, .cell (.int .i32 0)),
 (489, .cell (.int .i32 0))]
def tt : Tab := tabOf tyRows
set_option maxRecDepth 100000 in
theorem ttOK : TTOK Tryz.prog tt := qc ty22 (qc ty23 (qc ty24 (qc ty25 (qc ty26 (qc ty27 (qc ty28 (qc ty39 (qc ty40 (qc ty41 (qc ty42 (qc ty43 (qc ty45 (qc ty46 (qc ty52 (qc ty53 (qc ty73 (qc ty74 (qc ty75 (qc ty86 (qc ty87 (qc ty89 (qc ty90 (qc ty91 (qc ty99 (qc ty100 (qc ty106 (qc ty107 (qc ty108 (qc ty109 (qc ty110 (qc ty133 (qc ty134 (qc ty143 (qc ty144 (qc ty162 (qc ty163 (qc ty164 (qc ty165 (qc ty173 (qc ty186 (qc ty187 (qc ty188 (qc ty199 (qc ty200 (qc ty214 (qc ty215 (qc ty216 (qc ty217 (qc ty220 (qc ty221 (qc ty222 (qc ty223 (qc ty224 (qc ty270 (qc ty271 (qc ty272 (qc ty273 (qc ty275 (qc ty276 (qc ty277 (qc ty293 (qc ty294 (qc ty302 (qc ty303 (qc ty308 (qc ty313 (qc ty314 (qc ty317 (qc ty318 (qc ty329 (qc ty348 (qc ty349 (qc ty358 (qc ty359 (qc ty374 (qc ty389 (qc ty390 (qc ty398 (qc ty399 (qc ty404 (qc ty405 (qc ty408 (qc ty409 (qc ty417 (qc ty444 (qc ty445 (qc ty490 (qc ty491 (qc ty2 (qc ty3 (qc ty4 (qc ty5 (qc ty6 (qc ty9 (qc ty10 (qc ty11 (qc ty12 (qc ty15 (qc ty16 (qc ty17 (qc ty20 (qc ty21 (qc ty29 (qc ty132 (qc ty136 (qc ty156 (qc ty161 (qc ty185 (qc ty198 (qc ty208 (qc ty209 (qc ty210 (qc ty233 (qc ty241 (qc ty243 (qc ty244 (qc ty263 (qc ty304 (qc ty311 (qc ty312 (qc ty316 (qc ty322 (qc ty325 (qc ty332 (qc ty338 (qc ty346 (qc ty347 (qc ty356 (qc ty357 (qc ty362 (qc ty363 (qc ty364 (qc ty388 (qc ty416 (qc ty422 (qc ty443 (qc ty450 (qc ty460 (qc ty467 (qc ty469 (qc ty471 (qc ty476 (qc ty484 (qc ty485 (qc ty487 (qc ty488 (qc ty489 (TTOK_nil Tryz.prog))))))))))))))))))))))))))))))))))))))))))))))))))))))))))))))))))))))))))))))))))))))))))))))))))))))))))))))))))))))))))))))))))))))))))))))))))))
end
end Go.Proofs.YthkgcfplebgolaaGreat

namespace Go.Tr
section
open Go
def drawsOf : List (Nat × DTree × List Nat × List Nat) → Draws
 | [], _ => none
 | (n, t) :: r, id => match Nat.beq n id with
  | true => some t
  | false => drawsOf r id
end

section
open Go
def bnd (d : Nat) (n : Nat) : Option SV → Prop
 | none => n = d
 | some (.v (.int _ i)) => i = n
 | _ => False
theorem qm8 {d n : Nat} {s : Option SV} (h : bnd d n s) : (s = none ∧ n = d) ∨ ∃ k, s = some (.v (.int k n)) := by
 cases s with
 | none => exact .inl ⟨rfl, h⟩
 | some s =>
  cases s with
  | v x => cases x <;> simp only [bnd] at h; subst h; exact .inr ⟨_, rfl⟩
  | _ => exact h.elim
theorem Rep.part {J : Nat → Prop} {w : World} {a : Option Addr} {n c k : Nat} {ds : List D} (h : Rep J w (.slice a n c) (.sl k ds)) {lo hi : Nat} (h1 : lo ≤ hi) (h2 : hi ≤ n) (size : Nat) (hs : size = k) :
  Rep J w (.slice (if c = lo then a else a.map (·.add (lo * size))) (hi - lo) (c - lo)) (.sl k ((ds.take hi).drop lo)) := by
 subst hs
 simp only [Rep, RepC] at h ⊢
 obtain ⟨a', cap, heq, hle, hb⟩ := h
 simp only [List.cons.injEq, Value.slice.injEq, and_true] at heq
 obtain ⟨rfl, rfl, rfl⟩ := heq
 have hlen : ((ds.take hi).drop lo).length = hi - lo := by simp; omega
 refine ⟨_, _, by rw [hlen], ⟨by rw [hlen]; omega, by rw [hlen]; omega⟩, ?_⟩
 rcases hb with h3 | ⟨b, off, cc, T, fz, rfl, hj, hbb, he⟩
 ·subst h3; left; simp
 ·by_cases hc : c = lo
  ·left
   rw [List.drop_eq_nil_iff]
   simp; omega
  ·right
   refine ⟨b, off + lo * size, cc, T, fz, by rw [if_neg hc]; simp [qbz], hj, hbb, ?_⟩
   have := RepE.drop lo (RepE.take hi he)
   rw [List.drop_drop] at this
   exact this
theorem at_slice {P : Program} {tt : Tab} (hT : TTOK P tt) {t e : TypeId} {k : Nat} {x : SV} {sl sh : Option SV} {S : St} {K : SV → St → Prop} {a : Option Addr} {n c : Nat} {ds : List D} (j lo hi : Nat) (hx : x = .v (.slice a n c)) (ht : tt t = some (.slice e k))
  (hr : nth S.reps j = some (.slice a n c, .sl k ds)) (hlo : bnd 0 lo sl) (hhi : bnd n hi sh) (h1 : lo ≤ hi) (h2 : hi ≤ n)
  (h : ∀ a' c', hi - lo ≤ c' → addReps S [(.slice a' (hi - lo) c', .sl k ((ds.take hi).drop lo))] (fun S' => K (.v (.slice a' (hi - lo) c')) S')) : AtPure P (fun ℓ => Instr.sliceAt t (x.den ℓ) (denO ℓ sl) (denO ℓ sh) (denO ℓ none)) S K := by
 subst hx
 constructor
 intro J ℓ w hG hJ
 have hrep := hG.reps _ (List.mem_of_getElem? (by rw [← qab]; exact hr))
 have hcap : n ≤ c := by
  simp only [Rep, RepC] at hrep
  obtain ⟨a', cap, heq, hle, _⟩ := hrep
  simp only [List.cons.injEq, Value.slice.injEq, and_true] at heq
  obtain ⟨rfl, rfl, rfl⟩ := heq
  exact hle.1
 have hpart := hrep.part h1 h2 k rfl
 have hk := h (if c = lo then a else a.map (·.add (lo * k))) (c - lo) (by omega)
 rw [qbs] at hk
 have hG' := hG.reps_add [(_, _)] (by intro p hp; simp only [List.mem_singleton] at hp; subst hp; exact hpart)
 refine ⟨_, ℓ, _, ?_, rfl, List.prefix_refl _, hG', fun b hb => hb, fun i cs hi => hi, hk⟩
 intro w'
 obtain ⟨_, hu, hse⟩ := hT t _ ht
 have hb : (Instr.sliceBounds true n c (denO ℓ sl) (denO ℓ sh) none).run P w' = .ok (lo, hi, c) w' := by
  rcases qm8 hlo with ⟨rfl, rfl⟩ | ⟨k1, rfl⟩ <;> rcases qm8 hhi with ⟨rfl, rfl⟩ | ⟨k2, rfl⟩ <;> simp [Instr.sliceBounds, Instr.sliceBound, asIntOf, denO, SV.den, h1, Nat.le_trans h2 hcap, h2]
 simp only [Instr.sliceAt, SV.den, Sem.run_bind, qq hu, Result.andThen_ok]
 simp only [Instr.slice, Sem.run_bind, qq hu, Result.andThen_ok, denO]
 have hb' := hb
 simp only [denO] at hb'
 rw [hb']
 simp only [Result.andThen_ok, hse, Sem.run_pure]
def elemB (P : Program) (e : TypeId) (k bytes : Nat) : Bool :=
 match P.info? e with
 | some i => (Nat.beq i.size k && Nat.beq i.bytes bytes) && (match i.zero with
  | some z => Nat.beq z.cells.size k
  | none => false)
 | none => false
theorem qcz {P : Program} {e : TypeId} {k bytes : Nat} (h : elemB P e k bytes = true) : ∃ i z, P.info? e = some i ∧ i.size = k ∧ i.bytes = bytes ∧ i.zero = some z ∧ z.cells.size = k := by
 unfold elemB at h
 split at h
 ·rename_i i hi
  simp only [Bool.and_eq_true] at h
  obtain ⟨⟨h1, h2⟩, h3⟩ := h
  split at h3
  ·rename_i z hz
   exact ⟨i, z, hi, Nat.eq_of_beq_eq_true h1, Nat.eq_of_beq_eq_true h2, hz, Nat.eq_of_beq_eq_true h3⟩
  ·cases h3
 ·cases h
def partsOK (reps : List (Value × D)) (k : Nat) : Nat → List (Nat × SV) → List D → Prop
 | _, [], [] => True
 | i, (j, s) :: l, d :: ds => (j = i ∧ plainS s = true ∧ (cellsOf s).length = k ∧ RepS reps d (cellsOf s)) ∧ partsOK reps k (i + 1) l ds
 | _, _, _ => False
theorem fill_row (ℓ : List Base) {reps : List (Value × D)} {k : Nat} : ∀ (l : List (Nat × SV)) (ds : List D) (i : Nat) (cells : List Value), partsOK reps k i l ds → i * k + ds.length * k ≤ cells.length →
  ∃ flat, flat.length = ds.length * k ∧ Instr.fill (fun i => some (i * k, k)) cells.toArray (denParts ℓ l) = some (cells.take (i * k) ++ flat ++ cells.drop (i * k + ds.length * k)).toArray ∧
   ∀ {J : Nat → Prop} {w : World}, (∀ p ∈ reps, Rep J w p.1 p.2) → ∀ tail, RepE J w k ds (flat ++ tail)
 | [], [], i, cells, _, hl => ⟨[], by simp, by simp [denParts, Instr.fill], fun _ _ => trivial⟩
 | [], _ :: _, i, cells, h, _ => h.elim
 | _ :: _, [], i, cells, h, _ => h.elim
 | (j, s) :: l, d :: ds, i, cells, h, hl => by
  obtain ⟨⟨rfl, hp, hk, hrep⟩, h⟩ := h
  simp only [List.length_cons, Nat.add_mul, Nat.one_mul] at hl
  have hc : (s.den ℓ).cells = (qd ℓ (cellsOf s)).toArray := qaj ℓ hp
  have hxl : (qd ℓ (cellsOf s)).length = k := by rw [qo, hk]
  have hf := qe5 (qd ℓ (cellsOf s)) cells.toArray (j * k) (by simp only [List.size_toArray]; omega)
  have hsr : setRange cells (j * k) (qd ℓ (cellsOf s)) = cells.take (j * k) ++ qd ℓ (cellsOf s) ++ cells.drop (j * k + k) := by
   simp only [setRange, hxl]; try rw [List.append_assoc]
  have hlen : (setRange cells (j * k) (qd ℓ (cellsOf s))).length = cells.length := qc7 _ _ _ (by omega)
  obtain ⟨flat, hfl, hfill, hrepE⟩ := fill_row ℓ l ds (j + 1) (setRange cells (j * k) (qd ℓ (cellsOf s))) h (by rw [hlen, Nat.add_mul]; omega)
  refine ⟨qd ℓ (cellsOf s) ++ flat, by rw [List.length_append, hxl, hfl, List.length_cons, Nat.add_mul]; omega, ?_, ?_⟩
  ·simp only [denParts, Instr.fill, hc]
   rw [if_neg (by simp [hxl]; omega)]
   simp only [] at hf
   rw [hf]
   rw [hfill]
   have e1 : (j + 1) * k = j * k + k := by rw [Nat.add_mul]; omega
   rw [e1, hsr]
   congr 2
   have hpre : (cells.take (j * k) ++ qd ℓ (cellsOf s)).length = j * k + k := by simp [hxl]; omega
   rw [List.take_append_of_le_length (by omega), List.take_of_length_le (by omega)]
   rw [List.drop_append, List.drop_of_length_le (by omega), hpre]
   simp only [List.nil_append, List.drop_drop, List.append_assoc, List.length_cons, Nat.add_mul, Nat.one_mul]
   congr 3
   congr 1
   omega
  ·intro J w hr tail
   simp only [RepE, List.append_assoc]
   refine ⟨by simp [hxl], ?_, ?_⟩
   ·rw [List.take_append_of_le_length (by omega), List.take_of_length_le (by omega)]
    exact RepS.sound hr d _ hrep
   ·rw [List.drop_append, List.drop_of_length_le (by omega), hxl, Nat.sub_self]
    exact hrepE hr tail
theorem qmm {P : Program} {e : TypeId} {i : TypeInfo} {z : Value} (hi : P.info? e = some i) (hz : i.zero = some z) (w : World) : (zeroValue e).run P w = .ok z w := by
 simp [zeroValue, typeInfo, hi, hz]
theorem qoa {P : Program} {tt : Tab} (hT : TTOK P tt) {t e : TypeId} {k bytes n : Nat} (ht : tt t = some (.slice e k)) (hel : elemB P e k bytes = true) {ℓ : List Base} {reps : List (Value × D)} {l : List (Nat × SV)} {ds : List D} (hl : partsOK reps k 0 l ds) (hn : ds.length = n) (hlim : n * k ≤ 16777216) (w : World) :
  ∃ flat : List Value, flat.length = n * k ∧ (Instr.buildSlice t n (denParts ℓ l).toArray).run P w = .ok (.slice (some ⟨w.heap.size, 0, none⟩) n n) (w.alloc (.cells flat.toArray e (0, 0))) ∧
   ∀ {J : Nat → Prop} {w : World}, (∀ p ∈ reps, Rep J w p.1 p.2) → RepE J w k ds flat := by
 obtain ⟨_, hu, hse⟩ := hT t _ ht
 obtain ⟨i, z, hi, hik, _, hz, hzk⟩ := qcz hel
 have hkey : ∀ zero : Array Value, ∃ flat : List Value, flat.length = n * k ∧ Instr.fill (fun i => some (i * k, k)) ((Array.range (n * k)).map (zero[· % zero.size]!)) (denParts ℓ l) = some flat.toArray ∧
   ∀ {J : Nat → Prop} {w : World}, (∀ p ∈ reps, Rep J w p.1 p.2) → RepE J w k ds flat := by
  intro zero
  obtain ⟨flat, h1, h2, h3⟩ := fill_row ℓ l ds 0 ((Array.range (n * k)).map (zero[· % zero.size]!)).toList hl (by simp [hn])
  refine ⟨flat, by rw [h1, hn], ?_, fun hr => by simpa using h3 hr []⟩
  simp only [Array.toArray_toList, Nat.zero_mul, List.take_zero, List.nil_append, Nat.zero_add] at h2
  rw [h2, hn, List.drop_of_length_le (by simp), List.append_nil]
 by_cases h0 : n * k = 0
 ·obtain ⟨flat, h1, h2, h3⟩ := hkey #[]
  refine ⟨flat, h1, ?_, h3⟩
  simp only [Instr.buildSlice, Sem.run_bind, qq hu, Result.andThen_ok, hse]
  rw [if_neg (by omega), if_pos h0]
  simp only [Sem.run_bind, Sem.run_pure, Result.andThen_ok]
  rw [h2]
  simp [newRow]
 ·obtain ⟨flat, h1, h2, h3⟩ := hkey z.cells
  refine ⟨flat, h1, ?_, h3⟩
  simp only [Instr.buildSlice, Sem.run_bind, qq hu, Result.andThen_ok, hse]
  rw [if_neg (by omega), if_neg h0]
  simp only [Sem.run_bind, Sem.run_pure, Result.andThen_ok, qmm hi hz]
  rw [h2]
  simp [newRow]
theorem Good.beside {J : Nat → Prop} {ℓ : List Base} {S : St} {w w' : World} (h : Good J ℓ S w) (hsz : w.heap.size ≤ w'.heap.size) (hw : ∀ b, b < w.heap.size → w'.heap[b]? = w.heap[b]?) : Good J ℓ S w' :=
 h.kept (fun _ h => h) hsz (fun b hb _ => hw b hb)
theorem qmh {P : Program} {tt : Tab} (hT : TTOK P tt) {t e : TypeId} {k n : Nat} {l : List (Nat × SV)} {S : St} {K : SV → St → Prop} (bytes : Nat) (ds : List D) (ht : tt t = some (.slice e k)) (hel : elemB P e k bytes = true) (hl : partsOK S.reps k 0 l ds) (hn : ds.length = n) (hlim : n * k ≤ 16777216) (hpos : n ≤ 16777216)
  (h : ∀ a, addReps S [(.slice a n n, .sl k ds)] (fun S' => K (.v (.slice a n n)) S')) : AtSem P (fun ℓ => Instr.buildSlice t n (denParts ℓ l).toArray) S K := by
 constructor
 intro J ℓ w hG hJ
 obtain ⟨flat, hfl, hrun, hrep⟩ := qoa hT ht hel (ℓ := ℓ) hl hn hlim w
 have hold : ∀ x, x < w.heap.size → (w.alloc (.cells flat.toArray e (0, 0))).heap[x]? = w.heap[x]? := fun x hx => by
  show (w.heap.push _)[x]? = _
  rw [Array.getElem?_push, if_neg (by omega)]
 have hG1 := hG.beside (w' := w.alloc (.cells flat.toArray e (0, 0))) (by simp) hold
 have hk := h (some ⟨w.heap.size, 0, none⟩)
 rw [qbs] at hk
 refine ⟨.v (.slice (some ⟨w.heap.size, 0, none⟩) n n), ℓ, ⟨S.own, S.accs, S.reps ++ [(.slice (some ⟨w.heap.size, 0, none⟩) n n, .sl k ds)]⟩, w.alloc (.cells flat.toArray e (0, 0)), hrun, rfl, List.prefix_refl _, ⟨rfl, rfl, by simp, fun b hb _ => hold b hb⟩, hG1.reps_add [(_, _)] ?_, fun b hb => .inl hb, hk⟩
 intro p hp
 simp only [List.mem_singleton] at hp
 subst hp
 simp only [Rep, RepC]
 refine ⟨_, _, by rw [hn], ⟨by omega, by omega⟩, .inr ⟨w.heap.size, 0, flat.toArray, e, (0, 0), rfl, ⟨hJ _ (Nat.le_refl _), fun hm => by have := hG.lt _ hm; omega⟩, World.alloc_heap_new w _, ?_⟩⟩
 simpa using hrep hG1.reps
theorem RepC.one {J : Nat → Prop} {w : World} : ∀ (d : D) (cs : List Value), RepC J w d cs → ∀ u ∈ cs, u.oneCell' = true
 | .int k n, cs, h, u, hu => by simp only [RepC] at h; subst h; simp at hu; subst hu; rfl
 | .bool b, cs, h, u, hu => by simp only [RepC] at h; subst h; simp at hu; subst hu; rfl
 | .str s, cs, h, u, hu => by simp only [RepC] at h; subst h; simp at hu; subst hu; rfl
 | .sl k ds, cs, h, u, hu => by simp only [RepC] at h; obtain ⟨a, cap, rfl, _⟩ := h; simp at hu; subst hu; rfl
 | .agg ds, cs, h, u, hu => by simp only [RepC] at h; exact RepA.one ds cs h u hu
 | .ifc t d, cs, h, u, hu => by simp only [RepC] at h; obtain ⟨v, rfl, _⟩ := h; simp at hu; subst hu; rfl
where
 RepA.one {J : Nat → Prop} {w : World} : ∀ (ds : List D) (cs : List Value), RepA J w ds cs → ∀ u ∈ cs, u.oneCell' = true
 | [], cs, h, u, hu => by simp only [RepA] at h; subst h; simp at hu
 | d :: ds, cs, h, u, hu => by
  simp only [RepA] at h
  obtain ⟨x, y, rfl, h1, h2⟩ := h
  rcases List.mem_append.1 hu with h3 | h3
  ·exact RepC.one d x h1 u h3
  ·exact RepA.one ds y h2 u h3
theorem RepE.one {J : Nat → Prop} {w : World} {k : Nat} : ∀ (ds : List D) (cs : List Value), RepE J w k ds cs → ∀ u ∈ cs.take (ds.length * k), u.oneCell' = true
 | [], cs, _, u, hu => by simp at hu
 | d :: ds, cs, h, u, hu => by
  simp only [RepE] at h
  simp only [List.length_cons, Nat.add_mul, Nat.one_mul] at hu
  rw [Nat.add_comm, List.take_add] at hu
  rcases List.mem_append.1 hu with h3 | h3
  ·exact RepC.one d _ h.2.1 u h3
  ·exact RepE.one ds _ h.2.2 u h3
theorem Good.regrow {J : Nat → Prop} {ℓ : List Base} {S : St} {w w' : World} (h : Good J ℓ S w) (hJ : Fresh J w) {j : Nat} {a a' : Acc} (ha : S.accs[j]? = some a) (hsz : w.heap.size ≤ w'.heap.size) (hw : ∀ b, b < w.heap.size → b ∉ accBlk a.v → w'.heap[b]? = w.heap[b]?) (hnd : (accBlk a'.v).Nodup)
  (hblk : ∀ b ∈ accBlk a'.v, (b ∈ accBlk a.v ∨ w.heap.size ≤ b) ∧ b < w'.heap.size)
  (hok : ∀ J', (∀ x, x < w.heap.size → Jx J (mutS ℓ S) x → J' x ∧ w'.heap[x]? = w.heap[x]?) → AccOK J' w' a') :
  Good J ℓ ⟨S.own, S.accs.set j a', S.reps⟩ w' ∧ (∀ b ∈ mutS ℓ ⟨S.own, S.accs.set j a', S.reps⟩, b ∈ mutS ℓ S ∨ w.heap.size ≤ b) := by
 have hlt : j < S.accs.length := (List.getElem?_eq_some_iff.1 ha).1
 have hsplit : S.accs = S.accs.take j ++ a :: S.accs.drop (j + 1) := by
  have e1 := (List.getElem?_eq_some_iff.1 ha).2
  rw [← e1, ← List.drop_eq_getElem_cons hlt, List.take_append_drop]
 have hset : S.accs.set j a' = S.accs.take j ++ a' :: S.accs.drop (j + 1) := List.set_eq_take_append_cons_drop .. |>.trans (by rw [if_pos hlt])
 generalize hl1 : S.accs.take j = l1 at *
 generalize hl2 : S.accs.drop (j + 1) = l2 at *
 let bl : Acc → List Nat := fun a => accBlk a.v
 have hM : mutS ℓ S = mutL ℓ S.own ++ (l1.flatMap bl ++ (accBlk a.v ++ l2.flatMap bl)) := by
  simp only [mutS, hsplit, List.flatMap_append, List.flatMap_cons, bl]
 have hM' : mutS ℓ ⟨S.own, S.accs.set j a', S.reps⟩ = mutL ℓ S.own ++ (l1.flatMap bl ++ (accBlk a'.v ++ l2.flatMap bl)) := by
  simp only [mutS, hset, List.flatMap_append, List.flatMap_cons, bl]
 have hn := h.nodup
 rw [hM, List.nodup_append, List.nodup_append, List.nodup_append] at hn
 obtain ⟨n1, ⟨n2, ⟨n3, n4, n34⟩, n234⟩, n1234⟩ := hn
 have oldlt : ∀ b, b ∈ mutL ℓ S.own ∨ b ∈ l1.flatMap bl ∨ b ∈ l2.flatMap bl → b < w.heap.size := fun b hb => h.lt b (by
  rw [hM]; simp only [List.mem_append]
  rcases hb with h1 | h1 | h1
  ·exact .inl h1
  ·exact .inr (.inl h1)
  ·exact .inr (.inr (.inr h1)))
 -- what else may be written is not the slice's block
 have apart : ∀ b, b ∈ mutL ℓ S.own ∨ b ∈ l1.flatMap bl ∨ b ∈ l2.flatMap bl → b ∉ accBlk a.v := by
  intro b hb hm
  rcases hb with h1 | h1 | h1
  ·exact n1234 b h1 b (List.mem_append.2 (.inr (List.mem_append.2 (.inl hm)))) rfl
  ·exact n234 b h1 b (List.mem_append.2 (.inl hm)) rfl
  ·exact n34 b hm b h1 rfl
 have apart' : ∀ b, b ∈ mutL ℓ S.own ∨ b ∈ l1.flatMap bl ∨ b ∈ l2.flatMap bl → b ∉ accBlk a'.v := by
  intro b hb hm
  rcases (hblk b hm).1 with h1 | h1
  ·exact apart b hb h1
  ·have := oldlt b hb; omega
 have hmem : ∀ b, b ∈ mutS ℓ ⟨S.own, S.accs.set j a', S.reps⟩ → (b ∈ mutL ℓ S.own ∨ b ∈ l1.flatMap bl ∨ b ∈ l2.flatMap bl) ∨ b ∈ accBlk a'.v := by
  intro b hb
  rw [hM'] at hb
  simp only [List.mem_append] at hb
  rcases hb with h1 | h1 | h1 | h1
  ·exact .inl (.inl h1)
  ·exact .inl (.inr (.inl h1))
  ·exact .inr h1
  ·exact .inl (.inr (.inr h1))
 have hin : ∀ b, b ∈ mutL ℓ S.own ∨ b ∈ l1.flatMap bl ∨ b ∈ l2.flatMap bl → b ∈ mutS ℓ S := by
  intro b hb
  rw [hM]; simp only [List.mem_append]
  rcases hb with h1 | h1 | h1
  ·exact .inl h1
  ·exact .inr (.inl h1)
  ·exact .inr (.inr (.inr h1))
 have hina : ∀ b, b ∈ accBlk a.v → b ∈ mutS ℓ S := by
  intro b hb; rw [hM]; simp only [List.mem_append]; exact .inr (.inr (.inl hb))
 have hx : ∀ x, x < w.heap.size → Jx J (mutS ℓ S) x → Jx J (mutS ℓ ⟨S.own, S.accs.set j a', S.reps⟩) x ∧ w'.heap[x]? = w.heap[x]? := by
  intro x hlt' hj
  refine ⟨⟨hj.1, fun hm => ?_⟩, hw x hlt' (fun hm => hj.2 (hina x hm))⟩
  rcases hmem x hm with h1 | h1
  ·exact hj.2 (hin x h1)
  ·rcases (hblk x h1).1 with h2 | h2
   ·exact hj.2 (hina x h2)
   ·omega
 refine ⟨⟨h.len, ?_, ?_, ?_, h.wf, ?_, ?_, ?_⟩, ?_⟩
 ·rw [hM', List.nodup_append, List.nodup_append, List.nodup_append]
  refine ⟨n1, ⟨n2, ⟨hnd, n4, ?_⟩, ?_⟩, ?_⟩
  ·intro x h1 y h2 e; subst e; exact apart' x (.inr (.inr h2)) h1
  ·intro x h1 y h2 e; subst e
   rcases List.mem_append.1 h2 with h3 | h3
   ·exact apart' x (.inr (.inl h1)) h3
   ·exact n234 x h1 x (List.mem_append.2 (.inr h3)) rfl
  ·intro x h1 y h2 e; subst e
   rcases List.mem_append.1 h2 with h3 | h3
   ·exact n1234 x h1 x (List.mem_append.2 (.inl h3)) rfl
   ·rcases List.mem_append.1 h3 with h4 | h4
    ·exact apart' x (.inl h1) h4
    ·exact n1234 x h1 x (List.mem_append.2 (.inr (List.mem_append.2 (.inr h4)))) rfl
 ·intro b hb
  rcases hmem b hb with h1 | h1
  ·exact Nat.lt_of_lt_of_le (oldlt b h1) hsz
  ·exact (hblk b h1).2
 ·intro b hb
  rcases hmem b hb with h1 | h1
  ·exact h.memJ b (hin b h1)
  ·rcases (hblk b h1).1 with h2 | h2
   ·exact h.memJ b (hina b h2)
   ·exact hJ b h2
 ·intro i b k hi hk
  have h0 := h.own i b k hi hk
  have own : k.mut = true → b.block < w.heap.size → w'.heap[b.block]? = w.heap[b.block]? := fun hm hlt => hw _ hlt (apart _ (.inl (mem_mutL.2 ⟨i, b, k, hi, hk, hm, rfl⟩)))
  have hwk := qak h.wf hk
  cases k with
  | cells T cs => exact h0.keep hwk (fun _ _ => rfl) (fun x hlt hj => (hx x hlt hj).1) (own rfl)
  | obj o => exact h0.keep hwk (fun _ _ => rfl) (fun x hlt hj => (hx x hlt hj).1) (own rfl)
  | lp x => exact h0.keep hwk (fun _ _ => rfl) (fun x hlt hj => (hx x hlt hj).1) (own rfl)
  | iter i s n p => exact h0.keep hwk (fun _ _ => rfl) (fun x hlt hj => (hx x hlt hj).1) (own rfl)
  | imm cs =>
   have h1 := h0
   simp only [BlkOK] at h1
   exact h0.keep hwk (fun _ _ => rfl) (fun x hlt hj => (hx x hlt hj).1) (fun hlt => (hx _ hlt h1.1).2)
  | dead => trivial
  | lost => trivial
 ·intro x hx'
  simp only [hset] at hx'
  have old : (x ∈ l1 ∨ x ∈ l2) → AccOK (Jx J (mutS ℓ ⟨S.own, S.accs.set j a', S.reps⟩)) w' x := by
   intro hm
   refine (h.accs x (by rw [hsplit]; rcases hm with h1 | h1; exact List.mem_append.2 (.inl h1); exact List.mem_append.2 (.inr (List.mem_cons_of_mem _ h1)))).keep hx (fun y hy hlt => hw y hlt (apart y ?_))
   rcases hm with h1 | h1
   ·exact .inr (.inl (List.mem_flatMap.2 ⟨x, h1, hy⟩))
   ·exact .inr (.inr (List.mem_flatMap.2 ⟨x, h1, hy⟩))
  rcases List.mem_append.1 hx' with h1 | h1
  ·exact old (.inl h1)
  ·rcases List.mem_cons.1 h1 with h2 | h2
   ·subst h2; exact hok _ hx
   ·exact old (.inr h2)
 ·exact fun p hp => (h.reps p hp).map hx
 ·intro b hb
  rcases hmem b hb with h1 | h1
  ·exact .inl (hin b h1)
  ·exact (hblk b h1).1.imp (hina b) id
theorem qjk {P : Program} {tt : Tab} (hT : TTOK P tt) {t e ty : TypeId} {k : Nat} {x y : SV} {S : St} {K : SV → St → Prop} {a0 : Option Addr} {n0 c0 : Nat} {a : Option Addr} {m c : Nat} {ds es : List D} (bytes j i : Nat) (ht : tt t = some (.slice e k)) (hel : elemB P e k bytes = true)
  (hx : x = .v (.slice a0 n0 c0)) (hacc : nth S.accs j = some ⟨.slice a0 n0 c0, k, e, ds⟩) (hy : y = .v (.slice a m c)) (hr : nth S.reps i = some (.slice a m c, .sl k es)) (hlim : (ds.length + es.length) * bytes ≤ 140737488355328) (hlen : ds.length + es.length ≤ 1152921504606846976)
  (h : ∀ a' c', forceL (setNth S.accs j ⟨.slice a' (ds.length + es.length) c', k, e, ds ++ es⟩) (fun accs => K (.v (.slice a' (ds.length + es.length) c')) ⟨S.own, accs, S.reps⟩)) : AtSem P (fun ℓ => Builtin.append_ #[t, t] ty (qd ℓ [x, y]).toArray) S K := by
 simp only [qu] at h
 subst hx hy
 constructor
 intro J ℓ w hG hJ
 obtain ⟨_, hu, hse⟩ := hT t _ ht
 obtain ⟨ti, z, hi, hik, hby, hz, hzk⟩ := qcz hel
 have ha : S.accs[j]? = some ⟨.slice a0 n0 c0, k, e, ds⟩ := by rw [← qab]; exact hacc
 have hok := (hG.accs _ (List.mem_of_getElem? ha)).two (fun _ _ _ e => by cases e)
 generalize Value.slice a0 n0 c0 = v at *
 have hrep := hG.reps _ (List.mem_of_getElem? (by rw [← qab]; exact hr))
 simp only [Rep, RepC] at hrep
 obtain ⟨a', cap, heq, hle, hb⟩ := hrep
 simp only [List.cons.injEq, Value.slice.injEq, and_true] at heq
 obtain ⟨rfl, rfl, rfl⟩ := heq
 have hut : P.underlying t = some (.slice e) := hu
 -- put together
 have fin : ∀ v' w' a', a' = (⟨v', k, e, ds ++ es⟩ : Acc) → (∃ b' c', v' = .slice b' (ds.length + es.length) c') → (Builtin.append_ #[t, t] ty #[v, .slice a es.length c]).run P w = .ok v' w' → w'.os = w.os → w'.output = w.output → w.heap.size ≤ w'.heap.size → (∀ b, b < w.heap.size → b ∉ accBlk v → w'.heap[b]? = w.heap[b]?) → (accBlk v').Nodup →
   (∀ b ∈ accBlk v', (b ∈ accBlk v ∨ w.heap.size ≤ b) ∧ b < w'.heap.size) → (∀ J', (∀ x, x < w.heap.size → Jx J (mutS ℓ S) x → J' x ∧ w'.heap[x]? = w.heap[x]?) → AccOK J' w' a') →
   ∃ r ℓ' S' w', (Builtin.append_ #[t, t] ty (qd ℓ [.v v, .v (.slice a es.length c)]).toArray).run P w = .ok (r.den ℓ') w' ∧ r.wf S'.own.length = true ∧ ℓ <+: ℓ' ∧ Ext (mutS ℓ S) w w' ∧ Good J ℓ' S' w' ∧ (∀ b ∈ mutS ℓ' S', b ∈ mutS ℓ S ∨ w.heap.size ≤ b) ∧ K r S' := by
  intro v' w' a' ea hv' hrun h1 h2 h3 h4 h5 h6 h7
  subst ea
  obtain ⟨b', c', rfl⟩ := hv'
  obtain ⟨hG', hf⟩ := hG.regrow hJ ha h3 h4 h5 h6 h7
  refine ⟨.v (.slice b' (ds.length + es.length) c'), ℓ, _, w', hrun, rfl, List.prefix_refl _, ⟨h1, h2, h3, fun b hb hm => h4 b hb (fun hb' => hm ?_)⟩, hG', hf, h b' c'⟩
  simp only [mutS]
  exact List.mem_append.2 (.inr (List.mem_flatMap.2 ⟨_, List.mem_of_getElem? ha, hb'⟩))
 -- nothing is appended
 by_cases hes : es = []
 ·subst hes
  rcases hok with ⟨hv, hd⟩ | ⟨b, cp, cc, hv, hbb, hcs, hl, hre⟩
  ·simp only at hv hd
   subst hv hd
   refine fin (.slice none 0 0) w _ rfl ⟨_, _, rfl⟩ ?_ rfl rfl (Nat.le_refl _) (fun _ _ _ => rfl) (by simp [accBlk]) (by simp [accBlk]) (fun J' _ => .inl ⟨rfl, rfl⟩)
   cases a with
   | none => simp [Builtin.append_, run_underlying hut, sizeOf, typeInfo, hi, Builtin.lenOf, run_firstCells_none]
   | some ad =>
    have hf := run_firstCells_some (P := P) w ti.size 0 ad 0 c [] (by simp) (by simp)
    simp [Builtin.append_, run_underlying hut, sizeOf, typeInfo, hi, Builtin.lenOf, hf]
  ·simp only at hv
   subst hv
   refine fin (.slice (some ⟨b, 0, none⟩) ds.length cp) w _ rfl ⟨_, _, rfl⟩ ?_ rfl rfl (Nat.le_refl _) (fun _ _ _ => rfl) (by simp [accBlk]) (fun x hx => ⟨.inl hx, hG.lt x (by simp only [mutS]; exact List.mem_append.2 (.inr (List.mem_flatMap.2 ⟨_, List.mem_of_getElem? ha, hx⟩)))⟩) (fun J' hj => ?_)
   ·cases a with
    | none => simp [Builtin.append_, run_underlying hut, sizeOf, typeInfo, hi, Builtin.lenOf, run_firstCells_none, hl.1, storeCells]
    | some ad =>
     have hf := run_firstCells_some (P := P) w ti.size 0 ad 0 c [] (by simp) (by simp)
     simp [Builtin.append_, run_underlying hut, sizeOf, typeInfo, hi, Builtin.lenOf, hf, hl.1, storeCells]
   ·refine .row ⟨b, cp, cc, by simp, hbb, hcs, by simpa using hl, ?_⟩
    simp only [List.append_nil]
    exact RepE.map hj k _ _ hre
 -- something is
 ·obtain ⟨bb, off, bc, bT, fz, rfl, hbj, hbb, hbe⟩ := hb.resolve_left hes
  have hpos : 0 < es.length := List.length_pos_iff.2 hes
  let news := (bc.toList.drop off).take (es.length * k)
  have hnl : news.length = es.length * k := by
   have := hbe.len
   simp only [news, List.length_take]; omega
  have hnews : ∀ q u, news[q]? = some u → w.cell? ((⟨bb, off, none⟩ : Addr).add q) = some u := by
   intro q u hq
   simp only [news, List.getElem?_take, List.getElem?_drop] at hq
   split at hq
   ·rw [qbz]
    simp only [World.cell?, hbb]
    simpa using hq
   ·cases hq
  have hone : ∀ u ∈ news, u.oneCell' = true := RepE.one es _ hbe
  have hrn : ∀ {J' : Nat → Prop} {w' : World}, (∀ x, x < w.heap.size → Jx J (mutS ℓ S) x → J' x ∧ w'.heap[x]? = w.heap[x]?) → RepE J' w' k es news := by
   intro J' w' hj
   refine RepE.cut (RepE.map hj k es _ hbe) (Nat.le_of_eq hnl.symm) ?_
   simp only [news, List.take_take, Nat.min_self]
  rcases hok with ⟨hv, hd⟩ | ⟨b, cp, cc, hv, hgb, hcs, hl, hre⟩
  ·simp only at hv hd
   subst hv hd
   simp only [List.length_nil, Nat.zero_add] at hlim hlen
   have hrun := run_append_nil (P := P) w t ty e ti z hut hi hz ⟨bb, off, none⟩ es.length c news (by rw [hik]; exact hnl) hnews hpos (by omega) (by rw [hby]; omega)
   have hge := grownCap_ge w es.length 0 e
   refine fin _ _ _ rfl ⟨some ⟨w.heap.size, 0, none⟩, grownCap w es.length 0 e, by simp⟩ hrun rfl rfl (by simp) ?_ (by simp [accBlk]) ?_ ?_
   ·intro x hx _
    show (w.drew.heap.push _)[x]? = _
    rw [Array.getElem?_push, if_neg (by show ¬ x = w.heap.size; omega)]; rfl
   ·intro x hx
    simp [accBlk] at hx
    subst hx
    exact ⟨.inr (Nat.le_refl _), by show w.heap.size < (w.heap.push _).size; simp⟩
   ·intro J' hj
    refine .row ⟨w.heap.size, grownCap w es.length 0 e, _, by simp, World.alloc_heap_new w.drew _, ?_, by simp; exact ⟨hge, hlen⟩, ?_⟩
    ·simp only [Array.size_append, List.size_toArray, hnl, size_zeroCells, hzk, ← Nat.add_mul]
     congr 1; omega
    ·simp only [List.nil_append, Array.toList_append]
     exact RepE.cut (hrn hj) (by simp [hnl]) (by rw [List.take_append_of_le_length (by simp [hnl])])
  ·simp only at hv hgb hcs hl hre
   subst hv
   have hlen' : ((ds ++ es).length) = ds.length + es.length := by simp
   by_cases hroom : ds.length + es.length ≤ cp
   ·have hfit : ds.length * ti.size + news.length ≤ cc.size := by rw [hik, hnl, hcs, ← Nat.add_mul]; exact Nat.mul_le_mul_right _ hroom
    have hrun := run_append_room (P := P) w t ty e ti hut hi b ds.length cp cc hgb ⟨bb, off, none⟩ es.length c news (by rw [hik]; exact hnl) hnews hone hroom hfit
    rw [hik] at hrun hfit
    refine fin _ _ _ rfl ⟨_, _, rfl⟩ hrun rfl rfl (by simp) ?_ (by simp [accBlk]) ?_ ?_
    ·intro x hx hm
     exact setRow_other w b x _ (fun e => hm (by simp [accBlk, e]))
    ·intro x hx
     simp [accBlk] at hx
     subst hx
     exact ⟨.inl (by simp [accBlk]), by simpa using qag hgb⟩
    ·intro J' hj
     refine .row ⟨b, cp, _, by rw [hlen'], setRow_heap w b cc _ e _ hgb, ?_, by rw [hlen']; exact ⟨hroom, hlen⟩, ?_⟩
     ·simp only [List.size_toArray, List.length_append, List.length_take, List.length_drop, Array.length_toList]
      omega
     ·have h1 := RepE.map hj k ds _ hre
      have hdl := hre.len
      have h2 : RepE J' (w.setRow b (cc.toList.take (ds.length * k) ++ news ++ cc.toList.drop (ds.length * k + news.length)).toArray) k (ds ++ es) (cc.toList.take (ds.length * k) ++ news) := by
       have htl : (cc.toList.take (ds.length * k)).length = ds.length * k := by rw [List.length_take, Nat.min_eq_left hdl]
       exact RepE.append (RepE.cut h1 (Nat.le_of_eq htl.symm) (by rw [List.take_take, Nat.min_self])) htl (hrn hj)
      exact RepE.cut h2 (by simp [hnl, Nat.add_mul]; have := hdl; simp at this; omega) (by
       rw [List.append_assoc]
       rw [← List.append_assoc, List.take_append_of_le_length]
       simp [hnl, Nat.add_mul]; have := hdl; simp at this; omega)
   ·have hlo : ((cc.toList).take (ds.length * k)).length = ds.length * ti.size := by
     have := hre.len
     rw [hik, List.length_take]; omega
    have holds : ∀ q u, ((cc.toList).take (ds.length * k))[q]? = some u → w.cell? ((⟨b, 0, none⟩ : Addr).add q) = some u := by
     intro q u hq
     rw [List.getElem?_take] at hq
     split at hq
     ·rw [qbz]
      simp only [World.cell?, hgb, Nat.zero_add]
      simpa using hq
     ·cases hq
    have hrun := run_append_grow (P := P) w t ty e ti z hut hi hz ⟨b, 0, none⟩ ds.length cp ((cc.toList).take (ds.length * k)) hlo holds ⟨bb, off, none⟩ es.length c news (by rw [hik]; exact hnl) hnews (by omega) (by omega) (growslice_fits (by omega) (by rw [hby]; exact hlim))
    have hge := grownCap_ge w (ds.length + es.length) cp e
    refine fin _ _ _ rfl ⟨_, _, rfl⟩ hrun rfl rfl (by simp) ?_ (by simp [accBlk]) ?_ ?_
    ·intro x hx _
     show (w.drew.heap.push _)[x]? = _
     rw [Array.getElem?_push, if_neg (by show ¬ x = w.heap.size; omega)]; rfl
    ·intro x hx
     simp [accBlk] at hx
     subst hx
     exact ⟨.inr (Nat.le_refl _), by show w.heap.size < (w.heap.push _).size; simp⟩
    ·intro J' hj
     refine .row ⟨w.heap.size, grownCap w (ds.length + es.length) cp e, _, by rw [hlen'], World.alloc_heap_new w.drew _, ?_, by rw [hlen']; exact ⟨hge, hlen⟩, ?_⟩
     ·rw [hik] at hlo
      simp only [Array.size_append, List.size_toArray, hnl, hlo, size_zeroCells, hzk, ← Nat.add_mul]
      congr 1; omega
     ·simp only [Array.toList_append]
      rw [hik] at hlo
      have h1 := RepE.map hj k ds _ hre
      have h2 := RepE.append (RepE.cut h1 (ys := cc.toList.take (ds.length * k)) (Nat.le_of_eq hlo.symm) (by rw [List.take_take, Nat.min_self])) hlo (hrn hj)
      exact RepE.cut h2 (by simp only [List.length_append, hlo, hnl, hlen', Nat.add_mul]; omega) (by rw [List.take_append_of_le_length]; simp only [List.length_append, hlo, hnl, hlen', Nat.add_mul]; omega)
theorem qpf (S : St) (n : Nat) (hn : n ≤ S.own.length) (hwf : ∀ k ∈ S.own.take n, k.wf n = true) (reps : List (Value × D)) (hr : ∀ p ∈ reps, p ∈ S.reps ∨ ∃ a ∈ S.accs, p = (accVal a.v, .sl a.k a.ds)) : StLe S ⟨S.own.take n, [], reps⟩ := by
 refine ⟨by rw [List.length_take]; omega, fun J ℓ w h => ?_⟩
 obtain ⟨_, h2⟩ := StLe.part S n hn hwf [] (List.nil_sublist _) (reps.filter (fun _ => false)) (by simp)
 obtain ⟨hg, hm⟩ := h2 J ℓ w h
 refine ⟨⟨hg.len, hg.nodup, hg.lt, hg.memJ, hg.wf, hg.own, by simp, fun p hp => ?_⟩, hm⟩
 have hx : ∀ x, x < w.heap.size → Jx J (mutS ℓ S) x → Jx J (mutS (ℓ.take (S.own.take n).length) ⟨S.own.take n, [], reps⟩) x ∧ w.heap[x]? = w.heap[x]? := fun x _ hj => ⟨⟨hj.1, fun hmm => hj.2 (hm x hmm)⟩, rfl⟩
 rcases hr p hp with h1 | ⟨a, ha, rfl⟩
 ·exact (h.reps p h1).map hx
 ·refine (h.accs a ha).rep hx (fun b hba => ?_)
  have hbm : b ∈ S.accs.flatMap (fun a => accBlk a.v) := List.mem_flatMap.2 ⟨a, ha, hba⟩
  have hnd := h.nodup
  simp only [mutS] at hnd
  rw [List.nodup_append] at hnd
  refine ⟨h.memJ b (by simp only [mutS]; exact List.mem_append.2 (.inr hbm)), fun hmm => ?_⟩
  simp only [mutS, List.flatMap_nil, List.append_nil, List.length_take, Nat.min_eq_left hn] at hmm
  exact hnd.2.2 b ((qc2 n).subset hmm) b hbm rfl
theorem qkh {r : SV} {S : St} {R : SV → List (Value × D) → Prop} (out : List (Value × D)) (hr : r.wf 0 = true) (ho : ∀ p ∈ out, p ∈ S.reps ∨ ∃ a ∈ S.accs, p = (accVal a.v, .sl a.k a.ds)) (h : R r out) : AtRet 0 (.ret r) S (fun o S' => ∃ r out, o = .ret r ∧ S' = ⟨[], [], out⟩ ∧ r.wf 0 = true ∧ R r out) :=
 ⟨⟨[], [], out⟩, qpf S 0 (Nat.zero_le _) (by simp) out ho, Nat.zero_le _, hr, r, out, rfl, rfl, hr, h⟩
end

section
open Go
def entries (q : IntKind) : List (Int × Value) → Nat → List MapEntry
 | [], _ => []
 | (k, v) :: r, i => ⟨.int q k, v, i⟩ :: entries q r (i + 1)
def mapO (q : IntKind) (l : List (Int × Value)) : Obj := .map (entries q l 0).toArray l.length
def lookM : List (Int × Value) → Int → Option Value
 | [], _ => none
 | (k, v) :: r, n => if n = k then some v else lookM r n
def putAt (n : Int) (v : Value) : List (Int × Value) → List (Int × Value)
 | [] => [(n, v)]
 | (k, u) :: r => if n = k then (k, v) :: r else (k, u) :: putAt n v r
theorem qfy (q : IntKind) : ∀ (l : List (Int × Value)) (i : Nat), (entries q l i).length = l.length
 | [], _ => rfl
 | _ :: r, i => by simp [entries, qfy q r]
theorem qfo (q : IntKind) : ∀ (l l' : List (Int × Value)) (i : Nat), entries q (l ++ l') i = entries q l i ++ entries q l' (i + l.length)
 | [], l', i => by simp [entries]
 | (k, v) :: r, l', i => by
  simp only [List.cons_append, entries, qfo q r l', List.length_cons]
  congr 3; omega
theorem qdg (q : IntKind) (n : Int) : ∀ (l : List (Int × Value)) (i j : Nat), Instr.findNow (.int q) (.int q n) (entries q l i) j =
  some (match l.findIdx? (fun p => n = p.1) with
   | some m => (l[m]?).map (fun p => (j + m, p.2))
   | none => none)
 | [], i, j => by simp [entries, Instr.findNow]
 | (k, v) :: r, i, j => by
  simp only [entries, Instr.findNow, Instr.sameNow, if_true]
  by_cases h : n = k
  ·subst h; simp [List.findIdx?_cons]
  ·have hb : (n == k) = false := by simpa using h
   simp only [hb, qdg q n r (i + 1) (j + 1), List.findIdx?_cons, h, decide_false]
   cases hf : r.findIdx? (fun p => n = p.1) with
   | none => simp
   | some m =>
    have e : j + 1 + m = j + (m + 1) := by omega
    simp [e]
theorem look_idx (n : Int) : ∀ (l : List (Int × Value)), lookM l n = match l.findIdx? (fun p => n = p.1) with
  | some m => (l[m]?).map (·.2)
  | none => none
 | [] => rfl
 | (k, v) :: r => by
  simp only [lookM, List.findIdx?_cons]
  by_cases h : n = k
  ·subst h; simp
  ·rw [if_neg h, look_idx n r]
   simp only [h, decide_false]
   cases hf : r.findIdx? (fun p => n = p.1) with
   | none => simp
   | some m => simp
theorem qlz (n : Int) (v : Value) : ∀ (l : List (Int × Value)), l.findIdx? (fun p => n = p.1) = none → putAt n v l = l ++ [(n, v)]
 | [], _ => rfl
 | (k, u) :: r, h => by
  simp only [List.findIdx?_cons] at h
  by_cases hk : n = k
  ·subst hk; simp at h
  ·simp only [putAt, if_neg hk, List.cons_append]
   rw [qlz n v r]
   cases hf : r.findIdx? (fun p => n = p.1) with
   | none => rfl
   | some m => rw [hf] at h; simp [hk] at h
theorem qlu (q : IntKind) (n : Int) (v : Value) : ∀ (l : List (Int × Value)) (m i : Nat), l.findIdx? (fun p => n = p.1) = some m → (entries q l i).modify m (fun e => { e with key := .int q n, val := v }) = entries q (putAt n v l) i ∧ (putAt n v l).length = l.length
 | [], m, i, h => by simp at h
 | (k, u) :: r, m, i, h => by
  simp only [List.findIdx?_cons] at h
  by_cases hk : n = k
  ·subst hk
   simp at h
   subst h
   simp [putAt, entries]
  ·simp only [hk, decide_false] at h
   cases hf : r.findIdx? (fun p => n = p.1) with
   | none => rw [hf] at h; simp at h
   | some m' =>
    rw [hf] at h
    simp at h
    subst h
    obtain ⟨h1, h2⟩ := qlu q n v r m' (i + 1) hf
    simp only [putAt, if_neg hk, entries, List.modify_succ_cons, h1, List.length_cons, h2, and_self]
theorem qol (q : IntKind) (l : List (Int × Value)) (i m : Nat) : ((entries q l i)[m]?).map (·.key) = (l[m]?).map (fun p => Value.int q p.1) := by
 induction l generalizing i m with
 | nil => simp [entries]
 | cons p r ih =>
  obtain ⟨k, v⟩ := p
  cases m with
  | zero => simp [entries]
  | succ m => simpa [entries] using ih (i + 1) m
theorem qek {P : Program} {k : TypeId} {q : IntKind} (hk : P.underlying k = some (.int q)) (b : Bool) (n : Int) (w : World) : (Instr.checkKey b 10000 k (.int q n)).run P w = .ok () w := by
 unfold Instr.checkKey
 simp [run_underlying hk]
theorem qfi {P : Program} {t : TypeId} (q : IntKind) {S : St} {K : SV → St → Prop} (h : forceL (S.own ++ [.obj (mapO q [])]) (fun own => putOwn S own (fun S' => K (.mp S.own.length) S'))) : AtSem P (fun ℓ => Instr.makeMap t (denO ℓ none)) S K := by
 rw [qu, qan] at h
 constructor
 intro J ℓ w hG hJ
 have hold : ∀ x, x < w.heap.size → (w.alloc (mapO q [])).heap[x]? = w.heap[x]? := fun x hx => by
  show (w.heap.push _)[x]? = _
  rw [Array.getElem?_push, if_neg (by omega)]
 have hm := qd4 hG.len (S := S) ⟨w.heap.size, 0⟩ (.obj (mapO q []))
 refine ⟨.mp S.own.length, ℓ ++ [⟨w.heap.size, 0⟩], _, w.alloc (mapO q []), ?_, by simp [SV.wf], List.prefix_append _ _, ⟨rfl, rfl, by simp, fun x hx _ => hold x hx⟩, ?_, ?_, h⟩
 ·simp only [Instr.makeMap, denO, SV.den]
  rw [← hG.len, qd7]
  simp [mapO, entries]
 ·exact hG.push ⟨w.heap.size, 0⟩ (.obj _) rfl (fun _ => ⟨Nat.le_refl _, by simp, hJ _ (Nat.le_refl _)⟩) (by simp) hold ⟨rfl, World.alloc_heap_new w _⟩
 ·intro x hx
  rcases (hm x).1 hx with h1 | ⟨_, h1⟩
  ·exact .inl h1
  ·subst h1; exact .inr (Nat.le_refl _)
theorem qf5 {J : Nat → Prop} {ℓ : List Base} {S : St} {w : World} (hG : Good J ℓ S w) {i : Nat} {o : Obj} (hi : nth S.own i = some (.obj o)) : ∃ b, ℓ[i]? = some b ∧ S.own[i]? = some (.obj o) ∧ (ℓ.getD i default).block = b.block ∧ b.off = 0 ∧ w.heap[b.block]? = some o := by
 have hk : S.own[i]? = some (.obj o) := by rw [← qab]; exact hi
 obtain ⟨b, hb, hok⟩ := qlx hG hk
 simp only [BlkOK] at hok
 exact ⟨b, hb, hk, by simp [List.getD, hb], hok.1, hok.2⟩
theorem qce {P : Program} {w : World} {r : Nat} {es : Array MapEntry} {c : Nat} (h : w.heap[r]? = some (.map es c)) : (getObj r).run P w = .ok (.map es c) w := by simp [getObj, Sem.run, h]
theorem qfh {P : Program} {w : World} {r : Nat} {es : Array MapEntry} {c : Nat} (o' : Obj) (h : w.heap[r]? = some (.map es c)) : (setObj r o').run P w = .ok () (w.putObj r o') := by simp [setObj, Sem.run, h, World.putObj]
theorem Good.putObj {J : Nat → Prop} {ℓ : List Base} {S : St} {w : World} (hG : Good J ℓ S w) {i : Nat} {b : Base} {k k' : Blk} (hk : S.own[i]? = some k) (hb : ℓ[i]? = some b) (hm : k.mut = true) (hm' : k'.mut = true) (hwf : k'.wf S.own.length = true) (o' : Obj)
  (hok : BlkOK (Jx J (mutS ℓ S)) ℓ (w.putObj b.block o') b k') : Ext (mutS ℓ S) w (w.putObj b.block o') ∧ Good J ℓ ⟨S.own.set i k', S.accs, S.reps⟩ (w.putObj b.block o') ∧ ∀ x ∈ mutS ℓ ⟨S.own.set i k', S.accs, S.reps⟩, x ∈ mutS ℓ S ∨ w.heap.size ≤ x := by
 have hbm : b.block ∈ mutS ℓ S := by simp only [mutS]; exact List.mem_append.2 (.inl (mem_mutL.2 ⟨i, b, k, hb, hk, hm, rfl⟩))
 have hmut : mutS ℓ ⟨S.own.set i k', S.accs, S.reps⟩ = mutS ℓ S := by
  simp only [mutS]; rw [qgj hk (hm'.trans hm.symm)]
 have hoth : ∀ y, y ≠ b.block → (w.putObj b.block o').heap[y]? = w.heap[y]? := fun y hy => World.putObj_heap_other hy
 refine ⟨⟨rfl, rfl, by simp, fun y _ hy => hoth y (fun e => hy (e ▸ hbm))⟩, ?_, fun x hx => .inl (by rw [hmut] at hx; exact hx)⟩
 exact hG.update hk hb hm hm' hwf (by simp) (fun y _ hy => hoth y hy) hok
theorem at_lookup {P : Program} {tt : Tab} (hT : TTOK P tt) {t k e : TypeId} {q : IntKind} {x ix : SV} {S : St} {K : SV → St → Prop} {i : Nat} {n : Int} {l : List (Int × Value)} {ok : Bool} (z : Value) (ht : tt t = some (.map k e)) (hk : P.underlying k = some (.int q)) (hz : ∀ w, (zeroValue e).run P w = .ok z w)
  (hx : x = .mp i) (hi : nth S.own i = some (.obj (mapO q l))) (hix : ix = .v (.int q n))
  (h1 : ∀ v, lookM l n = some v → K (if ok then .tup [.v v, .v (.bool true)] else .v v) S) (h2 : lookM l n = none → K (if ok then .tup [.v z, .v (.bool false)] else .v z) S) : AtSem P (fun ℓ => Instr.lookup t (x.den ℓ) (ix.den ℓ) ok) S K := by
 subst hx hix
 constructor
 intro J ℓ w hG hJ
 obtain ⟨b, hb, hk', hbl, hoff, hh⟩ := qf5 hG hi
 have hu := (hT t _ ht).2
 have hrun : (Instr.lookup t ((SV.mp i).den ℓ) ((SV.v (.int q n)).den ℓ) ok).run P w = .ok ((match lookM l n with
   | some v => (if ok then SV.tup [.v v, .v (.bool true)] else .v v)
   | none => (if ok then .tup [.v z, .v (.bool false)] else .v z)).den ℓ) w := by
  simp only [Instr.lookup, SV.den, Sem.run_bind, qq hu, Result.andThen_ok]
  have hg := qce (P := P) hh
  rw [hbl]
  simp only [Sem.run_bind, hg, Result.andThen_ok, Sem.run_pure]
  simp only [qek hk, Result.andThen_ok, Instr.findKey, Sem.run_bind, run_underlying hk, qdg]
  rw [look_idx]
  cases hf : l.findIdx? (fun p => n = p.1) with
  | none => simp [hz, Result.andThen]; cases ok <;> simp [SV.den, qd]
  | some m =>
   have hlt : m < l.length := by
    obtain ⟨hlt, _⟩ := List.findIdx?_eq_some_iff_getElem.1 hf
    exact hlt
   simp only [List.getElem?_eq_getElem hlt, Option.map_some, Sem.run_pure, Result.andThen_ok]
   cases ok <;> simp [SV.den, qd]
 cases hl : lookM l n with
 | some v =>
  rw [hl] at hrun
  exact ⟨_, ℓ, S, w, hrun, by cases ok <;> rfl, List.prefix_refl _, Ext.refl _ _, hG, fun b hb => .inl hb, h1 v hl⟩
 | none =>
  rw [hl] at hrun
  exact ⟨_, ℓ, S, w, hrun, by cases ok <;> rfl, List.prefix_refl _, Ext.refl _ _, hG, fun b hb => .inl hb, h2 hl⟩
theorem qoc {P : Program} {tt : Tab} (hT : TTOK P tt) {t k e : TypeId} {q : IntKind} {x ix y : SV} {S : St} {K : SV → St → Prop} {i : Nat} {n : Int} {l : List (Int × Value)} (v : Value) (ht : tt t = some (.map k e)) (hk : P.underlying k = some (.int q))
  (hx : x = .mp i) (hi : nth S.own i = some (.obj (mapO q l))) (hix : ix = .v (.int q n)) (hy : ∀ ℓ, y.den ℓ = v)
  (h : forceL (setNth S.own i (.obj (mapO q (putAt n v l)))) (fun own => putOwn S own (fun S' => K undefS S'))) : AtSem P (fun ℓ => do Instr.mapUpdate t (x.den ℓ) (ix.den ℓ) (y.den ℓ); pure undef) S K := by
 subst hx hix
 rw [qu, qan] at h
 constructor
 intro J ℓ w hG hJ
 obtain ⟨b, hb, hk', hbl, hoff, hh⟩ := qf5 hG hi
 have hu := (hT t _ ht).2
 have hrun : (Instr.mapUpdate t ((SV.mp i).den ℓ) ((SV.v (.int q n)).den ℓ) (y.den ℓ)).run P w = .ok () (w.putObj b.block (mapO q (putAt n v l))) := by
  simp only [Instr.mapUpdate, SV.den, hy, Sem.run_bind, qq hu, Result.andThen_ok, hbl]
  have hg := qce (P := P) hh
  simp only [hg, Result.andThen_ok, qek hk, Instr.findKey, Sem.run_bind, run_underlying hk, qdg]
  cases hf : l.findIdx? (fun p => n = p.1) with
  | none =>
   simp only [Sem.run_pure, Result.andThen_ok]
   rw [qfh _ hh, qlz n v l hf]
   simp [mapO, qfo, entries]
  | some m =>
   obtain ⟨hlt, hpm, _⟩ := List.findIdx?_eq_some_iff_getElem.1 hf
   simp only [decide_eq_true_eq] at hpm
   simp only [List.getElem?_eq_getElem hlt, Option.map_some, Sem.run_pure, Result.andThen_ok, Nat.zero_add]
   have hkey : (((entries q l 0).toArray[m]?).map (·.key)).getD (.int q n) = .int q n := by
    have := qol q l 0 m
    simp only [List.getElem?_toArray]
    rw [this, List.getElem?_eq_getElem hlt]
    simp [← hpm]
   rw [hkey]
   have hst : (Instr.keyThatStays (.int q n) (.int q n)).run P w = .ok (.int q n) w := by simp [Instr.keyThatStays, Instr.sameBits]
   simp only [Sem.run_bind, hst, Result.andThen_ok]
   rw [qfh _ hh]
   obtain ⟨h1, h2⟩ := qlu q n v l m 0 hf
   simp only [mapO, h2]
   rw [← h1]
   simp
 obtain ⟨g1, g2, g3⟩ := hG.putObj (k' := .obj (mapO q (putAt n v l))) hk' hb rfl rfl rfl (mapO q (putAt n v l)) ⟨hoff, World.putObj_heap_same (qag hh)⟩
 refine ⟨undefS, ℓ, _, w.putObj b.block (mapO q (putAt n v l)), ?_, rfl, List.prefix_refl _, g1, g2, g3, h⟩
 simp only [Sem.run_bind, hrun, Result.andThen_ok, Sem.run_pure]
 rfl
theorem qc4 (q : IntKind) : ∀ (l : List (Int × Value)) (i m : Nat), (entries q l i)[m]? = (l[m]?).map (fun p => ⟨.int q p.1, p.2, i + m⟩)
 | [], i, m => by simp [entries]
 | (k, v) :: r, i, 0 => by simp [entries]
 | (k, v) :: r, i, m + 1 => by
  simp only [entries, List.getElem?_cons_succ, qc4 q r (i + 1) m]
  have e : i + 1 + m = i + (m + 1) := by omega
  rw [e]
theorem qgd {q : IntKind} {l : List (Int × Value)} {e : MapEntry} (h : e ∈ entries q l 0) : ∃ m p, l[m]? = some p ∧ e = ⟨.int q p.1, p.2, m⟩ := by
 obtain ⟨m, hm⟩ := List.getElem?_of_mem h
 rw [qc4] at hm
 cases hp : l[m]? with
 | none => rw [hp] at hm; cases hm
 | some p => rw [hp] at hm; simp at hm; exact ⟨m, p, hp, hm.symm⟩
theorem qky {P : Program} (n : Nat) (hn : 0 < n) (w : World) : ∃ j w1, j < n ∧ (w1 = w ∨ w1 = w.drew) ∧ (choose (.mapNext n)).run P w = .ok j w1 := by
 rw [run_choose]
 by_cases h : n ≤ 1
 ·exact ⟨0, w, hn, .inl rfl, by simp [Question.forced, h]⟩
 ·exact ⟨_, _, Nat.mod_lt _ hn, .inr rfl, by simp [Question.forced, h, Question.cut]; rfl⟩
theorem qn9 {P : Program} {ty : TypeId} {q : IntKind} {l : List (Int × Value)} {bi bm : Nat} {seen : Array Nat} {w : World} (hi : w.heap[bi]? = some (.mapIter (some bm) l.length seen l.length)) (hm : w.heap[bm]? = some (mapO q l)) :
  ∃ w1, (w1 = w ∨ w1 = w.drew) ∧
   (((∀ m, m < l.length → m ∈ seen) ∧ (Instr.next (.pointer (some ⟨bi, 0, none⟩)) false ty).run P w = .ok (.tuple #[.bool false]) w1) ∨
    ∃ m p, l[m]? = some p ∧ m ∉ seen ∧ (Instr.next (.pointer (some ⟨bi, 0, none⟩)) false ty).run P w = .ok (.tuple #[.bool true, .int q p.1, p.2]) (w1.putObj bi (.mapIter (some bm) l.length (seen.push m) l.length))) := by
 have hgi : (getObj bi).run P w = .ok (.mapIter (some bm) l.length seen l.length) w := by simp [getObj, Sem.run, hi]
 have hgm : (getObj bm).run P w = .ok (.map (entries q l 0).toArray l.length) w := qce hm
 have hnot : (!seen.isEmpty && !(entries q l 0).toArray.isEmpty && (entries q l 0).toArray.all (·.born ≥ l.length)) = false := by
  cases l with
  | nil => simp [entries]
  | cons p r => obtain ⟨k, v⟩ := p; simp [entries]
 let left := (entries q l 0).toArray.filter fun e => !seen.contains e.born
 have hold : left.filter (·.born < l.length) = left := by
  rw [Array.filter_eq_self]
  intro e he
  simp only [left, Array.mem_filter, List.mem_toArray] at he
  obtain ⟨m, p, hp, rfl⟩ := qgd he.1
  simpa using (List.getElem?_eq_some_iff.1 hp).1
 have hnew : left.filter (·.born ≥ l.length) = #[] := by
  rw [Array.filter_eq_empty_iff]
  intro e he
  simp only [left, Array.mem_filter, List.mem_toArray] at he
  obtain ⟨m, p, hp, rfl⟩ := qgd he.1
  simpa using (List.getElem?_eq_some_iff.1 hp).1
 by_cases hl : left = #[]
 ·have hc : ((if left.isEmpty then #[none] else #[]) ++ (left ++ #[]).map some : Array (Option MapEntry)) = #[none] := by simp [hl]
  refine ⟨w, .inl rfl, .inl ⟨?_, ?_⟩⟩
  ·intro m hlt
   have h1 := Array.filter_eq_empty_iff.1 hl
   have h2 := h1 (⟨.int q l[m].1, l[m].2, m⟩ : MapEntry) (by
    rw [List.mem_toArray]
    refine List.mem_of_getElem? (i := m) ?_
    rw [qc4, List.getElem?_eq_getElem hlt]; simp)
   simpa using h2
  ·simp only [Instr.next, Sem.run_bind, hgi, Result.andThen_ok, hgm]
   rw [if_neg (by rw [hnot]; simp)]
   simp only [Sem.run_bind, Sem.run_pure, Result.andThen_ok]
   rw [show (entries q l 0).toArray.filter (fun e => !seen.contains e.born) = left from rfl, hold, hnew, hc]
   simp [Question.forced]
 ·have hc : ((if left.isEmpty then #[none] else #[]) ++ (left ++ #[]).map some : Array (Option MapEntry)) = left.map some := by
   have : left.isEmpty = false := by simpa using hl
   simp [this]
  have hpos : 0 < left.size := by
   rcases Nat.eq_zero_or_pos left.size with h | h
   ·exact (hl (Array.size_eq_zero_iff.1 h)).elim
   ·exact h
  obtain ⟨j, w1, hj, hw1, hch⟩ := qky (P := P) (left.map some).size (by simpa using hpos) w
  have hj' : j < left.size := by simpa using hj
  have hmem : left[j] ∈ left := Array.getElem_mem hj'
  have hmem' := hmem
  simp only [left, Array.mem_filter, List.mem_toArray] at hmem'
  obtain ⟨m, p, hp, he⟩ := qgd hmem'.1
  have hns : m ∉ seen := by
   have := hmem'.2
   rw [he] at this
   simpa using this
  refine ⟨w1, hw1, .inr ⟨m, p, hp, hns, ?_⟩⟩
  have hset : (setObj bi (.mapIter (some bm) l.length (seen.push m) l.length)).run P w1 = .ok () (w1.putObj bi (.mapIter (some bm) l.length (seen.push m) l.length)) := by
   have : w1.heap[bi]? = some (.mapIter (some bm) l.length seen l.length) := by rcases hw1 with rfl | rfl <;> exact hi
   simp [setObj, Sem.run, this, World.putObj]
  simp only [Instr.next, Sem.run_bind, hgi, Result.andThen_ok, hgm]
  rw [if_neg (by rw [hnot]; simp)]
  simp only [Sem.run_bind, Sem.run_pure, Result.andThen_ok]
  rw [show (entries q l 0).toArray.filter (fun e => !seen.contains e.born) = left from rfl, hold, hnew, hc, hch]
  simp only [Result.andThen_ok]
  have hget : (left.map some)[j]? = some (some left[j]) := by simp [hj']
  rw [hget]
  have he' : left[j] = { key := Value.int q p.fst, val := p.snd, born := m } := he
  simp only [Sem.run_bind, he', hset, Result.andThen_ok, Sem.run_pure]
theorem at_range {P : Program} {tt : Tab} (hT : TTOK P tt) {t k e : TypeId} {q : IntKind} {x : SV} {S : St} {K : SV → St → Prop} {i : Nat} {l : List (Int × Value)} (ht : tt t = some (.map k e)) (hx : x = .mp i) (hi : nth S.own i = some (.obj (mapO q l)))
  (h : forceL (S.own ++ [.iter i l.length #[] l.length]) (fun own => putOwn S own (fun S' => K (.loc S.own.length 0) S'))) : AtSem P (fun ℓ => Instr.range t (x.den ℓ)) S K := by
 subst hx
 rw [qu, qan] at h
 constructor
 intro J ℓ w hG hJ
 obtain ⟨b, hb, hk', hbl, hoff, hh⟩ := qf5 hG hi
 have hu := (hT t _ ht).2
 have hilt : i < S.own.length := (List.getElem?_eq_some_iff.1 hk').1
 have hold : ∀ x, x < w.heap.size → (w.alloc (.mapIter (some b.block) l.length #[] l.length)).heap[x]? = w.heap[x]? := fun x hx => by
  show (w.heap.push _)[x]? = _
  rw [Array.getElem?_push, if_neg (by omega)]
 have hm := qd4 hG.len (S := S) ⟨w.heap.size, 0⟩ (.iter i l.length #[] l.length)
 refine ⟨.loc S.own.length 0, ℓ ++ [⟨w.heap.size, 0⟩], _, w.alloc (.mapIter (some b.block) l.length #[] l.length), ?_, by simp [SV.wf], List.prefix_append _ _, ⟨rfl, rfl, by simp, fun x hx _ => hold x hx⟩, ?_, ?_, h⟩
 ·have hg : (getObj b.block).run P w = .ok (.map (entries q l 0).toArray l.length) w := qce hh
  simp only [Instr.range, SV.den, Sem.run_bind, qq hu, Result.andThen_ok, hbl, hg, Sem.run_pure]
  rw [← hG.len, qd7]
  simp
 ·refine hG.push ⟨w.heap.size, 0⟩ (.iter i l.length #[] l.length) (by simp [Blk.wf, hilt]) (fun _ => ⟨Nat.le_refl _, by simp, hJ _ (Nat.le_refl _)⟩) (by simp) hold ⟨rfl, ?_⟩
  rw [hbl]
  exact World.alloc_heap_new w _
 ·intro x hx
  rcases (hm x).1 hx with h1 | ⟨_, h1⟩
  ·exact .inl h1
  ·subst h1; exact .inr (Nat.le_refl _)
theorem Good.drew {J : Nat → Prop} {ℓ : List Base} {S : St} {w : World} (h : Good J ℓ S w) : Good J ℓ S w.drew := h.kept (fun _ h => h) (Nat.le_refl _) (fun _ _ _ => rfl)
theorem own_iter {J : Nat → Prop} {ℓ : List Base} {S : St} {w : World} (hG : Good J ℓ S w) {i j since : Nat} {seen : Array Nat} {stepped : Nat} (hi : nth S.own i = some (.iter j since seen stepped)) : ∃ b, ℓ[i]? = some b ∧ S.own[i]? = some (.iter j since seen stepped) ∧ (ℓ.getD i default).block = b.block ∧ (ℓ.getD i default).off = 0 ∧ b.off = 0 ∧ w.heap[b.block]? = some (.mapIter (some (ℓ.getD j default).block) since seen stepped) := by
 have hk : S.own[i]? = some (.iter j since seen stepped) := by rw [← qab]; exact hi
 obtain ⟨b, hb, hok⟩ := qlx hG hk
 simp only [BlkOK] at hok
 exact ⟨b, hb, hk, by simp [List.getD, hb], by simp [List.getD, hb, hok.1], hok.1, hok.2⟩
theorem at_next {P : Program} {ty : TypeId} {q : IntKind} {x : SV} {S : St} {K : SV → St → Prop} {i j : Nat} {l : List (Int × Value)} {seen : Array Nat} (hx : x = .loc i 0) (hi : nth S.own i = some (.iter j l.length seen l.length)) (hj : nth S.own j = some (.obj (mapO q l)))
  (h0 : (∀ m, m < l.length → m ∈ seen) → K (.tup [.v (.bool false)]) S)
  (h1 : ∀ m p, l[m]? = some p → m ∉ seen → forceL (setNth S.own i (.iter j l.length (seen.push m) l.length)) (fun own => putOwn S own (fun S' => K (.tup [.v (.bool true), .v (.int q p.1), .v p.2]) S'))) : AtSem P (fun ℓ => Instr.next (x.den ℓ) false ty) S K := by
 subst hx
 simp only [qu, qan] at h1
 constructor
 intro J ℓ w hG hJ
 obtain ⟨b, hb, hk, hbl, hbo, hoff, hh⟩ := own_iter hG hi
 obtain ⟨b2, hb2, hk2, hbl2, hoff2, hh2⟩ := qf5 hG hj
 rw [hbl2] at hh
 have hden : (SV.loc i 0).den ℓ = .pointer (some ⟨b.block, 0, none⟩) := by simp only [SV.den, hbl, hbo, Nat.zero_add]
 obtain ⟨w1, hw1, hor⟩ := qn9 (P := P) (ty := ty) hh hh2
 have hG1 : Good J ℓ S w1 := by rcases hw1 with rfl | rfl; exact hG; exact hG.drew
 have hx1 : Ext (mutS ℓ S) w w1 := by rcases hw1 with rfl | rfl; exact Ext.refl _ _; exact ⟨rfl, rfl, Nat.le_refl _, fun _ _ _ => rfl⟩
 have hh1 : w1.heap[b.block]? = some (.mapIter (some b2.block) l.length seen l.length) := by rcases hw1 with rfl | rfl <;> exact hh
 rcases hor with ⟨hall, hrun⟩ | ⟨m, p, hp, hns, hrun⟩
 ·exact ⟨.tup [.v (.bool false)], ℓ, S, w1, by rw [hden, hrun]; rfl, rfl, List.prefix_refl _, hx1, hG1, fun b hb => .inl hb, h0 hall⟩
 ·have hjlt : j < S.own.length := (List.getElem?_eq_some_iff.1 hk2).1
  obtain ⟨g1, g2, g3⟩ := hG1.putObj (k' := .iter j l.length (seen.push m) l.length) hk hb rfl rfl (by simp [Blk.wf, hjlt]) (.mapIter (some b2.block) l.length (seen.push m) l.length) ⟨hoff, by rw [hbl2]; exact World.putObj_heap_same (qag hh1)⟩
  have hsz : w1.heap.size = w.heap.size := by rcases hw1 with rfl | rfl <;> rfl
  refine ⟨.tup [.v (.bool true), .v (.int q p.1), .v p.2], ℓ, _, _, by rw [hden, hrun]; rfl, rfl, List.prefix_refl _, hx1.trans g1, g2, fun b hb => by rw [← hsz]; exact g3 b hb, h1 m p hp hns⟩
theorem at_entry {P : Program} {q : IntKind} {x : SV} {S : St} {K : SV → St → Prop} {i j m : Nat} {p : Int × Value} {l : List (Int × Value)} {seen : Array Nat} (hx : x = .loc i 0) (hi : nth S.own i = some (.iter j l.length (seen.push m) l.length)) (hj : nth S.own j = some (.obj (mapO q l))) (hp : l[m]? = some p)
  (h : K (.tup [.v (.int q p.1), .v p.2]) S) : AtSem P (fun ℓ => Instr.entry (x.den ℓ)) S K := by
 subst hx
 constructor
 intro J ℓ w hG hJ
 obtain ⟨b, hb, hk, hbl, hbo, hoff, hh⟩ := own_iter hG hi
 obtain ⟨b2, hb2, hk2, hbl2, hoff2, hh2⟩ := qf5 hG hj
 rw [hbl2] at hh
 have hden : (SV.loc i 0).den ℓ = .pointer (some ⟨b.block, 0, none⟩) := by simp only [SV.den, hbl, hbo, Nat.zero_add]
 have hgi : (getObj b.block).run P w = .ok (.mapIter (some b2.block) l.length (seen.push m) l.length) w := by simp [getObj, Sem.run, hh]
 have hgm : (getObj b2.block).run P w = .ok (.map (entries q l 0).toArray l.length) w := qce hh2
 have hfind : (entries q l 0).toArray.find? (·.born == m) = some ⟨.int q p.1, p.2, m⟩ := by
  rw [List.find?_toArray, List.find?_eq_some_iff_getElem]
  refine ⟨by simp, m, by rw [qfy]; exact (List.getElem?_eq_some_iff.1 hp).1, ?_, ?_⟩
  ·have := qc4 q l 0 m
   rw [hp] at this
   simpa using (List.getElem?_eq_some_iff.1 this).2
  ·intro j' hj'
   have := qc4 q l 0 j'
   have hlt : j' < l.length := by have := (List.getElem?_eq_some_iff.1 hp).1; omega
   rw [List.getElem?_eq_getElem hlt] at this
   have h2 := (List.getElem?_eq_some_iff.1 this).2
   rw [h2]
   simp; omega
 refine ⟨_, ℓ, S, w, ?_, rfl, List.prefix_refl _, Ext.refl _ _, hG, fun b hb => .inl hb, h⟩
 rw [hden]
 simp only [Instr.entry, Sem.run_bind, hgi, Result.andThen_ok, Array.back?_push, hgm]
 rw [if_neg (by simp)]
 simp only [Sem.run_bind, Sem.run_pure, Result.andThen_ok, hfind]
 rfl
end

section
open Go
theorem AtPure.val {P : Program} {m : List Base → Sem Value} {S : St} {K : SV → St → Prop} (r : SV) (hr : r.wf S.own.length = true) (h : ∀ ℓ w, (m ℓ).run P w = .ok (r.den ℓ) w) (k : K r S) : AtPure P m S K :=
 ⟨fun _ ℓ _ hG _ => ⟨r, ℓ, S, fun w' => h ℓ w', hr, List.prefix_refl _, hG, fun _ hb => hb, fun _ _ hi => hi, k⟩⟩
theorem AtSem.val {P : Program} {m : List Base → Sem Value} {S : St} {K : SV → St → Prop} (r : SV) (hr : r.wf S.own.length = true) (h : ∀ ℓ w, (m ℓ).run P w = .ok (r.den ℓ) w) (k : K r S) : AtSem P m S K :=
 ⟨fun _ ℓ w hG _ => ⟨r, ℓ, S, w, h ℓ w, hr, List.prefix_refl _, Ext.refl _ _, hG, fun _ hb => .inl hb, k⟩⟩
theorem qae {P : Program} {t : TypeId} {s : SV} {S : St} {K : SV → St → Prop} (hc : P.concrete t = true) (hs : s.wf S.own.length = true) (k : K (.ifc t s) S) : AtPure P (fun ℓ => Instr.makeInterface t (s.den ℓ)) S K :=
 AtPure.val (.ifc t s) (by simpa only [SV.wf] using hs) (fun ℓ w => by rw [run_makeInterface w t _ hc]; rfl) k
theorem at_max {P : Program} {ts : Array TypeId} {t : TypeId} {k k' : IntKind} {x y : Int} {S : St} {K : SV → St → Prop} (h : K (.v (.int k (if y > x then y else x))) S) : AtPure P (fun ℓ => Builtin.max_ ts t (qd ℓ [.v (.int k x), .v (.int k' y)]).toArray) S K :=
 AtPure.val _ rfl (fun _ _ => run_max_int2 ..) h
theorem at_min {P : Program} {ts : Array TypeId} {t : TypeId} {k k' : IntKind} {x y : Int} {S : St} {K : SV → St → Prop} (h : K (.v (.int k (if y < x then y else x))) S) : AtPure P (fun ℓ => Builtin.min_ ts t (qd ℓ [.v (.int k x), .v (.int k' y)]).toArray) S K :=
 AtPure.val _ rfl (fun _ _ => run_min_int2 ..) h
theorem Meets.meth {P : Program} {t : TypeId} {f : FuncId} {name : String} {s : SV} {args : List SV} {S : St} {R : Out → St → Prop} (hm : ∀ v ag w, (callMethod (.iface t v) name ag).run P w = .ok (.enter f (#[v] ++ ag)) w) (hf : ∀ ag w, (callFunc f ag).run P w = .ok (.enter f ag) w)
  (h : Meets P (.val (.fn (.func f) [] [])) (s :: args) S R) : Meets P (.meth (.ifc t s) name) args S R := by
 intro J ℓ w hG hJ
 obtain ⟨nx, h1, h2⟩ := h J ℓ w hG hJ
 refine ⟨nx, ?_, h2⟩
 rw [← h1]
 simp only [Cal.sem, SV.den, qd, Deferred.ofValue, Sem.run_bind, Sem.run_pure, Result.andThen_ok, invoke]
 rw [hf]
 have e1 : (#[Value.iface t (s.den ℓ)] ++ (qd ℓ args).toArray)[0]? = some (Value.iface t (s.den ℓ)) := by simp
 have e2 : (#[Value.iface t (s.den ℓ)] ++ (qd ℓ args).toArray).extract 1 (#[Value.iface t (s.den ℓ)] ++ (qd ℓ args).toArray).size = (qd ℓ args).toArray := by
  apply Array.ext'
  simp [Array.toList_extract, List.extract]
 simp only [e1, e2, hm]
 simp
mutual
theorem SV.ren_id {n : Nat} {r : Nat → Nat} (h : ∀ i, i < n → r i = i) : ∀ (s : SV), s.wf n = true → s.ren r = s
 | .v _, _ => rfl
 | .loc i off, hw => by simp only [SV.wf, blt_true] at hw; simp only [SV.ren, h i hw]
 | .lod i off, hw => by simp only [SV.wf, blt_true] at hw; simp only [SV.ren, h i hw]
 | .slo i off n c, hw => by simp only [SV.wf, blt_true] at hw; simp only [SV.ren, h i hw]
 | .fn f first caps, hw => by
  simp only [SV.wf, Bool.and_eq_true] at hw
  simp only [SV.ren, qbt h first hw.1, qbt h caps hw.2]
 | .agg cs, hw => by simp only [SV.wf] at hw; simp only [SV.ren, qbt h cs hw]
 | .tup xs, hw => by simp only [SV.wf] at hw; simp only [SV.ren, qbt h xs hw]
 | .mp i, hw => by simp only [SV.wf, blt_true] at hw; simp only [SV.ren, h i hw]
 | .ifc t s, hw => by simp only [SV.wf] at hw; simp only [SV.ren, SV.ren_id h s hw]
 | .yld i, hw => by simp only [SV.wf, blt_true] at hw; simp only [SV.ren, h i hw]
theorem qbt {n : Nat} {r : Nat → Nat} (h : ∀ i, i < n → r i = i) : ∀ (l : List SV), qr n l = true → qaz r l = l
 | [], _ => rfl
 | s :: ss, hw => by
  simp only [qr, Bool.and_eq_true] at hw
  simp only [qaz, SV.ren_id h s hw.1, qbt h ss hw.2]
 end
theorem qn2 {n : Nat} {r : Nat → Nat} (h : ∀ i, i < n → r i = i) : ∀ {env : Env}, envWf n env = true → envRen r env = env
 | [], _ => rfl
 | (t, s) :: e, hw => by
  simp only [envWf] at hw
  split at hw
  ·rename_i hs; simp only [envRen, SV.ren_id h s hs, qn2 h hw]
  ·cases hw
theorem Blk.ren_id {n : Nat} {r : Nat → Nat} (h : ∀ i, i < n → r i = i) {k : Blk} (hw : k.wf n = true) : k.ren r = k := by
 cases k <;> simp only [Blk.wf, Blk.ren] at hw ⊢
 ·rw [qbt h _ hw]
 ·rw [qbt h _ hw]
 ·rw [qn2 h hw]
 ·simp only [blt_true] at hw; rw [h _ hw]
theorem qn3 (ks own extra : List Blk) (hl : ks.length = own.length) : setAll (own ++ extra) (List.range own.length) ks = ks ++ extra := by
 have hnd : (List.range own.length).Nodup := List.nodup_range
 apply List.ext_getElem?
 intro i
 rcases Nat.lt_or_ge i own.length with h | h
 ·have hk : ks[i]? = some (ks[i]'(by omega)) := List.getElem?_eq_getElem (by omega)
  rw [qgg _ _ _ i i _ hnd (by simp [h]) hk (by simp; omega), List.getElem?_append_left (by omega), hk]
 ·rw [qcn _ _ _ i (by simp; omega), List.getElem?_append_right h, List.getElem?_append_right (by omega), hl]
theorem Meets.frame0 {P : Program} {cl : Cal} {args : List SV} {own : List Blk} {accs : List Acc} {rs : List (Value × D)} {R : Out → St → Prop} {S : St} {K : Out → St → Prop} (h : Meets P cl args ⟨own, accs, rs⟩ R) (extra : List Blk) (rest : List Acc) (hS : S.own = own ++ extra) (hac : S.accs.Perm (accs ++ rest))
  (hown : ∀ k ∈ own, k.wf own.length = true) (hrs : ∀ p ∈ rs, p ∈ S.reps) (hargs : qr own.length args = true) (hcl : cl.wf own.length = true)
  (k : ∀ o s', R o s' → s'.own.map Blk.mut = own.map Blk.mut ∧ K o ⟨s'.own ++ extra, s'.accs ++ rest, S.reps ++ s'.reps⟩) : Meets P cl args S K := by
 have hid : ∀ i, i < own.length → rixN (List.range own.length) S.own.length i = i := fun i hi => by simp [rixN, hi, List.getD]
 refine Meets.frameG (rest := rest) h (List.range own.length) ?_ (qbt hid args hargs).symm hac List.nodup_range (by simp) ?_ hrs (by simpa using hargs) (by simpa using hcl) ?_
 ·cases cl with
  | val F => simp only [Cal.ren]; rw [SV.ren_id hid F hcl]
  | meth x name => simp only [Cal.ren]; rw [SV.ren_id hid x hcl]
 ·intro p q hp
  have hlt : p < own.length := (List.getElem?_eq_some_iff.1 hp).1
  have hw := hown q (List.mem_of_getElem? hp)
  refine ⟨p, by simp [hlt], ?_, by simpa using hw⟩
  rw [hS, List.getElem?_append_left hlt, hp, Blk.ren_id (fun i hi => by simp [rixN, hi, List.getD]) hw]
 ·intro o s' hR hwo hws
  obtain ⟨hm, hK⟩ := k o s' hR
  have hl : s'.own.length = own.length := by simpa using congrArg List.length hm
  refine ⟨s'.own, [], by simp, hm, ?_⟩
  have e1 : s'.own.map (Blk.ren (rixN (List.range own.length) S.own.length)) = s'.own := by
   have := List.map_congr_left (f := Blk.ren (rixN (List.range own.length) S.own.length)) (g := id) (l := s'.own) (fun q hq => Blk.ren_id (n := s'.own.length) (by rw [hl]; exact hid) (hws q hq))
   rw [this, List.map_id]
  have e2 : o.ren (rixN (List.range own.length) S.own.length) = o := by
   cases o with
   | ret x => simp only [Out.ren]; rw [SV.ren_id (n := s'.own.length) (by rw [hl]; exact hid) x hwo]
   | pan x => simp only [Out.ren]; rw [SV.ren_id (n := s'.own.length) (by rw [hl]; exact hid) x hwo]
  rw [e1, e2, hS, qn3 _ _ _ hl]
  simpa using hK
theorem qiy {m : Nat} {o : Out} {S : St} {R : Out → St → Prop} (own : List Blk) (h1 : S.own.take own.length = own) (hm : Nat.beq own.length m = true) (hle : Nat.ble own.length S.own.length = true) (hwf : wfB own.length own = true) (ho : o.wf own.length = true) (h : R o ⟨own, S.accs, []⟩) : AtRet m o S R :=
 ⟨⟨own, S.accs, []⟩, StLe.of h1 (List.Sublist.refl _) (by simp) hle hwf, Nat.le_of_eq (Nat.eq_of_beq_eq_true hm).symm, ho, h⟩
theorem Good.nilAcc {J : Nat → Prop} {ℓ : List Base} {own : List Blk} {accs : List Acc} {rs : List (Value × D)} {w : World} (k : Nat) (T : TypeId) (h : Good J ℓ ⟨own, accs, rs⟩ w) : Good J ℓ ⟨own, ⟨.slice none 0 0, k, T, []⟩ :: accs, rs⟩ w := by
 have hm : mutS ℓ ⟨own, ⟨.slice none 0 0, k, T, []⟩ :: accs, rs⟩ = mutS ℓ ⟨own, accs, rs⟩ := by simp [mutS, accBlk]
 refine ⟨h.len, by rw [hm]; exact h.nodup, by rw [hm]; exact h.lt, by rw [hm]; exact h.memJ, h.wf, by rw [hm]; exact h.own, ?_, by rw [hm]; exact h.reps⟩
 rw [hm]
 intro a ha
 rcases List.mem_cons.1 ha with e | e
 ·subst e; exact .inl ⟨rfl, rfl⟩
 ·exact h.accs a e
theorem Meets.nilAcc {P : Program} {cl : Cal} {args : List SV} {own : List Blk} {accs : List Acc} {rs : List (Value × D)} {R : Out → St → Prop} (k : Nat) (T : TypeId) (h : Meets P cl args ⟨own, ⟨.slice none 0 0, k, T, []⟩ :: accs, rs⟩ R) : Meets P cl args ⟨own, accs, rs⟩ R := by
 intro J ℓ w hG hJ
 have hm : mutS ℓ ⟨own, ⟨.slice none 0 0, k, T, []⟩ :: accs, rs⟩ = mutS ℓ ⟨own, accs, rs⟩ := by simp [mutS, accBlk]
 obtain ⟨nx, h1, h2⟩ := h J ℓ w (hG.nilAcc k T) hJ
 refine ⟨nx, h1, h2.mono ?_⟩
 rintro e w' ⟨ℓ', o, S', a1, a2, a3, a4, a5, a6, a7⟩
 rw [hm] at a4 a6
 exact ⟨ℓ', o, S', a1, a2, a3, a4, a5, a6, a7⟩
theorem StLe.nilAcc {S : St} {own : List Blk} {accs : List Acc} {rs : List (Value × D)} (k : Nat) (T : TypeId) (h : StLe S ⟨own, accs, rs⟩) : StLe S ⟨own, ⟨.slice none 0 0, k, T, []⟩ :: accs, rs⟩ := by
 refine ⟨h.1, fun J ℓ w hG => ?_⟩
 have hm : ∀ ℓ, mutS ℓ ⟨own, ⟨.slice none 0 0, k, T, []⟩ :: accs, rs⟩ = mutS ℓ ⟨own, accs, rs⟩ := by intro ℓ; simp [mutS, accBlk]
 obtain ⟨h1, h2⟩ := h.2 J ℓ w hG
 exact ⟨h1.nilAcc k T, by rw [hm]; exact h2⟩
def isSl : Value × D → Prop
 | (v, .sl _ ds) => ∃ a c, v = .slice a ds.length c ∧ ds.length ≤ c ∧ ds.length ≤ 1152921504606846976
 | _ => True
theorem qot {J : Nat → Prop} {w : World} {p : Value × D} (h : Rep J w p.1 p.2) : isSl p := by
 obtain ⟨v, d⟩ := p
 cases d with
 | sl k ds =>
  simp only [Rep, RepC] at h
  obtain ⟨a, cap, heq, hle, _⟩ := h
  simp only [List.cons.injEq, and_true] at heq
  exact ⟨a, cap, heq, hle.1, hle.2⟩
 | _ => trivial
theorem Pure.opened {P : Program} {cl : Cal} {args : List SV} {rs : List (Value × D)} {R : SV → List (Value × D) → Prop} (h : Pure P cl args rs R) : Pure P cl args rs (fun r out => R r out ∧ ∀ p ∈ out, isSl p) := by
 intro J ℓ w hG hJ
 obtain ⟨nx, h1, h2⟩ := h J ℓ w hG hJ
 refine ⟨nx, h1, h2.mono ?_⟩
 rintro e w' ⟨ℓ', o, S', a1, a2, a3, a4, a5, a6, r, out, rfl, rfl, hr, hR⟩
 exact ⟨ℓ', _, _, a1, a2, a3, a4, a5, a6, r, out, rfl, rfl, hr, hR, fun p hp => qot (a5.reps p hp)⟩
end
end Go.Tr

namespace Go.Proofs.YthkgcfplebgolaaGreat
section
open Go.Tr Go Go.Proofs.Tryz
inductive Tm where
 | mk (op hd n : Int) (args : List Tm)
def Tm.op : Tm → Int | .mk o _ _ _ => o
def Tm.hd : Tm → Int | .mk _ h _ _ => h
def Tm.n : Tm → Int | .mk _ _ n _ => n
def Tm.args : Tm → List Tm | .mk _ _ _ a => a
mutual
def Tm.enc : Tm → D
 | .mk o h n a => .agg [.int .i64 o, .int .i64 h, .int .i64 n, .sl 4 (Tm.encL a)]
def Tm.encL : List Tm → List D
 | [] => []
 | t :: ts => t.enc :: Tm.encL ts
 end
theorem Tm.encL_eq : ∀ (l : List Tm), Tm.encL l = l.map Tm.enc
 | [] => rfl
 | t :: ts => by simp only [Tm.encL, List.map_cons, Tm.encL_eq ts]
theorem Tm.encL_length (l : List Tm) : (Tm.encL l).length = l.length := by simp [Tm.encL_eq]
theorem Tm.encL_get {l : List Tm} {i : Nat} {t : Tm} (h : l[i]? = some t) : (Tm.encL l)[i]? = some (.agg [.int .i64 t.op, .int .i64 t.hd, .int .i64 t.n, .sl 4 (Tm.encL t.args)]) := by
 rw [Tm.encL_eq, List.getElem?_map, h]; cases t; rfl
theorem Tm.ind {motive : Tm → Prop} (h : ∀ t, (∀ x ∈ t.args, motive x) → motive t) (t : Tm) : motive t := by
 induction t using Tm.rec (motive_2 := fun ts => ∀ x ∈ ts, motive x) with
 | nil => rename_i x hx; cases hx
 | cons t ts ih1 ih2 => rename_i x hx; rcases List.mem_cons.1 hx with e | e; (subst e; exact ih1); exact ih2 x e
 | mk op hd n args ih => exact h _ ih
abbrev tmS (t : Tm) (a : OA) (c : Nat) : SV := .agg [.v (.int .i64 t.op), .v (.int .i64 t.hd), .v (.int .i64 t.n), .v (.slice a (Tm.encL t.args).length c)]
abbrev tmR (t : Tm) (a : OA) (c : Nat) : Value × D := (.slice a (Tm.encL t.args).length c, .sl 4 (Tm.encL t.args))
abbrev tQ (l : List Tm) (a : OA) (c : Nat) : Value × D := (.slice a (Tm.encL l).length c, .sl 4 (Tm.encL l))
abbrev tU (l : List Tm) (a : OA) (c : Nat) : SV := .v (.slice a (Tm.encL l).length c)
abbrev nQ (l : List Int) (a : OA) (c : Nat) : Value × D := (.slice a (List.map (D.int .i64) l).length c, .sl 1 (List.map (D.int .i64) l))
abbrev nU (l : List Int) (a : OA) (c : Nat) : SV := .v (.slice a (List.map (D.int .i64) l).length c)
abbrev iS (n : Int) : SV := .v (.int .i64 n)
abbrev bS (b : Bool) : SV := .v (.bool b)
abbrev fnS (f : Nat) : Cal := .val (.fn (.func f) [] [])
def okNode (op hd n : Int) (len : Nat) : Bool :=
 if op = 1 then decide ((hd = 0 ∧ n = 0) ∧ len = 0)
 else if op = 2 then decide ((hd = 0 ∧ n = 0) ∧ len = 2)
 else if op = 3 then decide ((hd = 0 ∧ n = 0) ∧ len = 1)
 else if op = 4 then decide (((1 ≤ hd ∧ hd ≤ 3) ∧ 0 ≤ n) ∧ n ≤ 9999)
 else false
mutual
def properF : Tm → Int → Int → Bool × Int
 | .mk op hd n args, depth, k =>
  if 600 < k + 1 ∨ 40 < depth then (false, k + 1)
  else if okNode op hd n args.length = true then properL args (depth + 1) (k + 1) else (false, k + 1)
def properL : List Tm → Int → Int → Bool × Int
 | [], _, k => (true, k)
 | t :: ts, depth, k => match properF t depth k with
  | (true, k') => properL ts depth k'
  | (false, k') => (false, k')
 end
theorem qhc (t : Tm) (depth k : Int) : properF t depth k = if 600 < k + 1 ∨ 40 < depth then (false, k + 1)
  else if okNode t.op t.hd t.n t.args.length = true then properL t.args (depth + 1) (k + 1) else (false, k + 1) := by
 cases t; rfl
theorem qlh (t : Tm) : ∀ (depth k : Int), 0 ≤ k → k ≤ 600 → k ≤ (properF t depth k).2 ∧ (properF t depth k).2 ≤ 601 ∧ ((properF t depth k).1 = true → (properF t depth k).2 ≤ 600) := by
 induction t using Tm.ind with
 | h t ih =>
  intro depth k h1 h2
  have hl : ∀ (ts : List Tm), (∀ x ∈ ts, x ∈ t.args) → ∀ (depth k : Int), 0 ≤ k → k ≤ 600 → k ≤ (properL ts depth k).2 ∧ (properL ts depth k).2 ≤ 601 ∧ ((properL ts depth k).1 = true → (properL ts depth k).2 ≤ 600) := by
   intro ts
   induction ts with
   | nil => intro _ depth k h1 h2; simp only [properL]; exact ⟨Int.le_refl _, by omega, fun _ => h2⟩
   | cons x ts ihl =>
    intro hx depth k h1 h2
    have hx1 := ih x (hx x (by simp)) depth k h1 h2
    simp only [properL]
    cases hp : properF x depth k with
    | mk b k' =>
     rw [hp] at hx1
     cases b with
     | true =>
      have := ihl (fun y hy => hx y (by simp [hy])) depth k' (by simp at hx1; omega) (hx1.2.2 rfl)
      simp only at hx1 ⊢
      exact ⟨by omega, this.2.1, this.2.2⟩
     | false => simpa using hx1
  rw [qhc]
  split
  ·exact ⟨by simp only; omega, by simp only; omega, fun h => by simp at h⟩
  ·split
   ·have := hl t.args (fun _ h => h) (depth + 1) (k + 1) (by omega) (by omega)
    exact ⟨by omega, this.2.1, this.2.2⟩
   ·exact ⟨by simp; omega, by simp; omega, by simp⟩
end

section
open Go.Tr Go Go.Proofs.Tryz
theorem mixed : Tryz.prog.follows .mixedOrders = true := by kernel_rfl
end

section
open Go Go.Shelf
def sortRen : Go.Shelf.Ren := ⟨fun | 189 => 364 | 125 => 398 | 257 => 397 | 128 => 419 | 129 => 420 | 294 => 410 | 295 => 411 | 296 => 412 | 297 => 413 | 298 => 414 | 299 => 415 | 216 => 416 | 300 => 417 | 301 => 418 | 328 => 421 | 329 => 422 | 330 => 423 | 331 => 424 | 332 => 425 | 215 => 426 | 343 => 427 | n => n, fun | 28 => 73 | 3 => 3 | 46 => 450 | 0 => 0 | 51 => 467 | 53 => 469 | 4 => 4 | 183 => 461 | 182 => 460 | 131 => 181 | 5 => 5 | 9 => 9 | 218 => 471 | 222 => 332 | 228 => 476 | 229 => 70 | n => n, fun  | n => n⟩
theorem sortLays : Go.Proofs.Lays.n189 Tryz.prog sortRen := {
 mixed := by kernel_rfl
 f125 := Tryz.func398.trans (congrArg some (by kernel_rfl))
 f128 := Tryz.func419.trans (congrArg some (by kernel_rfl))
 f129 := Tryz.func420.trans (congrArg some (by kernel_rfl))
 f189 := Tryz.func364.trans (congrArg some (by kernel_rfl))
 f215 := Tryz.func426.trans (congrArg some (by kernel_rfl))
 f216 := Tryz.func416.trans (congrArg some (by kernel_rfl))
 f257 := Tryz.func397.trans (congrArg some (by kernel_rfl))
 f294 := Tryz.func410.trans (congrArg some (by kernel_rfl))
 f295 := Tryz.func411.trans (congrArg some (by kernel_rfl))
 f296 := Tryz.func412.trans (congrArg some (by kernel_rfl))
 f297 := Tryz.func413.trans (congrArg some (by kernel_rfl))
 f298 := Tryz.func414.trans (congrArg some (by kernel_rfl))
 f299 := Tryz.func415.trans (congrArg some (by kernel_rfl))
 f300 := Tryz.func417.trans (congrArg some (by kernel_rfl))
 f301 := Tryz.func418.trans (congrArg some (by kernel_rfl))
 f328 := Tryz.func421.trans (congrArg some (by kernel_rfl))
 f329 := Tryz.func422.trans (congrArg some (by kernel_rfl))
 f330 := Tryz.func423.trans (congrArg some (by kernel_rfl))
 f331 := Tryz.func424.trans (congrArg some (by kernel_rfl))
 f332 := Tryz.func425.trans (congrArg some (by kernel_rfl))
 f343 := Tryz.func427.trans (congrArg some (by kernel_rfl))
 t0 := Tryz.underlying0
 a0 := Tryz.isAgg0
 z0 := Tryz.sizeOf0
 v0 := Tryz.zeroValue0
 t3 := Tryz.underlying3
 a3 := Tryz.isAgg3
 z3 := Tryz.sizeOf3
 v3 := Tryz.zeroValue3
 t4 := Tryz.underlying4
 a4 := Tryz.isAgg4
 z4 := Tryz.sizeOf4
 v4 := Tryz.zeroValue4
 t5 := Tryz.underlying5
 a5 := Tryz.isAgg5
 z5 := Tryz.sizeOf5
 v5 := Tryz.zeroValue5
 t9 := Tryz.underlying9
 a9 := Tryz.isAgg9
 z9 := Tryz.sizeOf9
 v9 := Tryz.zeroValue9
 t28 := Tryz.underlying73
 a28 := Tryz.isAgg73
 z28 := Tryz.sizeOf73
 v28 := Tryz.zeroValue73
 t46 := Tryz.underlying450
 a46 := Tryz.isAgg450
 z46 := Tryz.sizeOf450
 v46 := Tryz.zeroValue450
 t51 := Tryz.underlying467
 a51 := Tryz.isAgg467
 z51 := Tryz.sizeOf467
 v51 := Tryz.zeroValue467
 t53 := Tryz.underlying469
 a53 := Tryz.isAgg469
 z53 := Tryz.sizeOf469
 v53 := Tryz.zeroValue469
 t131 := Tryz.underlying181
 a131 := Tryz.isAgg181
 z131 := Tryz.sizeOf181
 v131 := Tryz.zeroValue181
 t182 := Tryz.underlying460
 a182 := Tryz.isAgg460
 z182 := Tryz.sizeOf460
 v182 := Tryz.zeroValue460
 t183 := Tryz.underlying461
 a183 := Tryz.isAgg461
 z183 := Tryz.sizeOf461
 v183 := Tryz.zeroValue461
 t218 := Tryz.underlying471
 a218 := Tryz.isAgg471
 z218 := Tryz.sizeOf471
 v218 := Tryz.zeroValue471
 t222 := Tryz.underlying332
 a222 := Tryz.isAgg332
 z222 := Tryz.sizeOf332
 v222 := Tryz.zeroValue332
 t228 := Tryz.underlying476
 a228 := Tryz.isAgg476
 z228 := Tryz.sizeOf476
 v228 := Tryz.zeroValue476
 t229 := Tryz.underlying70
 a229 := Tryz.isAgg70
 z229 := Tryz.sizeOf70
 v229 := Tryz.zeroValue70 }
end

section
open Go.Tr Go Go.Proofs.Tryz
set_option maxRecDepth 10000
def under (op i : Int) : Int := if op = 3 ∨ op = 2 ∧ i = 1 then 1 else 0
theorem qb1 (op i : Int) : 0 ≤ under op i ∧ under op i ≤ 1 := by unfold under; split <;> omega
theorem under_spec (t : Tm) (a : OA) (c : Nat) (i : Int) : Pure Tryz.prog (fnS 279) [tmS t a c, iS i] [] (fun r out => r = iS (under t.op i) ∧ out = []) := by
 refine qb (N := 17) (m := 0) (dt := fun _ => none) [] ttOK Tryz.func279 rfl Tryz.call279 Tryz.ntmps279 rfl rfl rfl mixed (by kernel_rfl) ?_
 refine AtIf.mk (fun h => ?_) (fun h => ?_)
 ·refine AtRet.pure [] rfl (by simp) ⟨?_, rfl⟩
  unfold under; rw [if_pos (by simpa using h)]
 ·refine AtRet.pure [] rfl (by simp) ⟨?_, rfl⟩
  unfold under; rw [if_neg (by simpa using h)]
section
variable {σ : Type} (step : σ → Tm → Int → σ)
mutual
def walkF : Tm → σ → Int → σ
 | .mk o h n args, s, b => walkL o args 0 (step s (.mk o h n args) b) b
def walkL : Int → List Tm → Nat → σ → Int → σ
 | _, [], _, s, _ => s
 | o, t :: ts, i, s, b => walkL o ts (i + 1) (walkF t s (b + under o i)) b
 end
theorem walkF_eq (t : Tm) (s : σ) (b : Int) : walkF step t s b = walkL step t.op t.args 0 (step s t b) b := by cases t; rfl
end
mutual
def Tm.height : Tm → Nat
 | .mk _ _ _ args => qp args + 1
def qp : List Tm → Nat
 | [] => 0
 | t :: ts => max t.height (qp ts)
 end
theorem Tm.height_eq (t : Tm) : t.height = qp t.args + 1 := by cases t; rfl
theorem qdo {ts : List Tm} {t : Tm} (h : t ∈ ts) : t.height ≤ qp ts := by
 induction ts with
 | nil => cases h
 | cons x xs ih =>
  simp only [qp]
  rcases List.mem_cons.1 h with e | e
  ·subst e; omega
  ·have := ih e; omega
theorem each_spec3 {σ : Type} (F : SV) (hF0 : F.wf 3 = true) (B0 B1 B2 : σ → Blk) (I : σ → Prop) (step : σ → Tm → Int → σ)
  (hmut : ∀ s s', (B0 s).mut = (B0 s').mut ∧ (B1 s).mut = (B1 s').mut ∧ (B2 s).mut = (B2 s').mut) (hwf : ∀ s, (B0 s).wf 3 = true ∧ (B1 s).wf 3 = true ∧ (B2 s).wf 3 = true)
  (hren : ∀ s, (B0 s).ren (rix [0, 1, 2]) = B0 s ∧ (B1 s).ren (rix [0, 1, 2]) = B1 s ∧ (B2 s).ren (rix [0, 1, 2]) = B2 s) (hFren : F.ren (rix [0, 1, 2]) = F)
  (hF : ∀ s t b a c, I s → 0 ≤ b → b ≤ 1000000 → Meets Tryz.prog (.val F) [tmS t a c, iS b] ⟨[B0 s, B1 s, B2 s], [], [tmR t a c]⟩ (fun o S' => o = .ret (.tup []) ∧ I (step s t b) ∧ S' = ⟨[B0 (step s t b), B1 (step s t b), B2 (step s t b)], [], []⟩)) :
  ∀ (t : Tm) (s : σ) (b : Int) a c, I s → 0 ≤ b → b + t.height ≤ 1000000 → Meets Tryz.prog (fnS 259) [tmS t a c, iS b, F] ⟨[B0 s, B1 s, B2 s], [], [tmR t a c]⟩
   (fun o S' => o = .ret (.tup []) ∧ I (walkF step t s b) ∧ S' = ⟨[B0 (walkF step t s b), B1 (walkF step t s b), B2 (walkF step t s b)], [], []⟩) := by
 intro t
 induction t using Tm.ind with
 | h t ih =>
 intro s b a c hI hb1 hb2
 refine qa4 fun hok => ?_
 have hB : (Tm.encL t.args).length ≤ 1152921504606846976 := (hok _ (List.mem_cons_self ..)).1
 refine qb (N := 29) (m := 3) (dt := drawsOf [(5, .node [0, 1, 2, 3, 6] [(4, .node [5] [(7, .leaf [])])], [7], [])]) [] ttOK Tryz.func259 rfl Tryz.call259 Tryz.ntmps259 rfl (by simp [qr, SV.wf, hF0]) rfl mixed (by kernel_rfl) ?_
 have hw := hwf s
 have frameOK : ∀ (s : σ) (tail : List Blk) (p : Nat) (k : Blk), [B0 s, B1 s, B2 s][p]? = some k → ∃ i, [0, 1, 2][p]? = some i ∧ (B0 s :: B1 s :: B2 s :: tail)[i]? = some (k.ren (rix [0, 1, 2])) ∧ k.wf 3 = true := by
  intro s tail p k hp
  match p, hp with
  | 0, hp => simp at hp; subst hp; exact ⟨0, rfl, by rw [(hren s).1]; rfl, (hwf s).1⟩
  | 1, hp => simp at hp; subst hp; exact ⟨1, rfl, by rw [(hren s).2.1]; rfl, (hwf s).2.1⟩
  | 2, hp => simp at hp; subst hp; exact ⟨2, rfl, by rw [(hren s).2.2]; rfl, (hwf s).2.2⟩
 refine (hF s t b a c hI hb1 (by omega)).frame [0, 1, 2] (by simp [Cal.ren, hFren]) rfl (by decide) rfl ?_ (by simp) rfl hF0 ?_
 ·exact fun p k hp => frameOK s _ p k hp
 rintro o s' ⟨rfl, hI1, rfl⟩
 have hm := hmut s (step s t b)
 refine ⟨rfl, by simp [hm], [B0 (step s t b), B1 (step s t b), B2 (step s t b)], by simp [hren], ?_⟩
 have hlen := Tm.encL_length t.args
 have hh := Tm.height_eq t
 refine AtLoop.mk ⟨Nat × σ, fun x => [(15, iS x.1), (14, iS (Tm.encL t.args).length), (13, .v (.slice a (Tm.encL t.args).length c)), (3, .loc 3 0), (1, iS b), (2, F)],
  fun x => ⟨[B0 x.2, B1 x.2, B2 x.2, .cells 41 [iS t.op, iS t.hd, iS t.n, .v (.slice a (Tm.encL t.args).length c)]], [], [tmR t a c]⟩,
  fun x => x.1 ≤ t.args.length ∧ I x.2 ∧ walkF step t s b = walkL step t.op (t.args.drop x.1) x.1 x.2 b,
  fun x => t.args.length - x.1, (0, step s t b), ⟨Nat.zero_le _, hI1, by simpa using walkF_eq step t s b⟩, ⟨rfl, rfl, rfl, rfl, rfl, rfl, trivial⟩, StLe.refl _, ?_, ?_⟩
 ·intro x _
  have hF4 : F.wf 4 = true := SV.wf_mono (by omega) F hF0
  exact ⟨by simp [envWf, SV.wf, hF4]; rfl, rfl⟩
 rintro ⟨i, s1⟩ ⟨hi, hI2, hinv⟩
 simp only at hi hI2 hinv ⊢
 refine AtIf.mk (fun h1 => ?_) (fun h1 => ?_)
 ·simp only [decide_eq_true_eq, hlen] at h1
  have hlt : i < t.args.length := by omega
  obtain ⟨t', ht'⟩ : ∃ t', t.args[i]? = some t' := ⟨_, List.getElem?_eq_getElem hlt⟩
  refine qh ttOK 0 rfl rfl rfl rfl (by omega) (by rw [Int.toNat_natCast]; exact Tm.encL_get ht') ?_
  intro a' c' _ hB'
  refine (under_spec t a c i).at (by simp) rfl rfl ?_
  rintro r out ⟨rfl, rfl⟩
  refine ⟨fun _ _ h => h, ?_⟩
  have hu := qb1 t.op i
  have hht : t'.height ≤ qp t.args := qdo (List.mem_of_getElem? ht')
  have hw2 : IntKind.i64.wrap (b + under t.op i) = b + under t.op i := wrap_i64 (by omega) (by omega)
  have hs := ih t' (List.mem_of_getElem? ht') s1 (b + under t.op i) a' c' hI2 (by omega) (by omega)
  refine hs.frame [0, 1, 2] rfl (by simp only [hw2]; show _ = [_, _, F.ren _]; rw [hFren]; rfl) (by decide) rfl ?_ ?_ ?_ rfl ?_
  ·exact fun p k hp => frameOK s1 _ p k hp
  ·intro p hp; simp at hp; subst hp; simp
  ·simp [qr, SV.wf, hF0]
  ·rintro o s' ⟨rfl, hI3, rfl⟩
   have hm := hmut s1 (walkF step t' s1 (b + under t.op i))
   refine ⟨rfl, by simp [hm], [B0 (walkF step t' s1 (b + under t.op i)), B1 (walkF step t' s1 (b + under t.op i)), B2 (walkF step t' s1 (b + under t.op i))], by simp [hren], ?_⟩
   have hw3 : IntKind.i64.wrap (i + 1) = ((i + 1 : Nat) : Int) := wrap_i64 (by omega) (by omega)
   refine ⟨(i + 1, walkF step t' s1 (b + under t.op i)), ⟨by omega, hI3, ?_⟩, by simp; omega, ⟨by rw [← hw3]; rfl, rfl, rfl, rfl, rfl, rfl, trivial⟩, StLe.to _ _ rfl (by simp) rfl ?_⟩
   ·rw [hinv]
    have hd : t.args.drop i = t' :: t.args.drop (i + 1) := by
     rw [List.drop_eq_getElem_cons hlt]
     congr 1
     rw [List.getElem?_eq_getElem hlt] at ht'
     simpa using ht'
    simp only [hd, walkL]
   ·have := hwf (walkF step t' s1 (b + under t.op i))
    simp only [wfB, List.length_cons, List.length_nil, Blk.wf_mono (show 3 ≤ 0 + 1 + 1 + 1 + 1 by omega) this.1, Blk.wf_mono (show 3 ≤ 0 + 1 + 1 + 1 + 1 by omega) this.2.1, Blk.wf_mono (show 3 ≤ 0 + 1 + 1 + 1 + 1 by omega) this.2.2]
    rfl
 ·refine qf8 [B0 s1, B1 s1, B2 s1] rfl rfl rfl ?_ rfl ⟨rfl, ?_⟩
  ·have := hwf s1
   simp only [wfB, List.length_cons, List.length_nil, this.1, this.2.1, this.2.2]
  ·simp only [decide_eq_false_iff_not, hlen] at h1
   rw [List.drop_of_length_le (by omega)] at hinv
   simp only [walkL] at hinv
   rw [hinv]
   exact ⟨hI2, rfl⟩
end
end Go.Proofs.YthkgcfplebgolaaGreat
