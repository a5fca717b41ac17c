/- The types' table tells the truth. PRINTED by a program. · The functions' table tells the truth; regions that draw are as the evaluator asks. PRINTED by a program. · Methods of interface values. -/
import Derived.Test.YtfcbemhokihmoaaGreatDoorA5
set_option linter.all false
section
namespace Go.U
open Go.Proofs
set_option autoImplicit false
set_option maxRecDepth 100000
theorem tok0 : ∃ inf d, TIOK Tryz.prog 0 ti0 inf d := tiokN Tryz.types_size Tryz.type0 Tryz.underlying0 rfl (by kernel_rfl) (by kernel_rfl)
theorem tok1 : ∃ inf d, TIOK Tryz.prog 1 ti1 inf d := tiokN Tryz.types_size Tryz.type1 Tryz.underlying1 rfl (by kernel_rfl) (by kernel_rfl)
theorem tok2 : ∃ inf d, TIOK Tryz.prog 2 ti2 inf d := tiokN Tryz.types_size Tryz.type2 Tryz.underlying2 rfl (by kernel_rfl) (by kernel_rfl)
theorem tok3 : ∃ inf d, TIOK Tryz.prog 3 ti3 inf d := tiokN Tryz.types_size Tryz.type3 Tryz.underlying3 rfl (by kernel_rfl) (by kernel_rfl)
theorem tok4 : ∃ inf d, TIOK Tryz.prog 4 ti4 inf d := tiokN Tryz.types_size Tryz.type4 Tryz.underlying4 rfl (by kernel_rfl) (by kernel_rfl)
theorem tok5 : ∃ inf d, TIOK Tryz.prog 5 ti5 inf d := tiokN Tryz.types_size Tryz.type5 Tryz.underlying5 rfl (by kernel_rfl) (by kernel_rfl)
theorem tok6 : ∃ inf d, TIOK Tryz.prog 6 ti6 inf d := tiokN Tryz.types_size Tryz.type6 Tryz.underlying6 rfl (by kernel_rfl) (by kernel_rfl)
theorem tok7 : ∃ inf d, TIOK Tryz.prog 7 ti7 inf d := tiok Tryz.types_size Tryz.type7 Tryz.underlying7 Tryz.stoodInHeld7 Tryz.eqGuardType7 (by kernel_rfl) (by kernel_rfl)
theorem tok8 : ∃ inf d, TIOK Tryz.prog 8 ti8 inf d := tiok Tryz.types_size Tryz.type8 Tryz.underlying8 Tryz.stoodInHeld8 Tryz.eqGuardType8 (by kernel_rfl) (by kernel_rfl)
theorem tok9 : ∃ inf d, TIOK Tryz.prog 9 ti9 inf d := tiokN Tryz.types_size Tryz.type9 Tryz.underlying9 rfl (by kernel_rfl) (by kernel_rfl)
theorem tok10 : ∃ inf d, TIOK Tryz.prog 10 ti10 inf d := tiokN Tryz.types_size Tryz.type10 Tryz.underlying10 rfl (by kernel_rfl) (by kernel_rfl)
theorem tok11 : ∃ inf d, TIOK Tryz.prog 11 ti11 inf d := tiokN Tryz.types_size Tryz.type11 Tryz.underlying11 rfl (by kernel_rfl) (by kernel_rfl)
theorem tok12 : ∃ inf d, TIOK Tryz.prog 12 ti12 inf d := tiokN Tryz.types_size Tryz.type12 Tryz.underlying12 rfl (by kernel_rfl) (by kernel_rfl)
theorem tok13 : ∃ inf d, TIOK Tryz.prog 13 ti13 inf d := tiokN Tryz.types_size Tryz.type13 Tryz.underlying13 rfl (by kernel_rfl) (by kernel_rfl)
theorem tok14 : ∃ inf d, TIOK Tryz.prog 14 ti14 inf d := tiokN Tryz.types_size Tryz.type14 Tryz.underlying14 rfl (by kernel_rfl) (by kernel_rfl)
theorem tok15 : ∃ inf d, TIOK Tryz.prog 15 ti15 inf d := tiokN Tryz.types_size Tryz.type15 Tryz.underlying15 rfl (by kernel_rfl) (by kernel_rfl)
theorem tok16 : ∃ inf d, TIOK Tryz.prog 16 ti16 inf d := tiokN Tryz.types_size Tryz.type16 Tryz.underlying16 rfl (by kernel_rfl) (by kernel_rfl)
theorem tok17 : ∃ inf d, TIOK Tryz.prog 17 ti17 inf d := tiokN Tryz.types_size Tryz.type17 Tryz.underlying17 rfl (by kernel_rfl) (by kernel_rfl)
theorem tok18 : ∃ inf d, TIOK Tryz.prog 18 ti18 inf d := tiokN Tryz.types_size Tryz.type18 Tryz.underlying18 rfl (by kernel_rfl) (by kernel_rfl)
theorem tok19 : ∃ inf d, TIOK Tryz.prog 19 ti19 inf d := tiokN Tryz.types_size Tryz.type19 Tryz.underlying19 rfl (by kernel_rfl) (by kernel_rfl)
theorem tok20 : ∃ inf d, TIOK Tryz.prog 20 ti20 inf d := tiokN Tryz.types_size Tryz.type20 Tryz.underlying20 rfl (by kernel_rfl) (by kernel_rfl)
theorem tok21 : ∃ inf d, TIOK Tryz.prog 21 ti21 inf d := tiokN Tryz.types_size Tryz.type21 Tryz.underlying21 rfl (by kernel_rfl) (by kernel_rfl)
theorem tok22 : ∃ inf d, TIOK Tryz.prog 22 ti22 inf d := tiokN Tryz.types_size Tryz.type22 Tryz.underlying22 rfl (by kernel_rfl) (by kernel_rfl)
theorem tok23 : ∃ inf d, TIOK Tryz.prog 23 ti23 inf d := tiokN Tryz.types_size Tryz.type23 Tryz.underlying23 rfl (by kernel_rfl) (by kernel_rfl)
theorem tok24 : ∃ inf d, TIOK Tryz.prog 24 ti24 inf d := tiokN Tryz.types_size Tryz.type24 Tryz.underlying24 rfl (by kernel_rfl) (by kernel_rfl)
theorem tok25 : ∃ inf d, TIOK Tryz.prog 25 ti25 inf d := tiokN Tryz.types_size Tryz.type25 Tryz.underlying25 rfl (by kernel_rfl) (by kernel_rfl)
theorem tok26 : ∃ inf d, TIOK Tryz.prog 26 ti26 inf d := tiokN Tryz.types_size Tryz.type26 Tryz.underlying26 rfl (by kernel_rfl) (by kernel_rfl)
theorem tok27 : ∃ inf d, TIOK Tryz.prog 27 ti27 inf d := tiokN Tryz.types_size Tryz.type27 Tryz.underlying27 rfl (by kernel_rfl) (by kernel_rfl)
theorem tok28 : ∃ inf d, TIOK Tryz.prog 28 ti28 inf d := tiokN Tryz.types_size Tryz.type28 Tryz.underlying28 rfl (by kernel_rfl) (by kernel_rfl)
theorem tok29 : ∃ inf d, TIOK Tryz.prog 29 ti29 inf d := tiokN Tryz.types_size Tryz.type29 Tryz.underlying29 rfl (by kernel_rfl) (by kernel_rfl)
theorem tok30 : ∃ inf d, TIOK Tryz.prog 30 ti30 inf d := tiokN Tryz.types_size Tryz.type30 Tryz.underlying30 rfl (by kernel_rfl) (by kernel_rfl)
theorem tok31 : ∃ inf d, TIOK Tryz.prog 31 ti31 inf d := tiokN Tryz.types_size Tryz.type31 Tryz.underlying31 rfl (by kernel_rfl) (by kernel_rfl)
theorem tok32 : ∃ inf d, TIOK Tryz.prog 32 ti32 inf d := tiokN Tryz.types_size Tryz.type32 Tryz.underlying32 rfl (by kernel_rfl) (by kernel_rfl)
theorem tok33 : ∃ inf d, TIOK Tryz.prog 33 ti33 inf d := tiokN Tryz.types_size Tryz.type33 Tryz.underlying33 rfl (by kernel_rfl) (by kernel_rfl)
theorem tok34 : ∃ inf d, TIOK Tryz.prog 34 ti34 inf d := tiokN Tryz.types_size Tryz.type34 Tryz.underlying34 rfl (by kernel_rfl) (by kernel_rfl)
theorem tok35 : ∃ inf d, TIOK Tryz.prog 35 ti35 inf d := tiokN Tryz.types_size Tryz.type35 Tryz.underlying35 rfl (by kernel_rfl) (by kernel_rfl)
theorem tok36 : ∃ inf d, TIOK Tryz.prog 36 ti36 inf d := tiokN Tryz.types_size Tryz.type36 Tryz.underlying36 rfl (by kernel_rfl) (by kernel_rfl)
theorem tok37 : ∃ inf d, TIOK Tryz.prog 37 ti37 inf d := tiokN Tryz.types_size Tryz.type37 Tryz.underlying37 rfl (by kernel_rfl) (by kernel_rfl)
theorem tok38 : ∃ inf d, TIOK Tryz.prog 38 ti38 inf d := tiokN Tryz.types_size Tryz.type38 Tryz.underlying38 rfl (by kernel_rfl) (by kernel_rfl)
theorem tok39 : ∃ inf d, TIOK Tryz.prog 39 ti39 inf d := tiokN Tryz.types_size Tryz.type39 Tryz.underlying39 rfl (by kernel_rfl) (by kernel_rfl)
theorem tok40 : ∃ inf d, TIOK Tryz.prog 40 ti40 inf d := tiokN Tryz.types_size Tryz.type40 Tryz.underlying40 rfl (by kernel_rfl) (by kernel_rfl)
theorem tok41 : ∃ inf d, TIOK Tryz.prog 41 ti41 inf d := tiokN Tryz.types_size Tryz.type41 Tryz.underlying41 rfl (by kernel_rfl) (by kernel_rfl)
theorem tok42 : ∃ inf d, TIOK Tryz.prog 42 ti42 inf d := tiokN Tryz.types_size Tryz.type42 Tryz.underlying42 rfl (by kernel_rfl) (by kernel_rfl)
theorem tok43 : ∃ inf d, TIOK Tryz.prog 43 ti43 inf d := tiokN Tryz.types_size Tryz.type43 Tryz.underlying43 rfl (by kernel_rfl) (by kernel_rfl)
theorem tok44 : ∃ inf d, TIOK Tryz.prog 44 ti44 inf d := tiokN Tryz.types_size Tryz.type44 Tryz.underlying44 rfl (by kernel_rfl) (by kernel_rfl)
theorem tok45 : ∃ inf d, TIOK Tryz.prog 45 ti45 inf d := tiokN Tryz.types_size Tryz.type45 Tryz.underlying45 rfl (by kernel_rfl) (by kernel_rfl)
theorem tok46 : ∃ inf d, TIOK Tryz.prog 46 ti46 inf d := tiokN Tryz.types_size Tryz.type46 Tryz.underlying46 rfl (by kernel_rfl) (by kernel_rfl)
theorem tok47 : ∃ inf d, TIOK Tryz.prog 47 ti47 inf d := tiokN Tryz.types_size Tryz.type47 Tryz.underlying47 rfl (by kernel_rfl) (by kernel_rfl)
theorem tok48 : ∃ inf d, TIOK Tryz.prog 48 ti48 inf d := tiokN Tryz.types_size Tryz.type48 Tryz.underlying48 rfl (by kernel_rfl) (by kernel_rfl)
theorem tok49 : ∃ inf d, TIOK Tryz.prog 49 ti49 inf d := tiokN Tryz.types_size Tryz.type49 Tryz.underlying49 rfl (by kernel_rfl) (by kernel_rfl)
theorem tok50 : ∃ inf d, TIOK Tryz.prog 50 ti50 inf d := tiokN Tryz.types_size Tryz.type50 Tryz.underlying50 rfl (by kernel_rfl) (by kernel_rfl)
theorem tok51 : ∃ inf d, TIOK Tryz.prog 51 ti51 inf d := tiokN Tryz.types_size Tryz.type51 Tryz.underlying51 rfl (by kernel_rfl) (by kernel_rfl)
theorem tok52 : ∃ inf d, TIOK Tryz.prog 52 ti52 inf d := tiokN Tryz.types_size Tryz.type52 Tryz.underlying52 rfl (by kernel_rfl) (by kernel_rfl)
theorem tok53 : ∃ inf d, TIOK Tryz.prog 53 ti53 inf d := tiokN Tryz.types_size Tryz.type53 Tryz.underlying53 rfl (by kernel_rfl) (by kernel_rfl)
theorem tok54 : ∃ inf d, TIOK Tryz.prog 54 ti54 inf d := tiokN Tryz.types_size Tryz.type54 Tryz.underlying54 rfl (by kernel_rfl) (by kernel_rfl)
theorem tok55 : ∃ inf d, TIOK Tryz.prog 55 ti55 inf d := tiokN Tryz.types_size Tryz.type55 Tryz.underlying55 rfl (by kernel_rfl) (by kernel_rfl)
theorem tok56 : ∃ inf d, TIOK Tryz.prog 56 ti56 inf d := tiokN Tryz.types_size Tryz.type56 Tryz.underlying56 rfl (by kernel_rfl) (by kernel_rfl)
theorem tok57 : ∃ inf d, TIOK Tryz.prog 57 ti57 inf d := tiokN Tryz.types_size Tryz.type57 Tryz.underlying57 rfl (by kernel_rfl) (by kernel_rfl)
theorem tok58 : ∃ inf d, TIOK Tryz.prog 58 ti58 inf d := tiokN Tryz.types_size Tryz.type58 Tryz.underlying58 rfl (by kernel_rfl) (by kernel_rfl)
theorem tok59 : ∃ inf d, TIOK Tryz.prog 59 ti59 inf d := tiokN Tryz.types_size Tryz.type59 Tryz.underlying59 rfl (by kernel_rfl) (by kernel_rfl)
theorem tok60 : ∃ inf d, TIOK Tryz.prog 60 ti60 inf d := tiokN Tryz.types_size Tryz.type60 Tryz.underlying60 rfl (by kernel_rfl) (by kernel_rfl)
theorem tok61 : ∃ inf d, TIOK Tryz.prog 61 ti61 inf d := tiokN Tryz.types_size Tryz.type61 Tryz.underlying61 rfl (by kernel_rfl) (by kernel_rfl)
theorem tok62 : ∃ inf d, TIOK Tryz.prog 62 ti62 inf d := tiokN Tryz.types_size Tryz.type62 Tryz.underlying62 rfl (by kernel_rfl) (by kernel_rfl)
theorem tok63 : ∃ inf d, TIOK Tryz.prog 63 ti63 inf d := tiokN Tryz.types_size Tryz.type63 Tryz.underlying63 rfl (by kernel_rfl) (by kernel_rfl)
theorem tok64 : ∃ inf d, TIOK Tryz.prog 64 ti64 inf d := tiokN Tryz.types_size Tryz.type64 Tryz.underlying64 rfl (by kernel_rfl) (by kernel_rfl)
theorem tok65 : ∃ inf d, TIOK Tryz.prog 65 ti65 inf d := tiokN Tryz.types_size Tryz.type65 Tryz.underlying65 rfl (by kernel_rfl) (by kernel_rfl)
theorem tok66 : ∃ inf d, TIOK Tryz.prog 66 ti66 inf d := tiokN Tryz.types_size Tryz.type66 Tryz.underlying66 rfl (by kernel_rfl) (by kernel_rfl)
theorem tok67 : ∃ inf d, TIOK Tryz.prog 67 ti67 inf d := tiokN Tryz.types_size Tryz.type67 Tryz.underlying67 rfl (by kernel_rfl) (by kernel_rfl)
theorem tok68 : ∃ inf d, TIOK Tryz.prog 68 ti68 inf d := tiokN Tryz.types_size Tryz.type68 Tryz.underlying68 rfl (by kernel_rfl) (by kernel_rfl)
theorem tok69 : ∃ inf d, TIOK Tryz.prog 69 ti69 inf d := tiokN Tryz.types_size Tryz.type69 Tryz.underlying69 rfl (by kernel_rfl) (by kernel_rfl)
theorem tok70 : ∃ inf d, TIOK Tryz.prog 70 ti70 inf d := tiokN Tryz.types_size Tryz.type70 Tryz.underlying70 rfl (by kernel_rfl) (by kernel_rfl)
theorem tok71 : ∃ inf d, TIOK Tryz.prog 71 ti71 inf d := tiokN Tryz.types_size Tryz.type71 Tryz.underlying71 rfl (by kernel_rfl) (by kernel_rfl)
theorem tok72 : ∃ inf d, TIOK Tryz.prog 72 ti72 inf d := tiokN Tryz.types_size Tryz.type72 Tryz.underlying72 rfl (by kernel_rfl) (by kernel_rfl)
theorem tok73 : ∃ inf d, TIOK Tryz.prog 73 ti73 inf d := tiokN Tryz.types_size Tryz.type73 Tryz.underlying73 rfl (by kernel_rfl) (by kernel_rfl)
theorem tok74 : ∃ inf d, TIOK Tryz.prog 74 ti74 inf d := tiokN Tryz.types_size Tryz.type74 Tryz.underlying74 rfl (by kernel_rfl) (by kernel_rfl)
theorem tok75 : ∃ inf d, TIOK Tryz.prog 75 ti75 inf d := tiokN Tryz.types_size Tryz.type75 Tryz.underlying75 rfl (by kernel_rfl) (by kernel_rfl)
theorem tok76 : ∃ inf d, TIOK Tryz.prog 76 ti76 inf d := tiokN Tryz.types_size Tryz.type76 Tryz.underlying76 rfl (by kernel_rfl) (by kernel_rfl)
theorem tok77 : ∃ inf d, TIOK Tryz.prog 77 ti77 inf d := tiok Tryz.types_size Tryz.type77 Tryz.underlying77 Tryz.stoodInHeld77 Tryz.eqGuardType77 (by kernel_rfl) (by kernel_rfl)
theorem tok78 : ∃ inf d, TIOK Tryz.prog 78 ti78 inf d := tiok Tryz.types_size Tryz.type78 Tryz.underlying78 Tryz.stoodInHeld78 Tryz.eqGuardType78 (by kernel_rfl) (by kernel_rfl)
theorem tok79 : ∃ inf d, TIOK Tryz.prog 79 ti79 inf d := tiokN Tryz.types_size Tryz.type79 Tryz.underlying79 rfl (by kernel_rfl) (by kernel_rfl)
theorem tok80 : ∃ inf d, TIOK Tryz.prog 80 ti80 inf d := tiokN Tryz.types_size Tryz.type80 Tryz.underlying80 rfl (by kernel_rfl) (by kernel_rfl)
theorem tok81 : ∃ inf d, TIOK Tryz.prog 81 ti81 inf d := tiokN Tryz.types_size Tryz.type81 Tryz.underlying81 rfl (by kernel_rfl) (by kernel_rfl)
theorem tok82 : ∃ inf d, TIOK Tryz.prog 82 ti82 inf d := tiokN Tryz.types_size Tryz.type82 Tryz.underlying82 rfl (by kernel_rfl) (by kernel_rfl)
theorem tok83 : ∃ inf d, TIOK Tryz.prog 83 ti83 inf d := tiokN Tryz.types_size Tryz.type83 Tryz.underlying83 rfl (by kernel_rfl) (by kernel_rfl)
theorem tok84 : ∃ inf d, TIOK Tryz.prog 84 ti84 inf d := tiokN Tryz.types_size Tryz.type84 Tryz.underlying84 rfl (by kernel_rfl) (by kernel_rfl)
theorem tok85 : ∃ inf d, TIOK Tryz.prog 85 ti85 inf d := tiokN Tryz.types_size Tryz.type85 Tryz.underlying85 rfl (by kernel_rfl) (by kernel_rfl)
theorem tok86 : ∃ inf d, TIOK Tryz.prog 86 ti86 inf d := tiokN Tryz.types_size Tryz.type86 Tryz.underlying86 rfl (by kernel_rfl) (by kernel_rfl)
theorem tok87 : ∃ inf d, TIOK Tryz.prog 87 ti87 inf d := tiokN Tryz.types_size Tryz.type87 Tryz.underlying87 rfl (by kernel_rfl) (by kernel_rfl)
theorem tok88 : ∃ inf d, TIOK Tryz.prog 88 ti88 inf d := tiokN Tryz.types_size Tryz.type88 Tryz.underlying88 rfl (by kernel_rfl) (by kernel_rfl)
theorem tok89 : ∃ inf d, TIOK Tryz.prog 89 ti89 inf d := tiokN Tryz.types_size Tryz.type89 Tryz.underlying89 rfl (by kernel_rfl) (by kernel_rfl)
theorem tok90 : ∃ inf d, TIOK Tryz.prog 90 ti90 inf d := tiokN Tryz.types_size Tryz.type90 Tryz.underlying90 rfl (by kernel_rfl) (by kernel_rfl)
theorem tok91 : ∃ inf d, TIOK Tryz.prog 91 ti91 inf d := tiokN Tryz.types_size Tryz.type91 Tryz.underlying91 rfl (by kernel_rfl) (by kernel_rfl)
theorem tok92 : ∃ inf d, TIOK Tryz.prog 92 ti92 inf d := tiokN Tryz.types_size Tryz.type92 Tryz.underlying92 rfl (by kernel_rfl) (by kernel_rfl)
theorem tok93 : ∃ inf d, TIOK Tryz.prog 93 ti93 inf d := tiokN Tryz.types_size Tryz.type93 Tryz.underlying93 rfl (by kernel_rfl) (by kernel_rfl)
theorem tok94 : ∃ inf d, TIOK Tryz.prog 94 ti94 inf d := tiokN Tryz.types_size Tryz.type94 Tryz.underlying94 rfl (by kernel_rfl) (by kernel_rfl)
theorem tok95 : ∃ inf d, TIOK Tryz.prog 95 ti95 inf d := tiokN Tryz.types_size Tryz.type95 Tryz.underlying95 rfl (by kernel_rfl) (by kernel_rfl)
theorem tok96 : ∃ inf d, TIOK Tryz.prog 96 ti96 inf d := tiokN Tryz.types_size Tryz.type96 Tryz.underlying96 rfl (by kernel_rfl) (by kernel_rfl)
theorem tok97 : ∃ inf d, TIOK Tryz.prog 97 ti97 inf d := tiokN Tryz.types_size Tryz.type97 Tryz.underlying97 rfl (by kernel_rfl) (by kernel_rfl)
theorem tok98 : ∃ inf d, TIOK Tryz.prog 98 ti98 inf d := tiokN Tryz.types_size Tryz.type98 Tryz.underlying98 rfl (by kernel_rfl) (by kernel_rfl)
theorem tok99 : ∃ inf d, TIOK Tryz.prog 99 ti99 inf d := tiokN Tryz.types_size Tryz.type99 Tryz.underlying99 rfl (by kernel_rfl) (by kernel_rfl)
theorem tok100 : ∃ inf d, TIOK Tryz.prog 100 ti100 inf d := tiokN Tryz.types_size Tryz.type100 Tryz.underlying100 rfl (by kernel_rfl) (by kernel_rfl)
theorem tok101 : ∃ inf d, TIOK Tryz.prog 101 ti101 inf d := tiokN Tryz.types_size Tryz.type101 Tryz.underlying101 rfl (by kernel_rfl) (by kernel_rfl)
theorem tok102 : ∃ inf d, TIOK Tryz.prog 102 ti102 inf d := tiokN Tryz.types_size Tryz.type102 Tryz.underlying102 rfl (by kernel_rfl) (by kernel_rfl)
theorem tok103 : ∃ inf d, TIOK Tryz.prog 103 ti103 inf d := tiokN Tryz.types_size Tryz.type103 Tryz.underlying103 rfl (by kernel_rfl) (by kernel_rfl)
theorem tok104 : ∃ inf d, TIOK Tryz.prog 104 ti104 inf d := tiokN Tryz.types_size Tryz.type104 Tryz.underlying104 rfl (by kernel_rfl) (by kernel_rfl)
theorem tok105 : ∃ inf d, TIOK Tryz.prog 105 ti105 inf d := tiokN Tryz.types_size Tryz.type105 Tryz.underlying105 rfl (by kernel_rfl) (by kernel_rfl)
theorem tok106 : ∃ inf d, TIOK Tryz.prog 106 ti106 inf d := tiokN Tryz.types_size Tryz.type106 Tryz.underlying106 rfl (by kernel_rfl) (by kernel_rfl)
theorem tok107 : ∃ inf d, TIOK Tryz.prog 107 ti107 inf d := tiokN Tryz.types_size Tryz.type107 Tryz.underlying107 rfl (by kernel_rfl) (by kernel_rfl)
theorem tok108 : ∃ inf d, TIOK Tryz.prog 108 ti108 inf d := tiokN Tryz.types_size Tryz.type108 Tryz.underlying108 rfl (by kernel_rfl) (by kernel_rfl)
theorem tok109 : ∃ inf d, TIOK Tryz.prog 109 ti109 inf d := tiokN Tryz.types_size Tryz.type109 Tryz.underlying109 rfl (by kernel_rfl) (by kernel_rfl)
theorem tok110 : ∃ inf d, TIOK Tryz.prog 110 ti110 inf d := tiokN Tryz.types_size Tryz.type110 Tryz.underlying110 rfl (by kernel_rfl) (by kernel_rfl)
theorem tok111 : ∃ inf d, TIOK Tryz.prog 111 ti111 inf d := tiokN Tryz.types_size Tryz.type111 Tryz.underlying111 rfl (by kernel_rfl) (by kernel_rfl)
theorem tok112 : ∃ inf d, TIOK Tryz.prog 112 ti112 inf d := tiokN Tryz.types_size Tryz.type112 Tryz.underlying112 rfl (by kernel_rfl) (by kernel_rfl)
theorem tok113 : ∃ inf d, TIOK Tryz.prog 113 ti113 inf d := tiokN Tryz.types_size Tryz.type113 Tryz.underlying113 rfl (by kernel_rfl) (by kernel_rfl)
theorem tok114 : ∃ inf d, TIOK Tryz.prog 114 ti114 inf d := tiokN Tryz.types_size Tryz.type114 Tryz.underlying114 rfl (by kernel_rfl) (by kernel_rfl)
theorem tok115 : ∃ inf d, TIOK Tryz.prog 115 ti115 inf d := tiokN Tryz.types_size Tryz.type115 Tryz.underlying115 rfl (by kernel_rfl) (by kernel_rfl)
theorem tok116 : ∃ inf d, TIOK Tryz.prog 116 ti116 inf d := tiokN Tryz.types_size Tryz.type116 Tryz.underlying116 rfl (by kernel_rfl) (by kernel_rfl)
theorem tok117 : ∃ inf d, TIOK Tryz.prog 117 ti117 inf d := tiokN Tryz.types_size Tryz.type117 Tryz.underlying117 rfl (by kernel_rfl) (by kernel_rfl)
theorem tok118 : ∃ inf d, TIOK Tryz.prog 118 ti118 inf d := tiokN Tryz.types_size Tryz.type118 Tryz.underlying118 rfl (by kernel_rfl) (by kernel_rfl)
theorem tok119 : ∃ inf d, TIOK Tryz.prog 119 ti119 inf d := tiokN Tryz.types_size Tryz.type119 Tryz.underlying119 rfl (by kernel_rfl) (by kernel_rfl)
theorem tok120 : ∃ inf d, TIOK Tryz.prog 120 ti120 inf d := tiokN Tryz.types_size Tryz.type120 Tryz.underlying120 rfl (by kernel_rfl) (by kernel_rfl)
theorem tok121 : ∃ inf d, TIOK Tryz.prog 121 ti121 inf d := tiokN Tryz.types_size Tryz.type121 Tryz.underlying121 rfl (by kernel_rfl) (by kernel_rfl)
theorem tok122 : ∃ inf d, TIOK Tryz.prog 122 ti122 inf d := tiokN Tryz.types_size Tryz.type122 Tryz.underlying122 rfl (by kernel_rfl) (by kernel_rfl)
theorem tok123 : ∃ inf d, TIOK Tryz.prog 123 ti123 inf d := tiokN Tryz.types_size Tryz.type123 Tryz.underlying123 rfl (by kernel_rfl) (by kernel_rfl)
theorem tok124 : ∃ inf d, TIOK Tryz.prog 124 ti124 inf d := tiokN Tryz.types_size Tryz.type124 Tryz.underlying124 rfl (by kernel_rfl) (by kernel_rfl)
theorem tok125 : ∃ inf d, TIOK Tryz.prog 125 ti125 inf d := tiokN Tryz.types_size Tryz.type125 Tryz.underlying125 rfl (by kernel_rfl) (by kernel_rfl)
theorem tok126 : ∃ inf d, TIOK Tryz.prog 126 ti126 inf d := tiokN Tryz.types_size Tryz.type126 Tryz.underlying126 rfl (by kernel_rfl) (by kernel_rfl)
theorem tok127 : ∃ inf d, TIOK Tryz.prog 127 ti127 inf d := tiokN Tryz.types_size Tryz.type127 Tryz.underlying127 rfl (by kernel_rfl) (by kernel_rfl)
theorem tok128 : ∃ inf d, TIOK Tryz.prog 128 ti128 inf d := tiokN Tryz.types_size Tryz.type128 Tryz.underlying128 rfl (by kernel_rfl) (by kernel_rfl)
theorem tok129 : ∃ inf d, TIOK Tryz.prog 129 ti129 inf d := tiokN Tryz.types_size Tryz.type129 Tryz.underlying129 rfl (by kernel_rfl) (by kernel_rfl)
theorem tok130 : ∃ inf d, TIOK Tryz.prog 130 ti130 inf d := tiokN Tryz.types_size Tryz.type130 Tryz.underlying130 rfl (by kernel_rfl) (by kernel_rfl)
theorem tok131 : ∃ inf d, TIOK Tryz.prog 131 ti131 inf d := tiokN Tryz.types_size Tryz.type131 Tryz.underlying131 rfl (by kernel_rfl) (by kernel_rfl)
theorem tok132 : ∃ inf d, TIOK Tryz.prog 132 ti132 inf d := tiokN Tryz.types_size Tryz.type132 Tryz.underlying132 rfl (by kernel_rfl) (by kernel_rfl)
theorem tok133 : ∃ inf d, TIOK Tryz.prog 133 ti133 inf d := tiok Tryz.types_size Tryz.type133 Tryz.underlying133 Tryz.stoodInHeld133 Tryz.eqGuardType133 (by kernel_rfl) (by kernel_rfl)
theorem tok134 : ∃ inf d, TIOK Tryz.prog 134 ti134 inf d := tiok Tryz.types_size Tryz.type134 Tryz.underlying134 Tryz.stoodInHeld134 Tryz.eqGuardType134 (by kernel_rfl) (by kernel_rfl)
theorem tok135 : ∃ inf d, TIOK Tryz.prog 135 ti135 inf d := tiokN Tryz.types_size Tryz.type135 Tryz.underlying135 rfl (by kernel_rfl) (by kernel_rfl)
theorem tok136 : ∃ inf d, TIOK Tryz.prog 136 ti136 inf d := tiokN Tryz.types_size Tryz.type136 Tryz.underlying136 rfl (by kernel_rfl) (by kernel_rfl)
theorem tok137 : ∃ inf d, TIOK Tryz.prog 137 ti137 inf d := tiokN Tryz.types_size Tryz.type137 Tryz.underlying137 rfl (by kernel_rfl) (by kernel_rfl)
theorem tok138 : ∃ inf d, TIOK Tryz.prog 138 ti138 inf d := tiokN Tryz.types_size Tryz.type138 Tryz.underlying138 rfl (by kernel_rfl) (by kernel_rfl)
theorem tok139 : ∃ inf d, TIOK Tryz.prog 139 ti139 inf d := tiokN Tryz.types_size Tryz.type139 Tryz.underlying139 rfl (by kernel_rfl) (by kernel_rfl)
theorem tok140 : ∃ inf d, TIOK Tryz.prog 140 ti140 inf d := tiokN Tryz.types_size Tryz.type140 Tryz.underlying140 rfl (by kernel_rfl) (by kernel_rfl)
theorem tok141 : ∃ inf d, TIOK Tryz.prog 141 ti141 inf d := tiokN Tryz.types_size Tryz.type141 Tryz.underlying141 rfl (by kernel_rfl) (by kernel_rfl)
theorem tok142 : ∃ inf d, TIOK Tryz.prog 142 ti142 inf d := tiok Tryz.types_size Tryz.type142 Tryz.underlying142 Tryz.stoodInHeld142 Tryz.eqGuardType142 (by kernel_rfl) (by kernel_rfl)
theorem tok143 : ∃ inf d, TIOK Tryz.prog 143 ti143 inf d := tiok Tryz.types_size Tryz.type143 Tryz.underlying143 Tryz.stoodInHeld143 Tryz.eqGuardType143 (by kernel_rfl) (by kernel_rfl)
theorem tok144 : ∃ inf d, TIOK Tryz.prog 144 ti144 inf d := tiokN Tryz.types_size Tryz.type144 Tryz.underlying144 rfl (by kernel_rfl) (by kernel_rfl)
theorem tok145 : ∃ inf d, TIOK Tryz.prog 145 ti145 inf d := tiokN Tryz.types_size Tryz.type145 Tryz.underlying145 rfl (by kernel_rfl) (by kernel_rfl)
theorem tok146 : ∃ inf d, TIOK Tryz.prog 146 ti146 inf d := tiokN Tryz.types_size Tryz.type146 Tryz.underlying146 rfl (by kernel_rfl) (by kernel_rfl)
theorem tok147 : ∃ inf d, TIOK Tryz.prog 147 ti147 inf d := tiokN Tryz.types_size Tryz.type147 Tryz.underlying147 rfl (by kernel_rfl) (by kernel_rfl)
theorem tok148 : ∃ inf d, TIOK Tryz.prog 148 ti148 inf d := tiok Tryz.types_size Tryz.type148 Tryz.underlying148 Tryz.stoodInHeld148 Tryz.eqGuardType148 (by kernel_rfl) (by kernel_rfl)
theorem tok149 : ∃ inf d, TIOK Tryz.prog 149 ti149 inf d := tiok Tryz.types_size Tryz.type149 Tryz.underlying149 Tryz.stoodInHeld149 Tryz.eqGuardType149 (by kernel_rfl) (by kernel_rfl)
theorem tok150 : ∃ inf d, TIOK Tryz.prog 150 ti150 inf d := tiokN Tryz.types_size Tryz.type150 Tryz.underlying150 rfl (by kernel_rfl) (by kernel_rfl)
theorem tok151 : ∃ inf d, TIOK Tryz.prog 151 ti151 inf d := tiokN Tryz.types_size Tryz.type151 Tryz.underlying151 rfl (by kernel_rfl) (by kernel_rfl)
theorem tok152 : ∃ inf d, TIOK Tryz.prog 152 ti152 inf d := tiokN Tryz.types_size Tryz.type152 Tryz.underlying152 rfl (by kernel_rfl) (by kernel_rfl)
theorem tok153 : ∃ inf d, TIOK Tryz.prog 153 ti153 inf d := tiokN Tryz.types_size Tryz.type153 Tryz.underlying153 rfl (by kernel_rfl) (by kernel_rfl)
theorem tok154 : ∃ inf d, TIOK Tryz.prog 154 ti154 inf d := tiokN Tryz.types_size Tryz.type154 Tryz.underlying154 rfl (by kernel_rfl) (by kernel_rfl)
theorem tok155 : ∃ inf d, TIOK Tryz.prog 155 ti155 inf d := tiokN Tryz.types_size Tryz.type155 Tryz.underlying155 rfl (by kernel_rfl) (by kernel_rfl)
theorem tok156 : ∃ inf d, TIOK Tryz.prog 156 ti156 inf d := tiokN Tryz.types_size Tryz.type156 Tryz.underlying156 rfl (by kernel_rfl) (by kernel_rfl)
theorem tok157 : ∃ inf d, TIOK Tryz.prog 157 ti157 inf d := tiokN Tryz.types_size Tryz.type157 Tryz.underlying157 rfl (by kernel_rfl) (by kernel_rfl)
theorem tok158 : ∃ inf d, TIOK Tryz.prog 158 ti158 inf d := tiok Tryz.types_size Tryz.type158 Tryz.underlying158 Tryz.stoodInHeld158 Tryz.eqGuardType158 (by kernel_rfl) (by kernel_rfl)
theorem tok159 : ∃ inf d, TIOK Tryz.prog 159 ti159 inf d := tiok Tryz.types_size Tryz.type159 Tryz.underlying159 Tryz.stoodInHeld159 Tryz.eqGuardType159 (by kernel_rfl) (by kernel_rfl)
theorem tok160 : ∃ inf d, TIOK Tryz.prog 160 ti160 inf d := tiokN Tryz.types_size Tryz.type160 Tryz.underlying160 rfl (by kernel_rfl) (by kernel_rfl)
theorem tok161 : ∃ inf d, TIOK Tryz.prog 161 ti161 inf d := tiok Tryz.types_size Tryz.type161 Tryz.underlying161 Tryz.stoodInHeld161 Tryz.eqGuardType161 (by kernel_rfl) (by kernel_rfl)
theorem tok162 : ∃ inf d, TIOK Tryz.prog 162 ti162 inf d := tiok Tryz.types_size Tryz.type162 Tryz.underlying162 Tryz.stoodInHeld162 Tryz.eqGuardType162 (by kernel_rfl) (by kernel_rfl)
theorem tok163 : ∃ inf d, TIOK Tryz.prog 163 ti163 inf d := tiokN Tryz.types_size Tryz.type163 Tryz.underlying163 rfl (by kernel_rfl) (by kernel_rfl)
theorem tok164 : ∃ inf d, TIOK Tryz.prog 164 ti164 inf d := tiokN Tryz.types_size Tryz.type164 Tryz.underlying164 rfl (by kernel_rfl) (by kernel_rfl)
theorem tok165 : ∃ inf d, TIOK Tryz.prog 165 ti165 inf d := tiokN Tryz.types_size Tryz.type165 Tryz.underlying165 rfl (by kernel_rfl) (by kernel_rfl)
theorem tok166 : ∃ inf d, TIOK Tryz.prog 166 ti166 inf d := tiokN Tryz.types_size Tryz.type166 Tryz.underlying166 rfl (by kernel_rfl) (by kernel_rfl)
theorem tok167 : ∃ inf d, TIOK Tryz.prog 167 ti167 inf d := tiokN Tryz.types_size Tryz.type167 Tryz.underlying167 rfl (by kernel_rfl) (by kernel_rfl)
theorem tok168 : ∃ inf d, TIOK Tryz.prog 168 ti168 inf d := tiokN Tryz.types_size Tryz.type168 Tryz.underlying168 rfl (by kernel_rfl) (by kernel_rfl)
theorem tok169 : ∃ inf d, TIOK Tryz.prog 169 ti169 inf d := tiokN Tryz.types_size Tryz.type169 Tryz.underlying169 rfl (by kernel_rfl) (by kernel_rfl)
theorem tok170 : ∃ inf d, TIOK Tryz.prog 170 ti170 inf d := tiokN Tryz.types_size Tryz.type170 Tryz.underlying170 rfl (by kernel_rfl) (by kernel_rfl)
theorem tok171 : ∃ inf d, TIOK Tryz.prog 171 ti171 inf d := tiokN Tryz.types_size Tryz.type171 Tryz.underlying171 rfl (by kernel_rfl) (by kernel_rfl)
theorem tok172 : ∃ inf d, TIOK Tryz.prog 172 ti172 inf d := tiok Tryz.types_size Tryz.type172 Tryz.underlying172 Tryz.stoodInHeld172 Tryz.eqGuardType172 (by kernel_rfl) (by kernel_rfl)
theorem tok173 : ∃ inf d, TIOK Tryz.prog 173 ti173 inf d := tiok Tryz.types_size Tryz.type173 Tryz.underlying173 Tryz.stoodInHeld173 Tryz.eqGuardType173 (by kernel_rfl) (by kernel_rfl)
theorem tok174 : ∃ inf d, TIOK Tryz.prog 174 ti174 inf d := tiokN Tryz.types_size Tryz.type174 Tryz.underlying174 rfl (by kernel_rfl) (by kernel_rfl)
theorem tok175 : ∃ inf d, TIOK Tryz.prog 175 ti175 inf d := tiokN Tryz.types_size Tryz.type175 Tryz.underlying175 rfl (by kernel_rfl) (by kernel_rfl)
theorem tok176 : ∃ inf d, TIOK Tryz.prog 176 ti176 inf d := tiokN Tryz.types_size Tryz.type176 Tryz.underlying176 rfl (by kernel_rfl) (by kernel_rfl)
theorem tok177 : ∃ inf d, TIOK Tryz.prog 177 ti177 inf d := tiok Tryz.types_size Tryz.type177 Tryz.underlying177 Tryz.stoodInHeld177 Tryz.eqGuardType177 (by kernel_rfl) (by kernel_rfl)
theorem tok178 : ∃ inf d, TIOK Tryz.prog 178 ti178 inf d := tiok Tryz.types_size Tryz.type178 Tryz.underlying178 Tryz.stoodInHeld178 Tryz.eqGuardType178 (by kernel_rfl) (by kernel_rfl)
theorem tok179 : ∃ inf d, TIOK Tryz.prog 179 ti179 inf d := tiok Tryz.types_size Tryz.type179 Tryz.underlying179 Tryz.stoodInHeld179 Tryz.eqGuardType179 (by kernel_rfl) (by kernel_rfl)
theorem tok180 : ∃ inf d, TIOK Tryz.prog 180 ti180 inf d := tiok Tryz.types_size Tryz.type180 Tryz.underlying180 Tryz.stoodInHeld180 Tryz.eqGuardType180 (by kernel_rfl) (by kernel_rfl)
theorem tok181 : ∃ inf d, TIOK Tryz.prog 181 ti181 inf d := tiokN Tryz.types_size Tryz.type181 Tryz.underlying181 rfl (by kernel_rfl) (by kernel_rfl)
theorem tok182 : ∃ inf d, TIOK Tryz.prog 182 ti182 inf d := tiokN Tryz.types_size Tryz.type182 Tryz.underlying182 rfl (by kernel_rfl) (by kernel_rfl)
theorem tok183 : ∃ inf d, TIOK Tryz.prog 183 ti183 inf d := tiokN Tryz.types_size Tryz.type183 Tryz.underlying183 rfl (by kernel_rfl) (by kernel_rfl)
theorem tok184 : ∃ inf d, TIOK Tryz.prog 184 ti184 inf d := tiokN Tryz.types_size Tryz.type184 Tryz.underlying184 rfl (by kernel_rfl) (by kernel_rfl)
theorem tok185 : ∃ inf d, TIOK Tryz.prog 185 ti185 inf d := tiokN Tryz.types_size Tryz.type185 Tryz.underlying185 rfl (by kernel_rfl) (by kernel_rfl)
theorem tok186 : ∃ inf d, TIOK Tryz.prog 186 ti186 inf d := tiokN Tryz.types_size Tryz.type186 Tryz.underlying186 rfl (by kernel_rfl) (by kernel_rfl)
theorem tok187 : ∃ inf d, TIOK Tryz.prog 187 ti187 inf d := tiokN Tryz.types_size Tryz.type187 Tryz.underlying187 rfl (by kernel_rfl) (by kernel_rfl)
theorem tok188 : ∃ inf d, TIOK Tryz.prog 188 ti188 inf d := tiokN Tryz.types_size Tryz.type188 Tryz.underlying188 rfl (by kernel_rfl) (by kernel_rfl)
theorem tok189 : ∃ inf d, TIOK Tryz.prog 189 ti189 inf d := tiokN Tryz.types_size Tryz.type189 Tryz.underlying189 rfl (by kernel_rfl) (by kernel_rfl)
theorem tok190 : ∃ inf d, TIOK Tryz.prog 190 ti190 inf d := tiokN Tryz.types_size Tryz.type190 Tryz.underlying190 rfl (by kernel_rfl) (by kernel_rfl)
theorem tok191 : ∃ inf d, TIOK Tryz.prog 191 ti191 inf d := tiokN Tryz.types_size Tryz.type191 Tryz.underlying191 rfl (by kernel_rfl) (by kernel_rfl)
theorem tok192 : ∃ inf d, TIOK Tryz.prog 192 ti192 inf d := tiokN Tryz.types_size Tryz.type192 Tryz.underlying192 rfl (by kernel_rfl) (by kernel_rfl)
theorem tok193 : ∃ inf d, TIOK Tryz.prog 193 ti193 inf d := tiokN Tryz.types_size Tryz.type193 Tryz.underlying193 rfl (by kernel_rfl) (by kernel_rfl)
theorem tok194 : ∃ inf d, TIOK Tryz.prog 194 ti194 inf d := tiokN Tryz.types_size Tryz.type194 Tryz.underlying194 rfl (by kernel_rfl) (by kernel_rfl)
theorem tok195 : ∃ inf d, TIOK Tryz.prog 195 ti195 inf d := tiokN Tryz.types_size Tryz.type195 Tryz.underlying195 rfl (by kernel_rfl) (by kernel_rfl)
theorem tok196 : ∃ inf d, TIOK Tryz.prog 196 ti196 inf d := tiokN Tryz.types_size Tryz.type196 Tryz.underlying196 rfl (by kernel_rfl) (by kernel_rfl)
theorem tok197 : ∃ inf d, TIOK Tryz.prog 197 ti197 inf d := tiokN Tryz.types_size Tryz.type197 Tryz.underlying197 rfl (by kernel_rfl) (by kernel_rfl)
theorem tok198 : ∃ inf d, TIOK Tryz.prog 198 ti198 inf d := tiokN Tryz.types_size Tryz.type198 Tryz.underlying198 rfl (by kernel_rfl) (by kernel_rfl)
theorem tok199 : ∃ inf d, TIOK Tryz.prog 199 ti199 inf d := tiokN Tryz.types_size Tryz.type199 Tryz.underlying199 rfl (by kernel_rfl) (by kernel_rfl)
theorem tok200 : ∃ inf d, TIOK Tryz.prog 200 ti200 inf d := tiokN Tryz.types_size Tryz.type200 Tryz.underlying200 rfl (by kernel_rfl) (by kernel_rfl)
theorem tok201 : ∃ inf d, TIOK Tryz.prog 201 ti201 inf d := tiokN Tryz.types_size Tryz.type201 Tryz.underlying201 rfl (by kernel_rfl) (by kernel_rfl)
theorem tok202 : ∃ inf d, TIOK Tryz.prog 202 ti202 inf d := tiokN Tryz.types_size Tryz.type202 Tryz.underlying202 rfl (by kernel_rfl) (by kernel_rfl)
theorem tok203 : ∃ inf d, TIOK Tryz.prog 203 ti203 inf d := tiokN Tryz.types_size Tryz.type203 Tryz.underlying203 rfl (by kernel_rfl) (by kernel_rfl)
theorem tok204 : ∃ inf d, TIOK Tryz.prog 204 ti204 inf d := tiokN Tryz.types_size Tryz.type204 Tryz.underlying204 rfl (by kernel_rfl) (by kernel_rfl)
theorem tok205 : ∃ inf d, TIOK Tryz.prog 205 ti205 inf d := tiokN Tryz.types_size Tryz.type205 Tryz.underlying205 rfl (by kernel_rfl) (by kernel_rfl)
theorem tok206 : ∃ inf d, TIOK Tryz.prog 206 ti206 inf d := tiokN Tryz.types_size Tryz.type206 Tryz.underlying206 rfl (by kernel_rfl) (by kernel_rfl)
theorem tok207 : ∃ inf d, TIOK Tryz.prog 207 ti207 inf d := tiokN Tryz.types_size Tryz.type207 Tryz.underlying207 rfl (by kernel_rfl) (by kernel_rfl)
theorem tok208 : ∃ inf d, TIOK Tryz.prog 208 ti208 inf d := tiokN Tryz.types_size Tryz.type208 Tryz.underlying208 rfl (by kernel_rfl) (by kernel_rfl)
theorem tok209 : ∃ inf d, TIOK Tryz.prog 209 ti209 inf d := tiokN Tryz.types_size Tryz.type209 Tryz.underlying209 rfl (by kernel_rfl) (by kernel_rfl)
theorem tok210 : ∃ inf d, TIOK Tryz.prog 210 ti210 inf d := tiokN Tryz.types_size Tryz.type210 Tryz.underlying210 rfl (by kernel_rfl) (by kernel_rfl)
theorem tok211 : ∃ inf d, TIOK Tryz.prog 211 ti211 inf d := tiokN Tryz.types_size Tryz.type211 Tryz.underlying211 rfl (by kernel_rfl) (by kernel_rfl)
theorem tok212 : ∃ inf d, TIOK Tryz.prog 212 ti212 inf d := tiokN Tryz.types_size Tryz.type212 Tryz.underlying212 rfl (by kernel_rfl) (by kernel_rfl)
theorem tok213 : ∃ inf d, TIOK Tryz.prog 213 ti213 inf d := tiokN Tryz.types_size Tryz.type213 Tryz.underlying213 rfl (by kernel_rfl) (by kernel_rfl)
theorem tok214 : ∃ inf d, TIOK Tryz.prog 214 ti214 inf d := tiokN Tryz.types_size Tryz.type214 Tryz.underlying214 rfl (by kernel_rfl) (by kernel_rfl)
theorem tok215 : ∃ inf d, TIOK Tryz.prog 215 ti215 inf d := tiokN Tryz.types_size Tryz.type215 Tryz.underlying215 rfl (by kernel_rfl) (by kernel_rfl)
theorem tok216 : ∃ inf d, TIOK Tryz.prog 216 ti216 inf d := tiokN Tryz.types_size Tryz.type216 Tryz.underlying216 rfl (by kernel_rfl) (by kernel_rfl)
theorem tok217 : ∃ inf d, TIOK Tryz.prog 217 ti217 inf d := tiokN Tryz.types_size Tryz.type217 Tryz.underlying217 rfl (by kernel_rfl) (by kernel_rfl)
theorem tok218 : ∃ inf d, TIOK Tryz.prog 218 ti218 inf d := tiokN Tryz.types_size Tryz.type218 Tryz.underlying218 rfl (by kernel_rfl) (by kernel_rfl)
theorem tok219 : ∃ inf d, TIOK Tryz.prog 219 ti219 inf d := tiokN Tryz.types_size Tryz.type219 Tryz.underlying219 rfl (by kernel_rfl) (by kernel_rfl)
theorem tok220 : ∃ inf d, TIOK Tryz.prog 220 ti220 inf d := tiokN Tryz.types_size Tryz.type220 Tryz.underlying220 rfl (by kernel_rfl) (by kernel_rfl)
theorem tok221 : ∃ inf d, TIOK Tryz.prog 221 ti221 inf d := tiokN Tryz.types_size Tryz.type221 Tryz.underlying221 rfl (by kernel_rfl) (by kernel_rfl)
theorem tok222 : ∃ inf d, TIOK Tryz.prog 222 ti222 inf d := tiokN Tryz.types_size Tryz.type222 Tryz.underlying222 rfl (by kernel_rfl) (by kernel_rfl)
theorem tok223 : ∃ inf d, TIOK Tryz.prog 223 ti223 inf d := tiokN Tryz.types_size Tryz.type223 Tryz.underlying223 rfl (by kernel_rfl) (by kernel_rfl)
theorem tok224 : ∃ inf d, TIOK Tryz.prog 224 ti224 inf d := tiokN Tryz.types_size Tryz.type224 Tryz.underlying224 rfl (by kernel_rfl) (by kernel_rfl)
theorem tok225 : ∃ inf d, TIOK Tryz.prog 225 ti225 inf d := tiokN Tryz.types_size Tryz.type225 Tryz.underlying225 rfl (by kernel_rfl) (by kernel_rfl)
theorem tok226 : ∃ inf d, TIOK Tryz.prog 226 ti226 inf d := tiokN Tryz.types_size Tryz.type226 Tryz.underlying226 rfl (by kernel_rfl) (by kernel_rfl)
theorem tok227 : ∃ inf d, TIOK Tryz.prog 227 ti227 inf d := tiokN Tryz.types_size Tryz.type227 Tryz.underlying227 rfl (by kernel_rfl) (by kernel_rfl)
theorem tok228 : ∃ inf d, TIOK Tryz.prog 228 ti228 inf d := tiokN Tryz.types_size Tryz.type228 Tryz.underlying228 rfl (by kernel_rfl) (by kernel_rfl)
theorem tok229 : ∃ inf d, TIOK Tryz.prog 229 ti229 inf d := tiokN Tryz.types_size Tryz.type229 Tryz.underlying229 rfl (by kernel_rfl) (by kernel_rfl)
theorem tok230 : ∃ inf d, TIOK Tryz.prog 230 ti230 inf d := tiokN Tryz.types_size Tryz.type230 Tryz.underlying230 rfl (by kernel_rfl) (by kernel_rfl)
theorem tok231 : ∃ inf d, TIOK Tryz.prog 231 ti231 inf d := tiokN Tryz.types_size Tryz.type231 Tryz.underlying231 rfl (by kernel_rfl) (by kernel_rfl)
theorem tok232 : ∃ inf d, TIOK Tryz.prog 232 ti232 inf d := tiokN Tryz.types_size Tryz.type232 Tryz.underlying232 rfl (by kernel_rfl) (by kernel_rfl)
theorem tok233 : ∃ inf d, TIOK Tryz.prog 233 ti233 inf d := tiokN Tryz.types_size Tryz.type233 Tryz.underlying233 rfl (by kernel_rfl) (by kernel_rfl)
theorem tok234 : ∃ inf d, TIOK Tryz.prog 234 ti234 inf d := tiokN Tryz.types_size Tryz.type234 Tryz.underlying234 rfl (by kernel_rfl) (by kernel_rfl)
theorem tok235 : ∃ inf d, TIOK Tryz.prog 235 ti235 inf d := tiok Tryz.types_size Tryz.type235 Tryz.underlying235 Tryz.stoodInHeld235 Tryz.eqGuardType235 (by kernel_rfl) (by kernel_rfl)
theorem tok236 : ∃ inf d, TIOK Tryz.prog 236 ti236 inf d := tiok Tryz.types_size Tryz.type236 Tryz.underlying236 Tryz.stoodInHeld236 Tryz.eqGuardType236 (by kernel_rfl) (by kernel_rfl)
theorem tok237 : ∃ inf d, TIOK Tryz.prog 237 ti237 inf d := tiokN Tryz.types_size Tryz.type237 Tryz.underlying237 rfl (by kernel_rfl) (by kernel_rfl)
theorem tok238 : ∃ inf d, TIOK Tryz.prog 238 ti238 inf d := tiokN Tryz.types_size Tryz.type238 Tryz.underlying238 rfl (by kernel_rfl) (by kernel_rfl)
theorem tok239 : ∃ inf d, TIOK Tryz.prog 239 ti239 inf d := tiokN Tryz.types_size Tryz.type239 Tryz.underlying239 rfl (by kernel_rfl) (by kernel_rfl)
theorem tok240 : ∃ inf d, TIOK Tryz.prog 240 ti240 inf d := tiokN Tryz.types_size Tryz.type240 Tryz.underlying240 rfl (by kernel_rfl) (by kernel_rfl)
theorem tok241 : ∃ inf d, TIOK Tryz.prog 241 ti241 inf d := tiokN Tryz.types_size Tryz.type241 Tryz.underlying241 rfl (by kernel_rfl) (by kernel_rfl)
theorem tok242 : ∃ inf d, TIOK Tryz.prog 242 ti242 inf d := tiokN Tryz.types_size Tryz.type242 Tryz.underlying242 rfl (by kernel_rfl) (by kernel_rfl)
theorem tok243 : ∃ inf d, TIOK Tryz.prog 243 ti243 inf d := tiokN Tryz.types_size Tryz.type243 Tryz.underlying243 rfl (by kernel_rfl) (by kernel_rfl)
theorem tok244 : ∃ inf d, TIOK Tryz.prog 244 ti244 inf d := tiokN Tryz.types_size Tryz.type244 Tryz.underlying244 rfl (by kernel_rfl) (by kernel_rfl)
theorem tok245 : ∃ inf d, TIOK Tryz.prog 245 ti245 inf d := tiokN Tryz.types_size Tryz.type245 Tryz.underlying245 rfl (by kernel_rfl) (by kernel_rfl)
theorem tok246 : ∃ inf d, TIOK Tryz.prog 246 ti246 inf d := tiokN Tryz.types_size Tryz.type246 Tryz.underlying246 rfl (by kernel_rfl) (by kernel_rfl)
theorem tok247 : ∃ inf d, TIOK Tryz.prog 247 ti247 inf d := tiokN Tryz.types_size Tryz.type247 Tryz.underlying247 rfl (by kernel_rfl) (by kernel_rfl)
theorem tok248 : ∃ inf d, TIOK Tryz.prog 248 ti248 inf d := tiokN Tryz.types_size Tryz.type248 Tryz.underlying248 rfl (by kernel_rfl) (by kernel_rfl)
theorem tok249 : ∃ inf d, TIOK Tryz.prog 249 ti249 inf d := tiokN Tryz.types_size Tryz.type249 Tryz.underlying249 rfl (by kernel_rfl) (by kernel_rfl)
theorem tok250 : ∃ inf d, TIOK Tryz.prog 250 ti250 inf d := tiokN Tryz.types_size Tryz.type250 Tryz.underlying250 rfl (by kernel_rfl) (by kernel_rfl)
theorem tok251 : ∃ inf d, TIOK Tryz.prog 251 ti251 inf d := tiokN Tryz.types_size Tryz.type251 Tryz.underlying251 rfl (by kernel_rfl) (by kernel_rfl)
theorem tok252 : ∃ inf d, TIOK Tryz.prog 252 ti252 inf d := tiok Tryz.types_size Tryz.type252 Tryz.underlying252 Tryz.stoodInHeld252 Tryz.eqGuardType252 (by kernel_rfl) (by kernel_rfl)
theorem tok253 : ∃ inf d, TIOK Tryz.prog 253 ti253 inf d := tiok Tryz.types_size Tryz.type253 Tryz.underlying253 Tryz.stoodInHeld253 Tryz.eqGuardType253 (by kernel_rfl) (by kernel_rfl)
theorem tok254 : ∃ inf d, TIOK Tryz.prog 254 ti254 inf d := tiokN Tryz.types_size Tryz.type254 Tryz.underlying254 rfl (by kernel_rfl) (by kernel_rfl)
theorem tok255 : ∃ inf d, TIOK Tryz.prog 255 ti255 inf d := tiok Tryz.types_size Tryz.type255 Tryz.underlying255 Tryz.stoodInHeld255 Tryz.eqGuardType255 (by kernel_rfl) (by kernel_rfl)
theorem tok256 : ∃ inf d, TIOK Tryz.prog 256 ti256 inf d := tiok Tryz.types_size Tryz.type256 Tryz.underlying256 Tryz.stoodInHeld256 Tryz.eqGuardType256 (by kernel_rfl) (by kernel_rfl)
theorem tok257 : ∃ inf d, TIOK Tryz.prog 257 ti257 inf d := tiokN Tryz.types_size Tryz.type257 Tryz.underlying257 rfl (by kernel_rfl) (by kernel_rfl)
theorem tok258 : ∃ inf d, TIOK Tryz.prog 258 ti258 inf d := tiok Tryz.types_size Tryz.type258 Tryz.underlying258 Tryz.stoodInHeld258 Tryz.eqGuardType258 (by kernel_rfl) (by kernel_rfl)
theorem tok259 : ∃ inf d, TIOK Tryz.prog 259 ti259 inf d := tiok Tryz.types_size Tryz.type259 Tryz.underlying259 Tryz.stoodInHeld259 Tryz.eqGuardType259 (by kernel_rfl) (by kernel_rfl)
theorem tok260 : ∃ inf d, TIOK Tryz.prog 260 ti260 inf d := tiokN Tryz.types_size Tryz.type260 Tryz.underlying260 rfl (by kernel_rfl) (by kernel_rfl)
theorem tok261 : ∃ inf d, TIOK Tryz.prog 261 ti261 inf d := tiokN Tryz.types_size Tryz.type261 Tryz.underlying261 rfl (by kernel_rfl) (by kernel_rfl)
theorem tok262 : ∃ inf d, TIOK Tryz.prog 262 ti262 inf d := tiokN Tryz.types_size Tryz.type262 Tryz.underlying262 rfl (by kernel_rfl) (by kernel_rfl)
theorem tok263 : ∃ inf d, TIOK Tryz.prog 263 ti263 inf d := tiokN Tryz.types_size Tryz.type263 Tryz.underlying263 rfl (by kernel_rfl) (by kernel_rfl)
theorem tok264 : ∃ inf d, TIOK Tryz.prog 264 ti264 inf d := tiokN Tryz.types_size Tryz.type264 Tryz.underlying264 rfl (by kernel_rfl) (by kernel_rfl)
theorem tok265 : ∃ inf d, TIOK Tryz.prog 265 ti265 inf d := tiokN Tryz.types_size Tryz.type265 Tryz.underlying265 rfl (by kernel_rfl) (by kernel_rfl)
theorem tok266 : ∃ inf d, TIOK Tryz.prog 266 ti266 inf d := tiokN Tryz.types_size Tryz.type266 Tryz.underlying266 rfl (by kernel_rfl) (by kernel_rfl)
theorem tok267 : ∃ inf d, TIOK Tryz.prog 267 ti267 inf d := tiokN Tryz.types_size Tryz.type267 Tryz.underlying267 rfl (by kernel_rfl) (by kernel_rfl)
theorem tok268 : ∃ inf d, TIOK Tryz.prog 268 ti268 inf d := tiokN Tryz.types_size Tryz.type268 Tryz.underlying268 rfl (by kernel_rfl) (by kernel_rfl)
theorem tok269 : ∃ inf d, TIOK Tryz.prog 269 ti269 inf d := tiokN Tryz.types_size Tryz.type269 Tryz.underlying269 rfl (by kernel_rfl) (by kernel_rfl)
theorem tok270 : ∃ inf d, TIOK Tryz.prog 270 ti270 inf d := tiokN Tryz.types_size Tryz.type270 Tryz.underlying270 rfl (by kernel_rfl) (by kernel_rfl)
theorem tok271 : ∃ inf d, TIOK Tryz.prog 271 ti271 inf d := tiokN Tryz.types_size Tryz.type271 Tryz.underlying271 rfl (by kernel_rfl) (by kernel_rfl)
theorem tok272 : ∃ inf d, TIOK Tryz.prog 272 ti272 inf d := tiokN Tryz.types_size Tryz.type272 Tryz.underlying272 rfl (by kernel_rfl) (by kernel_rfl)
theorem tok273 : ∃ inf d, TIOK Tryz.prog 273 ti273 inf d := tiokN Tryz.types_size Tryz.type273 Tryz.underlying273 rfl (by kernel_rfl) (by kernel_rfl)
theorem tok274 : ∃ inf d, TIOK Tryz.prog 274 ti274 inf d := tiokN Tryz.types_size Tryz.type274 Tryz.underlying274 rfl (by kernel_rfl) (by kernel_rfl)
theorem tok275 : ∃ inf d, TIOK Tryz.prog 275 ti275 inf d := tiokN Tryz.types_size Tryz.type275 Tryz.underlying275 rfl (by kernel_rfl) (by kernel_rfl)
theorem tok276 : ∃ inf d, TIOK Tryz.prog 276 ti276 inf d := tiokN Tryz.types_size Tryz.type276 Tryz.underlying276 rfl (by kernel_rfl) (by kernel_rfl)
theorem tok277 : ∃ inf d, TIOK Tryz.prog 277 ti277 inf d := tiokN Tryz.types_size Tryz.type277 Tryz.underlying277 rfl (by kernel_rfl) (by kernel_rfl)
theorem tok278 : ∃ inf d, TIOK Tryz.prog 278 ti278 inf d := tiokN Tryz.types_size Tryz.type278 Tryz.underlying278 rfl (by kernel_rfl) (by kernel_rfl)
theorem tok279 : ∃ inf d, TIOK Tryz.prog 279 ti279 inf d := tiokN Tryz.types_size Tryz.type279 Tryz.underlying279 rfl (by kernel_rfl) (by kernel_rfl)
theorem tok280 : ∃ inf d, TIOK Tryz.prog 280 ti280 inf d := tiokN Tryz.types_size Tryz.type280 Tryz.underlying280 rfl (by kernel_rfl) (by kernel_rfl)
theorem tok281 : ∃ inf d, TIOK Tryz.prog 281 ti281 inf d := tiokN Tryz.types_size Tryz.type281 Tryz.underlying281 rfl (by kernel_rfl) (by kernel_rfl)
theorem tok282 : ∃ inf d, TIOK Tryz.prog 282 ti282 inf d := tiokN Tryz.types_size Tryz.type282 Tryz.underlying282 rfl (by kernel_rfl) (by kernel_rfl)
theorem tok283 : ∃ inf d, TIOK Tryz.prog 283 ti283 inf d := tiokN Tryz.types_size Tryz.type283 Tryz.underlying283 rfl (by kernel_rfl) (by kernel_rfl)
theorem tok284 : ∃ inf d, TIOK Tryz.prog 284 ti284 inf d := tiokN Tryz.types_size Tryz.type284 Tryz.underlying284 rfl (by kernel_rfl) (by kernel_rfl)
theorem tok285 : ∃ inf d, TIOK Tryz.prog 285 ti285 inf d := tiokN Tryz.types_size Tryz.type285 Tryz.underlying285 rfl (by kernel_rfl) (by kernel_rfl)
theorem tok286 : ∃ inf d, TIOK Tryz.prog 286 ti286 inf d := tiokN Tryz.types_size Tryz.type286 Tryz.underlying286 rfl (by kernel_rfl) (by kernel_rfl)
theorem tok287 : ∃ inf d, TIOK Tryz.prog 287 ti287 inf d := tiokN Tryz.types_size Tryz.type287 Tryz.underlying287 rfl (by kernel_rfl) (by kernel_rfl)
theorem tok288 : ∃ inf d, TIOK Tryz.prog 288 ti288 inf d := tiokN Tryz.types_size Tryz.type288 Tryz.underlying288 rfl (by kernel_rfl) (by kernel_rfl)
theorem tok289 : ∃ inf d, TIOK Tryz.prog 289 ti289 inf d := tiokN Tryz.types_size Tryz.type289 Tryz.underlying289 rfl (by kernel_rfl) (by kernel_rfl)
theorem tok290 : ∃ inf d, TIOK Tryz.prog 290 ti290 inf d := tiokN Tryz.types_size Tryz.type290 Tryz.underlying290 rfl (by kernel_rfl) (by kernel_rfl)
theorem tok291 : ∃ inf d, TIOK Tryz.prog 291 ti291 inf d := tiokN Tryz.types_size Tryz.type291 Tryz.underlying291 rfl (by kernel_rfl) (by kernel_rfl)
theorem tok292 : ∃ inf d, TIOK Tryz.prog 292 ti292 inf d := tiokN Tryz.types_size Tryz.type292 Tryz.underlying292 rfl (by kernel_rfl) (by kernel_rfl)
theorem tok293 : ∃ inf d, TIOK Tryz.prog 293 ti293 inf d := tiokN Tryz.types_size Tryz.type293 Tryz.underlying293 rfl (by kernel_rfl) (by kernel_rfl)
theorem tok294 : ∃ inf d, TIOK Tryz.prog 294 ti294 inf d := tiokN Tryz.types_size Tryz.type294 Tryz.underlying294 rfl (by kernel_rfl) (by kernel_rfl)
theorem tok295 : ∃ inf d, TIOK Tryz.prog 295 ti295 inf d := tiokN Tryz.types_size Tryz.type295 Tryz.underlying295 rfl (by kernel_rfl) (by kernel_rfl)
theorem tok296 : ∃ inf d, TIOK Tryz.prog 296 ti296 inf d := tiokN Tryz.types_size Tryz.type296 Tryz.underlying296 rfl (by kernel_rfl) (by kernel_rfl)
theorem tok297 : ∃ inf d, TIOK Tryz.prog 297 ti297 inf d := tiokN Tryz.types_size Tryz.type297 Tryz.underlying297 rfl (by kernel_rfl) (by kernel_rfl)
theorem tok298 : ∃ inf d, TIOK Tryz.prog 298 ti298 inf d := tiokN Tryz.types_size Tryz.type298 Tryz.underlying298 rfl (by kernel_rfl) (by kernel_rfl)
theorem tok299 : ∃ inf d, TIOK Tryz.prog 299 ti299 inf d := tiokN Tryz.types_size Tryz.type299 Tryz.underlying299 rfl (by kernel_rfl) (by kernel_rfl)
theorem tok300 : ∃ inf d, TIOK Tryz.prog 300 ti300 inf d := tiokN Tryz.types_size Tryz.type300 Tryz.underlying300 rfl (by kernel_rfl) (by kernel_rfl)
theorem tok301 : ∃ inf d, TIOK Tryz.prog 301 ti301 inf d := tiokN Tryz.types_size Tryz.type301 Tryz.underlying301 rfl (by kernel_rfl) (by kernel_rfl)
theorem tok302 : ∃ inf d, TIOK Tryz.prog 302 ti302 inf d := tiokN Tryz.types_size Tryz.type302 Tryz.underlying302 rfl (by kernel_rfl) (by kernel_rfl)
theorem tok303 : ∃ inf d, TIOK Tryz.prog 303 ti303 inf d := tiokN Tryz.types_size Tryz.type303 Tryz.underlying303 rfl (by kernel_rfl) (by kernel_rfl)
theorem tok304 : ∃ inf d, TIOK Tryz.prog 304 ti304 inf d := tiokN Tryz.types_size Tryz.type304 Tryz.underlying304 rfl (by kernel_rfl) (by kernel_rfl)
theorem tok305 : ∃ inf d, TIOK Tryz.prog 305 ti305 inf d := tiokN Tryz.types_size Tryz.type305 Tryz.underlying305 rfl (by kernel_rfl) (by kernel_rfl)
theorem tok306 : ∃ inf d, TIOK Tryz.prog 306 ti306 inf d := tiokN Tryz.types_size Tryz.type306 Tryz.underlying306 rfl (by kernel_rfl) (by kernel_rfl)
theorem tok307 : ∃ inf d, TIOK Tryz.prog 307 ti307 inf d := tiokN Tryz.types_size Tryz.type307 Tryz.underlying307 rfl (by kernel_rfl) (by kernel_rfl)
theorem tok308 : ∃ inf d, TIOK Tryz.prog 308 ti308 inf d := tiokN Tryz.types_size Tryz.type308 Tryz.underlying308 rfl (by kernel_rfl) (by kernel_rfl)
theorem tok309 : ∃ inf d, TIOK Tryz.prog 309 ti309 inf d := tiokN Tryz.types_size Tryz.type309 Tryz.underlying309 rfl (by kernel_rfl) (by kernel_rfl)
theorem tok310 : ∃ inf d, TIOK Tryz.prog 310 ti310 inf d := tiokN Tryz.types_size Tryz.type310 Tryz.underlying310 rfl (by kernel_rfl) (by kernel_rfl)
theorem tok311 : ∃ inf d, TIOK Tryz.prog 311 ti311 inf d := tiokN Tryz.types_size Tryz.type311 Tryz.underlying311 rfl (by kernel_rfl) (by kernel_rfl)
theorem tok312 : ∃ inf d, TIOK Tryz.prog 312 ti312 inf d := tiokN Tryz.types_size Tryz.type312 Tryz.underlying312 rfl (by kernel_rfl) (by kernel_rfl)
theorem tok313 : ∃ inf d, TIOK Tryz.prog 313 ti313 inf d := tiokN Tryz.types_size Tryz.type313 Tryz.underlying313 rfl (by kernel_rfl) (by kernel_rfl)
theorem tok314 : ∃ inf d, TIOK Tryz.prog 314 ti314 inf d := tiokN Tryz.types_size Tryz.type314 Tryz.underlying314 rfl (by kernel_rfl) (by kernel_rfl)
theorem tok315 : ∃ inf d, TIOK Tryz.prog 315 ti315 inf d := tiokN Tryz.types_size Tryz.type315 Tryz.underlying315 rfl (by kernel_rfl) (by kernel_rfl)
theorem tok316 : ∃ inf d, TIOK Tryz.prog 316 ti316 inf d := tiokN Tryz.types_size Tryz.type316 Tryz.underlying316 rfl (by kernel_rfl) (by kernel_rfl)
theorem tok317 : ∃ inf d, TIOK Tryz.prog 317 ti317 inf d := tiokN Tryz.types_size Tryz.type317 Tryz.underlying317 rfl (by kernel_rfl) (by kernel_rfl)
theorem tok318 : ∃ inf d, TIOK Tryz.prog 318 ti318 inf d := tiok Tryz.types_size Tryz.type318 Tryz.underlying318 Tryz.stoodInHeld318 Tryz.eqGuardType318 (by kernel_rfl) (by kernel_rfl)
theorem tok319 : ∃ inf d, TIOK Tryz.prog 319 ti319 inf d := tiok Tryz.types_size Tryz.type319 Tryz.underlying319 Tryz.stoodInHeld319 Tryz.eqGuardType319 (by kernel_rfl) (by kernel_rfl)
theorem tok320 : ∃ inf d, TIOK Tryz.prog 320 ti320 inf d := tiok Tryz.types_size Tryz.type320 Tryz.underlying320 Tryz.stoodInHeld320 Tryz.eqGuardType320 (by kernel_rfl) (by kernel_rfl)
theorem tok321 : ∃ inf d, TIOK Tryz.prog 321 ti321 inf d := tiok Tryz.types_size Tryz.type321 Tryz.underlying321 Tryz.stoodInHeld321 Tryz.eqGuardType321 (by kernel_rfl) (by kernel_rfl)
theorem tok322 : ∃ inf d, TIOK Tryz.prog 322 ti322 inf d := tiokN Tryz.types_size Tryz.type322 Tryz.underlying322 rfl (by kernel_rfl) (by kernel_rfl)
theorem tok323 : ∃ inf d, TIOK Tryz.prog 323 ti323 inf d := tiokN Tryz.types_size Tryz.type323 Tryz.underlying323 rfl (by kernel_rfl) (by kernel_rfl)
theorem tok324 : ∃ inf d, TIOK Tryz.prog 324 ti324 inf d := tiokN Tryz.types_size Tryz.type324 Tryz.underlying324 rfl (by kernel_rfl) (by kernel_rfl)
theorem tok325 : ∃ inf d, TIOK Tryz.prog 325 ti325 inf d := tiokN Tryz.types_size Tryz.type325 Tryz.underlying325 rfl (by kernel_rfl) (by kernel_rfl)
theorem tok326 : ∃ inf d, TIOK Tryz.prog 326 ti326 inf d := tiokN Tryz.types_size Tryz.type326 Tryz.underlying326 rfl (by kernel_rfl) (by kernel_rfl)
theorem tok327 : ∃ inf d, TIOK Tryz.prog 327 ti327 inf d := tiokN Tryz.types_size Tryz.type327 Tryz.underlying327 rfl (by kernel_rfl) (by kernel_rfl)
theorem tok328 : ∃ inf d, TIOK Tryz.prog 328 ti328 inf d := tiokN Tryz.types_size Tryz.type328 Tryz.underlying328 rfl (by kernel_rfl) (by kernel_rfl)
theorem tok329 : ∃ inf d, TIOK Tryz.prog 329 ti329 inf d := tiokN Tryz.types_size Tryz.type329 Tryz.underlying329 rfl (by kernel_rfl) (by kernel_rfl)
theorem tok330 : ∃ inf d, TIOK Tryz.prog 330 ti330 inf d := tiokN Tryz.types_size Tryz.type330 Tryz.underlying330 rfl (by kernel_rfl) (by kernel_rfl)
theorem tok331 : ∃ inf d, TIOK Tryz.prog 331 ti331 inf d := tiokN Tryz.types_size Tryz.type331 Tryz.underlying331 rfl (by kernel_rfl) (by kernel_rfl)
theorem tok332 : ∃ inf d, TIOK Tryz.prog 332 ti332 inf d := tiokN Tryz.types_size Tryz.type332 Tryz.underlying332 rfl (by kernel_rfl) (by kernel_rfl)
theorem tok333 : ∃ inf d, TIOK Tryz.prog 333 ti333 inf d := tiokN Tryz.types_size Tryz.type333 Tryz.underlying333 rfl (by kernel_rfl) (by kernel_rfl)
theorem tok334 : ∃ inf d, TIOK Tryz.prog 334 ti334 inf d := tiokN Tryz.types_size Tryz.type334 Tryz.underlying334 rfl (by kernel_rfl) (by kernel_rfl)
theorem tok335 : ∃ inf d, TIOK Tryz.prog 335 ti335 inf d := tiokN Tryz.types_size Tryz.type335 Tryz.underlying335 rfl (by kernel_rfl) (by kernel_rfl)
theorem tok336 : ∃ inf d, TIOK Tryz.prog 336 ti336 inf d := tiokN Tryz.types_size Tryz.type336 Tryz.underlying336 rfl (by kernel_rfl) (by kernel_rfl)
theorem tok337 : ∃ inf d, TIOK Tryz.prog 337 ti337 inf d := tiokN Tryz.types_size Tryz.type337 Tryz.underlying337 rfl (by kernel_rfl) (by kernel_rfl)
theorem tok338 : ∃ inf d, TIOK Tryz.prog 338 ti338 inf d := tiokN Tryz.types_size Tryz.type338 Tryz.underlying338 rfl (by kernel_rfl) (by kernel_rfl)
theorem tok339 : ∃ inf d, TIOK Tryz.prog 339 ti339 inf d := tiokN Tryz.types_size Tryz.type339 Tryz.underlying339 rfl (by kernel_rfl) (by kernel_rfl)
theorem tok340 : ∃ inf d, TIOK Tryz.prog 340 ti340 inf d := tiokN Tryz.types_size Tryz.type340 Tryz.underlying340 rfl (by kernel_rfl) (by kernel_rfl)
theorem tok341 : ∃ inf d, TIOK Tryz.prog 341 ti341 inf d := tiokN Tryz.types_size Tryz.type341 Tryz.underlying341 rfl (by kernel_rfl) (by kernel_rfl)
theorem tok342 : ∃ inf d, TIOK Tryz.prog 342 ti342 inf d := tiokN Tryz.types_size Tryz.type342 Tryz.underlying342 rfl (by kernel_rfl) (by kernel_rfl)
theorem tok343 : ∃ inf d, TIOK Tryz.prog 343 ti343 inf d := tiokN Tryz.types_size Tryz.type343 Tryz.underlying343 rfl (by kernel_rfl) (by kernel_rfl)
theorem tok344 : ∃ inf d, TIOK Tryz.prog 344 ti344 inf d := tiokN Tryz.types_size Tryz.type344 Tryz.underlying344 rfl (by kernel_rfl) (by kernel_rfl)
theorem tok345 : ∃ inf d, TIOK Tryz.prog 345 ti345 inf d := tiokN Tryz.types_size Tryz.type345 Tryz.underlying345 rfl (by kernel_rfl) (by kernel_rfl)
theorem tok346 : ∃ inf d, TIOK Tryz.prog 346 ti346 inf d := tiok Tryz.types_size Tryz.type346 Tryz.underlying346 Tryz.stoodInHeld346 Tryz.eqGuardType346 (by kernel_rfl) (by kernel_rfl)
theorem tok347 : ∃ inf d, TIOK Tryz.prog 347 ti347 inf d := tiok Tryz.types_size Tryz.type347 Tryz.underlying347 Tryz.stoodInHeld347 Tryz.eqGuardType347 (by kernel_rfl) (by kernel_rfl)
theorem tok348 : ∃ inf d, TIOK Tryz.prog 348 ti348 inf d := tiokN Tryz.types_size Tryz.type348 Tryz.underlying348 rfl (by kernel_rfl) (by kernel_rfl)
theorem tok349 : ∃ inf d, TIOK Tryz.prog 349 ti349 inf d := tiokN Tryz.types_size Tryz.type349 Tryz.underlying349 rfl (by kernel_rfl) (by kernel_rfl)
theorem tok350 : ∃ inf d, TIOK Tryz.prog 350 ti350 inf d := tiokN Tryz.types_size Tryz.type350 Tryz.underlying350 rfl (by kernel_rfl) (by kernel_rfl)
theorem tok351 : ∃ inf d, TIOK Tryz.prog 351 ti351 inf d := tiokN Tryz.types_size Tryz.type351 Tryz.underlying351 rfl (by kernel_rfl) (by kernel_rfl)
theorem tok352 : ∃ inf d, TIOK Tryz.prog 352 ti352 inf d := tiokN Tryz.types_size Tryz.type352 Tryz.underlying352 rfl (by kernel_rfl) (by kernel_rfl)
theorem tok353 : ∃ inf d, TIOK Tryz.prog 353 ti353 inf d := tiokN Tryz.types_size Tryz.type353 Tryz.underlying353 rfl (by kernel_rfl) (by kernel_rfl)
theorem tok354 : ∃ inf d, TIOK Tryz.prog 354 ti354 inf d := tiokN Tryz.types_size Tryz.type354 Tryz.underlying354 rfl (by kernel_rfl) (by kernel_rfl)
theorem tok355 : ∃ inf d, TIOK Tryz.prog 355 ti355 inf d := tiok Tryz.types_size Tryz.type355 Tryz.underlying355 Tryz.stoodInHeld355 Tryz.eqGuardType355 (by kernel_rfl) (by kernel_rfl)
theorem tok356 : ∃ inf d, TIOK Tryz.prog 356 ti356 inf d := tiok Tryz.types_size Tryz.type356 Tryz.underlying356 Tryz.stoodInHeld356 Tryz.eqGuardType356 (by kernel_rfl) (by kernel_rfl)
theorem tok357 : ∃ inf d, TIOK Tryz.prog 357 ti357 inf d := tiok Tryz.types_size Tryz.type357 Tryz.underlying357 Tryz.stoodInHeld357 Tryz.eqGuardType357 (by kernel_rfl) (by kernel_rfl)
theorem tok358 : ∃ inf d, TIOK Tryz.prog 358 ti358 inf d := tiok Tryz.types_size Tryz.type358 Tryz.underlying358 Tryz.stoodInHeld358 Tryz.eqGuardType358 (by kernel_rfl) (by kernel_rfl)
theorem tok359 : ∃ inf d, TIOK Tryz.prog 359 ti359 inf d := tiokN Tryz.types_size Tryz.type359 Tryz.underlying359 rfl (by kernel_rfl) (by kernel_rfl)
theorem tok360 : ∃ inf d, TIOK Tryz.prog 360 ti360 inf d := tiokN Tryz.types_size Tryz.type360 Tryz.underlying360 rfl (by kernel_rfl) (by kernel_rfl)
theorem tok361 : ∃ inf d, TIOK Tryz.prog 361 ti361 inf d := tiokN Tryz.types_size Tryz.type361 Tryz.underlying361 rfl (by kernel_rfl) (by kernel_rfl)
theorem tok362 : ∃ inf d, TIOK Tryz.prog 362 ti362 inf d := tiokN Tryz.types_size Tryz.type362 Tryz.underlying362 rfl (by kernel_rfl) (by kernel_rfl)
theorem tok363 : ∃ inf d, TIOK Tryz.prog 363 ti363 inf d := tiokN Tryz.types_size Tryz.type363 Tryz.underlying363 rfl (by kernel_rfl) (by kernel_rfl)
theorem tok364 : ∃ inf d, TIOK Tryz.prog 364 ti364 inf d := tiokN Tryz.types_size Tryz.type364 Tryz.underlying364 rfl (by kernel_rfl) (by kernel_rfl)
theorem tok365 : ∃ inf d, TIOK Tryz.prog 365 ti365 inf d := tiokN Tryz.types_size Tryz.type365 Tryz.underlying365 rfl (by kernel_rfl) (by kernel_rfl)
theorem tok366 : ∃ inf d, TIOK Tryz.prog 366 ti366 inf d := tiok Tryz.types_size Tryz.type366 Tryz.underlying366 Tryz.stoodInHeld366 Tryz.eqGuardType366 (by kernel_rfl) (by kernel_rfl)
theorem tok367 : ∃ inf d, TIOK Tryz.prog 367 ti367 inf d := tiok Tryz.types_size Tryz.type367 Tryz.underlying367 Tryz.stoodInHeld367 Tryz.eqGuardType367 (by kernel_rfl) (by kernel_rfl)
theorem tok368 : ∃ inf d, TIOK Tryz.prog 368 ti368 inf d := tiokN Tryz.types_size Tryz.type368 Tryz.underlying368 rfl (by kernel_rfl) (by kernel_rfl)
theorem tok369 : ∃ inf d, TIOK Tryz.prog 369 ti369 inf d := tiokN Tryz.types_size Tryz.type369 Tryz.underlying369 rfl (by kernel_rfl) (by kernel_rfl)
theorem tok370 : ∃ inf d, TIOK Tryz.prog 370 ti370 inf d := tiokN Tryz.types_size Tryz.type370 Tryz.underlying370 rfl (by kernel_rfl) (by kernel_rfl)
theorem tok371 : ∃ inf d, TIOK Tryz.prog 371 ti371 inf d := tiokN Tryz.types_size Tryz.type371 Tryz.underlying371 rfl (by kernel_rfl) (by kernel_rfl)
theorem tok372 : ∃ inf d, TIOK Tryz.prog 372 ti372 inf d := tiokN Tryz.types_size Tryz.type372 Tryz.underlying372 rfl (by kernel_rfl) (by kernel_rfl)
theorem tok373 : ∃ inf d, TIOK Tryz.prog 373 ti373 inf d := tiokN Tryz.types_size Tryz.type373 Tryz.underlying373 rfl (by kernel_rfl) (by kernel_rfl)
theorem tok374 : ∃ inf d, TIOK Tryz.prog 374 ti374 inf d := tiokN Tryz.types_size Tryz.type374 Tryz.underlying374 rfl (by kernel_rfl) (by kernel_rfl)
theorem tok375 : ∃ inf d, TIOK Tryz.prog 375 ti375 inf d := tiokN Tryz.types_size Tryz.type375 Tryz.underlying375 rfl (by kernel_rfl) (by kernel_rfl)
theorem tok376 : ∃ inf d, TIOK Tryz.prog 376 ti376 inf d := tiokN Tryz.types_size Tryz.type376 Tryz.underlying376 rfl (by kernel_rfl) (by kernel_rfl)
theorem tok377 : ∃ inf d, TIOK Tryz.prog 377 ti377 inf d := tiokN Tryz.types_size Tryz.type377 Tryz.underlying377 rfl (by kernel_rfl) (by kernel_rfl)
theorem tok378 : ∃ inf d, TIOK Tryz.prog 378 ti378 inf d := tiokN Tryz.types_size Tryz.type378 Tryz.underlying378 rfl (by kernel_rfl) (by kernel_rfl)
theorem tok379 : ∃ inf d, TIOK Tryz.prog 379 ti379 inf d := tiokN Tryz.types_size Tryz.type379 Tryz.underlying379 rfl (by kernel_rfl) (by kernel_rfl)
theorem tok380 : ∃ inf d, TIOK Tryz.prog 380 ti380 inf d := tiokN Tryz.types_size Tryz.type380 Tryz.underlying380 rfl (by kernel_rfl) (by kernel_rfl)
theorem tok381 : ∃ inf d, TIOK Tryz.prog 381 ti381 inf d := tiokN Tryz.types_size Tryz.type381 Tryz.underlying381 rfl (by kernel_rfl) (by kernel_rfl)
theorem tok382 : ∃ inf d, TIOK Tryz.prog 382 ti382 inf d := tiokN Tryz.types_size Tryz.type382 Tryz.underlying382 rfl (by kernel_rfl) (by kernel_rfl)
theorem tok383 : ∃ inf d, TIOK Tryz.prog 383 ti383 inf d := tiokN Tryz.types_size Tryz.type383 Tryz.underlying383 rfl (by kernel_rfl) (by kernel_rfl)
theorem tok384 : ∃ inf d, TIOK Tryz.prog 384 ti384 inf d := tiokN Tryz.types_size Tryz.type384 Tryz.underlying384 rfl (by kernel_rfl) (by kernel_rfl)
theorem tok385 : ∃ inf d, TIOK Tryz.prog 385 ti385 inf d := tiokN Tryz.types_size Tryz.type385 Tryz.underlying385 rfl (by kernel_rfl) (by kernel_rfl)
theorem tok386 : ∃ inf d, TIOK Tryz.prog 386 ti386 inf d := tiokN Tryz.types_size Tryz.type386 Tryz.underlying386 rfl (by kernel_rfl) (by kernel_rfl)
theorem tok387 : ∃ inf d, TIOK Tryz.prog 387 ti387 inf d := tiokN Tryz.types_size Tryz.type387 Tryz.underlying387 rfl (by kernel_rfl) (by kernel_rfl)
theorem tok388 : ∃ inf d, TIOK Tryz.prog 388 ti388 inf d := tiokN Tryz.types_size Tryz.type388 Tryz.underlying388 rfl (by kernel_rfl) (by kernel_rfl)
theorem tok389 : ∃ inf d, TIOK Tryz.prog 389 ti389 inf d := tiokN Tryz.types_size Tryz.type389 Tryz.underlying389 rfl (by kernel_rfl) (by kernel_rfl)
theorem tok390 : ∃ inf d, TIOK Tryz.prog 390 ti390 inf d := tiokN Tryz.types_size Tryz.type390 Tryz.underlying390 rfl (by kernel_rfl) (by kernel_rfl)
theorem tok391 : ∃ inf d, TIOK Tryz.prog 391 ti391 inf d := tiokN Tryz.types_size Tryz.type391 Tryz.underlying391 rfl (by kernel_rfl) (by kernel_rfl)
theorem tok392 : ∃ inf d, TIOK Tryz.prog 392 ti392 inf d := tiokN Tryz.types_size Tryz.type392 Tryz.underlying392 rfl (by kernel_rfl) (by kernel_rfl)
theorem tok393 : ∃ inf d, TIOK Tryz.prog 393 ti393 inf d := tiokN Tryz.types_size Tryz.type393 Tryz.underlying393 rfl (by kernel_rfl) (by kernel_rfl)
theorem tok394 : ∃ inf d, TIOK Tryz.prog 394 ti394 inf d := tiokN Tryz.types_size Tryz.type394 Tryz.underlying394 rfl (by kernel_rfl) (by kernel_rfl)
theorem tok395 : ∃ inf d, TIOK Tryz.prog 395 ti395 inf d := tiokN Tryz.types_size Tryz.type395 Tryz.underlying395 rfl (by kernel_rfl) (by kernel_rfl)
theorem tok396 : ∃ inf d, TIOK Tryz.prog 396 ti396 inf d := tiokN Tryz.types_size Tryz.type396 Tryz.underlying396 rfl (by kernel_rfl) (by kernel_rfl)
theorem tok397 : ∃ inf d, TIOK Tryz.prog 397 ti397 inf d := tiokN Tryz.types_size Tryz.type397 Tryz.underlying397 rfl (by kernel_rfl) (by kernel_rfl)
theorem tok398 : ∃ inf d, TIOK Tryz.prog 398 ti398 inf d := tiokN Tryz.types_size Tryz.type398 Tryz.underlying398 rfl (by kernel_rfl) (by kernel_rfl)
theorem tok399 : ∃ inf d, TIOK Tryz.prog 399 ti399 inf d := tiokN Tryz.types_size Tryz.type399 Tryz.underlying399 rfl (by kernel_rfl) (by kernel_rfl)
theorem tok400 : ∃ inf d, TIOK Tryz.prog 400 ti400 inf d := tiokN Tryz.types_size Tryz.type400 Tryz.underlying400 rfl (by kernel_rfl) (by kernel_rfl)
theorem tok401 : ∃ inf d, TIOK Tryz.prog 401 ti401 inf d := tiokN Tryz.types_size Tryz.type401 Tryz.underlying401 rfl (by kernel_rfl) (by kernel_rfl)
theorem tok402 : ∃ inf d, TIOK Tryz.prog 402 ti402 inf d := tiokN Tryz.types_size Tryz.type402 Tryz.underlying402 rfl (by kernel_rfl) (by kernel_rfl)
theorem tok403 : ∃ inf d, TIOK Tryz.prog 403 ti403 inf d := tiokN Tryz.types_size Tryz.type403 Tryz.underlying403 rfl (by kernel_rfl) (by kernel_rfl)
theorem tok404 : ∃ inf d, TIOK Tryz.prog 404 ti404 inf d := tiokN Tryz.types_size Tryz.type404 Tryz.underlying404 rfl (by kernel_rfl) (by kernel_rfl)
theorem tok405 : ∃ inf d, TIOK Tryz.prog 405 ti405 inf d := tiokN Tryz.types_size Tryz.type405 Tryz.underlying405 rfl (by kernel_rfl) (by kernel_rfl)
theorem tok406 : ∃ inf d, TIOK Tryz.prog 406 ti406 inf d := tiokN Tryz.types_size Tryz.type406 Tryz.underlying406 rfl (by kernel_rfl) (by kernel_rfl)
theorem tok407 : ∃ inf d, TIOK Tryz.prog 407 ti407 inf d := tiokN Tryz.types_size Tryz.type407 Tryz.underlying407 rfl (by kernel_rfl) (by kernel_rfl)
theorem tok408 : ∃ inf d, TIOK Tryz.prog 408 ti408 inf d := tiokN Tryz.types_size Tryz.type408 Tryz.underlying408 rfl (by kernel_rfl) (by kernel_rfl)
theorem tok409 : ∃ inf d, TIOK Tryz.prog 409 ti409 inf d := tiokN Tryz.types_size Tryz.type409 Tryz.underlying409 rfl (by kernel_rfl) (by kernel_rfl)
theorem tok410 : ∃ inf d, TIOK Tryz.prog 410 ti410 inf d := tiokN Tryz.types_size Tryz.type410 Tryz.underlying410 rfl (by kernel_rfl) (by kernel_rfl)
theorem tok411 : ∃ inf d, TIOK Tryz.prog 411 ti411 inf d := tiokN Tryz.types_size Tryz.type411 Tryz.underlying411 rfl (by kernel_rfl) (by kernel_rfl)
theorem tok412 : ∃ inf d, TIOK Tryz.prog 412 ti412 inf d := tiokN Tryz.types_size Tryz.type412 Tryz.underlying412 rfl (by kernel_rfl) (by kernel_rfl)
theorem tok413 : ∃ inf d, TIOK Tryz.prog 413 ti413 inf d := tiokN Tryz.types_size Tryz.type413 Tryz.underlying413 rfl (by kernel_rfl) (by kernel_rfl)
theorem tok414 : ∃ inf d, TIOK Tryz.prog 414 ti414 inf d := tiokN Tryz.types_size Tryz.type414 Tryz.underlying414 rfl (by kernel_rfl) (by kernel_rfl)
theorem tok415 : ∃ inf d, TIOK Tryz.prog 415 ti415 inf d := tiokN Tryz.types_size Tryz.type415 Tryz.underlying415 rfl (by kernel_rfl) (by kernel_rfl)
theorem tok416 : ∃ inf d, TIOK Tryz.prog 416 ti416 inf d := tiokN Tryz.types_size Tryz.type416 Tryz.underlying416 rfl (by kernel_rfl) (by kernel_rfl)
theorem tok417 : ∃ inf d, TIOK Tryz.prog 417 ti417 inf d := tiokN Tryz.types_size Tryz.type417 Tryz.underlying417 rfl (by kernel_rfl) (by kernel_rfl)
theorem tok418 : ∃ inf d, TIOK Tryz.prog 418 ti418 inf d := tiokN Tryz.types_size Tryz.type418 Tryz.underlying418 rfl (by kernel_rfl) (by kernel_rfl)
theorem tok419 : ∃ inf d, TIOK Tryz.prog 419 ti419 inf d := tiokN Tryz.types_size Tryz.type419 Tryz.underlying419 rfl (by kernel_rfl) (by kernel_rfl)
theorem tok420 : ∃ inf d, TIOK Tryz.prog 420 ti420 inf d := tiokN Tryz.types_size Tryz.type420 Tryz.underlying420 rfl (by kernel_rfl) (by kernel_rfl)
theorem tok421 : ∃ inf d, TIOK Tryz.prog 421 ti421 inf d := tiokN Tryz.types_size Tryz.type421 Tryz.underlying421 rfl (by kernel_rfl) (by kernel_rfl)
theorem tok422 : ∃ inf d, TIOK Tryz.prog 422 ti422 inf d := tiok Tryz.types_size Tryz.type422 Tryz.underlying422 Tryz.stoodInHeld422 Tryz.eqGuardType422 (by kernel_rfl) (by kernel_rfl)
theorem tok423 : ∃ inf d, TIOK Tryz.prog 423 ti423 inf d := tiok Tryz.types_size Tryz.type423 Tryz.underlying423 Tryz.stoodInHeld423 Tryz.eqGuardType423 (by kernel_rfl) (by kernel_rfl)
theorem tok424 : ∃ inf d, TIOK Tryz.prog 424 ti424 inf d := tiok Tryz.types_size Tryz.type424 Tryz.underlying424 Tryz.stoodInHeld424 Tryz.eqGuardType424 (by kernel_rfl) (by kernel_rfl)
theorem tok425 : ∃ inf d, TIOK Tryz.prog 425 ti425 inf d := tiok Tryz.types_size Tryz.type425 Tryz.underlying425 Tryz.stoodInHeld425 Tryz.eqGuardType425 (by kernel_rfl) (by kernel_rfl)
theorem tok426 : ∃ inf d, TIOK Tryz.prog 426 ti426 inf d := tiokN Tryz.types_size Tryz.type426 Tryz.underlying426 rfl (by kernel_rfl) (by kernel_rfl)
theorem tok427 : ∃ inf d, TIOK Tryz.prog 427 ti427 inf d := tiokN Tryz.types_size Tryz.type427 Tryz.underlying427 rfl (by kernel_rfl) (by kernel_rfl)
theorem tok428 : ∃ inf d, TIOK Tryz.prog 428 ti428 inf d := tiokN Tryz.types_size Tryz.type428 Tryz.underlying428 rfl (by kernel_rfl) (by kernel_rfl)
theorem tok429 : ∃ inf d, TIOK Tryz.prog 429 ti429 inf d := tiokN Tryz.types_size Tryz.type429 Tryz.underlying429 rfl (by kernel_rfl) (by kernel_rfl)
theorem tok430 : ∃ inf d, TIOK Tryz.prog 430 ti430 inf d := tiokN Tryz.types_size Tryz.type430 Tryz.underlying430 rfl (by kernel_rfl) (by kernel_rfl)
theorem tok431 : ∃ inf d, TIOK Tryz.prog 431 ti431 inf d := tiokN Tryz.types_size Tryz.type431 Tryz.underlying431 rfl (by kernel_rfl) (by kernel_rfl)
theorem tok432 : ∃ inf d, TIOK Tryz.prog 432 ti432 inf d := tiokN Tryz.types_size Tryz.type432 Tryz.underlying432 rfl (by kernel_rfl) (by kernel_rfl)
theorem tok433 : ∃ inf d, TIOK Tryz.prog 433 ti433 inf d := tiokN Tryz.types_size Tryz.type433 Tryz.underlying433 rfl (by kernel_rfl) (by kernel_rfl)
theorem tok434 : ∃ inf d, TIOK Tryz.prog 434 ti434 inf d := tiok Tryz.types_size Tryz.type434 Tryz.underlying434 Tryz.stoodInHeld434 Tryz.eqGuardType434 (by kernel_rfl) (by kernel_rfl)
theorem tok435 : ∃ inf d, TIOK Tryz.prog 435 ti435 inf d := tiok Tryz.types_size Tryz.type435 Tryz.underlying435 Tryz.stoodInHeld435 Tryz.eqGuardType435 (by kernel_rfl) (by kernel_rfl)
theorem tok436 : ∃ inf d, TIOK Tryz.prog 436 ti436 inf d := tiokN Tryz.types_size Tryz.type436 Tryz.underlying436 rfl (by kernel_rfl) (by kernel_rfl)
theorem tok437 : ∃ inf d, TIOK Tryz.prog 437 ti437 inf d := tiokN Tryz.types_size Tryz.type437 Tryz.underlying437 rfl (by kernel_rfl) (by kernel_rfl)
theorem tok438 : ∃ inf d, TIOK Tryz.prog 438 ti438 inf d := tiokN Tryz.types_size Tryz.type438 Tryz.underlying438 rfl (by kernel_rfl) (by kernel_rfl)
theorem tok439 : ∃ inf d, TIOK Tryz.prog 439 ti439 inf d := tiokN Tryz.types_size Tryz.type439 Tryz.underlying439 rfl (by kernel_rfl) (by kernel_rfl)
theorem tok440 : ∃ inf d, TIOK Tryz.prog 440 ti440 inf d := tiokN Tryz.types_size Tryz.type440 Tryz.underlying440 rfl (by kernel_rfl) (by kernel_rfl)
theorem tok441 : ∃ inf d, TIOK Tryz.prog 441 ti441 inf d := tiokN Tryz.types_size Tryz.type441 Tryz.underlying441 rfl (by kernel_rfl) (by kernel_rfl)
theorem tok442 : ∃ inf d, TIOK Tryz.prog 442 ti442 inf d := tiokN Tryz.types_size Tryz.type442 Tryz.underlying442 rfl (by kernel_rfl) (by kernel_rfl)
theorem tok443 : ∃ inf d, TIOK Tryz.prog 443 ti443 inf d := tiokN Tryz.types_size Tryz.type443 Tryz.underlying443 rfl (by kernel_rfl) (by kernel_rfl)
theorem tok444 : ∃ inf d, TIOK Tryz.prog 444 ti444 inf d := tiokN Tryz.types_size Tryz.type444 Tryz.underlying444 rfl (by kernel_rfl) (by kernel_rfl)
theorem tok445 : ∃ inf d, TIOK Tryz.prog 445 ti445 inf d := tiokN Tryz.types_size Tryz.type445 Tryz.underlying445 rfl (by kernel_rfl) (by kernel_rfl)
theorem tok446 : ∃ inf d, TIOK Tryz.prog 446 ti446 inf d := tiokN Tryz.types_size Tryz.type446 Tryz.underlying446 rfl (by kernel_rfl) (by kernel_rfl)
theorem tok447 : ∃ inf d, TIOK Tryz.prog 447 ti447 inf d := tiokN Tryz.types_size Tryz.type447 Tryz.underlying447 rfl (by kernel_rfl) (by kernel_rfl)
theorem tok448 : ∃ inf d, TIOK Tryz.prog 448 ti448 inf d := tiokN Tryz.types_size Tryz.type448 Tryz.underlying448 rfl (by kernel_rfl) (by kernel_rfl)
theorem tok449 : ∃ inf d, TIOK Tryz.prog 449 ti449 inf d := tiokN Tryz.types_size Tryz.type449 Tryz.underlying449 rfl (by kernel_rfl) (by kernel_rfl)
theorem tok450 : ∃ inf d, TIOK Tryz.prog 450 ti450 inf d := tiokN Tryz.types_size Tryz.type450 Tryz.underlying450 rfl (by kernel_rfl) (by kernel_rfl)
theorem tok451 : ∃ inf d, TIOK Tryz.prog 451 ti451 inf d := tiokN Tryz.types_size Tryz.type451 Tryz.underlying451 rfl (by kernel_rfl) (by kernel_rfl)
theorem tok452 : ∃ inf d, TIOK Tryz.prog 452 ti452 inf d := tiokN Tryz.types_size Tryz.type452 Tryz.underlying452 rfl (by kernel_rfl) (by kernel_rfl)
theorem tok453 : ∃ inf d, TIOK Tryz.prog 453 ti453 inf d := tiokN Tryz.types_size Tryz.type453 Tryz.underlying453 rfl (by kernel_rfl) (by kernel_rfl)
theorem tok454 : ∃ inf d, TIOK Tryz.prog 454 ti454 inf d := tiokN Tryz.types_size Tryz.type454 Tryz.underlying454 rfl (by kernel_rfl) (by kernel_rfl)
theorem tok455 : ∃ inf d, TIOK Tryz.prog 455 ti455 inf d := tiokN Tryz.types_size Tryz.type455 Tryz.underlying455 rfl (by kernel_rfl) (by kernel_rfl)
theorem tok456 : ∃ inf d, TIOK Tryz.prog 456 ti456 inf d := tiokN Tryz.types_size Tryz.type456 Tryz.underlying456 rfl (by kernel_rfl) (by kernel_rfl)
theorem tok457 : ∃ inf d, TIOK Tryz.prog 457 ti457 inf d := tiokN Tryz.types_size Tryz.type457 Tryz.underlying457 rfl (by kernel_rfl) (by kernel_rfl)
theorem tok458 : ∃ inf d, TIOK Tryz.prog 458 ti458 inf d := tiokN Tryz.types_size Tryz.type458 Tryz.underlying458 rfl (by kernel_rfl) (by kernel_rfl)
theorem tokTree : TrAll (fun t i => ∃ inf d, TIOK Tryz.prog t i inf d) 0 1 TTab := ⟨tok0, ⟨tok1, ⟨tok3, ⟨tok7, ⟨tok15, ⟨tok31, ⟨tok63, ⟨tok127, ⟨tok255, trivial, trivial⟩, ⟨tok383, trivial, trivial⟩⟩, ⟨tok191, ⟨tok319, trivial, trivial⟩, ⟨tok447, trivial, trivial⟩⟩⟩, ⟨tok95, ⟨tok159, ⟨tok287, trivial, trivial⟩, ⟨tok415, trivial, trivial⟩⟩, ⟨tok223, ⟨tok351, trivial, trivial⟩, trivial⟩⟩⟩, ⟨tok47, ⟨tok79, ⟨tok143, ⟨tok271, trivial, trivial⟩, ⟨tok399, trivial, trivial⟩⟩, ⟨tok207, ⟨tok335, trivial, trivial⟩, trivial⟩⟩, ⟨tok111, ⟨tok175, ⟨tok303, trivial, trivial⟩, ⟨tok431, trivial, trivial⟩⟩, ⟨tok239, ⟨tok367, trivial, trivial⟩, trivial⟩⟩⟩⟩, ⟨tok23, ⟨tok39, ⟨tok71, ⟨tok135, ⟨tok263, trivial, trivial⟩, ⟨tok391, trivial, trivial⟩⟩, ⟨tok199, ⟨tok327, trivial, trivial⟩, ⟨tok455, trivial, trivial⟩⟩⟩, ⟨tok103, ⟨tok167, ⟨tok295, trivial, trivial⟩, ⟨tok423, trivial, trivial⟩⟩, ⟨tok231, ⟨tok359, trivial, trivial⟩, trivial⟩⟩⟩, ⟨tok55, ⟨tok87, ⟨tok151, ⟨tok279, trivial, trivial⟩, ⟨tok407, trivial, trivial⟩⟩, ⟨tok215, ⟨tok343, trivial, trivial⟩, trivial⟩⟩, ⟨tok119, ⟨tok183, ⟨tok311, trivial, trivial⟩, ⟨tok439, trivial, trivial⟩⟩, ⟨tok247, ⟨tok375, trivial, trivial⟩, trivial⟩⟩⟩⟩⟩, ⟨tok11, ⟨tok19, ⟨tok35, ⟨tok67, ⟨tok131, ⟨tok259, trivial, trivial⟩, ⟨tok387, trivial, trivial⟩⟩, ⟨tok195, ⟨tok323, trivial, trivial⟩, ⟨tok451, trivial, trivial⟩⟩⟩, ⟨tok99, ⟨tok163, ⟨tok291, trivial, trivial⟩, ⟨tok419, trivial, trivial⟩⟩, ⟨tok227, ⟨tok355, trivial, trivial⟩, trivial⟩⟩⟩, ⟨tok51, ⟨tok83, ⟨tok147, ⟨tok275, trivial, trivial⟩, ⟨tok403, trivial, trivial⟩⟩, ⟨tok211, ⟨tok339, trivial, trivial⟩, trivial⟩⟩, ⟨tok115, ⟨tok179, ⟨tok307, trivial, trivial⟩, ⟨tok435, trivial, trivial⟩⟩, ⟨tok243, ⟨tok371, trivial, trivial⟩, trivial⟩⟩⟩⟩, ⟨tok27, ⟨tok43, ⟨tok75, ⟨tok139, ⟨tok267, trivial, trivial⟩, ⟨tok395, trivial, trivial⟩⟩, ⟨tok203, ⟨tok331, trivial, trivial⟩, trivial⟩⟩, ⟨tok107, ⟨tok171, ⟨tok299, trivial, trivial⟩, ⟨tok427, trivial, trivial⟩⟩, ⟨tok235, ⟨tok363, trivial, trivial⟩, trivial⟩⟩⟩, ⟨tok59, ⟨tok91, ⟨tok155, ⟨tok283, trivial, trivial⟩, ⟨tok411, trivial, trivial⟩⟩, ⟨tok219, ⟨tok347, trivial, trivial⟩, trivial⟩⟩, ⟨tok123, ⟨tok187, ⟨tok315, trivial, trivial⟩, ⟨tok443, trivial, trivial⟩⟩, ⟨tok251, ⟨tok379, trivial, trivial⟩, trivial⟩⟩⟩⟩⟩⟩, ⟨tok5, ⟨tok9, ⟨tok17, ⟨tok33, ⟨tok65, ⟨tok129, ⟨tok257, trivial, trivial⟩, ⟨tok385, trivial, trivial⟩⟩, ⟨tok193, ⟨tok321, trivial, trivial⟩, ⟨tok449, trivial, trivial⟩⟩⟩, ⟨tok97, ⟨tok161, ⟨tok289, trivial, trivial⟩, ⟨tok417, trivial, trivial⟩⟩, ⟨tok225, ⟨tok353, trivial, trivial⟩, trivial⟩⟩⟩, ⟨tok49, ⟨tok81, ⟨tok145, ⟨tok273, trivial, trivial⟩, ⟨tok401, trivial, trivial⟩⟩, ⟨tok209, ⟨tok337, trivial, trivial⟩, trivial⟩⟩, ⟨tok113, ⟨tok177, ⟨tok305, trivial, trivial⟩, ⟨tok433, trivial, trivial⟩⟩, ⟨tok241, ⟨tok369, trivial, trivial⟩, trivial⟩⟩⟩⟩, ⟨tok25, ⟨tok41, ⟨tok73, ⟨tok137, ⟨tok265, trivial, trivial⟩, ⟨tok393, trivial, trivial⟩⟩, ⟨tok201, ⟨tok329, trivial, trivial⟩, ⟨tok457, trivial, trivial⟩⟩⟩, ⟨tok105, ⟨tok169, ⟨tok297, trivial, trivial⟩, ⟨tok425, trivial, trivial⟩⟩, ⟨tok233, ⟨tok361, trivial, trivial⟩, trivial⟩⟩⟩, ⟨tok57, ⟨tok89, ⟨tok153, ⟨tok281, trivial, trivial⟩, ⟨tok409, trivial, trivial⟩⟩, ⟨tok217, ⟨tok345, trivial, trivial⟩, trivial⟩⟩, ⟨tok121, ⟨tok185, ⟨tok313, trivial, trivial⟩, ⟨tok441, trivial, trivial⟩⟩, ⟨tok249, ⟨tok377, trivial, trivial⟩, trivial⟩⟩⟩⟩⟩, ⟨tok13, ⟨tok21, ⟨tok37, ⟨tok69, ⟨tok133, ⟨tok261, trivial, trivial⟩, ⟨tok389, trivial, trivial⟩⟩, ⟨tok197, ⟨tok325, trivial, trivial⟩, ⟨tok453, trivial, trivial⟩⟩⟩, ⟨tok101, ⟨tok165, ⟨tok293, trivial, trivial⟩, ⟨tok421, trivial, trivial⟩⟩, ⟨tok229, ⟨tok357, trivial, trivial⟩, trivial⟩⟩⟩, ⟨tok53, ⟨tok85, ⟨tok149, ⟨tok277, trivial, trivial⟩, ⟨tok405, trivial, trivial⟩⟩, ⟨tok213, ⟨tok341, trivial, trivial⟩, trivial⟩⟩, ⟨tok117, ⟨tok181, ⟨tok309, trivial, trivial⟩, ⟨tok437, trivial, trivial⟩⟩, ⟨tok245, ⟨tok373, trivial, trivial⟩, trivial⟩⟩⟩⟩, ⟨tok29, ⟨tok45, ⟨tok77, ⟨tok141, ⟨tok269, trivial, trivial⟩, ⟨tok397, trivial, trivial⟩⟩, ⟨tok205, ⟨tok333, trivial, trivial⟩, trivial⟩⟩, ⟨tok109, ⟨tok173, ⟨tok301, trivial, trivial⟩, ⟨tok429, trivial, trivial⟩⟩, ⟨tok237, ⟨tok365, trivial, trivial⟩, trivial⟩⟩⟩, ⟨tok61, ⟨tok93, ⟨tok157, ⟨tok285, trivial, trivial⟩, ⟨tok413, trivial, trivial⟩⟩, ⟨tok221, ⟨tok349, trivial, trivial⟩, trivial⟩⟩, ⟨tok125, ⟨tok189, ⟨tok317, trivial, trivial⟩, ⟨tok445, trivial, trivial⟩⟩, ⟨tok253, ⟨tok381, trivial, trivial⟩, trivial⟩⟩⟩⟩⟩⟩⟩, ⟨tok2, ⟨tok4, ⟨tok8, ⟨tok16, ⟨tok32, ⟨tok64, ⟨tok128, ⟨tok256, trivial, trivial⟩, ⟨tok384, trivial, trivial⟩⟩, ⟨tok192, ⟨tok320, trivial, trivial⟩, ⟨tok448, trivial, trivial⟩⟩⟩, ⟨tok96, ⟨tok160, ⟨tok288, trivial, trivial⟩, ⟨tok416, trivial, trivial⟩⟩, ⟨tok224, ⟨tok352, trivial, trivial⟩, trivial⟩⟩⟩, ⟨tok48, ⟨tok80, ⟨tok144, ⟨tok272, trivial, trivial⟩, ⟨tok400, trivial, trivial⟩⟩, ⟨tok208, ⟨tok336, trivial, trivial⟩, trivial⟩⟩, ⟨tok112, ⟨tok176, ⟨tok304, trivial, trivial⟩, ⟨tok432, trivial, trivial⟩⟩, ⟨tok240, ⟨tok368, trivial, trivial⟩, trivial⟩⟩⟩⟩, ⟨tok24, ⟨tok40, ⟨tok72, ⟨tok136, ⟨tok264, trivial, trivial⟩, ⟨tok392, trivial, trivial⟩⟩, ⟨tok200, ⟨tok328, trivial, trivial⟩, ⟨tok456, trivial, trivial⟩⟩⟩, ⟨tok104, ⟨tok168, ⟨tok296, trivial, trivial⟩, ⟨tok424, trivial, trivial⟩⟩, ⟨tok232, ⟨tok360, trivial, trivial⟩, trivial⟩⟩⟩, ⟨tok56, ⟨tok88, ⟨tok152, ⟨tok280, trivial, trivial⟩, ⟨tok408, trivial, trivial⟩⟩, ⟨tok216, ⟨tok344, trivial, trivial⟩, trivial⟩⟩, ⟨tok120, ⟨tok184, ⟨tok312, trivial, trivial⟩, ⟨tok440, trivial, trivial⟩⟩, ⟨tok248, ⟨tok376, trivial, trivial⟩, trivial⟩⟩⟩⟩⟩, ⟨tok12, ⟨tok20, ⟨tok36, ⟨tok68, ⟨tok132, ⟨tok260, trivial, trivial⟩, ⟨tok388, trivial, trivial⟩⟩, ⟨tok196, ⟨tok324, trivial, trivial⟩, ⟨tok452, trivial, trivial⟩⟩⟩, ⟨tok100, ⟨tok164, ⟨tok292, trivial, trivial⟩, ⟨tok420, trivial, trivial⟩⟩, ⟨tok228, ⟨tok356, trivial, trivial⟩, trivial⟩⟩⟩, ⟨tok52, ⟨tok84, ⟨tok148, ⟨tok276, trivial, trivial⟩, ⟨tok404, trivial, trivial⟩⟩, ⟨tok212, ⟨tok340, trivial, trivial⟩, trivial⟩⟩, ⟨tok116, ⟨tok180, ⟨tok308, trivial, trivial⟩, ⟨tok436, trivial, trivial⟩⟩, ⟨tok244, ⟨tok372, trivial, trivial⟩, trivial⟩⟩⟩⟩, ⟨tok28, ⟨tok44, ⟨tok76, ⟨tok140, ⟨tok268, trivial, trivial⟩, ⟨tok396, trivial, trivial⟩⟩, ⟨tok204, ⟨tok332, trivial, trivial⟩, trivial⟩⟩, ⟨tok108, ⟨tok172, ⟨tok300, trivial, trivial⟩, ⟨tok428, trivial, trivial⟩⟩, ⟨tok236, ⟨tok364, trivial, trivial⟩, trivial⟩⟩⟩, ⟨tok60, ⟨tok92, ⟨tok156, ⟨tok284, trivial, trivial⟩, ⟨tok412, trivial, trivial⟩⟩, ⟨tok220, ⟨tok348, trivial, trivial⟩, trivial⟩⟩, ⟨tok124, ⟨tok188, ⟨tok316, trivial, trivial⟩, ⟨tok444, trivial, trivial⟩⟩, ⟨tok252, ⟨tok380, trivial, trivial⟩, trivial⟩⟩⟩⟩⟩⟩, ⟨tok6, ⟨tok10, ⟨tok18, ⟨tok34, ⟨tok66, ⟨tok130, ⟨tok258, trivial, trivial⟩, ⟨tok386, trivial, trivial⟩⟩, ⟨tok194, ⟨tok322, trivial, trivial⟩, ⟨tok450, trivial, trivial⟩⟩⟩, ⟨tok98, ⟨tok162, ⟨tok290, trivial, trivial⟩, ⟨tok418, trivial, trivial⟩⟩, ⟨tok226, ⟨tok354, trivial, trivial⟩, trivial⟩⟩⟩, ⟨tok50, ⟨tok82, ⟨tok146, ⟨tok274, trivial, trivial⟩, ⟨tok402, trivial, trivial⟩⟩, ⟨tok210, ⟨tok338, trivial, trivial⟩, trivial⟩⟩, ⟨tok114, ⟨tok178, ⟨tok306, trivial, trivial⟩, ⟨tok434, trivial, trivial⟩⟩, ⟨tok242, ⟨tok370, trivial, trivial⟩, trivial⟩⟩⟩⟩, ⟨tok26, ⟨tok42, ⟨tok74, ⟨tok138, ⟨tok266, trivial, trivial⟩, ⟨tok394, trivial, trivial⟩⟩, ⟨tok202, ⟨tok330, trivial, trivial⟩, ⟨tok458, trivial, trivial⟩⟩⟩, ⟨tok106, ⟨tok170, ⟨tok298, trivial, trivial⟩, ⟨tok426, trivial, trivial⟩⟩, ⟨tok234, ⟨tok362, trivial, trivial⟩, trivial⟩⟩⟩, ⟨tok58, ⟨tok90, ⟨tok154, ⟨tok282, trivial, trivial⟩, ⟨tok410, trivial, trivial⟩⟩, ⟨tok218, ⟨tok346, trivial, trivial⟩, trivial⟩⟩, ⟨tok122, ⟨tok186, ⟨tok314, trivial, trivial⟩, ⟨tok442, trivial, trivial⟩⟩, ⟨tok250, ⟨tok378, trivial, trivial⟩, trivial⟩⟩⟩⟩⟩, ⟨tok14, ⟨tok22, ⟨tok38, ⟨tok70, ⟨tok134, ⟨tok262, trivial, trivial⟩, ⟨tok390, trivial, trivial⟩⟩, ⟨tok198, ⟨tok326, trivial, trivial⟩, ⟨tok454, trivial, trivial⟩⟩⟩, ⟨tok102, ⟨tok166, ⟨tok294, trivial, trivial⟩, ⟨tok422, trivial, trivial⟩⟩, ⟨tok230, ⟨tok358, trivial, trivial⟩, trivial⟩⟩⟩, ⟨tok54, ⟨tok86, ⟨tok150, ⟨tok278, trivial, trivial⟩, ⟨tok406, trivial, trivial⟩⟩, ⟨tok214, ⟨tok342, trivial, trivial⟩, trivial⟩⟩, ⟨tok118, ⟨tok182, ⟨tok310, trivial, trivial⟩, ⟨tok438, trivial, trivial⟩⟩, ⟨tok246, ⟨tok374, trivial, trivial⟩, trivial⟩⟩⟩⟩, ⟨tok30, ⟨tok46, ⟨tok78, ⟨tok142, ⟨tok270, trivial, trivial⟩, ⟨tok398, trivial, trivial⟩⟩, ⟨tok206, ⟨tok334, trivial, trivial⟩, trivial⟩⟩, ⟨tok110, ⟨tok174, ⟨tok302, trivial, trivial⟩, ⟨tok430, trivial, trivial⟩⟩, ⟨tok238, ⟨tok366, trivial, trivial⟩, trivial⟩⟩⟩, ⟨tok62, ⟨tok94, ⟨tok158, ⟨tok286, trivial, trivial⟩, ⟨tok414, trivial, trivial⟩⟩, ⟨tok222, ⟨tok350, trivial, trivial⟩, trivial⟩⟩, ⟨tok126, ⟨tok190, ⟨tok318, trivial, trivial⟩, ⟨tok446, trivial, trivial⟩⟩, ⟨tok254, ⟨tok382, trivial, trivial⟩, trivial⟩⟩⟩⟩⟩⟩⟩⟩
theorem tokAll : TOK E0.T Tryz.prog := fun t i h => by
  have := tokTree.get t i h
  rwa [Nat.zero_add, Nat.one_mul] at this
end Go.U
end

section
namespace Go.U
open Go.Proofs
set_option autoImplicit false
set_option maxRecDepth 100000
theorem fok0 : Tryz.prog.funcs[0]? = some Tryz.f0 ∧ fnB 0 Tryz.f0 = true := ⟨Tryz.func0, by kernel_rfl⟩
theorem fok1 : Tryz.prog.funcs[1]? = some Tryz.f1 ∧ fnB 1 Tryz.f1 = true := ⟨Tryz.func1, by kernel_rfl⟩
theorem fok2 : Tryz.prog.funcs[2]? = some Tryz.f2 ∧ fnB 2 Tryz.f2 = true := ⟨Tryz.func2, by kernel_rfl⟩
theorem fok3 : Tryz.prog.funcs[3]? = some Tryz.f3 ∧ fnB 3 Tryz.f3 = true := ⟨Tryz.func3, by kernel_rfl⟩
theorem fok4 : Tryz.prog.funcs[4]? = some Tryz.f4 ∧ fnB 4 Tryz.f4 = true := ⟨Tryz.func4, by kernel_rfl⟩
theorem fok5 : Tryz.prog.funcs[5]? = some Tryz.f5 ∧ fnB 5 Tryz.f5 = true := ⟨Tryz.func5, by kernel_rfl⟩
theorem fok6 : Tryz.prog.funcs[6]? = some Tryz.f6 ∧ fnB 6 Tryz.f6 = true := ⟨Tryz.func6, by kernel_rfl⟩
theorem fok7 : Tryz.prog.funcs[7]? = some Tryz.f7 ∧ fnB 7 Tryz.f7 = true := ⟨Tryz.func7, by kernel_rfl⟩
theorem fok8 : Tryz.prog.funcs[8]? = some Tryz.f8 ∧ fnB 8 Tryz.f8 = true := ⟨Tryz.func8, by kernel_rfl⟩
theorem fok9 : Tryz.prog.funcs[9]? = some Tryz.f9 ∧ fnB 9 Tryz.f9 = true := ⟨Tryz.func9, by kernel_rfl⟩
theorem fok10 : Tryz.prog.funcs[10]? = some Tryz.f10 ∧ fnB 10 Tryz.f10 = true := ⟨Tryz.func10, by kernel_rfl⟩
theorem fok11 : Tryz.prog.funcs[11]? = some Tryz.f11 ∧ fnB 11 Tryz.f11 = true := ⟨Tryz.func11, by kernel_rfl⟩
theorem fok12 : Tryz.prog.funcs[12]? = some Tryz.f12 ∧ fnB 12 Tryz.f12 = true := ⟨Tryz.func12, by kernel_rfl⟩
theorem fok13 : Tryz.prog.funcs[13]? = some Tryz.f13 ∧ fnB 13 Tryz.f13 = true := ⟨Tryz.func13, by kernel_rfl⟩
theorem fok14 : Tryz.prog.funcs[14]? = some Tryz.f14 ∧ fnB 14 Tryz.f14 = true := ⟨Tryz.func14, by kernel_rfl⟩
theorem fok15 : Tryz.prog.funcs[15]? = some Tryz.f15 ∧ fnB 15 Tryz.f15 = true := ⟨Tryz.func15, by kernel_rfl⟩
theorem fok16 : Tryz.prog.funcs[16]? = some Tryz.f16 ∧ fnB 16 Tryz.f16 = true := ⟨Tryz.func16, by kernel_rfl⟩
theorem fok17 : Tryz.prog.funcs[17]? = some Tryz.f17 ∧ fnB 17 Tryz.f17 = true := ⟨Tryz.func17, by kernel_rfl⟩
theorem fok18 : Tryz.prog.funcs[18]? = some Tryz.f18 ∧ fnB 18 Tryz.f18 = true := ⟨Tryz.func18, by kernel_rfl⟩
theorem fok19 : Tryz.prog.funcs[19]? = some Tryz.f19 ∧ fnB 19 Tryz.f19 = true := ⟨Tryz.func19, by kernel_rfl⟩
theorem fok20 : Tryz.prog.funcs[20]? = some Tryz.f20 ∧ fnB 20 Tryz.f20 = true := ⟨Tryz.func20, by kernel_rfl⟩
theorem fok21 : Tryz.prog.funcs[21]? = some Tryz.f21 ∧ fnB 21 Tryz.f21 = true := ⟨Tryz.func21, by kernel_rfl⟩
theorem fok22 : Tryz.prog.funcs[22]? = some Tryz.f22 ∧ fnB 22 Tryz.f22 = true := ⟨Tryz.func22, by kernel_rfl⟩
theorem fok23 : Tryz.prog.funcs[23]? = some Tryz.f23 ∧ fnB 23 Tryz.f23 = true := ⟨Tryz.func23, by kernel_rfl⟩
theorem fok24 : Tryz.prog.funcs[24]? = some Tryz.f24 ∧ fnB 24 Tryz.f24 = true := ⟨Tryz.func24, by kernel_rfl⟩
theorem fok25 : Tryz.prog.funcs[25]? = some Tryz.f25 ∧ fnB 25 Tryz.f25 = true := ⟨Tryz.func25, by kernel_rfl⟩
theorem fok26 : Tryz.prog.funcs[26]? = some Tryz.f26 ∧ fnB 26 Tryz.f26 = true := ⟨Tryz.func26, by kernel_rfl⟩
theorem fok27 : Tryz.prog.funcs[27]? = some Tryz.f27 ∧ fnB 27 Tryz.f27 = true := ⟨Tryz.func27, by kernel_rfl⟩
theorem fok28 : Tryz.prog.funcs[28]? = some Tryz.f28 ∧ fnB 28 Tryz.f28 = true := ⟨Tryz.func28, by kernel_rfl⟩
theorem fok29 : Tryz.prog.funcs[29]? = some Tryz.f29 ∧ fnB 29 Tryz.f29 = true := ⟨Tryz.func29, by kernel_rfl⟩
theorem fok30 : Tryz.prog.funcs[30]? = some Tryz.f30 ∧ fnB 30 Tryz.f30 = true := ⟨Tryz.func30, by kernel_rfl⟩
theorem fok31 : Tryz.prog.funcs[31]? = some Tryz.f31 ∧ fnB 31 Tryz.f31 = true := ⟨Tryz.func31, by kernel_rfl⟩
theorem fok32 : Tryz.prog.funcs[32]? = some Tryz.f32 ∧ fnB 32 Tryz.f32 = true := ⟨Tryz.func32, by kernel_rfl⟩
theorem fok33 : Tryz.prog.funcs[33]? = some Tryz.f33 ∧ fnB 33 Tryz.f33 = true := ⟨Tryz.func33, by kernel_rfl⟩
theorem fok34 : Tryz.prog.funcs[34]? = some Tryz.f34 ∧ fnB 34 Tryz.f34 = true := ⟨Tryz.func34, by kernel_rfl⟩
theorem fok35 : Tryz.prog.funcs[35]? = some Tryz.f35 ∧ fnB 35 Tryz.f35 = true := ⟨Tryz.func35, by kernel_rfl⟩
theorem fok36 : Tryz.prog.funcs[36]? = some Tryz.f36 ∧ fnB 36 Tryz.f36 = true := ⟨Tryz.func36, by kernel_rfl⟩
theorem fok37 : Tryz.prog.funcs[37]? = some Tryz.f37 ∧ fnB 37 Tryz.f37 = true := ⟨Tryz.func37, by kernel_rfl⟩
theorem fok38 : Tryz.prog.funcs[38]? = some Tryz.f38 ∧ fnB 38 Tryz.f38 = true := ⟨Tryz.func38, by kernel_rfl⟩
theorem fok39 : Tryz.prog.funcs[39]? = some Tryz.f39 ∧ fnB 39 Tryz.f39 = true := ⟨Tryz.func39, by kernel_rfl⟩
theorem fok40 : Tryz.prog.funcs[40]? = some Tryz.f40 ∧ fnB 40 Tryz.f40 = true := ⟨Tryz.func40, by kernel_rfl⟩
theorem fok41 : Tryz.prog.funcs[41]? = some Tryz.f41 ∧ fnB 41 Tryz.f41 = true := ⟨Tryz.func41, by kernel_rfl⟩
theorem fok42 : Tryz.prog.funcs[42]? = some Tryz.f42 ∧ fnB 42 Tryz.f42 = true := ⟨Tryz.func42, by kernel_rfl⟩
theorem fok43 : Tryz.prog.funcs[43]? = some Tryz.f43 ∧ fnB 43 Tryz.f43 = true := ⟨Tryz.func43, by kernel_rfl⟩
theorem fok44 : Tryz.prog.funcs[44]? = some Tryz.f44 ∧ fnB 44 Tryz.f44 = true := ⟨Tryz.func44, by kernel_rfl⟩
theorem fok45 : Tryz.prog.funcs[45]? = some Tryz.f45 ∧ fnB 45 Tryz.f45 = true := ⟨Tryz.func45, by kernel_rfl⟩
theorem fok46 : Tryz.prog.funcs[46]? = some Tryz.f46 ∧ fnB 46 Tryz.f46 = true := ⟨Tryz.func46, by kernel_rfl⟩
theorem fok47 : Tryz.prog.funcs[47]? = some Tryz.f47 ∧ fnB 47 Tryz.f47 = true := ⟨Tryz.func47, by kernel_rfl⟩
theorem fok48 : Tryz.prog.funcs[48]? = some Tryz.f48 ∧ fnB 48 Tryz.f48 = true := ⟨Tryz.func48, by kernel_rfl⟩
theorem fok49 : Tryz.prog.funcs[49]? = some Tryz.f49 ∧ fnB 49 Tryz.f49 = true := ⟨Tryz.func49, by kernel_rfl⟩
theorem fok50 : Tryz.prog.funcs[50]? = some Tryz.f50 ∧ fnB 50 Tryz.f50 = true := ⟨Tryz.func50, by kernel_rfl⟩
theorem fok51 : Tryz.prog.funcs[51]? = some Tryz.f51 ∧ fnB 51 Tryz.f51 = true := ⟨Tryz.func51, by kernel_rfl⟩
theorem fok52 : Tryz.prog.funcs[52]? = some Tryz.f52 ∧ fnB 52 Tryz.f52 = true := ⟨Tryz.func52, by kernel_rfl⟩
theorem fok53 : Tryz.prog.funcs[53]? = some Tryz.f53 ∧ fnB 53 Tryz.f53 = true := ⟨Tryz.func53, by kernel_rfl⟩
theorem fok54 : Tryz.prog.funcs[54]? = some Tryz.f54 ∧ fnB 54 Tryz.f54 = true := ⟨Tryz.func54, by kernel_rfl⟩
theorem fok55 : Tryz.prog.funcs[55]? = some Tryz.f55 ∧ fnB 55 Tryz.f55 = true := ⟨Tryz.func55, by kernel_rfl⟩
theorem fok56 : Tryz.prog.funcs[56]? = some Tryz.f56 ∧ fnB 56 Tryz.f56 = true := ⟨Tryz.func56, by kernel_rfl⟩
theorem fok57 : Tryz.prog.funcs[57]? = some Tryz.f57 ∧ fnB 57 Tryz.f57 = true := ⟨Tryz.func57, by kernel_rfl⟩
theorem fok58 : Tryz.prog.funcs[58]? = some Tryz.f58 ∧ fnB 58 Tryz.f58 = true := ⟨Tryz.func58, by kernel_rfl⟩
theorem fok59 : Tryz.prog.funcs[59]? = some Tryz.f59 ∧ fnB 59 Tryz.f59 = true := ⟨Tryz.func59, by kernel_rfl⟩
theorem fok60 : Tryz.prog.funcs[60]? = some Tryz.f60 ∧ fnB 60 Tryz.f60 = true := ⟨Tryz.func60, by kernel_rfl⟩
theorem fok61 : Tryz.prog.funcs[61]? = some Tryz.f61 ∧ fnB 61 Tryz.f61 = true := ⟨Tryz.func61, by kernel_rfl⟩
theorem fok62 : Tryz.prog.funcs[62]? = some Tryz.f62 ∧ fnB 62 Tryz.f62 = true := ⟨Tryz.func62, by kernel_rfl⟩
theorem fok63 : Tryz.prog.funcs[63]? = some Tryz.f63 ∧ fnB 63 Tryz.f63 = true := ⟨Tryz.func63, by kernel_rfl⟩
theorem fok64 : Tryz.prog.funcs[64]? = some Tryz.f64 ∧ fnB 64 Tryz.f64 = true := ⟨Tryz.func64, by kernel_rfl⟩
theorem fok65 : Tryz.prog.funcs[65]? = some Tryz.f65 ∧ fnB 65 Tryz.f65 = true := ⟨Tryz.func65, by kernel_rfl⟩
theorem fok66 : Tryz.prog.funcs[66]? = some Tryz.f66 ∧ fnB 66 Tryz.f66 = true := ⟨Tryz.func66, by kernel_rfl⟩
theorem fok67 : Tryz.prog.funcs[67]? = some Tryz.f67 ∧ fnB 67 Tryz.f67 = true := ⟨Tryz.func67, by kernel_rfl⟩
theorem fok68 : Tryz.prog.funcs[68]? = some Tryz.f68 ∧ fnB 68 Tryz.f68 = true := ⟨Tryz.func68, by kernel_rfl⟩
theorem fok69 : Tryz.prog.funcs[69]? = some Tryz.f69 ∧ fnB 69 Tryz.f69 = true := ⟨Tryz.func69, by kernel_rfl⟩
theorem fok70 : Tryz.prog.funcs[70]? = some Tryz.f70 ∧ fnB 70 Tryz.f70 = true := ⟨Tryz.func70, by kernel_rfl⟩
theorem fok71 : Tryz.prog.funcs[71]? = some Tryz.f71 ∧ fnB 71 Tryz.f71 = true := ⟨Tryz.func71, by kernel_rfl⟩
theorem fok72 : Tryz.prog.funcs[72]? = some Tryz.f72 ∧ fnB 72 Tryz.f72 = true := ⟨Tryz.func72, by kernel_rfl⟩
theorem fok73 : Tryz.prog.funcs[73]? = some Tryz.f73 ∧ fnB 73 Tryz.f73 = true := ⟨Tryz.func73, by kernel_rfl⟩
theorem fok74 : Tryz.prog.funcs[74]? = some Tryz.f74 ∧ fnB 74 Tryz.f74 = true := ⟨Tryz.func74, by kernel_rfl⟩
theorem fok75 : Tryz.prog.funcs[75]? = some Tryz.f75 ∧ fnB 75 Tryz.f75 = true := ⟨Tryz.func75, by kernel_rfl⟩
theorem fok76 : Tryz.prog.funcs[76]? = some Tryz.f76 ∧ fnB 76 Tryz.f76 = true := ⟨Tryz.func76, by kernel_rfl⟩
theorem fok77 : Tryz.prog.funcs[77]? = some Tryz.f77 ∧ fnB 77 Tryz.f77 = true := ⟨Tryz.func77, by kernel_rfl⟩
theorem fok78 : Tryz.prog.funcs[78]? = some Tryz.f78 ∧ fnB 78 Tryz.f78 = true := ⟨Tryz.func78, by kernel_rfl⟩
theorem fok79 : Tryz.prog.funcs[79]? = some Tryz.f79 ∧ fnB 79 Tryz.f79 = true := ⟨Tryz.func79, by kernel_rfl⟩
theorem fok80 : Tryz.prog.funcs[80]? = some Tryz.f80 ∧ fnB 80 Tryz.f80 = true := ⟨Tryz.func80, by kernel_rfl⟩
theorem fok81 : Tryz.prog.funcs[81]? = some Tryz.f81 ∧ fnB 81 Tryz.f81 = true := ⟨Tryz.func81, by kernel_rfl⟩
theorem fok82 : Tryz.prog.funcs[82]? = some Tryz.f82 ∧ fnB 82 Tryz.f82 = true := ⟨Tryz.func82, by kernel_rfl⟩
theorem fok83 : Tryz.prog.funcs[83]? = some Tryz.f83 ∧ fnB 83 Tryz.f83 = true := ⟨Tryz.func83, by kernel_rfl⟩
theorem fok84 : Tryz.prog.funcs[84]? = some Tryz.f84 ∧ fnB 84 Tryz.f84 = true := ⟨Tryz.func84, by kernel_rfl⟩
theorem fok85 : Tryz.prog.funcs[85]? = some Tryz.f85 ∧ fnB 85 Tryz.f85 = true := ⟨Tryz.func85, by kernel_rfl⟩
theorem fok86 : Tryz.prog.funcs[86]? = some Tryz.f86 ∧ fnB 86 Tryz.f86 = true := ⟨Tryz.func86, by kernel_rfl⟩
theorem fok87 : Tryz.prog.funcs[87]? = some Tryz.f87 ∧ fnB 87 Tryz.f87 = true := ⟨Tryz.func87, by kernel_rfl⟩
theorem fok88 : Tryz.prog.funcs[88]? = some Tryz.f88 ∧ fnB 88 Tryz.f88 = true := ⟨Tryz.func88, by kernel_rfl⟩
theorem fok89 : Tryz.prog.funcs[89]? = some Tryz.f89 ∧ fnB 89 Tryz.f89 = true := ⟨Tryz.func89, by kernel_rfl⟩
theorem fok90 : Tryz.prog.funcs[90]? = some Tryz.f90 ∧ fnB 90 Tryz.f90 = true := ⟨Tryz.func90, by kernel_rfl⟩
theorem fok91 : Tryz.prog.funcs[91]? = some Tryz.f91 ∧ fnB 91 Tryz.f91 = true := ⟨Tryz.func91, by kernel_rfl⟩
theorem fok92 : Tryz.prog.funcs[92]? = some Tryz.f92 ∧ fnB 92 Tryz.f92 = true := ⟨Tryz.func92, by kernel_rfl⟩
theorem fok93 : Tryz.prog.funcs[93]? = some Tryz.f93 ∧ fnB 93 Tryz.f93 = true := ⟨Tryz.func93, by kernel_rfl⟩
theorem fok94 : Tryz.prog.funcs[94]? = some Tryz.f94 ∧ fnB 94 Tryz.f94 = true := ⟨Tryz.func94, by kernel_rfl⟩
theorem fok95 : Tryz.prog.funcs[95]? = some Tryz.f95 ∧ fnB 95 Tryz.f95 = true := ⟨Tryz.func95, by kernel_rfl⟩
theorem fok96 : Tryz.prog.funcs[96]? = some Tryz.f96 ∧ fnB 96 Tryz.f96 = true := ⟨Tryz.func96, by kernel_rfl⟩
theorem fok97 : Tryz.prog.funcs[97]? = some Tryz.f97 ∧ fnB 97 Tryz.f97 = true := ⟨Tryz.func97, by kernel_rfl⟩
theorem fok98 : Tryz.prog.funcs[98]? = some Tryz.f98 ∧ fnB 98 Tryz.f98 = true := ⟨Tryz.func98, by kernel_rfl⟩
theorem fok99 : Tryz.prog.funcs[99]? = some Tryz.f99 ∧ fnB 99 Tryz.f99 = true := ⟨Tryz.func99, by kernel_rfl⟩
theorem fok100 : Tryz.prog.funcs[100]? = some Tryz.f100 ∧ fnB 100 Tryz.f100 = true := ⟨Tryz.func100, by kernel_rfl⟩
theorem fok101 : Tryz.prog.funcs[101]? = some Tryz.f101 ∧ fnB 101 Tryz.f101 = true := ⟨Tryz.func101, by kernel_rfl⟩
theorem fok102 : Tryz.prog.funcs[102]? = some Tryz.f102 ∧ fnB 102 Tryz.f102 = true := ⟨Tryz.func102, by kernel_rfl⟩
theorem fok103 : Tryz.prog.funcs[103]? = some Tryz.f103 ∧ fnB 103 Tryz.f103 = true := ⟨Tryz.func103, by kernel_rfl⟩
theorem fok104 : Tryz.prog.funcs[104]? = some Tryz.f104 ∧ fnB 104 Tryz.f104 = true := ⟨Tryz.func104, by kernel_rfl⟩
theorem fok105 : Tryz.prog.funcs[105]? = some Tryz.f105 ∧ fnB 105 Tryz.f105 = true := ⟨Tryz.func105, by kernel_rfl⟩
theorem fok106 : Tryz.prog.funcs[106]? = some Tryz.f106 ∧ fnB 106 Tryz.f106 = true := ⟨Tryz.func106, by kernel_rfl⟩
theorem fok107 : Tryz.prog.funcs[107]? = some Tryz.f107 ∧ fnB 107 Tryz.f107 = true := ⟨Tryz.func107, by kernel_rfl⟩
theorem fok108 : Tryz.prog.funcs[108]? = some Tryz.f108 ∧ fnB 108 Tryz.f108 = true := ⟨Tryz.func108, by kernel_rfl⟩
theorem fok109 : Tryz.prog.funcs[109]? = some Tryz.f109 ∧ fnB 109 Tryz.f109 = true := ⟨Tryz.func109, by kernel_rfl⟩
theorem fok110 : Tryz.prog.funcs[110]? = some Tryz.f110 ∧ fnB 110 Tryz.f110 = true := ⟨Tryz.func110, by kernel_rfl⟩
theorem fok111 : Tryz.prog.funcs[111]? = some Tryz.f111 ∧ fnB 111 Tryz.f111 = true := ⟨Tryz.func111, by kernel_rfl⟩
theorem fok112 : Tryz.prog.funcs[112]? = some Tryz.f112 ∧ fnB 112 Tryz.f112 = true := ⟨Tryz.func112, by kernel_rfl⟩
theorem fok113 : Tryz.prog.funcs[113]? = some Tryz.f113 ∧ fnB 113 Tryz.f113 = true := ⟨Tryz.func113, by kernel_rfl⟩
theorem fok114 : Tryz.prog.funcs[114]? = some Tryz.f114 ∧ fnB 114 Tryz.f114 = true := ⟨Tryz.func114, by kernel_rfl⟩
theorem fok115 : Tryz.prog.funcs[115]? = some Tryz.f115 ∧ fnB 115 Tryz.f115 = true := ⟨Tryz.func115, by kernel_rfl⟩
theorem fok116 : Tryz.prog.funcs[116]? = some Tryz.f116 ∧ fnB 116 Tryz.f116 = true := ⟨Tryz.func116, by kernel_rfl⟩
theorem fok117 : Tryz.prog.funcs[117]? = some Tryz.f117 ∧ fnB 117 Tryz.f117 = true := ⟨Tryz.func117, by kernel_rfl⟩
theorem fok118 : Tryz.prog.funcs[118]? = some Tryz.f118 ∧ fnB 118 Tryz.f118 = true := ⟨Tryz.func118, by kernel_rfl⟩
theorem fok119 : Tryz.prog.funcs[119]? = some Tryz.f119 ∧ fnB 119 Tryz.f119 = true := ⟨Tryz.func119, by kernel_rfl⟩
theorem fok120 : Tryz.prog.funcs[120]? = some Tryz.f120 ∧ fnB 120 Tryz.f120 = true := ⟨Tryz.func120, by kernel_rfl⟩
theorem fok121 : Tryz.prog.funcs[121]? = some Tryz.f121 ∧ fnB 121 Tryz.f121 = true := ⟨Tryz.func121, by kernel_rfl⟩
theorem fok122 : Tryz.prog.funcs[122]? = some Tryz.f122 ∧ fnB 122 Tryz.f122 = true := ⟨Tryz.func122, by kernel_rfl⟩
theorem fok123 : Tryz.prog.funcs[123]? = some Tryz.f123 ∧ fnB 123 Tryz.f123 = true := ⟨Tryz.func123, by kernel_rfl⟩
theorem fok124 : Tryz.prog.funcs[124]? = some Tryz.f124 ∧ fnB 124 Tryz.f124 = true := ⟨Tryz.func124, by kernel_rfl⟩
theorem fok125 : Tryz.prog.funcs[125]? = some Tryz.f125 ∧ fnB 125 Tryz.f125 = true := ⟨Tryz.func125, by kernel_rfl⟩
theorem fok126 : Tryz.prog.funcs[126]? = some Tryz.f126 ∧ fnB 126 Tryz.f126 = true := ⟨Tryz.func126, by kernel_rfl⟩
theorem fok127 : Tryz.prog.funcs[127]? = some Tryz.f127 ∧ fnB 127 Tryz.f127 = true := ⟨Tryz.func127, by kernel_rfl⟩
theorem fok128 : Tryz.prog.funcs[128]? = some Tryz.f128 ∧ fnB 128 Tryz.f128 = true := ⟨Tryz.func128, by kernel_rfl⟩
theorem fok129 : Tryz.prog.funcs[129]? = some Tryz.f129 ∧ fnB 129 Tryz.f129 = true := ⟨Tryz.func129, by kernel_rfl⟩
theorem fok130 : Tryz.prog.funcs[130]? = some Tryz.f130 ∧ fnB 130 Tryz.f130 = true := ⟨Tryz.func130, by kernel_rfl⟩
theorem fok131 : Tryz.prog.funcs[131]? = some Tryz.f131 ∧ fnB 131 Tryz.f131 = true := ⟨Tryz.func131, by kernel_rfl⟩
theorem fok132 : Tryz.prog.funcs[132]? = some Tryz.f132 ∧ fnB 132 Tryz.f132 = true := ⟨Tryz.func132, by kernel_rfl⟩
theorem fok133 : Tryz.prog.funcs[133]? = some Tryz.f133 ∧ fnB 133 Tryz.f133 = true := ⟨Tryz.func133, by kernel_rfl⟩
theorem fok134 : Tryz.prog.funcs[134]? = some Tryz.f134 ∧ fnB 134 Tryz.f134 = true := ⟨Tryz.func134, by kernel_rfl⟩
theorem fok135 : Tryz.prog.funcs[135]? = some Tryz.f135 ∧ fnB 135 Tryz.f135 = true := ⟨Tryz.func135, by kernel_rfl⟩
theorem fok136 : Tryz.prog.funcs[136]? = some Tryz.f136 ∧ fnB 136 Tryz.f136 = true := ⟨Tryz.func136, by kernel_rfl⟩
theorem fok137 : Tryz.prog.funcs[137]? = some Tryz.f137 ∧ fnB 137 Tryz.f137 = true := ⟨Tryz.func137, by kernel_rfl⟩
theorem fok138 : Tryz.prog.funcs[138]? = some Tryz.f138 ∧ fnB 138 Tryz.f138 = true := ⟨Tryz.func138, by kernel_rfl⟩
theorem fok139 : Tryz.prog.funcs[139]? = some Tryz.f139 ∧ fnB 139 Tryz.f139 = true := ⟨Tryz.func139, by kernel_rfl⟩
theorem fok140 : Tryz.prog.funcs[140]? = some Tryz.f140 ∧ fnB 140 Tryz.f140 = true := ⟨Tryz.func140, by kernel_rfl⟩
theorem fok141 : Tryz.prog.funcs[141]? = some Tryz.f141 ∧ fnB 141 Tryz.f141 = true := ⟨Tryz.func141, by kernel_rfl⟩
theorem fok142 : Tryz.prog.funcs[142]? = some Tryz.f142 ∧ fnB 142 Tryz.f142 = true := ⟨Tryz.func142, by kernel_rfl⟩
theorem fok143 : Tryz.prog.funcs[143]? = some Tryz.f143 ∧ fnB 143 Tryz.f143 = true := ⟨Tryz.func143, by kernel_rfl⟩
theorem fok144 : Tryz.prog.funcs[144]? = some Tryz.f144 ∧ fnB 144 Tryz.f144 = true := ⟨Tryz.func144, by kernel_rfl⟩
theorem fok145 : Tryz.prog.funcs[145]? = some Tryz.f145 ∧ fnB 145 Tryz.f145 = true := ⟨Tryz.func145, by kernel_rfl⟩
theorem fok146 : Tryz.prog.funcs[146]? = some Tryz.f146 ∧ fnB 146 Tryz.f146 = true := ⟨Tryz.func146, by kernel_rfl⟩
theorem fok147 : Tryz.prog.funcs[147]? = some Tryz.f147 ∧ fnB 147 Tryz.f147 = true := ⟨Tryz.func147, by kernel_rfl⟩
theorem fok148 : Tryz.prog.funcs[148]? = some Tryz.f148 ∧ fnB 148 Tryz.f148 = true := ⟨Tryz.func148, by kernel_rfl⟩
theorem fok149 : Tryz.prog.funcs[149]? = some Tryz.f149 ∧ fnB 149 Tryz.f149 = true := ⟨Tryz.func149, by kernel_rfl⟩
theorem fok150 : Tryz.prog.funcs[150]? = some Tryz.f150 ∧ fnB 150 Tryz.f150 = true := ⟨Tryz.func150, by kernel_rfl⟩
theorem fok151 : Tryz.prog.funcs[151]? = some Tryz.f151 ∧ fnB 151 Tryz.f151 = true := ⟨Tryz.func151, by kernel_rfl⟩
theorem fok152 : Tryz.prog.funcs[152]? = some Tryz.f152 ∧ fnB 152 Tryz.f152 = true := ⟨Tryz.func152, by kernel_rfl⟩
theorem fok153 : Tryz.prog.funcs[153]? = some Tryz.f153 ∧ fnB 153 Tryz.f153 = true := ⟨Tryz.func153, by kernel_rfl⟩
theorem fok154 : Tryz.prog.funcs[154]? = some Tryz.f154 ∧ fnB 154 Tryz.f154 = true := ⟨Tryz.func154, by kernel_rfl⟩
theorem fok155 : Tryz.prog.funcs[155]? = some Tryz.f155 ∧ fnB 155 Tryz.f155 = true := ⟨Tryz.func155, by kernel_rfl⟩
theorem fok156 : Tryz.prog.funcs[156]? = some Tryz.f156 ∧ fnB 156 Tryz.f156 = true := ⟨Tryz.func156, by kernel_rfl⟩
theorem fok157 : Tryz.prog.funcs[157]? = some Tryz.f157 ∧ fnB 157 Tryz.f157 = true := ⟨Tryz.func157, by kernel_rfl⟩
theorem fok158 : Tryz.prog.funcs[158]? = some Tryz.f158 ∧ fnB 158 Tryz.f158 = true := ⟨Tryz.func158, by kernel_rfl⟩
theorem fok159 : Tryz.prog.funcs[159]? = some Tryz.f159 ∧ fnB 159 Tryz.f159 = true := ⟨Tryz.func159, by kernel_rfl⟩
theorem fok160 : Tryz.prog.funcs[160]? = some Tryz.f160 ∧ fnB 160 Tryz.f160 = true := ⟨Tryz.func160, by kernel_rfl⟩
theorem fok161 : Tryz.prog.funcs[161]? = some Tryz.f161 ∧ fnB 161 Tryz.f161 = true := ⟨Tryz.func161, by kernel_rfl⟩
theorem fok162 : Tryz.prog.funcs[162]? = some Tryz.f162 ∧ fnB 162 Tryz.f162 = true := ⟨Tryz.func162, by kernel_rfl⟩
theorem fok163 : Tryz.prog.funcs[163]? = some Tryz.f163 ∧ fnB 163 Tryz.f163 = true := ⟨Tryz.func163, by kernel_rfl⟩
theorem fok164 : Tryz.prog.funcs[164]? = some Tryz.f164 ∧ fnB 164 Tryz.f164 = true := ⟨Tryz.func164, by kernel_rfl⟩
theorem fok165 : Tryz.prog.funcs[165]? = some Tryz.f165 ∧ fnB 165 Tryz.f165 = true := ⟨Tryz.func165, by kernel_rfl⟩
theorem fok166 : Tryz.prog.funcs[166]? = some Tryz.f166 ∧ fnB 166 Tryz.f166 = true := ⟨Tryz.func166, by kernel_rfl⟩
theorem fok167 : Tryz.prog.funcs[167]? = some Tryz.f167 ∧ fnB 167 Tryz.f167 = true := ⟨Tryz.func167, by kernel_rfl⟩
theorem fok168 : Tryz.prog.funcs[168]? = some Tryz.f168 ∧ fnB 168 Tryz.f168 = true := ⟨Tryz.func168, by kernel_rfl⟩
theorem fok169 : Tryz.prog.funcs[169]? = some Tryz.f169 ∧ fnB 169 Tryz.f169 = true := ⟨Tryz.func169, by kernel_rfl⟩
theorem fok170 : Tryz.prog.funcs[170]? = some Tryz.f170 ∧ fnB 170 Tryz.f170 = true := ⟨Tryz.func170, by kernel_rfl⟩
theorem fok171 : Tryz.prog.funcs[171]? = some Tryz.f171 ∧ fnB 171 Tryz.f171 = true := ⟨Tryz.func171, by kernel_rfl⟩
theorem fok172 : Tryz.prog.funcs[172]? = some Tryz.f172 ∧ fnB 172 Tryz.f172 = true := ⟨Tryz.func172, by kernel_rfl⟩
theorem fok173 : Tryz.prog.funcs[173]? = some Tryz.f173 ∧ fnB 173 Tryz.f173 = true := ⟨Tryz.func173, by kernel_rfl⟩
theorem fok174 : Tryz.prog.funcs[174]? = some Tryz.f174 ∧ fnB 174 Tryz.f174 = true := ⟨Tryz.func174, by kernel_rfl⟩
theorem fok175 : Tryz.prog.funcs[175]? = some Tryz.f175 ∧ fnB 175 Tryz.f175 = true := ⟨Tryz.func175, by kernel_rfl⟩
theorem fok176 : Tryz.prog.funcs[176]? = some Tryz.f176 ∧ fnB 176 Tryz.f176 = true := ⟨Tryz.func176, by kernel_rfl⟩
theorem fok177 : Tryz.prog.funcs[177]? = some Tryz.f177 ∧ fnB 177 Tryz.f177 = true := ⟨Tryz.func177, by kernel_rfl⟩
theorem fok178 : Tryz.prog.funcs[178]? = some Tryz.f178 ∧ fnB 178 Tryz.f178 = true := ⟨Tryz.func178, by kernel_rfl⟩
theorem fok179 : Tryz.prog.funcs[179]? = some Tryz.f179 ∧ fnB 179 Tryz.f179 = true := ⟨Tryz.func179, by kernel_rfl⟩
theorem fok180 : Tryz.prog.funcs[180]? = some Tryz.f180 ∧ fnB 180 Tryz.f180 = true := ⟨Tryz.func180, by kernel_rfl⟩
theorem fok181 : Tryz.prog.funcs[181]? = some Tryz.f181 ∧ fnB 181 Tryz.f181 = true := ⟨Tryz.func181, by kernel_rfl⟩
theorem fok182 : Tryz.prog.funcs[182]? = some Tryz.f182 ∧ fnB 182 Tryz.f182 = true := ⟨Tryz.func182, by kernel_rfl⟩
theorem fok183 : Tryz.prog.funcs[183]? = some Tryz.f183 ∧ fnB 183 Tryz.f183 = true := ⟨Tryz.func183, by kernel_rfl⟩
theorem fok184 : Tryz.prog.funcs[184]? = some Tryz.f184 ∧ fnB 184 Tryz.f184 = true := ⟨Tryz.func184, by kernel_rfl⟩
theorem fok185 : Tryz.prog.funcs[185]? = some Tryz.f185 ∧ fnB 185 Tryz.f185 = true := ⟨Tryz.func185, by kernel_rfl⟩
theorem fok186 : Tryz.prog.funcs[186]? = some Tryz.f186 ∧ fnB 186 Tryz.f186 = true := ⟨Tryz.func186, by kernel_rfl⟩
theorem fok187 : Tryz.prog.funcs[187]? = some Tryz.f187 ∧ fnB 187 Tryz.f187 = true := ⟨Tryz.func187, by kernel_rfl⟩
theorem fok188 : Tryz.prog.funcs[188]? = some Tryz.f188 ∧ fnB 188 Tryz.f188 = true := ⟨Tryz.func188, by kernel_rfl⟩
theorem fok189 : Tryz.prog.funcs[189]? = some Tryz.f189 ∧ fnB 189 Tryz.f189 = true := ⟨Tryz.func189, by kernel_rfl⟩
theorem fok190 : Tryz.prog.funcs[190]? = some Tryz.f190 ∧ fnB 190 Tryz.f190 = true := ⟨Tryz.func190, by kernel_rfl⟩
theorem fok191 : Tryz.prog.funcs[191]? = some Tryz.f191 ∧ fnB 191 Tryz.f191 = true := ⟨Tryz.func191, by kernel_rfl⟩
theorem fok192 : Tryz.prog.funcs[192]? = some Tryz.f192 ∧ fnB 192 Tryz.f192 = true := ⟨Tryz.func192, by kernel_rfl⟩
theorem fok193 : Tryz.prog.funcs[193]? = some Tryz.f193 ∧ fnB 193 Tryz.f193 = true := ⟨Tryz.func193, by kernel_rfl⟩
theorem fok194 : Tryz.prog.funcs[194]? = some Tryz.f194 ∧ fnB 194 Tryz.f194 = true := ⟨Tryz.func194, by kernel_rfl⟩
theorem fok195 : Tryz.prog.funcs[195]? = some Tryz.f195 ∧ fnB 195 Tryz.f195 = true := ⟨Tryz.func195, by kernel_rfl⟩
theorem fok196 : Tryz.prog.funcs[196]? = some Tryz.f196 ∧ fnB 196 Tryz.f196 = true := ⟨Tryz.func196, by kernel_rfl⟩
theorem fok197 : Tryz.prog.funcs[197]? = some Tryz.f197 ∧ fnB 197 Tryz.f197 = true := ⟨Tryz.func197, by kernel_rfl⟩
theorem fok198 : Tryz.prog.funcs[198]? = some Tryz.f198 ∧ fnB 198 Tryz.f198 = true := ⟨Tryz.func198, by kernel_rfl⟩
theorem fok199 : Tryz.prog.funcs[199]? = some Tryz.f199 ∧ fnB 199 Tryz.f199 = true := ⟨Tryz.func199, by kernel_rfl⟩
theorem fok200 : Tryz.prog.funcs[200]? = some Tryz.f200 ∧ fnB 200 Tryz.f200 = true := ⟨Tryz.func200, by kernel_rfl⟩
theorem fok201 : Tryz.prog.funcs[201]? = some Tryz.f201 ∧ fnB 201 Tryz.f201 = true := ⟨Tryz.func201, by kernel_rfl⟩
theorem fok202 : Tryz.prog.funcs[202]? = some Tryz.f202 ∧ fnB 202 Tryz.f202 = true := ⟨Tryz.func202, by kernel_rfl⟩
theorem fok203 : Tryz.prog.funcs[203]? = some Tryz.f203 ∧ fnB 203 Tryz.f203 = true := ⟨Tryz.func203, by kernel_rfl⟩
theorem fok204 : Tryz.prog.funcs[204]? = some Tryz.f204 ∧ fnB 204 Tryz.f204 = true := ⟨Tryz.func204, by kernel_rfl⟩
theorem fok205 : Tryz.prog.funcs[205]? = some Tryz.f205 ∧ fnB 205 Tryz.f205 = true := ⟨Tryz.func205, by kernel_rfl⟩
theorem fok206 : Tryz.prog.funcs[206]? = some Tryz.f206 ∧ fnB 206 Tryz.f206 = true := ⟨Tryz.func206, by kernel_rfl⟩
theorem fok207 : Tryz.prog.funcs[207]? = some Tryz.f207 ∧ fnB 207 Tryz.f207 = true := ⟨Tryz.func207, by kernel_rfl⟩
theorem fok208 : Tryz.prog.funcs[208]? = some Tryz.f208 ∧ fnB 208 Tryz.f208 = true := ⟨Tryz.func208, by kernel_rfl⟩
theorem fok209 : Tryz.prog.funcs[209]? = some Tryz.f209 ∧ fnB 209 Tryz.f209 = true := ⟨Tryz.func209, by kernel_rfl⟩
theorem fok210 : Tryz.prog.funcs[210]? = some Tryz.f210 ∧ fnB 210 Tryz.f210 = true := ⟨Tryz.func210, by kernel_rfl⟩
theorem fok211 : Tryz.prog.funcs[211]? = some Tryz.f211 ∧ fnB 211 Tryz.f211 = true := ⟨Tryz.func211, by kernel_rfl⟩
theorem fok212 : Tryz.prog.funcs[212]? = some Tryz.f212 ∧ fnB 212 Tryz.f212 = true := ⟨Tryz.func212, by kernel_rfl⟩
theorem fok213 : Tryz.prog.funcs[213]? = some Tryz.f213 ∧ fnB 213 Tryz.f213 = true := ⟨Tryz.func213, by kernel_rfl⟩
theorem fok214 : Tryz.prog.funcs[214]? = some Tryz.f214 ∧ fnB 214 Tryz.f214 = true := ⟨Tryz.func214, by kernel_rfl⟩
theorem fok215 : Tryz.prog.funcs[215]? = some Tryz.f215 ∧ fnB 215 Tryz.f215 = true := ⟨Tryz.func215, by kernel_rfl⟩
theorem fok216 : Tryz.prog.funcs[216]? = some Tryz.f216 ∧ fnB 216 Tryz.f216 = true := ⟨Tryz.func216, by kernel_rfl⟩
theorem fok217 : Tryz.prog.funcs[217]? = some Tryz.f217 ∧ fnB 217 Tryz.f217 = true := ⟨Tryz.func217, by kernel_rfl⟩
theorem fok218 : Tryz.prog.funcs[218]? = some Tryz.f218 ∧ fnB 218 Tryz.f218 = true := ⟨Tryz.func218, by kernel_rfl⟩
theorem fok219 : Tryz.prog.funcs[219]? = some Tryz.f219 ∧ fnB 219 Tryz.f219 = true := ⟨Tryz.func219, by kernel_rfl⟩
theorem fok220 : Tryz.prog.funcs[220]? = some Tryz.f220 ∧ fnB 220 Tryz.f220 = true := ⟨Tryz.func220, by kernel_rfl⟩
theorem fok221 : Tryz.prog.funcs[221]? = some Tryz.f221 ∧ fnB 221 Tryz.f221 = true := ⟨Tryz.func221, by kernel_rfl⟩
theorem fok222 : Tryz.prog.funcs[222]? = some Tryz.f222 ∧ fnB 222 Tryz.f222 = true := ⟨Tryz.func222, by kernel_rfl⟩
theorem fok223 : Tryz.prog.funcs[223]? = some Tryz.f223 ∧ fnB 223 Tryz.f223 = true := ⟨Tryz.func223, by kernel_rfl⟩
theorem fok224 : Tryz.prog.funcs[224]? = some Tryz.f224 ∧ fnB 224 Tryz.f224 = true := ⟨Tryz.func224, by kernel_rfl⟩
theorem fok225 : Tryz.prog.funcs[225]? = some Tryz.f225 ∧ fnB 225 Tryz.f225 = true := ⟨Tryz.func225, by kernel_rfl⟩
theorem fok226 : Tryz.prog.funcs[226]? = some Tryz.f226 ∧ fnB 226 Tryz.f226 = true := ⟨Tryz.func226, by kernel_rfl⟩
theorem fok227 : Tryz.prog.funcs[227]? = some Tryz.f227 ∧ fnB 227 Tryz.f227 = true := ⟨Tryz.func227, by kernel_rfl⟩
theorem fok228 : Tryz.prog.funcs[228]? = some Tryz.f228 ∧ fnB 228 Tryz.f228 = true := ⟨Tryz.func228, by kernel_rfl⟩
theorem fok229 : Tryz.prog.funcs[229]? = some Tryz.f229 ∧ fnB 229 Tryz.f229 = true := ⟨Tryz.func229, by kernel_rfl⟩
theorem fok230 : Tryz.prog.funcs[230]? = some Tryz.f230 ∧ fnB 230 Tryz.f230 = true := ⟨Tryz.func230, by kernel_rfl⟩
theorem fok231 : Tryz.prog.funcs[231]? = some Tryz.f231 ∧ fnB 231 Tryz.f231 = true := ⟨Tryz.func231, by kernel_rfl⟩
theorem fok232 : Tryz.prog.funcs[232]? = some Tryz.f232 ∧ fnB 232 Tryz.f232 = true := ⟨Tryz.func232, by kernel_rfl⟩
theorem fok233 : Tryz.prog.funcs[233]? = some Tryz.f233 ∧ fnB 233 Tryz.f233 = true := ⟨Tryz.func233, by kernel_rfl⟩
theorem fok234 : Tryz.prog.funcs[234]? = some Tryz.f234 ∧ fnB 234 Tryz.f234 = true := ⟨Tryz.func234, by kernel_rfl⟩
theorem fok235 : Tryz.prog.funcs[235]? = some Tryz.f235 ∧ fnB 235 Tryz.f235 = true := ⟨Tryz.func235, by kernel_rfl⟩
theorem fok236 : Tryz.prog.funcs[236]? = some Tryz.f236 ∧ fnB 236 Tryz.f236 = true := ⟨Tryz.func236, by kernel_rfl⟩
theorem fok237 : Tryz.prog.funcs[237]? = some Tryz.f237 ∧ fnB 237 Tryz.f237 = true := ⟨Tryz.func237, by kernel_rfl⟩
theorem fok238 : Tryz.prog.funcs[238]? = some Tryz.f238 ∧ fnB 238 Tryz.f238 = true := ⟨Tryz.func238, by kernel_rfl⟩
theorem fok239 : Tryz.prog.funcs[239]? = some Tryz.f239 ∧ fnB 239 Tryz.f239 = true := ⟨Tryz.func239, by kernel_rfl⟩
theorem fok240 : Tryz.prog.funcs[240]? = some Tryz.f240 ∧ fnB 240 Tryz.f240 = true := ⟨Tryz.func240, by kernel_rfl⟩
theorem fok241 : Tryz.prog.funcs[241]? = some Tryz.f241 ∧ fnB 241 Tryz.f241 = true := ⟨Tryz.func241, by kernel_rfl⟩
theorem fok242 : Tryz.prog.funcs[242]? = some Tryz.f242 ∧ fnB 242 Tryz.f242 = true := ⟨Tryz.func242, by kernel_rfl⟩
theorem fok243 : Tryz.prog.funcs[243]? = some Tryz.f243 ∧ fnB 243 Tryz.f243 = true := ⟨Tryz.func243, by kernel_rfl⟩
theorem fok244 : Tryz.prog.funcs[244]? = some Tryz.f244 ∧ fnB 244 Tryz.f244 = true := ⟨Tryz.func244, by kernel_rfl⟩
theorem fok245 : Tryz.prog.funcs[245]? = some Tryz.f245 ∧ fnB 245 Tryz.f245 = true := ⟨Tryz.func245, by kernel_rfl⟩
theorem fok246 : Tryz.prog.funcs[246]? = some Tryz.f246 ∧ fnB 246 Tryz.f246 = true := ⟨Tryz.func246, by kernel_rfl⟩
theorem fok247 : Tryz.prog.funcs[247]? = some Tryz.f247 ∧ fnB 247 Tryz.f247 = true := ⟨Tryz.func247, by kernel_rfl⟩
theorem fok248 : Tryz.prog.funcs[248]? = some Tryz.f248 ∧ fnB 248 Tryz.f248 = true := ⟨Tryz.func248, by kernel_rfl⟩
theorem fok249 : Tryz.prog.funcs[249]? = some Tryz.f249 ∧ fnB 249 Tryz.f249 = true := ⟨Tryz.func249, by kernel_rfl⟩
theorem fok250 : Tryz.prog.funcs[250]? = some Tryz.f250 ∧ fnB 250 Tryz.f250 = true := ⟨Tryz.func250, by kernel_rfl⟩
theorem fok251 : Tryz.prog.funcs[251]? = some Tryz.f251 ∧ fnB 251 Tryz.f251 = true := ⟨Tryz.func251, by kernel_rfl⟩
theorem fok252 : Tryz.prog.funcs[252]? = some Tryz.f252 ∧ fnB 252 Tryz.f252 = true := ⟨Tryz.func252, by kernel_rfl⟩
theorem fok253 : Tryz.prog.funcs[253]? = some Tryz.f253 ∧ fnB 253 Tryz.f253 = true := ⟨Tryz.func253, by kernel_rfl⟩
theorem fok254 : Tryz.prog.funcs[254]? = some Tryz.f254 ∧ fnB 254 Tryz.f254 = true := ⟨Tryz.func254, by kernel_rfl⟩
theorem fok255 : Tryz.prog.funcs[255]? = some Tryz.f255 ∧ fnB 255 Tryz.f255 = true := ⟨Tryz.func255, by kernel_rfl⟩
theorem fok256 : Tryz.prog.funcs[256]? = some Tryz.f256 ∧ fnB 256 Tryz.f256 = true := ⟨Tryz.func256, by kernel_rfl⟩
theorem fok257 : Tryz.prog.funcs[257]? = some Tryz.f257 ∧ fnB 257 Tryz.f257 = true := ⟨Tryz.func257, by kernel_rfl⟩
theorem fok258 : Tryz.prog.funcs[258]? = some Tryz.f258 ∧ fnB 258 Tryz.f258 = true := ⟨Tryz.func258, by kernel_rfl⟩
theorem fok259 : Tryz.prog.funcs[259]? = some Tryz.f259 ∧ fnB 259 Tryz.f259 = true := ⟨Tryz.func259, by kernel_rfl⟩
theorem fok260 : Tryz.prog.funcs[260]? = some Tryz.f260 ∧ fnB 260 Tryz.f260 = true := ⟨Tryz.func260, by kernel_rfl⟩
theorem fok261 : Tryz.prog.funcs[261]? = some Tryz.f261 ∧ fnB 261 Tryz.f261 = true := ⟨Tryz.func261, by kernel_rfl⟩
theorem fok262 : Tryz.prog.funcs[262]? = some Tryz.f262 ∧ fnB 262 Tryz.f262 = true := ⟨Tryz.func262, by kernel_rfl⟩
theorem fok263 : Tryz.prog.funcs[263]? = some Tryz.f263 ∧ fnB 263 Tryz.f263 = true := ⟨Tryz.func263, by kernel_rfl⟩
theorem fok264 : Tryz.prog.funcs[264]? = some Tryz.f264 ∧ fnB 264 Tryz.f264 = true := ⟨Tryz.func264, by kernel_rfl⟩
theorem fok265 : Tryz.prog.funcs[265]? = some Tryz.f265 ∧ fnB 265 Tryz.f265 = true := ⟨Tryz.func265, by kernel_rfl⟩
theorem fok266 : Tryz.prog.funcs[266]? = some Tryz.f266 ∧ fnB 266 Tryz.f266 = true := ⟨Tryz.func266, by kernel_rfl⟩
theorem fok267 : Tryz.prog.funcs[267]? = some Tryz.f267 ∧ fnB 267 Tryz.f267 = true := ⟨Tryz.func267, by kernel_rfl⟩
theorem fok268 : Tryz.prog.funcs[268]? = some Tryz.f268 ∧ fnB 268 Tryz.f268 = true := ⟨Tryz.func268, by kernel_rfl⟩
theorem fok269 : Tryz.prog.funcs[269]? = some Tryz.f269 ∧ fnB 269 Tryz.f269 = true := ⟨Tryz.func269, by kernel_rfl⟩
theorem fok270 : Tryz.prog.funcs[270]? = some Tryz.f270 ∧ fnB 270 Tryz.f270 = true := ⟨Tryz.func270, by kernel_rfl⟩
theorem fok271 : Tryz.prog.funcs[271]? = some Tryz.f271 ∧ fnB 271 Tryz.f271 = true := ⟨Tryz.func271, by kernel_rfl⟩
theorem fok272 : Tryz.prog.funcs[272]? = some Tryz.f272 ∧ fnB 272 Tryz.f272 = true := ⟨Tryz.func272, by kernel_rfl⟩
theorem fok273 : Tryz.prog.funcs[273]? = some Tryz.f273 ∧ fnB 273 Tryz.f273 = true := ⟨Tryz.func273, by kernel_rfl⟩
theorem fok274 : Tryz.prog.funcs[274]? = some Tryz.f274 ∧ fnB 274 Tryz.f274 = true := ⟨Tryz.func274, by kernel_rfl⟩
theorem fok275 : Tryz.prog.funcs[275]? = some Tryz.f275 ∧ fnB 275 Tryz.f275 = true := ⟨Tryz.func275, by kernel_rfl⟩
theorem fok276 : Tryz.prog.funcs[276]? = some Tryz.f276 ∧ fnB 276 Tryz.f276 = true := ⟨Tryz.func276, by kernel_rfl⟩
theorem fok277 : Tryz.prog.funcs[277]? = some Tryz.f277 ∧ fnB 277 Tryz.f277 = true := ⟨Tryz.func277, by kernel_rfl⟩
theorem fok278 : Tryz.prog.funcs[278]? = some Tryz.f278 ∧ fnB 278 Tryz.f278 = true := ⟨Tryz.func278, by kernel_rfl⟩
theorem fok279 : Tryz.prog.funcs[279]? = some Tryz.f279 ∧ fnB 279 Tryz.f279 = true := ⟨Tryz.func279, by kernel_rfl⟩
theorem fok280 : Tryz.prog.funcs[280]? = some Tryz.f280 ∧ fnB 280 Tryz.f280 = true := ⟨Tryz.func280, by kernel_rfl⟩
theorem fok281 : Tryz.prog.funcs[281]? = some Tryz.f281 ∧ fnB 281 Tryz.f281 = true := ⟨Tryz.func281, by kernel_rfl⟩
theorem fok282 : Tryz.prog.funcs[282]? = some Tryz.f282 ∧ fnB 282 Tryz.f282 = true := ⟨Tryz.func282, by kernel_rfl⟩
theorem fok283 : Tryz.prog.funcs[283]? = some Tryz.f283 ∧ fnB 283 Tryz.f283 = true := ⟨Tryz.func283, by kernel_rfl⟩
theorem fok284 : Tryz.prog.funcs[284]? = some Tryz.f284 ∧ fnB 284 Tryz.f284 = true := ⟨Tryz.func284, by kernel_rfl⟩
theorem fok285 : Tryz.prog.funcs[285]? = some Tryz.f285 ∧ fnB 285 Tryz.f285 = true := ⟨Tryz.func285, by kernel_rfl⟩
theorem fok286 : Tryz.prog.funcs[286]? = some Tryz.f286 ∧ fnB 286 Tryz.f286 = true := ⟨Tryz.func286, by kernel_rfl⟩
theorem fok287 : Tryz.prog.funcs[287]? = some Tryz.f287 ∧ fnB 287 Tryz.f287 = true := ⟨Tryz.func287, by kernel_rfl⟩
theorem fok288 : Tryz.prog.funcs[288]? = some Tryz.f288 ∧ fnB 288 Tryz.f288 = true := ⟨Tryz.func288, by kernel_rfl⟩
theorem fok289 : Tryz.prog.funcs[289]? = some Tryz.f289 ∧ fnB 289 Tryz.f289 = true := ⟨Tryz.func289, by kernel_rfl⟩
theorem fok290 : Tryz.prog.funcs[290]? = some Tryz.f290 ∧ fnB 290 Tryz.f290 = true := ⟨Tryz.func290, by kernel_rfl⟩
theorem fok291 : Tryz.prog.funcs[291]? = some Tryz.f291 ∧ fnB 291 Tryz.f291 = true := ⟨Tryz.func291, by kernel_rfl⟩
theorem fok292 : Tryz.prog.funcs[292]? = some Tryz.f292 ∧ fnB 292 Tryz.f292 = true := ⟨Tryz.func292, by kernel_rfl⟩
theorem fok293 : Tryz.prog.funcs[293]? = some Tryz.f293 ∧ fnB 293 Tryz.f293 = true := ⟨Tryz.func293, by kernel_rfl⟩
theorem fok294 : Tryz.prog.funcs[294]? = some Tryz.f294 ∧ fnB 294 Tryz.f294 = true := ⟨Tryz.func294, by kernel_rfl⟩
theorem fok295 : Tryz.prog.funcs[295]? = some Tryz.f295 ∧ fnB 295 Tryz.f295 = true := ⟨Tryz.func295, by kernel_rfl⟩
theorem fok296 : Tryz.prog.funcs[296]? = some Tryz.f296 ∧ fnB 296 Tryz.f296 = true := ⟨Tryz.func296, by kernel_rfl⟩
theorem fok297 : Tryz.prog.funcs[297]? = some Tryz.f297 ∧ fnB 297 Tryz.f297 = true := ⟨Tryz.func297, by kernel_rfl⟩
theorem fok298 : Tryz.prog.funcs[298]? = some Tryz.f298 ∧ fnB 298 Tryz.f298 = true := ⟨Tryz.func298, by kernel_rfl⟩
theorem fok299 : Tryz.prog.funcs[299]? = some Tryz.f299 ∧ fnB 299 Tryz.f299 = true := ⟨Tryz.func299, by kernel_rfl⟩
theorem fok300 : Tryz.prog.funcs[300]? = some Tryz.f300 ∧ fnB 300 Tryz.f300 = true := ⟨Tryz.func300, by kernel_rfl⟩
theorem fok301 : Tryz.prog.funcs[301]? = some Tryz.f301 ∧ fnB 301 Tryz.f301 = true := ⟨Tryz.func301, by kernel_rfl⟩
theorem fok302 : Tryz.prog.funcs[302]? = some Tryz.f302 ∧ fnB 302 Tryz.f302 = true := ⟨Tryz.func302, by kernel_rfl⟩
theorem fok303 : Tryz.prog.funcs[303]? = some Tryz.f303 ∧ fnB 303 Tryz.f303 = true := ⟨Tryz.func303, by kernel_rfl⟩
theorem fok304 : Tryz.prog.funcs[304]? = some Tryz.f304 ∧ fnB 304 Tryz.f304 = true := ⟨Tryz.func304, by kernel_rfl⟩
theorem fok305 : Tryz.prog.funcs[305]? = some Tryz.f305 ∧ fnB 305 Tryz.f305 = true := ⟨Tryz.func305, by kernel_rfl⟩
theorem fok306 : Tryz.prog.funcs[306]? = some Tryz.f306 ∧ fnB 306 Tryz.f306 = true := ⟨Tryz.func306, by kernel_rfl⟩
theorem fok307 : Tryz.prog.funcs[307]? = some Tryz.f307 ∧ fnB 307 Tryz.f307 = true := ⟨Tryz.func307, by kernel_rfl⟩
theorem fok308 : Tryz.prog.funcs[308]? = some Tryz.f308 ∧ fnB 308 Tryz.f308 = true := ⟨Tryz.func308, by kernel_rfl⟩
theorem fok309 : Tryz.prog.funcs[309]? = some Tryz.f309 ∧ fnB 309 Tryz.f309 = true := ⟨Tryz.func309, by kernel_rfl⟩
theorem fok310 : Tryz.prog.funcs[310]? = some Tryz.f310 ∧ fnB 310 Tryz.f310 = true := ⟨Tryz.func310, by kernel_rfl⟩
theorem fok311 : Tryz.prog.funcs[311]? = some Tryz.f311 ∧ fnB 311 Tryz.f311 = true := ⟨Tryz.func311, by kernel_rfl⟩
theorem fok312 : Tryz.prog.funcs[312]? = some Tryz.f312 ∧ fnB 312 Tryz.f312 = true := ⟨Tryz.func312, by kernel_rfl⟩
theorem fok313 : Tryz.prog.funcs[313]? = some Tryz.f313 ∧ fnB 313 Tryz.f313 = true := ⟨Tryz.func313, by kernel_rfl⟩
theorem fok314 : Tryz.prog.funcs[314]? = some Tryz.f314 ∧ fnB 314 Tryz.f314 = true := ⟨Tryz.func314, by kernel_rfl⟩
theorem fok315 : Tryz.prog.funcs[315]? = some Tryz.f315 ∧ fnB 315 Tryz.f315 = true := ⟨Tryz.func315, by kernel_rfl⟩
theorem fok316 : Tryz.prog.funcs[316]? = some Tryz.f316 ∧ fnB 316 Tryz.f316 = true := ⟨Tryz.func316, by kernel_rfl⟩
theorem fok317 : Tryz.prog.funcs[317]? = some Tryz.f317 ∧ fnB 317 Tryz.f317 = true := ⟨Tryz.func317, by kernel_rfl⟩
theorem fok318 : Tryz.prog.funcs[318]? = some Tryz.f318 ∧ fnB 318 Tryz.f318 = true := ⟨Tryz.func318, by kernel_rfl⟩
theorem fok319 : Tryz.prog.funcs[319]? = some Tryz.f319 ∧ fnB 319 Tryz.f319 = true := ⟨Tryz.func319, by kernel_rfl⟩
theorem fok320 : Tryz.prog.funcs[320]? = some Tryz.f320 ∧ fnB 320 Tryz.f320 = true := ⟨Tryz.func320, by kernel_rfl⟩
theorem fok321 : Tryz.prog.funcs[321]? = some Tryz.f321 ∧ fnB 321 Tryz.f321 = true := ⟨Tryz.func321, by kernel_rfl⟩
theorem fok322 : Tryz.prog.funcs[322]? = some Tryz.f322 ∧ fnB 322 Tryz.f322 = true := ⟨Tryz.func322, by kernel_rfl⟩
theorem fok323 : Tryz.prog.funcs[323]? = some Tryz.f323 ∧ fnB 323 Tryz.f323 = true := ⟨Tryz.func323, by kernel_rfl⟩
theorem fok324 : Tryz.prog.funcs[324]? = some Tryz.f324 ∧ fnB 324 Tryz.f324 = true := ⟨Tryz.func324, by kernel_rfl⟩
theorem fok325 : Tryz.prog.funcs[325]? = some Tryz.f325 ∧ fnB 325 Tryz.f325 = true := ⟨Tryz.func325, by kernel_rfl⟩
theorem fok326 : Tryz.prog.funcs[326]? = some Tryz.f326 ∧ fnB 326 Tryz.f326 = true := ⟨Tryz.func326, by kernel_rfl⟩
theorem fok327 : Tryz.prog.funcs[327]? = some Tryz.f327 ∧ fnB 327 Tryz.f327 = true := ⟨Tryz.func327, by kernel_rfl⟩
theorem fok328 : Tryz.prog.funcs[328]? = some Tryz.f328 ∧ fnB 328 Tryz.f328 = true := ⟨Tryz.func328, by kernel_rfl⟩
theorem fok329 : Tryz.prog.funcs[329]? = some Tryz.f329 ∧ fnB 329 Tryz.f329 = true := ⟨Tryz.func329, by kernel_rfl⟩
theorem fok330 : Tryz.prog.funcs[330]? = some Tryz.f330 ∧ fnB 330 Tryz.f330 = true := ⟨Tryz.func330, by kernel_rfl⟩
theorem fok331 : Tryz.prog.funcs[331]? = some Tryz.f331 ∧ fnB 331 Tryz.f331 = true := ⟨Tryz.func331, by kernel_rfl⟩
theorem fok332 : Tryz.prog.funcs[332]? = some Tryz.f332 ∧ fnB 332 Tryz.f332 = true := ⟨Tryz.func332, by kernel_rfl⟩
theorem fok333 : Tryz.prog.funcs[333]? = some Tryz.f333 ∧ fnB 333 Tryz.f333 = true := ⟨Tryz.func333, by kernel_rfl⟩
theorem fok334 : Tryz.prog.funcs[334]? = some Tryz.f334 ∧ fnB 334 Tryz.f334 = true := ⟨Tryz.func334, by kernel_rfl⟩
theorem fok335 : Tryz.prog.funcs[335]? = some Tryz.f335 ∧ fnB 335 Tryz.f335 = true := ⟨Tryz.func335, by kernel_rfl⟩
theorem fok336 : Tryz.prog.funcs[336]? = some Tryz.f336 ∧ fnB 336 Tryz.f336 = true := ⟨Tryz.func336, by kernel_rfl⟩
theorem fok337 : Tryz.prog.funcs[337]? = some Tryz.f337 ∧ fnB 337 Tryz.f337 = true := ⟨Tryz.func337, by kernel_rfl⟩
theorem fok338 : Tryz.prog.funcs[338]? = some Tryz.f338 ∧ fnB 338 Tryz.f338 = true := ⟨Tryz.func338, by kernel_rfl⟩
theorem fok339 : Tryz.prog.funcs[339]? = some Tryz.f339 ∧ fnB 339 Tryz.f339 = true := ⟨Tryz.func339, by kernel_rfl⟩
theorem fok340 : Tryz.prog.funcs[340]? = some Tryz.f340 ∧ fnB 340 Tryz.f340 = true := ⟨Tryz.func340, by kernel_rfl⟩
theorem fok341 : Tryz.prog.funcs[341]? = some Tryz.f341 ∧ fnB 341 Tryz.f341 = true := ⟨Tryz.func341, by kernel_rfl⟩
theorem fok342 : Tryz.prog.funcs[342]? = some Tryz.f342 ∧ fnB 342 Tryz.f342 = true := ⟨Tryz.func342, by kernel_rfl⟩
theorem fok343 : Tryz.prog.funcs[343]? = some Tryz.f343 ∧ fnB 343 Tryz.f343 = true := ⟨Tryz.func343, by kernel_rfl⟩
theorem fok344 : Tryz.prog.funcs[344]? = some Tryz.f344 ∧ fnB 344 Tryz.f344 = true := ⟨Tryz.func344, by kernel_rfl⟩
theorem fok345 : Tryz.prog.funcs[345]? = some Tryz.f345 ∧ fnB 345 Tryz.f345 = true := ⟨Tryz.func345, by kernel_rfl⟩
theorem fok346 : Tryz.prog.funcs[346]? = some Tryz.f346 ∧ fnB 346 Tryz.f346 = true := ⟨Tryz.func346, by kernel_rfl⟩
theorem fok347 : Tryz.prog.funcs[347]? = some Tryz.f347 ∧ fnB 347 Tryz.f347 = true := ⟨Tryz.func347, by kernel_rfl⟩
theorem fok348 : Tryz.prog.funcs[348]? = some Tryz.f348 ∧ fnB 348 Tryz.f348 = true := ⟨Tryz.func348, by kernel_rfl⟩
theorem fok349 : Tryz.prog.funcs[349]? = some Tryz.f349 ∧ fnB 349 Tryz.f349 = true := ⟨Tryz.func349, by kernel_rfl⟩
theorem fok350 : Tryz.prog.funcs[350]? = some Tryz.f350 ∧ fnB 350 Tryz.f350 = true := ⟨Tryz.func350, by kernel_rfl⟩
theorem fok351 : Tryz.prog.funcs[351]? = some Tryz.f351 ∧ fnB 351 Tryz.f351 = true := ⟨Tryz.func351, by kernel_rfl⟩
theorem fok352 : Tryz.prog.funcs[352]? = some Tryz.f352 ∧ fnB 352 Tryz.f352 = true := ⟨Tryz.func352, by kernel_rfl⟩
theorem fok353 : Tryz.prog.funcs[353]? = some Tryz.f353 ∧ fnB 353 Tryz.f353 = true := ⟨Tryz.func353, by kernel_rfl⟩
theorem fok354 : Tryz.prog.funcs[354]? = some Tryz.f354 ∧ fnB 354 Tryz.f354 = true := ⟨Tryz.func354, by kernel_rfl⟩
theorem fok355 : Tryz.prog.funcs[355]? = some Tryz.f355 ∧ fnB 355 Tryz.f355 = true := ⟨Tryz.func355, by kernel_rfl⟩
theorem fok356 : Tryz.prog.funcs[356]? = some Tryz.f356 ∧ fnB 356 Tryz.f356 = true := ⟨Tryz.func356, by kernel_rfl⟩
theorem fok357 : Tryz.prog.funcs[357]? = some Tryz.f357 ∧ fnB 357 Tryz.f357 = true := ⟨Tryz.func357, by kernel_rfl⟩
theorem fok358 : Tryz.prog.funcs[358]? = some Tryz.f358 ∧ fnB 358 Tryz.f358 = true := ⟨Tryz.func358, by kernel_rfl⟩
theorem fok359 : Tryz.prog.funcs[359]? = some Tryz.f359 ∧ fnB 359 Tryz.f359 = true := ⟨Tryz.func359, by kernel_rfl⟩
theorem fok360 : Tryz.prog.funcs[360]? = some Tryz.f360 ∧ fnB 360 Tryz.f360 = true := ⟨Tryz.func360, by kernel_rfl⟩
theorem fok361 : Tryz.prog.funcs[361]? = some Tryz.f361 ∧ fnB 361 Tryz.f361 = true := ⟨Tryz.func361, by kernel_rfl⟩
theorem fok362 : Tryz.prog.funcs[362]? = some Tryz.f362 ∧ fnB 362 Tryz.f362 = true := ⟨Tryz.func362, by kernel_rfl⟩
theorem fok363 : Tryz.prog.funcs[363]? = some Tryz.f363 ∧ fnB 363 Tryz.f363 = true := ⟨Tryz.func363, by kernel_rfl⟩
theorem fok364 : Tryz.prog.funcs[364]? = some Tryz.f364 ∧ fnB 364 Tryz.f364 = true := ⟨Tryz.func364, by kernel_rfl⟩
theorem fok365 : Tryz.prog.funcs[365]? = some Tryz.f365 ∧ fnB 365 Tryz.f365 = true := ⟨Tryz.func365, by kernel_rfl⟩
theorem fok366 : Tryz.prog.funcs[366]? = some Tryz.f366 ∧ fnB 366 Tryz.f366 = true := ⟨Tryz.func366, by kernel_rfl⟩
theorem fok367 : Tryz.prog.funcs[367]? = some Tryz.f367 ∧ fnB 367 Tryz.f367 = true := ⟨Tryz.func367, by kernel_rfl⟩
theorem fok368 : Tryz.prog.funcs[368]? = some Tryz.f368 ∧ fnB 368 Tryz.f368 = true := ⟨Tryz.func368, by kernel_rfl⟩
theorem fok369 : Tryz.prog.funcs[369]? = some Tryz.f369 ∧ fnB 369 Tryz.f369 = true := ⟨Tryz.func369, by kernel_rfl⟩
theorem fok370 : Tryz.prog.funcs[370]? = some Tryz.f370 ∧ fnB 370 Tryz.f370 = true := ⟨Tryz.func370, by kernel_rfl⟩
theorem fok371 : Tryz.prog.funcs[371]? = some Tryz.f371 ∧ fnB 371 Tryz.f371 = true := ⟨Tryz.func371, by kernel_rfl⟩
theorem fok372 : Tryz.prog.funcs[372]? = some Tryz.f372 ∧ fnB 372 Tryz.f372 = true := ⟨Tryz.func372, by kernel_rfl⟩
theorem fok373 : Tryz.prog.funcs[373]? = some Tryz.f373 ∧ fnB 373 Tryz.f373 = true := ⟨Tryz.func373, by kernel_rfl⟩
theorem fokTree : TrAll (fun f fn => Tryz.prog.funcs[f]? = some fn ∧ fnB f fn = true) 0 1 FTab := ⟨fok0, ⟨fok1, ⟨fok3, ⟨fok7, ⟨fok15, ⟨fok31, ⟨fok63, ⟨fok127, ⟨fok255, trivial, trivial⟩, trivial⟩, ⟨fok191, ⟨fok319, trivial, trivial⟩, trivial⟩⟩, ⟨fok95, ⟨fok159, ⟨fok287, trivial, trivial⟩, trivial⟩, ⟨fok223, ⟨fok351, trivial, trivial⟩, trivial⟩⟩⟩, ⟨fok47, ⟨fok79, ⟨fok143, ⟨fok271, trivial, trivial⟩, trivial⟩, ⟨fok207, ⟨fok335, trivial, trivial⟩, trivial⟩⟩, ⟨fok111, ⟨fok175, ⟨fok303, trivial, trivial⟩, trivial⟩, ⟨fok239, ⟨fok367, trivial, trivial⟩, trivial⟩⟩⟩⟩, ⟨fok23, ⟨fok39, ⟨fok71, ⟨fok135, ⟨fok263, trivial, trivial⟩, trivial⟩, ⟨fok199, ⟨fok327, trivial, trivial⟩, trivial⟩⟩, ⟨fok103, ⟨fok167, ⟨fok295, trivial, trivial⟩, trivial⟩, ⟨fok231, ⟨fok359, trivial, trivial⟩, trivial⟩⟩⟩, ⟨fok55, ⟨fok87, ⟨fok151, ⟨fok279, trivial, trivial⟩, trivial⟩, ⟨fok215, ⟨fok343, trivial, trivial⟩, trivial⟩⟩, ⟨fok119, ⟨fok183, ⟨fok311, trivial, trivial⟩, trivial⟩, ⟨fok247, trivial, trivial⟩⟩⟩⟩⟩, ⟨fok11, ⟨fok19, ⟨fok35, ⟨fok67, ⟨fok131, ⟨fok259, trivial, trivial⟩, trivial⟩, ⟨fok195, ⟨fok323, trivial, trivial⟩, trivial⟩⟩, ⟨fok99, ⟨fok163, ⟨fok291, trivial, trivial⟩, trivial⟩, ⟨fok227, ⟨fok355, trivial, trivial⟩, trivial⟩⟩⟩, ⟨fok51, ⟨fok83, ⟨fok147, ⟨fok275, trivial, trivial⟩, trivial⟩, ⟨fok211, ⟨fok339, trivial, trivial⟩, trivial⟩⟩, ⟨fok115, ⟨fok179, ⟨fok307, trivial, trivial⟩, trivial⟩, ⟨fok243, ⟨fok371, trivial, trivial⟩, trivial⟩⟩⟩⟩, ⟨fok27, ⟨fok43, ⟨fok75, ⟨fok139, ⟨fok267, trivial, trivial⟩, trivial⟩, ⟨fok203, ⟨fok331, trivial, trivial⟩, trivial⟩⟩, ⟨fok107, ⟨fok171, ⟨fok299, trivial, trivial⟩, trivial⟩, ⟨fok235, ⟨fok363, trivial, trivial⟩, trivial⟩⟩⟩, ⟨fok59, ⟨fok91, ⟨fok155, ⟨fok283, trivial, trivial⟩, trivial⟩, ⟨fok219, ⟨fok347, trivial, trivial⟩, trivial⟩⟩, ⟨fok123, ⟨fok187, ⟨fok315, trivial, trivial⟩, trivial⟩, ⟨fok251, trivial, trivial⟩⟩⟩⟩⟩⟩, ⟨fok5, ⟨fok9, ⟨fok17, ⟨fok33, ⟨fok65, ⟨fok129, ⟨fok257, trivial, trivial⟩, trivial⟩, ⟨fok193, ⟨fok321, trivial, trivial⟩, trivial⟩⟩, ⟨fok97, ⟨fok161, ⟨fok289, trivial, trivial⟩, trivial⟩, ⟨fok225, ⟨fok353, trivial, trivial⟩, trivial⟩⟩⟩, ⟨fok49, ⟨fok81, ⟨fok145, ⟨fok273, trivial, trivial⟩, trivial⟩, ⟨fok209, ⟨fok337, trivial, trivial⟩, trivial⟩⟩, ⟨fok113, ⟨fok177, ⟨fok305, trivial, trivial⟩, trivial⟩, ⟨fok241, ⟨fok369, trivial, trivial⟩, trivial⟩⟩⟩⟩, ⟨fok25, ⟨fok41, ⟨fok73, ⟨fok137, ⟨fok265, trivial, trivial⟩, trivial⟩, ⟨fok201, ⟨fok329, trivial, trivial⟩, trivial⟩⟩, ⟨fok105, ⟨fok169, ⟨fok297, trivial, trivial⟩, trivial⟩, ⟨fok233, ⟨fok361, trivial, trivial⟩, trivial⟩⟩⟩, ⟨fok57, ⟨fok89, ⟨fok153, ⟨fok281, trivial, trivial⟩, trivial⟩, ⟨fok217, ⟨fok345, trivial, trivial⟩, trivial⟩⟩, ⟨fok121, ⟨fok185, ⟨fok313, trivial, trivial⟩, trivial⟩, ⟨fok249, trivial, trivial⟩⟩⟩⟩⟩, ⟨fok13, ⟨fok21, ⟨fok37, ⟨fok69, ⟨fok133, ⟨fok261, trivial, trivial⟩, trivial⟩, ⟨fok197, ⟨fok325, trivial, trivial⟩, trivial⟩⟩, ⟨fok101, ⟨fok165, ⟨fok293, trivial, trivial⟩, trivial⟩, ⟨fok229, ⟨fok357, trivial, trivial⟩, trivial⟩⟩⟩, ⟨fok53, ⟨fok85, ⟨fok149, ⟨fok277, trivial, trivial⟩, trivial⟩, ⟨fok213, ⟨fok341, trivial, trivial⟩, trivial⟩⟩, ⟨fok117, ⟨fok181, ⟨fok309, trivial, trivial⟩, trivial⟩, ⟨fok245, ⟨fok373, trivial, trivial⟩, trivial⟩⟩⟩⟩, ⟨fok29, ⟨fok45, ⟨fok77, ⟨fok141, ⟨fok269, trivial, trivial⟩, trivial⟩, ⟨fok205, ⟨fok333, trivial, trivial⟩, trivial⟩⟩, ⟨fok109, ⟨fok173, ⟨fok301, trivial, trivial⟩, trivial⟩, ⟨fok237, ⟨fok365, trivial, trivial⟩, trivial⟩⟩⟩, ⟨fok61, ⟨fok93, ⟨fok157, ⟨fok285, trivial, trivial⟩, trivial⟩, ⟨fok221, ⟨fok349, trivial, trivial⟩, trivial⟩⟩, ⟨fok125, ⟨fok189, ⟨fok317, trivial, trivial⟩, trivial⟩, ⟨fok253, trivial, trivial⟩⟩⟩⟩⟩⟩⟩, ⟨fok2, ⟨fok4, ⟨fok8, ⟨fok16, ⟨fok32, ⟨fok64, ⟨fok128, ⟨fok256, trivial, trivial⟩, trivial⟩, ⟨fok192, ⟨fok320, trivial, trivial⟩, trivial⟩⟩, ⟨fok96, ⟨fok160, ⟨fok288, trivial, trivial⟩, trivial⟩, ⟨fok224, ⟨fok352, trivial, trivial⟩, trivial⟩⟩⟩, ⟨fok48, ⟨fok80, ⟨fok144, ⟨fok272, trivial, trivial⟩, trivial⟩, ⟨fok208, ⟨fok336, trivial, trivial⟩, trivial⟩⟩, ⟨fok112, ⟨fok176, ⟨fok304, trivial, trivial⟩, trivial⟩, ⟨fok240, ⟨fok368, trivial, trivial⟩, trivial⟩⟩⟩⟩, ⟨fok24, ⟨fok40, ⟨fok72, ⟨fok136, ⟨fok264, trivial, trivial⟩, trivial⟩, ⟨fok200, ⟨fok328, trivial, trivial⟩, trivial⟩⟩, ⟨fok104, ⟨fok168, ⟨fok296, trivial, trivial⟩, trivial⟩, ⟨fok232, ⟨fok360, trivial, trivial⟩, trivial⟩⟩⟩, ⟨fok56, ⟨fok88, ⟨fok152, ⟨fok280, trivial, trivial⟩, trivial⟩, ⟨fok216, ⟨fok344, trivial, trivial⟩, trivial⟩⟩, ⟨fok120, ⟨fok184, ⟨fok312, trivial, trivial⟩, trivial⟩, ⟨fok248, trivial, trivial⟩⟩⟩⟩⟩, ⟨fok12, ⟨fok20, ⟨fok36, ⟨fok68, ⟨fok132, ⟨fok260, trivial, trivial⟩, trivial⟩, ⟨fok196, ⟨fok324, trivial, trivial⟩, trivial⟩⟩, ⟨fok100, ⟨fok164, ⟨fok292, trivial, trivial⟩, trivial⟩, ⟨fok228, ⟨fok356, trivial, trivial⟩, trivial⟩⟩⟩, ⟨fok52, ⟨fok84, ⟨fok148, ⟨fok276, trivial, trivial⟩, trivial⟩, ⟨fok212, ⟨fok340, trivial, trivial⟩, trivial⟩⟩, ⟨fok116, ⟨fok180, ⟨fok308, trivial, trivial⟩, trivial⟩, ⟨fok244, ⟨fok372, trivial, trivial⟩, trivial⟩⟩⟩⟩, ⟨fok28, ⟨fok44, ⟨fok76, ⟨fok140, ⟨fok268, trivial, trivial⟩, trivial⟩, ⟨fok204, ⟨fok332, trivial, trivial⟩, trivial⟩⟩, ⟨fok108, ⟨fok172, ⟨fok300, trivial, trivial⟩, trivial⟩, ⟨fok236, ⟨fok364, trivial, trivial⟩, trivial⟩⟩⟩, ⟨fok60, ⟨fok92, ⟨fok156, ⟨fok284, trivial, trivial⟩, trivial⟩, ⟨fok220, ⟨fok348, trivial, trivial⟩, trivial⟩⟩, ⟨fok124, ⟨fok188, ⟨fok316, trivial, trivial⟩, trivial⟩, ⟨fok252, trivial, trivial⟩⟩⟩⟩⟩⟩, ⟨fok6, ⟨fok10, ⟨fok18, ⟨fok34, ⟨fok66, ⟨fok130, ⟨fok258, trivial, trivial⟩, trivial⟩, ⟨fok194, ⟨fok322, trivial, trivial⟩, trivial⟩⟩, ⟨fok98, ⟨fok162, ⟨fok290, trivial, trivial⟩, trivial⟩, ⟨fok226, ⟨fok354, trivial, trivial⟩, trivial⟩⟩⟩, ⟨fok50, ⟨fok82, ⟨fok146, ⟨fok274, trivial, trivial⟩, trivial⟩, ⟨fok210, ⟨fok338, trivial, trivial⟩, trivial⟩⟩, ⟨fok114, ⟨fok178, ⟨fok306, trivial, trivial⟩, trivial⟩, ⟨fok242, ⟨fok370, trivial, trivial⟩, trivial⟩⟩⟩⟩, ⟨fok26, ⟨fok42, ⟨fok74, ⟨fok138, ⟨fok266, trivial, trivial⟩, trivial⟩, ⟨fok202, ⟨fok330, trivial, trivial⟩, trivial⟩⟩, ⟨fok106, ⟨fok170, ⟨fok298, trivial, trivial⟩, trivial⟩, ⟨fok234, ⟨fok362, trivial, trivial⟩, trivial⟩⟩⟩, ⟨fok58, ⟨fok90, ⟨fok154, ⟨fok282, trivial, trivial⟩, trivial⟩, ⟨fok218, ⟨fok346, trivial, trivial⟩, trivial⟩⟩, ⟨fok122, ⟨fok186, ⟨fok314, trivial, trivial⟩, trivial⟩, ⟨fok250, trivial, trivial⟩⟩⟩⟩⟩, ⟨fok14, ⟨fok22, ⟨fok38, ⟨fok70, ⟨fok134, ⟨fok262, trivial, trivial⟩, trivial⟩, ⟨fok198, ⟨fok326, trivial, trivial⟩, trivial⟩⟩, ⟨fok102, ⟨fok166, ⟨fok294, trivial, trivial⟩, trivial⟩, ⟨fok230, ⟨fok358, trivial, trivial⟩, trivial⟩⟩⟩, ⟨fok54, ⟨fok86, ⟨fok150, ⟨fok278, trivial, trivial⟩, trivial⟩, ⟨fok214, ⟨fok342, trivial, trivial⟩, trivial⟩⟩, ⟨fok118, ⟨fok182, ⟨fok310, trivial, trivial⟩, trivial⟩, ⟨fok246, trivial, trivial⟩⟩⟩⟩, ⟨fok30, ⟨fok46, ⟨fok78, ⟨fok142, ⟨fok270, trivial, trivial⟩, trivial⟩, ⟨fok206, ⟨fok334, trivial, trivial⟩, trivial⟩⟩, ⟨fok110, ⟨fok174, ⟨fok302, trivial, trivial⟩, trivial⟩, ⟨fok238, ⟨fok366, trivial, trivial⟩, trivial⟩⟩⟩, ⟨fok62, ⟨fok94, ⟨fok158, ⟨fok286, trivial, trivial⟩, trivial⟩, ⟨fok222, ⟨fok350, trivial, trivial⟩, trivial⟩⟩, ⟨fok126, ⟨fok190, ⟨fok318, trivial, trivial⟩, trivial⟩, ⟨fok254, trivial, trivial⟩⟩⟩⟩⟩⟩⟩⟩
theorem fokAll : FOK E0 Tryz.prog := fun f fn h => by
  have hq := fokTree.get f fn h
  rw [Nat.zero_add, Nat.one_mul] at hq
  obtain ⟨h1, h2⟩ := hq
  simp only [fnB, Bool.and_eq_true] at h2
  refine ⟨h1, fun e => ?_, fun c hc => ?_⟩
  · have h3 := h2.1
    rw [e] at h3
    simp at h3
  · have h3 := h2.2
    rw [hc] at h3
    exact h3
end Go.U
end

section
namespace Go.U
open Go.Proofs
set_option autoImplicit false
set_option maxRecDepth 100000

theorem meth_run {P : Program} {t : TypeId} {inf : TypeInfo} (hti : ∀ w, (typeInfo t).run P w = .ok inf w) {name : String} {mr : Method} (hf : inf.methods.find? (·.name == name) = some mr) {s : FieldStep}
    (hp : mr.path.toList = [s]) (hd : s.deref = false) {fields : Array Field} (hu : ∀ w, (underlying s.struct).run P w = .ok (.struct fields) w) {fd : Field} (hfd : fields[s.index]? = some fd) {f : FuncId}
    (hfn : mr.func = some (f, false)) {fs : Array Field} (hx : ∀ w, (underlying fd.type).run P w = .ok (.struct fs) w) {cs : Array Value} {rv : Value} {w : World}
    (hpart : (part fd.type cs fd.offset).run P w = .ok rv w) (n : Nat) : (Go.method (n + 1) t (.agg cs) name).run P w = .ok (f, rv) w := by
  have hne : mr.path.isEmpty = false := by
    cases hq : mr.path with
    | mk l => rw [hq] at hp; simp at hp; subst hp; rfl
  simp only [Go.method, Sem.run_bind, hti, Result.andThen_ok, hf, hp, follow, hu, hfd, hd, hpart, hfn, hne, receiverAt, hx, Place.get, Sem.run_pure, Bool.false_eq_true, if_false]
theorem call_meth {P : Program} {t : TypeId} {v : Value} {name : String} {f : FuncId} {rv : Value} {w : World} (h : ∀ n, (Go.method (n + 1) t v name).run P w = .ok (f, rv) w) (args : Array Value) :
    (callMethod (.iface t v) name args).run P w = (callFunc f (#[rv] ++ args)).run P w := by
  have := h (P.types.size + Made.depth - 1)
  have e : P.types.size + Made.depth - 1 + 1 = P.types.size + Made.depth := by
    have : 0 < Made.depth := by decide
    omega
  rw [e] at this
  simp only [callMethod, Sem.run_bind, run_program, Result.andThen_ok, this]
theorem agg_of {m : Ren} {cs : List Value} {v : Value} (h : VR m (.agg ⟨cs⟩) v) : ∃ cs', v = .agg ⟨cs'⟩ ∧ VRs m cs cs' := by
  cases h with
  | agg _ cs' hc => exact ⟨cs', rfl, hc⟩
theorem two_cells {rt : TypeId} (hrt : rt = 78) {v : Value} {rv : Value} (h : part1 TTab rt (cellsL v) 0 = some rv) : ∃ cs, v = .agg ⟨cs⟩ := by
  subst hrt
  have hi : tget TTab 78 = some ti78 := by rfl
  simp only [part1, hi] at h
  have ha : ti78.agg = true := rfl
  rw [ha, cond_true] at h
  cases hl : Nat.ble (0 + ti78.size) (cellsL v).length with
  | false => rw [hl] at h; simp at h
  | true =>
    have h2 : 0 + ti78.size ≤ (cellsL v).length := Nat.le_of_ble_eq_true hl
    have h3 : ti78.size = 2 := rfl
    cases v <;> first
      | (simp [cellsL] at h2; omega)
      | (rename_i cs; obtain ⟨cs⟩ := cs; exact ⟨cs, rfl⟩)
theorem row_ok {t : TypeId} {inf : TypeInfo} (hti : ∀ w, (typeInfo t).run Tryz.prog w = .ok inf w) {name : String} {mr : Method} (hf : inf.methods.find? (·.name == name) = some mr) {s : FieldStep}
    (hp : mr.path.toList = [s]) (hd : s.deref = false) {fields : Array Field} (hu : ∀ w, (underlying s.struct).run Tryz.prog w = .ok (.struct fields) w) (hfm : (fields[s.index]?).map (fun f => (f.type, f.offset)) = some (78, 0)) {f : FuncId}
    (hfn : mr.func = some (f, false)) {fs : Array Field} (hx : ∀ w, (underlying 78).run Tryz.prog w = .ok (.struct fs) w)
    {m : Ren} {v v' rv : Value} {w : World} (hv : VR m v v') (h : part1 TTab 78 (cellsL v) 0 = some rv) :
    ∃ rv', VR m rv rv' ∧ ∀ args, (callMethod (.iface t v') name args).run Tryz.prog w = (callFunc f (#[rv'] ++ args)).run Tryz.prog w := by
  obtain ⟨cs, rfl⟩ := two_cells rfl h
  obtain ⟨cs', rfl, hc⟩ := agg_of hv
  obtain ⟨fd, hfd, hfe⟩ := Option.map_eq_some_iff.1 hfm
  simp only [Prod.mk.injEq] at hfe
  obtain ⟨h78, h0⟩ := hfe
  obtain ⟨rv', h1, h2⟩ := part1_rel (T := TTab) tokAll hc h w
  exact ⟨rv', h1, fun args => call_meth (fun n => meth_run hti hf hp hd hu hfd hfn (by rw [h78]; exact hx) (by rw [h78, h0]; exact h2) n) args⟩
theorem findM_cases {t : TypeId} {n : String} {r : FuncId × Nat × TypeId} : ∀ {l : List ((TypeId × String) × (FuncId × Nat × TypeId))}, findM t n l = some r → ∃ p, p ∈ l ∧ p.1.1 = t ∧ p.1.2 = n ∧ p.2 = r
  | [], h => by simp [findM] at h
  | p :: l, h => by
    simp only [findM] at h
    cases hb : (Nat.beq p.1.1 t && p.1.2 == n) with
    | true =>
      simp only [hb, cond_true, Option.some.injEq] at h
      simp only [Bool.and_eq_true] at hb
      exact ⟨p, List.mem_cons_self .., Nat.eq_of_beq_eq_true hb.1, by simpa using hb.2, h⟩
    | false =>
      simp only [hb, cond_false] at h
      obtain ⟨q, h1, h2⟩ := findM_cases h
      exact ⟨q, List.mem_cons_of_mem _ h1, h2⟩
theorem envI0 : EnvI Tryz.prog E0 := by
  intro t n f off rt hf m v v' rv w hv hp
  obtain ⟨p, h1, h2, h3, h4⟩ := findM_cases (show findM t n ITab = _ from hf)
  simp only [ITab, List.mem_cons, List.not_mem_nil, or_false] at h1
  rcases h1 with rfl | rfl | rfl | rfl <;> (simp only [Prod.mk.injEq] at h4; obtain ⟨rfl, rfl, rfl⟩ := h4; simp only [] at h2 h3; subst h2; subst h3)
  · exact row_ok Tryz.typeInfo106 (name := "nacre/foreman.word") (mr := ⟨ "nacre/foreman.word", 95, #[⟨106, 0, false⟩], some (77, false)⟩) (s := ⟨106, 0, false⟩) (by kernel_rfl) rfl rfl Tryz.runUnderlying106 rfl rfl Tryz.runUnderlying78 hv hp
  · exact row_ok Tryz.typeInfo106 (name := "nacre/foreman.many") (mr := ⟨ "nacre/foreman.many", 82, #[⟨106, 0, false⟩], some (20, false)⟩) (s := ⟨106, 0, false⟩) (by kernel_rfl) rfl rfl Tryz.runUnderlying106 rfl rfl Tryz.runUnderlying78 hv hp
  · exact row_ok Tryz.typeInfo80 (name := "nacre/foreman.word") (mr := ⟨ "nacre/foreman.word", 95, #[⟨80, 0, false⟩], some (77, false)⟩) (s := ⟨80, 0, false⟩) (by kernel_rfl) rfl rfl Tryz.runUnderlying80 rfl rfl Tryz.runUnderlying78 hv hp
  · exact row_ok Tryz.typeInfo80 (name := "nacre/foreman.many") (mr := ⟨ "nacre/foreman.many", 82, #[⟨80, 0, false⟩], some (20, false)⟩) (s := ⟨80, 0, false⟩) (by kernel_rfl) rfl rfl Tryz.runUnderlying80 rfl rfl Tryz.runUnderlying78 hv hp
end Go.U
end
