/- The facts about the types of this seat, as the calculus asks for them. Written by a program of mine off what is printed of the types. -/
import Derived.Test.YtaljgjnnpallpaaGreatA15
import Derived.Test.YtaljgjnnpallpaaGreatProg
namespace Go.Ab
open Go.Proofs
attribute [go_sem] Tryz.underlying0 Tryz.underlying1 Tryz.underlying2 Tryz.underlying3 Tryz.underlying4 Tryz.underlying5 Tryz.underlying6 Tryz.underlying7 Tryz.underlying8 Tryz.underlying9 Tryz.underlying10 Tryz.underlying11 Tryz.underlying12 Tryz.underlying13 Tryz.underlying14 Tryz.underlying15 Tryz.underlying16 Tryz.underlying17 Tryz.underlying18 Tryz.underlying19 Tryz.underlying20 Tryz.underlying21 Tryz.underlying22 Tryz.underlying23 Tryz.underlying24 Tryz.underlying25 Tryz.underlying26 Tryz.underlying27 Tryz.underlying28 Tryz.underlying29 Tryz.underlying30 Tryz.underlying31 Tryz.underlying32 Tryz.underlying33 Tryz.underlying34 Tryz.underlying35 Tryz.underlying36 Tryz.underlying37 Tryz.underlying38 Tryz.underlying39 Tryz.underlying40 Tryz.underlying41 Tryz.underlying42 Tryz.underlying43 Tryz.underlying44 Tryz.underlying45 Tryz.underlying46 Tryz.underlying47 Tryz.underlying48 Tryz.underlying49 Tryz.underlying50 Tryz.underlying51 Tryz.underlying52 Tryz.underlying53 Tryz.underlying54 Tryz.underlying55 Tryz.underlying56 Tryz.underlying57 Tryz.underlying58 Tryz.underlying59 Tryz.underlying60 Tryz.underlying61 Tryz.underlying62 Tryz.underlying63 Tryz.underlying64 Tryz.underlying65 Tryz.underlying66 Tryz.underlying67 Tryz.underlying68 Tryz.underlying69 Tryz.underlying70 Tryz.underlying71 Tryz.underlying72 Tryz.underlying73 Tryz.underlying74 Tryz.underlying75 Tryz.underlying76 Tryz.underlying77 Tryz.underlying78 Tryz.underlying79 Tryz.underlying80 Tryz.underlying81 Tryz.underlying82 Tryz.underlying83 Tryz.underlying84 Tryz.underlying85 Tryz.underlying86 Tryz.underlying87 Tryz.underlying88 Tryz.underlying89 Tryz.underlying90 Tryz.underlying91 Tryz.underlying92 Tryz.underlying93 Tryz.underlying94 Tryz.underlying95 Tryz.underlying96 Tryz.underlying97 Tryz.underlying98 Tryz.underlying99 Tryz.underlying100 Tryz.underlying101 Tryz.underlying102 Tryz.underlying103 Tryz.underlying104 Tryz.underlying105 Tryz.underlying106 Tryz.underlying107 Tryz.underlying108 Tryz.underlying109 Tryz.underlying110 Tryz.underlying111 Tryz.underlying112 Tryz.underlying113 Tryz.underlying114 Tryz.underlying115 Tryz.underlying116 Tryz.underlying117 Tryz.underlying118 Tryz.underlying119 Tryz.underlying120 Tryz.underlying121 Tryz.underlying122 Tryz.underlying123 Tryz.underlying124 Tryz.underlying125 Tryz.underlying126 Tryz.underlying127 Tryz.underlying128 Tryz.underlying129 Tryz.underlying130 Tryz.underlying131 Tryz.underlying132 Tryz.underlying133 Tryz.underlying134 Tryz.underlying135 Tryz.underlying136 Tryz.underlying137 Tryz.underlying138 Tryz.underlying139 Tryz.underlying140 Tryz.underlying141 Tryz.underlying142 Tryz.underlying143 Tryz.underlying144 Tryz.underlying145 Tryz.underlying146 Tryz.underlying147 Tryz.underlying148 Tryz.underlying149 Tryz.underlying150 Tryz.underlying151 Tryz.underlying152 Tryz.underlying153 Tryz.underlying154 Tryz.underlying155 Tryz.underlying156 Tryz.underlying157 Tryz.underlying158 Tryz.underlying159 Tryz.underlying160 Tryz.underlying161 Tryz.underlying162 Tryz.underlying163 Tryz.underlying164 Tryz.underlying165 Tryz.underlying166 Tryz.underlying167 Tryz.underlying168 Tryz.underlying169 Tryz.underlying170 Tryz.underlying171 Tryz.underlying172 Tryz.underlying173 Tryz.underlying174 Tryz.underlying175 Tryz.underlying176 Tryz.underlying177 Tryz.underlying178 Tryz.underlying179 Tryz.underlying180 Tryz.underlying181 Tryz.underlying182 Tryz.underlying183 Tryz.underlying184 Tryz.underlying185 Tryz.underlying186 Tryz.underlying187 Tryz.underlying188 Tryz.underlying189 Tryz.underlying190 Tryz.underlying191 Tryz.underlying192 Tryz.underlying193 Tryz.underlying194 Tryz.underlying195 Tryz.underlying196 Tryz.underlying197 Tryz.underlying198 Tryz.underlying199 Tryz.underlying200 Tryz.underlying201 Tryz.underlying202 Tryz.underlying203 Tryz.underlying204 Tryz.underlying205 Tryz.underlying206 Tryz.underlying207 Tryz.underlying208 Tryz.underlying209 Tryz.underlying210 Tryz.underlying211 Tryz.underlying212 Tryz.underlying213 Tryz.underlying214 Tryz.underlying215 Tryz.underlying216 Tryz.underlying217 Tryz.underlying218 Tryz.underlying219 Tryz.underlying220 Tryz.underlying221 Tryz.underlying222 Tryz.underlying223 Tryz.underlying224 Tryz.underlying225 Tryz.underlying226 Tryz.underlying227 Tryz.underlying228 Tryz.underlying229 Tryz.underlying230 Tryz.underlying231 Tryz.underlying232 Tryz.underlying233 Tryz.underlying234 Tryz.underlying235 Tryz.underlying236 Tryz.underlying237 Tryz.underlying238 Tryz.underlying239 Tryz.underlying240 Tryz.underlying241 Tryz.underlying242 Tryz.underlying243 Tryz.underlying244 Tryz.underlying245 Tryz.underlying246 Tryz.underlying247 Tryz.underlying248 Tryz.underlying249 Tryz.underlying250 Tryz.underlying251 Tryz.underlying252 Tryz.underlying253 Tryz.underlying254 Tryz.underlying255 Tryz.underlying256 Tryz.underlying257 Tryz.underlying258 Tryz.underlying259 Tryz.underlying260 Tryz.underlying261 Tryz.underlying262 Tryz.underlying263 Tryz.underlying264 Tryz.underlying265 Tryz.underlying266 Tryz.underlying267 Tryz.underlying268 Tryz.underlying269 Tryz.underlying270 Tryz.underlying271 Tryz.underlying272 Tryz.underlying273 Tryz.underlying274 Tryz.underlying275 Tryz.underlying276 Tryz.underlying277 Tryz.underlying278 Tryz.underlying279 Tryz.underlying280 Tryz.underlying281 Tryz.underlying282 Tryz.underlying283 Tryz.underlying284 Tryz.underlying285 Tryz.underlying286 Tryz.underlying287 Tryz.underlying288 Tryz.underlying289 Tryz.underlying290 Tryz.underlying291 Tryz.underlying292 Tryz.underlying293
@[go_sem] theorem inf0 : Tryz.prog.info? 0 = some Tryz.t0 := info_of Tryz.type0
@[go_sem] theorem has0 : hasT Tryz.prog 0 = true := hasT_of inf0
@[go_sem] theorem siz0 : sizeT Tryz.prog 0 = 1 := sizeT_of inf0 rfl
@[go_sem] theorem tsz0 : Tryz.t0.size = 1 := rfl
@[go_sem] theorem tby0 : Tryz.t0.bytes = 0 := rfl
@[go_sem] theorem zer0 : zeroA Tryz.prog 0 = some [.tuple []] := zeroA_of inf0 rfl
@[go_sem] theorem inf1 : Tryz.prog.info? 1 = some Tryz.t1 := info_of Tryz.type1
@[go_sem] theorem has1 : hasT Tryz.prog 1 = true := hasT_of inf1
@[go_sem] theorem siz1 : sizeT Tryz.prog 1 = 1 := sizeT_of inf1 rfl
@[go_sem] theorem tsz1 : Tryz.t1.size = 1 := rfl
@[go_sem] theorem tby1 : Tryz.t1.bytes = 8 := rfl
@[go_sem] theorem zer1 : zeroA Tryz.prog 1 = some [.nilFunc] := zeroA_of inf1 rfl
@[go_sem] theorem inf2 : Tryz.prog.info? 2 = some Tryz.t2 := info_of Tryz.type2
@[go_sem] theorem has2 : hasT Tryz.prog 2 = true := hasT_of inf2
@[go_sem] theorem siz2 : sizeT Tryz.prog 2 = 1 := sizeT_of inf2 rfl
@[go_sem] theorem tsz2 : Tryz.t2.size = 1 := rfl
@[go_sem] theorem tby2 : Tryz.t2.bytes = 8 := rfl
@[go_sem] theorem zer2 : zeroA Tryz.prog 2 = some [.int .i64 0] := zeroA_of inf2 rfl
@[go_sem] theorem inf3 : Tryz.prog.info? 3 = some Tryz.t3 := info_of Tryz.type3
@[go_sem] theorem has3 : hasT Tryz.prog 3 = true := hasT_of inf3
@[go_sem] theorem siz3 : sizeT Tryz.prog 3 = 1 := sizeT_of inf3 rfl
@[go_sem] theorem tsz3 : Tryz.t3.size = 1 := rfl
@[go_sem] theorem tby3 : Tryz.t3.bytes = 8 := rfl
@[go_sem] theorem zer3 : zeroA Tryz.prog 3 = some [.int .i64 0] := zeroA_of inf3 rfl
@[go_sem] theorem inf4 : Tryz.prog.info? 4 = some Tryz.t4 := info_of Tryz.type4
@[go_sem] theorem has4 : hasT Tryz.prog 4 = true := hasT_of inf4
@[go_sem] theorem siz4 : sizeT Tryz.prog 4 = 1 := sizeT_of inf4 rfl
@[go_sem] theorem tsz4 : Tryz.t4.size = 1 := rfl
@[go_sem] theorem tby4 : Tryz.t4.bytes = 1 := rfl
@[go_sem] theorem zer4 : zeroA Tryz.prog 4 = some [.bool false] := zeroA_of inf4 rfl
@[go_sem] theorem inf5 : Tryz.prog.info? 5 = some Tryz.t5 := info_of Tryz.type5
@[go_sem] theorem has5 : hasT Tryz.prog 5 = true := hasT_of inf5
@[go_sem] theorem siz5 : sizeT Tryz.prog 5 = 1 := sizeT_of inf5 rfl
@[go_sem] theorem tsz5 : Tryz.t5.size = 1 := rfl
@[go_sem] theorem tby5 : Tryz.t5.bytes = 1 := rfl
@[go_sem] theorem zer5 : zeroA Tryz.prog 5 = some [.int .u8 0] := zeroA_of inf5 rfl
@[go_sem] theorem inf6 : Tryz.prog.info? 6 = some Tryz.t6 := info_of Tryz.type6
@[go_sem] theorem has6 : hasT Tryz.prog 6 = true := hasT_of inf6
@[go_sem] theorem siz6 : sizeT Tryz.prog 6 = 1 := sizeT_of inf6 rfl
@[go_sem] theorem tsz6 : Tryz.t6.size = 1 := rfl
@[go_sem] theorem tby6 : Tryz.t6.bytes = 1 := rfl
@[go_sem] theorem zer6 : zeroA Tryz.prog 6 = some [.int .u8 0] := zeroA_of inf6 rfl
@[go_sem] theorem inf7 : Tryz.prog.info? 7 = some Tryz.t7 := info_of Tryz.type7
@[go_sem] theorem has7 : hasT Tryz.prog 7 = true := hasT_of inf7
@[go_sem] theorem siz7 : sizeT Tryz.prog 7 = 4 := sizeT_of inf7 rfl
@[go_sem] theorem tsz7 : Tryz.t7.size = 4 := rfl
@[go_sem] theorem tby7 : Tryz.t7.bytes = 24 := rfl
@[go_sem] theorem zer7 : zeroA Tryz.prog 7 = some [.int .i64 0, .int .i64 0, .bool false, .int .u8 0] := zeroA_of inf7 rfl
@[go_sem] theorem inf8 : Tryz.prog.info? 8 = some Tryz.t8 := info_of Tryz.type8
@[go_sem] theorem has8 : hasT Tryz.prog 8 = true := hasT_of inf8
@[go_sem] theorem siz8 : sizeT Tryz.prog 8 = 4 := sizeT_of inf8 rfl
@[go_sem] theorem tsz8 : Tryz.t8.size = 4 := rfl
@[go_sem] theorem tby8 : Tryz.t8.bytes = 24 := rfl
@[go_sem] theorem zer8 : zeroA Tryz.prog 8 = some [.int .i64 0, .int .i64 0, .bool false, .int .u8 0] := zeroA_of inf8 rfl
@[go_sem] theorem inf9 : Tryz.prog.info? 9 = some Tryz.t9 := info_of Tryz.type9
@[go_sem] theorem has9 : hasT Tryz.prog 9 = true := hasT_of inf9
@[go_sem] theorem siz9 : sizeT Tryz.prog 9 = 1 := sizeT_of inf9 rfl
@[go_sem] theorem tsz9 : Tryz.t9.size = 1 := rfl
@[go_sem] theorem tby9 : Tryz.t9.bytes = 16 := rfl
@[go_sem] theorem zer9 : zeroA Tryz.prog 9 = some [.str ⟨#[]⟩] := zeroA_of inf9 rfl
@[go_sem] theorem inf10 : Tryz.prog.info? 10 = some Tryz.t10 := info_of Tryz.type10
@[go_sem] theorem has10 : hasT Tryz.prog 10 = true := hasT_of inf10
@[go_sem] theorem siz10 : sizeT Tryz.prog 10 = 1 := sizeT_of inf10 rfl
@[go_sem] theorem tsz10 : Tryz.t10.size = 1 := rfl
@[go_sem] theorem tby10 : Tryz.t10.bytes = 16 := rfl
@[go_sem] theorem zer10 : zeroA Tryz.prog 10 = some [.str ⟨#[]⟩] := zeroA_of inf10 rfl
@[go_sem] theorem inf11 : Tryz.prog.info? 11 = some Tryz.t11 := info_of Tryz.type11
@[go_sem] theorem has11 : hasT Tryz.prog 11 = true := hasT_of inf11
@[go_sem] theorem siz11 : sizeT Tryz.prog 11 = 1 := sizeT_of inf11 rfl
@[go_sem] theorem tsz11 : Tryz.t11.size = 1 := rfl
@[go_sem] theorem tby11 : Tryz.t11.bytes = 16 := rfl
@[go_sem] theorem zer11 : zeroA Tryz.prog 11 = some [.str ⟨#[]⟩] := zeroA_of inf11 rfl
@[go_sem] theorem inf12 : Tryz.prog.info? 12 = some Tryz.t12 := info_of Tryz.type12
@[go_sem] theorem has12 : hasT Tryz.prog 12 = true := hasT_of inf12
@[go_sem] theorem siz12 : sizeT Tryz.prog 12 = 1 := sizeT_of inf12 rfl
@[go_sem] theorem tsz12 : Tryz.t12.size = 1 := rfl
@[go_sem] theorem tby12 : Tryz.t12.bytes = 8 := rfl
@[go_sem] theorem zer12 : zeroA Tryz.prog 12 = some [.int .u64 0] := zeroA_of inf12 rfl
@[go_sem] theorem inf13 : Tryz.prog.info? 13 = some Tryz.t13 := info_of Tryz.type13
@[go_sem] theorem has13 : hasT Tryz.prog 13 = true := hasT_of inf13
@[go_sem] theorem siz13 : sizeT Tryz.prog 13 = 2 := sizeT_of inf13 rfl
@[go_sem] theorem tsz13 : Tryz.t13.size = 2 := rfl
@[go_sem] theorem tby13 : Tryz.t13.bytes = 24 := rfl
@[go_sem] theorem zer13 : zeroA Tryz.prog 13 = some [.str ⟨#[]⟩, .int .u64 0] := zeroA_of inf13 rfl
@[go_sem] theorem inf14 : Tryz.prog.info? 14 = some Tryz.t14 := info_of Tryz.type14
@[go_sem] theorem has14 : hasT Tryz.prog 14 = true := hasT_of inf14
@[go_sem] theorem siz14 : sizeT Tryz.prog 14 = 2 := sizeT_of inf14 rfl
@[go_sem] theorem tsz14 : Tryz.t14.size = 2 := rfl
@[go_sem] theorem tby14 : Tryz.t14.bytes = 24 := rfl
@[go_sem] theorem zer14 : zeroA Tryz.prog 14 = some [.str ⟨#[]⟩, .int .u64 0] := zeroA_of inf14 rfl
@[go_sem] theorem inf15 : Tryz.prog.info? 15 = some Tryz.t15 := info_of Tryz.type15
@[go_sem] theorem has15 : hasT Tryz.prog 15 = true := hasT_of inf15
@[go_sem] theorem siz15 : sizeT Tryz.prog 15 = 1 := sizeT_of inf15 rfl
@[go_sem] theorem tsz15 : Tryz.t15.size = 1 := rfl
@[go_sem] theorem tby15 : Tryz.t15.bytes = 8 := rfl
@[go_sem] theorem zer15 : zeroA Tryz.prog 15 = some [.nilPtr] := zeroA_of inf15 rfl
@[go_sem] theorem inf16 : Tryz.prog.info? 16 = some Tryz.t16 := info_of Tryz.type16
@[go_sem] theorem has16 : hasT Tryz.prog 16 = true := hasT_of inf16
@[go_sem] theorem siz16 : sizeT Tryz.prog 16 = 1 := sizeT_of inf16 rfl
@[go_sem] theorem tsz16 : Tryz.t16.size = 1 := rfl
@[go_sem] theorem tby16 : Tryz.t16.bytes = 8 := rfl
@[go_sem] theorem zer16 : zeroA Tryz.prog 16 = some [.nilPtr] := zeroA_of inf16 rfl
@[go_sem] theorem inf17 : Tryz.prog.info? 17 = some Tryz.t17 := info_of Tryz.type17
@[go_sem] theorem has17 : hasT Tryz.prog 17 = true := hasT_of inf17
@[go_sem] theorem siz17 : sizeT Tryz.prog 17 = 1 := sizeT_of inf17 rfl
@[go_sem] theorem tsz17 : Tryz.t17.size = 1 := rfl
@[go_sem] theorem tby17 : Tryz.t17.bytes = 8 := rfl
@[go_sem] theorem zer17 : zeroA Tryz.prog 17 = some [.nilPtr] := zeroA_of inf17 rfl
@[go_sem] theorem inf18 : Tryz.prog.info? 18 = some Tryz.t18 := info_of Tryz.type18
@[go_sem] theorem has18 : hasT Tryz.prog 18 = true := hasT_of inf18
@[go_sem] theorem siz18 : sizeT Tryz.prog 18 = 1 := sizeT_of inf18 rfl
@[go_sem] theorem tsz18 : Tryz.t18.size = 1 := rfl
@[go_sem] theorem tby18 : Tryz.t18.bytes = 8 := rfl
@[go_sem] theorem zer18 : zeroA Tryz.prog 18 = some [.nilPtr] := zeroA_of inf18 rfl
@[go_sem] theorem inf19 : Tryz.prog.info? 19 = some Tryz.t19 := info_of Tryz.type19
@[go_sem] theorem has19 : hasT Tryz.prog 19 = true := hasT_of inf19
@[go_sem] theorem siz19 : sizeT Tryz.prog 19 = 1 := sizeT_of inf19 rfl
@[go_sem] theorem tsz19 : Tryz.t19.size = 1 := rfl
@[go_sem] theorem tby19 : Tryz.t19.bytes = 8 := rfl
@[go_sem] theorem zer19 : zeroA Tryz.prog 19 = some [.nilPtr] := zeroA_of inf19 rfl
@[go_sem] theorem inf20 : Tryz.prog.info? 20 = some Tryz.t20 := info_of Tryz.type20
@[go_sem] theorem has20 : hasT Tryz.prog 20 = true := hasT_of inf20
@[go_sem] theorem siz20 : sizeT Tryz.prog 20 = 1 := sizeT_of inf20 rfl
@[go_sem] theorem tsz20 : Tryz.t20.size = 1 := rfl
@[go_sem] theorem tby20 : Tryz.t20.bytes = 16 := rfl
@[go_sem] theorem zer20 : zeroA Tryz.prog 20 = some [.nilIface] := zeroA_of inf20 rfl
@[go_sem] theorem inf21 : Tryz.prog.info? 21 = some Tryz.t21 := info_of Tryz.type21
@[go_sem] theorem has21 : hasT Tryz.prog 21 = true := hasT_of inf21
@[go_sem] theorem siz21 : sizeT Tryz.prog 21 = 1 := sizeT_of inf21 rfl
@[go_sem] theorem tsz21 : Tryz.t21.size = 1 := rfl
@[go_sem] theorem tby21 : Tryz.t21.bytes = 4 := rfl
@[go_sem] theorem zer21 : zeroA Tryz.prog 21 = some [.int .i32 0] := zeroA_of inf21 rfl
@[go_sem] theorem inf22 : Tryz.prog.info? 22 = some Tryz.t22 := info_of Tryz.type22
@[go_sem] theorem has22 : hasT Tryz.prog 22 = true := hasT_of inf22
@[go_sem] theorem siz22 : sizeT Tryz.prog 22 = 1 := sizeT_of inf22 rfl
@[go_sem] theorem tsz22 : Tryz.t22.size = 1 := rfl
@[go_sem] theorem tby22 : Tryz.t22.bytes = 24 := rfl
@[go_sem] theorem zer22 : zeroA Tryz.prog 22 = some [.nilSlice] := zeroA_of inf22 rfl
@[go_sem] theorem inf23 : Tryz.prog.info? 23 = some Tryz.t23 := info_of Tryz.type23
@[go_sem] theorem has23 : hasT Tryz.prog 23 = true := hasT_of inf23
@[go_sem] theorem siz23 : sizeT Tryz.prog 23 = 1 := sizeT_of inf23 rfl
@[go_sem] theorem tsz23 : Tryz.t23.size = 1 := rfl
@[go_sem] theorem tby23 : Tryz.t23.bytes = 8 := rfl
@[go_sem] theorem zer23 : zeroA Tryz.prog 23 = some [.nilFunc] := zeroA_of inf23 rfl
@[go_sem] theorem inf24 : Tryz.prog.info? 24 = some Tryz.t24 := info_of Tryz.type24
@[go_sem] theorem has24 : hasT Tryz.prog 24 = true := hasT_of inf24
@[go_sem] theorem siz24 : sizeT Tryz.prog 24 = 1 := sizeT_of inf24 rfl
@[go_sem] theorem tsz24 : Tryz.t24.size = 1 := rfl
@[go_sem] theorem tby24 : Tryz.t24.bytes = 8 := rfl
@[go_sem] theorem zer24 : zeroA Tryz.prog 24 = some [.nilPtr] := zeroA_of inf24 rfl
@[go_sem] theorem inf25 : Tryz.prog.info? 25 = some Tryz.t25 := info_of Tryz.type25
@[go_sem] theorem has25 : hasT Tryz.prog 25 = true := hasT_of inf25
@[go_sem] theorem siz25 : sizeT Tryz.prog 25 = 1 := sizeT_of inf25 rfl
@[go_sem] theorem tsz25 : Tryz.t25.size = 1 := rfl
@[go_sem] theorem tby25 : Tryz.t25.bytes = 8 := rfl
@[go_sem] theorem zer25 : zeroA Tryz.prog 25 = some [.nilFunc] := zeroA_of inf25 rfl
@[go_sem] theorem inf26 : Tryz.prog.info? 26 = some Tryz.t26 := info_of Tryz.type26
@[go_sem] theorem has26 : hasT Tryz.prog 26 = true := hasT_of inf26
@[go_sem] theorem siz26 : sizeT Tryz.prog 26 = 4 := sizeT_of inf26 rfl
@[go_sem] theorem tsz26 : Tryz.t26.size = 4 := rfl
@[go_sem] theorem tby26 : Tryz.t26.bytes = 32 := rfl
@[go_sem] theorem zer26 : zeroA Tryz.prog 26 = some [.int .i64 0, .int .i64 0, .int .i64 0, .int .i64 0] := zeroA_of inf26 rfl
@[go_sem] theorem inf27 : Tryz.prog.info? 27 = some Tryz.t27 := info_of Tryz.type27
@[go_sem] theorem has27 : hasT Tryz.prog 27 = true := hasT_of inf27
@[go_sem] theorem siz27 : sizeT Tryz.prog 27 = 4 := sizeT_of inf27 rfl
@[go_sem] theorem tsz27 : Tryz.t27.size = 4 := rfl
@[go_sem] theorem tby27 : Tryz.t27.bytes = 32 := rfl
@[go_sem] theorem zer27 : zeroA Tryz.prog 27 = some [.int .i64 0, .int .i64 0, .int .i64 0, .int .i64 0] := zeroA_of inf27 rfl
@[go_sem] theorem inf28 : Tryz.prog.info? 28 = some Tryz.t28 := info_of Tryz.type28
@[go_sem] theorem has28 : hasT Tryz.prog 28 = true := hasT_of inf28
@[go_sem] theorem siz28 : sizeT Tryz.prog 28 = 1 := sizeT_of inf28 rfl
@[go_sem] theorem tsz28 : Tryz.t28.size = 1 := rfl
@[go_sem] theorem tby28 : Tryz.t28.bytes = 8 := rfl
@[go_sem] theorem zer28 : zeroA Tryz.prog 28 = some [.nilFunc] := zeroA_of inf28 rfl
@[go_sem] theorem inf29 : Tryz.prog.info? 29 = some Tryz.t29 := info_of Tryz.type29
@[go_sem] theorem has29 : hasT Tryz.prog 29 = true := hasT_of inf29
@[go_sem] theorem siz29 : sizeT Tryz.prog 29 = 1 := sizeT_of inf29 rfl
@[go_sem] theorem tsz29 : Tryz.t29.size = 1 := rfl
@[go_sem] theorem tby29 : Tryz.t29.bytes = 8 := rfl
@[go_sem] theorem zer29 : zeroA Tryz.prog 29 = some [.int .i64 0] := zeroA_of inf29 rfl
@[go_sem] theorem inf30 : Tryz.prog.info? 30 = some Tryz.t30 := info_of Tryz.type30
@[go_sem] theorem has30 : hasT Tryz.prog 30 = true := hasT_of inf30
@[go_sem] theorem siz30 : sizeT Tryz.prog 30 = 1 := sizeT_of inf30 rfl
@[go_sem] theorem tsz30 : Tryz.t30.size = 1 := rfl
@[go_sem] theorem tby30 : Tryz.t30.bytes = 8 := rfl
@[go_sem] theorem zer30 : zeroA Tryz.prog 30 = some [.int .i64 0] := zeroA_of inf30 rfl
@[go_sem] theorem inf31 : Tryz.prog.info? 31 = some Tryz.t31 := info_of Tryz.type31
@[go_sem] theorem has31 : hasT Tryz.prog 31 = true := hasT_of inf31
@[go_sem] theorem siz31 : sizeT Tryz.prog 31 = 1 := sizeT_of inf31 rfl
@[go_sem] theorem tsz31 : Tryz.t31.size = 1 := rfl
@[go_sem] theorem tby31 : Tryz.t31.bytes = 8 := rfl
@[go_sem] theorem zer31 : zeroA Tryz.prog 31 = some [.nilFunc] := zeroA_of inf31 rfl
@[go_sem] theorem inf32 : Tryz.prog.info? 32 = some Tryz.t32 := info_of Tryz.type32
@[go_sem] theorem has32 : hasT Tryz.prog 32 = true := hasT_of inf32
@[go_sem] theorem siz32 : sizeT Tryz.prog 32 = 1 := sizeT_of inf32 rfl
@[go_sem] theorem tsz32 : Tryz.t32.size = 1 := rfl
@[go_sem] theorem tby32 : Tryz.t32.bytes = 8 := rfl
@[go_sem] theorem zer32 : zeroA Tryz.prog 32 = some [.nilFunc] := zeroA_of inf32 rfl
@[go_sem] theorem inf33 : Tryz.prog.info? 33 = some Tryz.t33 := info_of Tryz.type33
@[go_sem] theorem has33 : hasT Tryz.prog 33 = true := hasT_of inf33
@[go_sem] theorem siz33 : sizeT Tryz.prog 33 = 1 := sizeT_of inf33 rfl
@[go_sem] theorem tsz33 : Tryz.t33.size = 1 := rfl
@[go_sem] theorem tby33 : Tryz.t33.bytes = 24 := rfl
@[go_sem] theorem zer33 : zeroA Tryz.prog 33 = some [.nilSlice] := zeroA_of inf33 rfl
@[go_sem] theorem inf34 : Tryz.prog.info? 34 = some Tryz.t34 := info_of Tryz.type34
@[go_sem] theorem has34 : hasT Tryz.prog 34 = true := hasT_of inf34
@[go_sem] theorem siz34 : sizeT Tryz.prog 34 = 1 := sizeT_of inf34 rfl
@[go_sem] theorem tsz34 : Tryz.t34.size = 1 := rfl
@[go_sem] theorem tby34 : Tryz.t34.bytes = 8 := rfl
@[go_sem] theorem zer34 : zeroA Tryz.prog 34 = some [.nilFunc] := zeroA_of inf34 rfl
@[go_sem] theorem inf35 : Tryz.prog.info? 35 = some Tryz.t35 := info_of Tryz.type35
@[go_sem] theorem has35 : hasT Tryz.prog 35 = true := hasT_of inf35
@[go_sem] theorem siz35 : sizeT Tryz.prog 35 = 4 := sizeT_of inf35 rfl
@[go_sem] theorem tsz35 : Tryz.t35.size = 4 := rfl
@[go_sem] theorem tby35 : Tryz.t35.bytes = 64 := rfl
@[go_sem] theorem zer35 : zeroA Tryz.prog 35 = some [.int .i64 0, .int .i64 0, .nilSlice, .nilSlice] := zeroA_of inf35 rfl
@[go_sem] theorem inf36 : Tryz.prog.info? 36 = some Tryz.t36 := info_of Tryz.type36
@[go_sem] theorem has36 : hasT Tryz.prog 36 = true := hasT_of inf36
@[go_sem] theorem siz36 : sizeT Tryz.prog 36 = 4 := sizeT_of inf36 rfl
@[go_sem] theorem tsz36 : Tryz.t36.size = 4 := rfl
@[go_sem] theorem tby36 : Tryz.t36.bytes = 64 := rfl
@[go_sem] theorem zer36 : zeroA Tryz.prog 36 = some [.int .i64 0, .int .i64 0, .nilSlice, .nilSlice] := zeroA_of inf36 rfl
@[go_sem] theorem inf37 : Tryz.prog.info? 37 = some Tryz.t37 := info_of Tryz.type37
@[go_sem] theorem has37 : hasT Tryz.prog 37 = true := hasT_of inf37
@[go_sem] theorem siz37 : sizeT Tryz.prog 37 = 1 := sizeT_of inf37 rfl
@[go_sem] theorem tsz37 : Tryz.t37.size = 1 := rfl
@[go_sem] theorem tby37 : Tryz.t37.bytes = 8 := rfl
@[go_sem] theorem zer37 : zeroA Tryz.prog 37 = some [.int .i64 0] := zeroA_of inf37 rfl
@[go_sem] theorem inf38 : Tryz.prog.info? 38 = some Tryz.t38 := info_of Tryz.type38
@[go_sem] theorem has38 : hasT Tryz.prog 38 = true := hasT_of inf38
@[go_sem] theorem siz38 : sizeT Tryz.prog 38 = 1 := sizeT_of inf38 rfl
@[go_sem] theorem tsz38 : Tryz.t38.size = 1 := rfl
@[go_sem] theorem tby38 : Tryz.t38.bytes = 0 := rfl
@[go_sem] theorem zer38 : zeroA Tryz.prog 38 = some [.tuple [.agg [.int .i64 0, .int .i64 0, .nilSlice, .nilSlice], .int .i64 0]] := zeroA_of inf38 rfl
@[go_sem] theorem inf39 : Tryz.prog.info? 39 = some Tryz.t39 := info_of Tryz.type39
@[go_sem] theorem has39 : hasT Tryz.prog 39 = true := hasT_of inf39
@[go_sem] theorem siz39 : sizeT Tryz.prog 39 = 1 := sizeT_of inf39 rfl
@[go_sem] theorem tsz39 : Tryz.t39.size = 1 := rfl
@[go_sem] theorem tby39 : Tryz.t39.bytes = 8 := rfl
@[go_sem] theorem zer39 : zeroA Tryz.prog 39 = some [.nilFunc] := zeroA_of inf39 rfl
@[go_sem] theorem inf40 : Tryz.prog.info? 40 = some Tryz.t40 := info_of Tryz.type40
@[go_sem] theorem has40 : hasT Tryz.prog 40 = true := hasT_of inf40
@[go_sem] theorem siz40 : sizeT Tryz.prog 40 = 1 := sizeT_of inf40 rfl
@[go_sem] theorem tsz40 : Tryz.t40.size = 1 := rfl
@[go_sem] theorem tby40 : Tryz.t40.bytes = 0 := rfl
@[go_sem] theorem zer40 : zeroA Tryz.prog 40 = some [.tuple [.nilSlice, .int .i64 0]] := zeroA_of inf40 rfl
@[go_sem] theorem inf41 : Tryz.prog.info? 41 = some Tryz.t41 := info_of Tryz.type41
@[go_sem] theorem has41 : hasT Tryz.prog 41 = true := hasT_of inf41
@[go_sem] theorem siz41 : sizeT Tryz.prog 41 = 1 := sizeT_of inf41 rfl
@[go_sem] theorem tsz41 : Tryz.t41.size = 1 := rfl
@[go_sem] theorem tby41 : Tryz.t41.bytes = 8 := rfl
@[go_sem] theorem zer41 : zeroA Tryz.prog 41 = some [.nilFunc] := zeroA_of inf41 rfl
@[go_sem] theorem inf42 : Tryz.prog.info? 42 = some Tryz.t42 := info_of Tryz.type42
@[go_sem] theorem has42 : hasT Tryz.prog 42 = true := hasT_of inf42
@[go_sem] theorem siz42 : sizeT Tryz.prog 42 = 2 := sizeT_of inf42 rfl
@[go_sem] theorem tsz42 : Tryz.t42.size = 2 := rfl
@[go_sem] theorem tby42 : Tryz.t42.bytes = 32 := rfl
@[go_sem] theorem zer42 : zeroA Tryz.prog 42 = some [.nilSlice, .int .i64 0] := zeroA_of inf42 rfl
@[go_sem] theorem inf43 : Tryz.prog.info? 43 = some Tryz.t43 := info_of Tryz.type43
@[go_sem] theorem has43 : hasT Tryz.prog 43 = true := hasT_of inf43
@[go_sem] theorem siz43 : sizeT Tryz.prog 43 = 2 := sizeT_of inf43 rfl
@[go_sem] theorem tsz43 : Tryz.t43.size = 2 := rfl
@[go_sem] theorem tby43 : Tryz.t43.bytes = 32 := rfl
@[go_sem] theorem zer43 : zeroA Tryz.prog 43 = some [.nilSlice, .int .i64 0] := zeroA_of inf43 rfl
@[go_sem] theorem inf44 : Tryz.prog.info? 44 = some Tryz.t44 := info_of Tryz.type44
@[go_sem] theorem has44 : hasT Tryz.prog 44 = true := hasT_of inf44
@[go_sem] theorem siz44 : sizeT Tryz.prog 44 = 1 := sizeT_of inf44 rfl
@[go_sem] theorem tsz44 : Tryz.t44.size = 1 := rfl
@[go_sem] theorem tby44 : Tryz.t44.bytes = 8 := rfl
@[go_sem] theorem zer44 : zeroA Tryz.prog 44 = some [.nilFunc] := zeroA_of inf44 rfl
@[go_sem] theorem inf45 : Tryz.prog.info? 45 = some Tryz.t45 := info_of Tryz.type45
@[go_sem] theorem has45 : hasT Tryz.prog 45 = true := hasT_of inf45
@[go_sem] theorem siz45 : sizeT Tryz.prog 45 = 1 := sizeT_of inf45 rfl
@[go_sem] theorem tsz45 : Tryz.t45.size = 1 := rfl
@[go_sem] theorem tby45 : Tryz.t45.bytes = 24 := rfl
@[go_sem] theorem zer45 : zeroA Tryz.prog 45 = some [.nilSlice] := zeroA_of inf45 rfl
@[go_sem] theorem inf46 : Tryz.prog.info? 46 = some Tryz.t46 := info_of Tryz.type46
@[go_sem] theorem has46 : hasT Tryz.prog 46 = true := hasT_of inf46
@[go_sem] theorem siz46 : sizeT Tryz.prog 46 = 1 := sizeT_of inf46 rfl
@[go_sem] theorem tsz46 : Tryz.t46.size = 1 := rfl
@[go_sem] theorem tby46 : Tryz.t46.bytes = 0 := rfl
@[go_sem] theorem zer46 : zeroA Tryz.prog 46 = some [.tuple [.nilSlice, .agg [.nilSlice, .int .i64 0], .int .i64 0]] := zeroA_of inf46 rfl
@[go_sem] theorem inf47 : Tryz.prog.info? 47 = some Tryz.t47 := info_of Tryz.type47
@[go_sem] theorem has47 : hasT Tryz.prog 47 = true := hasT_of inf47
@[go_sem] theorem siz47 : sizeT Tryz.prog 47 = 1 := sizeT_of inf47 rfl
@[go_sem] theorem tsz47 : Tryz.t47.size = 1 := rfl
@[go_sem] theorem tby47 : Tryz.t47.bytes = 8 := rfl
@[go_sem] theorem zer47 : zeroA Tryz.prog 47 = some [.nilFunc] := zeroA_of inf47 rfl
@[go_sem] theorem inf48 : Tryz.prog.info? 48 = some Tryz.t48 := info_of Tryz.type48
@[go_sem] theorem has48 : hasT Tryz.prog 48 = true := hasT_of inf48
@[go_sem] theorem siz48 : sizeT Tryz.prog 48 = 2 := sizeT_of inf48 rfl
@[go_sem] theorem tsz48 : Tryz.t48.size = 2 := rfl
@[go_sem] theorem tby48 : Tryz.t48.bytes = 48 := rfl
@[go_sem] theorem zer48 : zeroA Tryz.prog 48 = some [.nilSlice, .nilSlice] := zeroA_of inf48 rfl
@[go_sem] theorem inf49 : Tryz.prog.info? 49 = some Tryz.t49 := info_of Tryz.type49
@[go_sem] theorem has49 : hasT Tryz.prog 49 = true := hasT_of inf49
@[go_sem] theorem siz49 : sizeT Tryz.prog 49 = 2 := sizeT_of inf49 rfl
@[go_sem] theorem tsz49 : Tryz.t49.size = 2 := rfl
@[go_sem] theorem tby49 : Tryz.t49.bytes = 48 := rfl
@[go_sem] theorem zer49 : zeroA Tryz.prog 49 = some [.nilSlice, .nilSlice] := zeroA_of inf49 rfl
@[go_sem] theorem inf50 : Tryz.prog.info? 50 = some Tryz.t50 := info_of Tryz.type50
@[go_sem] theorem has50 : hasT Tryz.prog 50 = true := hasT_of inf50
@[go_sem] theorem siz50 : sizeT Tryz.prog 50 = 1 := sizeT_of inf50 rfl
@[go_sem] theorem tsz50 : Tryz.t50.size = 1 := rfl
@[go_sem] theorem tby50 : Tryz.t50.bytes = 0 := rfl
@[go_sem] theorem zer50 : zeroA Tryz.prog 50 = some [.tuple [.agg [.nilSlice, .nilSlice], .int .i64 0]] := zeroA_of inf50 rfl
@[go_sem] theorem inf51 : Tryz.prog.info? 51 = some Tryz.t51 := info_of Tryz.type51
@[go_sem] theorem has51 : hasT Tryz.prog 51 = true := hasT_of inf51
@[go_sem] theorem siz51 : sizeT Tryz.prog 51 = 1 := sizeT_of inf51 rfl
@[go_sem] theorem tsz51 : Tryz.t51.size = 1 := rfl
@[go_sem] theorem tby51 : Tryz.t51.bytes = 8 := rfl
@[go_sem] theorem zer51 : zeroA Tryz.prog 51 = some [.nilFunc] := zeroA_of inf51 rfl
@[go_sem] theorem inf52 : Tryz.prog.info? 52 = some Tryz.t52 := info_of Tryz.type52
@[go_sem] theorem has52 : hasT Tryz.prog 52 = true := hasT_of inf52
@[go_sem] theorem siz52 : sizeT Tryz.prog 52 = 1 := sizeT_of inf52 rfl
@[go_sem] theorem tsz52 : Tryz.t52.size = 1 := rfl
@[go_sem] theorem tby52 : Tryz.t52.bytes = 8 := rfl
@[go_sem] theorem zer52 : zeroA Tryz.prog 52 = some [.nilFunc] := zeroA_of inf52 rfl
@[go_sem] theorem inf53 : Tryz.prog.info? 53 = some Tryz.t53 := info_of Tryz.type53
@[go_sem] theorem has53 : hasT Tryz.prog 53 = true := hasT_of inf53
@[go_sem] theorem siz53 : sizeT Tryz.prog 53 = 1 := sizeT_of inf53 rfl
@[go_sem] theorem tsz53 : Tryz.t53.size = 1 := rfl
@[go_sem] theorem tby53 : Tryz.t53.bytes = 8 := rfl
@[go_sem] theorem zer53 : zeroA Tryz.prog 53 = some [.nilFunc] := zeroA_of inf53 rfl
@[go_sem] theorem inf54 : Tryz.prog.info? 54 = some Tryz.t54 := info_of Tryz.type54
@[go_sem] theorem has54 : hasT Tryz.prog 54 = true := hasT_of inf54
@[go_sem] theorem siz54 : sizeT Tryz.prog 54 = 1 := sizeT_of inf54 rfl
@[go_sem] theorem tsz54 : Tryz.t54.size = 1 := rfl
@[go_sem] theorem tby54 : Tryz.t54.bytes = 8 := rfl
@[go_sem] theorem zer54 : zeroA Tryz.prog 54 = some [.nilFunc] := zeroA_of inf54 rfl
@[go_sem] theorem inf55 : Tryz.prog.info? 55 = some Tryz.t55 := info_of Tryz.type55
@[go_sem] theorem has55 : hasT Tryz.prog 55 = true := hasT_of inf55
@[go_sem] theorem siz55 : sizeT Tryz.prog 55 = 1 := sizeT_of inf55 rfl
@[go_sem] theorem tsz55 : Tryz.t55.size = 1 := rfl
@[go_sem] theorem tby55 : Tryz.t55.bytes = 8 := rfl
@[go_sem] theorem zer55 : zeroA Tryz.prog 55 = some [.nilFunc] := zeroA_of inf55 rfl
@[go_sem] theorem inf56 : Tryz.prog.info? 56 = some Tryz.t56 := info_of Tryz.type56
@[go_sem] theorem has56 : hasT Tryz.prog 56 = true := hasT_of inf56
@[go_sem] theorem siz56 : sizeT Tryz.prog 56 = 1 := sizeT_of inf56 rfl
@[go_sem] theorem tsz56 : Tryz.t56.size = 1 := rfl
@[go_sem] theorem tby56 : Tryz.t56.bytes = 8 := rfl
@[go_sem] theorem zer56 : zeroA Tryz.prog 56 = some [.nilFunc] := zeroA_of inf56 rfl
@[go_sem] theorem inf57 : Tryz.prog.info? 57 = some Tryz.t57 := info_of Tryz.type57
@[go_sem] theorem has57 : hasT Tryz.prog 57 = true := hasT_of inf57
@[go_sem] theorem siz57 : sizeT Tryz.prog 57 = 1 := sizeT_of inf57 rfl
@[go_sem] theorem tsz57 : Tryz.t57.size = 1 := rfl
@[go_sem] theorem tby57 : Tryz.t57.bytes = 0 := rfl
@[go_sem] theorem zer57 : zeroA Tryz.prog 57 = some [.tuple [.int .i64 0, .int .i64 0]] := zeroA_of inf57 rfl
@[go_sem] theorem inf58 : Tryz.prog.info? 58 = some Tryz.t58 := info_of Tryz.type58
@[go_sem] theorem has58 : hasT Tryz.prog 58 = true := hasT_of inf58
@[go_sem] theorem siz58 : sizeT Tryz.prog 58 = 1 := sizeT_of inf58 rfl
@[go_sem] theorem tsz58 : Tryz.t58.size = 1 := rfl
@[go_sem] theorem tby58 : Tryz.t58.bytes = 8 := rfl
@[go_sem] theorem zer58 : zeroA Tryz.prog 58 = some [.nilFunc] := zeroA_of inf58 rfl
@[go_sem] theorem inf59 : Tryz.prog.info? 59 = some Tryz.t59 := info_of Tryz.type59
@[go_sem] theorem has59 : hasT Tryz.prog 59 = true := hasT_of inf59
@[go_sem] theorem siz59 : sizeT Tryz.prog 59 = 1 := sizeT_of inf59 rfl
@[go_sem] theorem tsz59 : Tryz.t59.size = 1 := rfl
@[go_sem] theorem tby59 : Tryz.t59.bytes = 24 := rfl
@[go_sem] theorem zer59 : zeroA Tryz.prog 59 = some [.nilSlice] := zeroA_of inf59 rfl
@[go_sem] theorem inf60 : Tryz.prog.info? 60 = some Tryz.t60 := info_of Tryz.type60
@[go_sem] theorem has60 : hasT Tryz.prog 60 = true := hasT_of inf60
@[go_sem] theorem siz60 : sizeT Tryz.prog 60 = 1 := sizeT_of inf60 rfl
@[go_sem] theorem tsz60 : Tryz.t60.size = 1 := rfl
@[go_sem] theorem tby60 : Tryz.t60.bytes = 8 := rfl
@[go_sem] theorem zer60 : zeroA Tryz.prog 60 = some [.nilFunc] := zeroA_of inf60 rfl
@[go_sem] theorem inf61 : Tryz.prog.info? 61 = some Tryz.t61 := info_of Tryz.type61
@[go_sem] theorem has61 : hasT Tryz.prog 61 = true := hasT_of inf61
@[go_sem] theorem siz61 : sizeT Tryz.prog 61 = 1 := sizeT_of inf61 rfl
@[go_sem] theorem tsz61 : Tryz.t61.size = 1 := rfl
@[go_sem] theorem tby61 : Tryz.t61.bytes = 24 := rfl
@[go_sem] theorem zer61 : zeroA Tryz.prog 61 = some [.nilSlice] := zeroA_of inf61 rfl
@[go_sem] theorem inf62 : Tryz.prog.info? 62 = some Tryz.t62 := info_of Tryz.type62
@[go_sem] theorem has62 : hasT Tryz.prog 62 = true := hasT_of inf62
@[go_sem] theorem siz62 : sizeT Tryz.prog 62 = 1 := sizeT_of inf62 rfl
@[go_sem] theorem tsz62 : Tryz.t62.size = 1 := rfl
@[go_sem] theorem tby62 : Tryz.t62.bytes = 0 := rfl
@[go_sem] theorem zer62 : zeroA Tryz.prog 62 = some [.tuple [.bool false, .int .i64 0]] := zeroA_of inf62 rfl
@[go_sem] theorem inf63 : Tryz.prog.info? 63 = some Tryz.t63 := info_of Tryz.type63
@[go_sem] theorem has63 : hasT Tryz.prog 63 = true := hasT_of inf63
@[go_sem] theorem siz63 : sizeT Tryz.prog 63 = 1 := sizeT_of inf63 rfl
@[go_sem] theorem tsz63 : Tryz.t63.size = 1 := rfl
@[go_sem] theorem tby63 : Tryz.t63.bytes = 8 := rfl
@[go_sem] theorem zer63 : zeroA Tryz.prog 63 = some [.nilFunc] := zeroA_of inf63 rfl
@[go_sem] theorem inf64 : Tryz.prog.info? 64 = some Tryz.t64 := info_of Tryz.type64
@[go_sem] theorem has64 : hasT Tryz.prog 64 = true := hasT_of inf64
@[go_sem] theorem siz64 : sizeT Tryz.prog 64 = 1 := sizeT_of inf64 rfl
@[go_sem] theorem tsz64 : Tryz.t64.size = 1 := rfl
@[go_sem] theorem tby64 : Tryz.t64.bytes = 24 := rfl
@[go_sem] theorem zer64 : zeroA Tryz.prog 64 = some [.nilSlice] := zeroA_of inf64 rfl
@[go_sem] theorem inf65 : Tryz.prog.info? 65 = some Tryz.t65 := info_of Tryz.type65
@[go_sem] theorem has65 : hasT Tryz.prog 65 = true := hasT_of inf65
@[go_sem] theorem siz65 : sizeT Tryz.prog 65 = 1 := sizeT_of inf65 rfl
@[go_sem] theorem tsz65 : Tryz.t65.size = 1 := rfl
@[go_sem] theorem tby65 : Tryz.t65.bytes = 8 := rfl
@[go_sem] theorem zer65 : zeroA Tryz.prog 65 = some [.nilFunc] := zeroA_of inf65 rfl
@[go_sem] theorem inf66 : Tryz.prog.info? 66 = some Tryz.t66 := info_of Tryz.type66
@[go_sem] theorem has66 : hasT Tryz.prog 66 = true := hasT_of inf66
@[go_sem] theorem siz66 : sizeT Tryz.prog 66 = 1 := sizeT_of inf66 rfl
@[go_sem] theorem tsz66 : Tryz.t66.size = 1 := rfl
@[go_sem] theorem tby66 : Tryz.t66.bytes = 8 := rfl
@[go_sem] theorem zer66 : zeroA Tryz.prog 66 = some [.nilFunc] := zeroA_of inf66 rfl
@[go_sem] theorem inf67 : Tryz.prog.info? 67 = some Tryz.t67 := info_of Tryz.type67
@[go_sem] theorem has67 : hasT Tryz.prog 67 = true := hasT_of inf67
@[go_sem] theorem siz67 : sizeT Tryz.prog 67 = 1 := sizeT_of inf67 rfl
@[go_sem] theorem tsz67 : Tryz.t67.size = 1 := rfl
@[go_sem] theorem tby67 : Tryz.t67.bytes = 8 := rfl
@[go_sem] theorem zer67 : zeroA Tryz.prog 67 = some [.nilFunc] := zeroA_of inf67 rfl
@[go_sem] theorem inf68 : Tryz.prog.info? 68 = some Tryz.t68 := info_of Tryz.type68
@[go_sem] theorem has68 : hasT Tryz.prog 68 = true := hasT_of inf68
@[go_sem] theorem siz68 : sizeT Tryz.prog 68 = 1 := sizeT_of inf68 rfl
@[go_sem] theorem tsz68 : Tryz.t68.size = 1 := rfl
@[go_sem] theorem tby68 : Tryz.t68.bytes = 8 := rfl
@[go_sem] theorem zer68 : zeroA Tryz.prog 68 = some [.nilFunc] := zeroA_of inf68 rfl
@[go_sem] theorem inf69 : Tryz.prog.info? 69 = some Tryz.t69 := info_of Tryz.type69
@[go_sem] theorem has69 : hasT Tryz.prog 69 = true := hasT_of inf69
@[go_sem] theorem siz69 : sizeT Tryz.prog 69 = 1 := sizeT_of inf69 rfl
@[go_sem] theorem tsz69 : Tryz.t69.size = 1 := rfl
@[go_sem] theorem tby69 : Tryz.t69.bytes = 8 := rfl
@[go_sem] theorem zer69 : zeroA Tryz.prog 69 = some [.nilFunc] := zeroA_of inf69 rfl
@[go_sem] theorem inf70 : Tryz.prog.info? 70 = some Tryz.t70 := info_of Tryz.type70
@[go_sem] theorem has70 : hasT Tryz.prog 70 = true := hasT_of inf70
@[go_sem] theorem siz70 : sizeT Tryz.prog 70 = 1 := sizeT_of inf70 rfl
@[go_sem] theorem tsz70 : Tryz.t70.size = 1 := rfl
@[go_sem] theorem tby70 : Tryz.t70.bytes = 8 := rfl
@[go_sem] theorem zer70 : zeroA Tryz.prog 70 = some [.nilFunc] := zeroA_of inf70 rfl
@[go_sem] theorem inf71 : Tryz.prog.info? 71 = some Tryz.t71 := info_of Tryz.type71
@[go_sem] theorem has71 : hasT Tryz.prog 71 = true := hasT_of inf71
@[go_sem] theorem siz71 : sizeT Tryz.prog 71 = 1 := sizeT_of inf71 rfl
@[go_sem] theorem tsz71 : Tryz.t71.size = 1 := rfl
@[go_sem] theorem tby71 : Tryz.t71.bytes = 0 := rfl
@[go_sem] theorem zer71 : zeroA Tryz.prog 71 = some [.tuple [.agg [.int .i64 0, .int .i64 0, .int .i64 0, .int .i64 0], .agg [.int .i64 0], .int .i64 0]] := zeroA_of inf71 rfl
@[go_sem] theorem inf72 : Tryz.prog.info? 72 = some Tryz.t72 := info_of Tryz.type72
@[go_sem] theorem has72 : hasT Tryz.prog 72 = true := hasT_of inf72
@[go_sem] theorem siz72 : sizeT Tryz.prog 72 = 1 := sizeT_of inf72 rfl
@[go_sem] theorem tsz72 : Tryz.t72.size = 1 := rfl
@[go_sem] theorem tby72 : Tryz.t72.bytes = 8 := rfl
@[go_sem] theorem zer72 : zeroA Tryz.prog 72 = some [.nilFunc] := zeroA_of inf72 rfl
@[go_sem] theorem inf73 : Tryz.prog.info? 73 = some Tryz.t73 := info_of Tryz.type73
@[go_sem] theorem has73 : hasT Tryz.prog 73 = true := hasT_of inf73
@[go_sem] theorem siz73 : sizeT Tryz.prog 73 = 1 := sizeT_of inf73 rfl
@[go_sem] theorem tsz73 : Tryz.t73.size = 1 := rfl
@[go_sem] theorem tby73 : Tryz.t73.bytes = 8 := rfl
@[go_sem] theorem zer73 : zeroA Tryz.prog 73 = some [.nilFunc] := zeroA_of inf73 rfl
@[go_sem] theorem inf74 : Tryz.prog.info? 74 = some Tryz.t74 := info_of Tryz.type74
@[go_sem] theorem has74 : hasT Tryz.prog 74 = true := hasT_of inf74
@[go_sem] theorem siz74 : sizeT Tryz.prog 74 = 1 := sizeT_of inf74 rfl
@[go_sem] theorem tsz74 : Tryz.t74.size = 1 := rfl
@[go_sem] theorem tby74 : Tryz.t74.bytes = 24 := rfl
@[go_sem] theorem zer74 : zeroA Tryz.prog 74 = some [.nilSlice] := zeroA_of inf74 rfl
@[go_sem] theorem inf75 : Tryz.prog.info? 75 = some Tryz.t75 := info_of Tryz.type75
@[go_sem] theorem has75 : hasT Tryz.prog 75 = true := hasT_of inf75
@[go_sem] theorem siz75 : sizeT Tryz.prog 75 = 1 := sizeT_of inf75 rfl
@[go_sem] theorem tsz75 : Tryz.t75.size = 1 := rfl
@[go_sem] theorem tby75 : Tryz.t75.bytes = 0 := rfl
@[go_sem] theorem zer75 : zeroA Tryz.prog 75 = some [.tuple [.nilSlice, .int .i64 0]] := zeroA_of inf75 rfl
@[go_sem] theorem inf76 : Tryz.prog.info? 76 = some Tryz.t76 := info_of Tryz.type76
@[go_sem] theorem has76 : hasT Tryz.prog 76 = true := hasT_of inf76
@[go_sem] theorem siz76 : sizeT Tryz.prog 76 = 1 := sizeT_of inf76 rfl
@[go_sem] theorem tsz76 : Tryz.t76.size = 1 := rfl
@[go_sem] theorem tby76 : Tryz.t76.bytes = 8 := rfl
@[go_sem] theorem zer76 : zeroA Tryz.prog 76 = some [.nilFunc] := zeroA_of inf76 rfl
@[go_sem] theorem inf77 : Tryz.prog.info? 77 = some Tryz.t77 := info_of Tryz.type77
@[go_sem] theorem has77 : hasT Tryz.prog 77 = true := hasT_of inf77
@[go_sem] theorem siz77 : sizeT Tryz.prog 77 = 1 := sizeT_of inf77 rfl
@[go_sem] theorem tsz77 : Tryz.t77.size = 1 := rfl
@[go_sem] theorem tby77 : Tryz.t77.bytes = 8 := rfl
@[go_sem] theorem zer77 : zeroA Tryz.prog 77 = some [.nilFunc] := zeroA_of inf77 rfl
@[go_sem] theorem inf78 : Tryz.prog.info? 78 = some Tryz.t78 := info_of Tryz.type78
@[go_sem] theorem has78 : hasT Tryz.prog 78 = true := hasT_of inf78
@[go_sem] theorem siz78 : sizeT Tryz.prog 78 = 1 := sizeT_of inf78 rfl
@[go_sem] theorem tsz78 : Tryz.t78.size = 1 := rfl
@[go_sem] theorem tby78 : Tryz.t78.bytes = 0 := rfl
@[go_sem] theorem zer78 : zeroA Tryz.prog 78 = some [.tuple [.agg [.nilSlice, .int .i64 0], .int .i64 0]] := zeroA_of inf78 rfl
@[go_sem] theorem inf79 : Tryz.prog.info? 79 = some Tryz.t79 := info_of Tryz.type79
@[go_sem] theorem has79 : hasT Tryz.prog 79 = true := hasT_of inf79
@[go_sem] theorem siz79 : sizeT Tryz.prog 79 = 1 := sizeT_of inf79 rfl
@[go_sem] theorem tsz79 : Tryz.t79.size = 1 := rfl
@[go_sem] theorem tby79 : Tryz.t79.bytes = 8 := rfl
@[go_sem] theorem zer79 : zeroA Tryz.prog 79 = some [.nilFunc] := zeroA_of inf79 rfl
@[go_sem] theorem inf80 : Tryz.prog.info? 80 = some Tryz.t80 := info_of Tryz.type80
@[go_sem] theorem has80 : hasT Tryz.prog 80 = true := hasT_of inf80
@[go_sem] theorem siz80 : sizeT Tryz.prog 80 = 2 := sizeT_of inf80 rfl
@[go_sem] theorem tsz80 : Tryz.t80.size = 2 := rfl
@[go_sem] theorem tby80 : Tryz.t80.bytes = 24 := rfl
@[go_sem] theorem zer80 : zeroA Tryz.prog 80 = some [.str ⟨#[]⟩, .int .i64 0] := zeroA_of inf80 rfl
@[go_sem] theorem inf81 : Tryz.prog.info? 81 = some Tryz.t81 := info_of Tryz.type81
@[go_sem] theorem has81 : hasT Tryz.prog 81 = true := hasT_of inf81
@[go_sem] theorem siz81 : sizeT Tryz.prog 81 = 2 := sizeT_of inf81 rfl
@[go_sem] theorem tsz81 : Tryz.t81.size = 2 := rfl
@[go_sem] theorem tby81 : Tryz.t81.bytes = 24 := rfl
@[go_sem] theorem zer81 : zeroA Tryz.prog 81 = some [.str ⟨#[]⟩, .int .i64 0] := zeroA_of inf81 rfl
@[go_sem] theorem inf82 : Tryz.prog.info? 82 = some Tryz.t82 := info_of Tryz.type82
@[go_sem] theorem has82 : hasT Tryz.prog 82 = true := hasT_of inf82
@[go_sem] theorem siz82 : sizeT Tryz.prog 82 = 1 := sizeT_of inf82 rfl
@[go_sem] theorem tsz82 : Tryz.t82.size = 1 := rfl
@[go_sem] theorem tby82 : Tryz.t82.bytes = 8 := rfl
@[go_sem] theorem zer82 : zeroA Tryz.prog 82 = some [.nilFunc] := zeroA_of inf82 rfl
@[go_sem] theorem inf83 : Tryz.prog.info? 83 = some Tryz.t83 := info_of Tryz.type83
@[go_sem] theorem has83 : hasT Tryz.prog 83 = true := hasT_of inf83
@[go_sem] theorem siz83 : sizeT Tryz.prog 83 = 1 := sizeT_of inf83 rfl
@[go_sem] theorem tsz83 : Tryz.t83.size = 1 := rfl
@[go_sem] theorem tby83 : Tryz.t83.bytes = 8 := rfl
@[go_sem] theorem zer83 : zeroA Tryz.prog 83 = some [.nilFunc] := zeroA_of inf83 rfl
@[go_sem] theorem inf84 : Tryz.prog.info? 84 = some Tryz.t84 := info_of Tryz.type84
@[go_sem] theorem has84 : hasT Tryz.prog 84 = true := hasT_of inf84
@[go_sem] theorem siz84 : sizeT Tryz.prog 84 = 1 := sizeT_of inf84 rfl
@[go_sem] theorem tsz84 : Tryz.t84.size = 1 := rfl
@[go_sem] theorem tby84 : Tryz.t84.bytes = 24 := rfl
@[go_sem] theorem zer84 : zeroA Tryz.prog 84 = some [.nilSlice] := zeroA_of inf84 rfl
@[go_sem] theorem inf85 : Tryz.prog.info? 85 = some Tryz.t85 := info_of Tryz.type85
@[go_sem] theorem has85 : hasT Tryz.prog 85 = true := hasT_of inf85
@[go_sem] theorem siz85 : sizeT Tryz.prog 85 = 2 := sizeT_of inf85 rfl
@[go_sem] theorem tsz85 : Tryz.t85.size = 2 := rfl
@[go_sem] theorem tby85 : Tryz.t85.bytes = 16 := rfl
@[go_sem] theorem zer85 : zeroA Tryz.prog 85 = some [.int .i64 0, .int .i64 0] := zeroA_of inf85 rfl
@[go_sem] theorem inf86 : Tryz.prog.info? 86 = some Tryz.t86 := info_of Tryz.type86
@[go_sem] theorem has86 : hasT Tryz.prog 86 = true := hasT_of inf86
@[go_sem] theorem siz86 : sizeT Tryz.prog 86 = 1 := sizeT_of inf86 rfl
@[go_sem] theorem tsz86 : Tryz.t86.size = 1 := rfl
@[go_sem] theorem tby86 : Tryz.t86.bytes = 24 := rfl
@[go_sem] theorem zer86 : zeroA Tryz.prog 86 = some [.nilSlice] := zeroA_of inf86 rfl
@[go_sem] theorem inf87 : Tryz.prog.info? 87 = some Tryz.t87 := info_of Tryz.type87
@[go_sem] theorem has87 : hasT Tryz.prog 87 = true := hasT_of inf87
@[go_sem] theorem siz87 : sizeT Tryz.prog 87 = 1 := sizeT_of inf87 rfl
@[go_sem] theorem tsz87 : Tryz.t87.size = 1 := rfl
@[go_sem] theorem tby87 : Tryz.t87.bytes = 8 := rfl
@[go_sem] theorem zer87 : zeroA Tryz.prog 87 = some [.nilFunc] := zeroA_of inf87 rfl
@[go_sem] theorem inf88 : Tryz.prog.info? 88 = some Tryz.t88 := info_of Tryz.type88
@[go_sem] theorem has88 : hasT Tryz.prog 88 = true := hasT_of inf88
@[go_sem] theorem siz88 : sizeT Tryz.prog 88 = 1 := sizeT_of inf88 rfl
@[go_sem] theorem tsz88 : Tryz.t88.size = 1 := rfl
@[go_sem] theorem tby88 : Tryz.t88.bytes = 8 := rfl
@[go_sem] theorem zer88 : zeroA Tryz.prog 88 = some [.nilFunc] := zeroA_of inf88 rfl
@[go_sem] theorem inf89 : Tryz.prog.info? 89 = some Tryz.t89 := info_of Tryz.type89
@[go_sem] theorem has89 : hasT Tryz.prog 89 = true := hasT_of inf89
@[go_sem] theorem siz89 : sizeT Tryz.prog 89 = 2 := sizeT_of inf89 rfl
@[go_sem] theorem tsz89 : Tryz.t89.size = 2 := rfl
@[go_sem] theorem tby89 : Tryz.t89.bytes = 32 := rfl
@[go_sem] theorem zer89 : zeroA Tryz.prog 89 = some [.nilSlice, .int .i64 0] := zeroA_of inf89 rfl
@[go_sem] theorem inf90 : Tryz.prog.info? 90 = some Tryz.t90 := info_of Tryz.type90
@[go_sem] theorem has90 : hasT Tryz.prog 90 = true := hasT_of inf90
@[go_sem] theorem siz90 : sizeT Tryz.prog 90 = 2 := sizeT_of inf90 rfl
@[go_sem] theorem tsz90 : Tryz.t90.size = 2 := rfl
@[go_sem] theorem tby90 : Tryz.t90.bytes = 32 := rfl
@[go_sem] theorem zer90 : zeroA Tryz.prog 90 = some [.nilSlice, .int .i64 0] := zeroA_of inf90 rfl
@[go_sem] theorem inf91 : Tryz.prog.info? 91 = some Tryz.t91 := info_of Tryz.type91
@[go_sem] theorem has91 : hasT Tryz.prog 91 = true := hasT_of inf91
@[go_sem] theorem siz91 : sizeT Tryz.prog 91 = 1 := sizeT_of inf91 rfl
@[go_sem] theorem tsz91 : Tryz.t91.size = 1 := rfl
@[go_sem] theorem tby91 : Tryz.t91.bytes = 8 := rfl
@[go_sem] theorem zer91 : zeroA Tryz.prog 91 = some [.nilFunc] := zeroA_of inf91 rfl
@[go_sem] theorem inf92 : Tryz.prog.info? 92 = some Tryz.t92 := info_of Tryz.type92
@[go_sem] theorem has92 : hasT Tryz.prog 92 = true := hasT_of inf92
@[go_sem] theorem siz92 : sizeT Tryz.prog 92 = 1 := sizeT_of inf92 rfl
@[go_sem] theorem tsz92 : Tryz.t92.size = 1 := rfl
@[go_sem] theorem tby92 : Tryz.t92.bytes = 8 := rfl
@[go_sem] theorem zer92 : zeroA Tryz.prog 92 = some [.nilFunc] := zeroA_of inf92 rfl
@[go_sem] theorem inf93 : Tryz.prog.info? 93 = some Tryz.t93 := info_of Tryz.type93
@[go_sem] theorem has93 : hasT Tryz.prog 93 = true := hasT_of inf93
@[go_sem] theorem siz93 : sizeT Tryz.prog 93 = 1 := sizeT_of inf93 rfl
@[go_sem] theorem tsz93 : Tryz.t93.size = 1 := rfl
@[go_sem] theorem tby93 : Tryz.t93.bytes = 8 := rfl
@[go_sem] theorem zer93 : zeroA Tryz.prog 93 = some [.nilFunc] := zeroA_of inf93 rfl
@[go_sem] theorem inf94 : Tryz.prog.info? 94 = some Tryz.t94 := info_of Tryz.type94
@[go_sem] theorem has94 : hasT Tryz.prog 94 = true := hasT_of inf94
@[go_sem] theorem siz94 : sizeT Tryz.prog 94 = 1 := sizeT_of inf94 rfl
@[go_sem] theorem tsz94 : Tryz.t94.size = 1 := rfl
@[go_sem] theorem tby94 : Tryz.t94.bytes = 8 := rfl
@[go_sem] theorem zer94 : zeroA Tryz.prog 94 = some [.nilFunc] := zeroA_of inf94 rfl
@[go_sem] theorem inf95 : Tryz.prog.info? 95 = some Tryz.t95 := info_of Tryz.type95
@[go_sem] theorem has95 : hasT Tryz.prog 95 = true := hasT_of inf95
@[go_sem] theorem siz95 : sizeT Tryz.prog 95 = 1 := sizeT_of inf95 rfl
@[go_sem] theorem tsz95 : Tryz.t95.size = 1 := rfl
@[go_sem] theorem tby95 : Tryz.t95.bytes = 8 := rfl
@[go_sem] theorem zer95 : zeroA Tryz.prog 95 = some [.nilPtr] := zeroA_of inf95 rfl
@[go_sem] theorem inf96 : Tryz.prog.info? 96 = some Tryz.t96 := info_of Tryz.type96
@[go_sem] theorem has96 : hasT Tryz.prog 96 = true := hasT_of inf96
@[go_sem] theorem siz96 : sizeT Tryz.prog 96 = 9 := sizeT_of inf96 rfl
@[go_sem] theorem tsz96 : Tryz.t96.size = 9 := rfl
@[go_sem] theorem tby96 : Tryz.t96.bytes = 104 := rfl
@[go_sem] theorem zer96 : zeroA Tryz.prog 96 = some [.int .i64 0, .int .i64 0, .int .i64 0, .int .i64 0, .int .i64 0, .int .i64 0, .nilSlice, .nilSlice, .int .i64 0] := zeroA_of inf96 rfl
@[go_sem] theorem inf97 : Tryz.prog.info? 97 = some Tryz.t97 := info_of Tryz.type97
@[go_sem] theorem has97 : hasT Tryz.prog 97 = true := hasT_of inf97
@[go_sem] theorem siz97 : sizeT Tryz.prog 97 = 9 := sizeT_of inf97 rfl
@[go_sem] theorem tsz97 : Tryz.t97.size = 9 := rfl
@[go_sem] theorem tby97 : Tryz.t97.bytes = 104 := rfl
@[go_sem] theorem zer97 : zeroA Tryz.prog 97 = some [.int .i64 0, .int .i64 0, .int .i64 0, .int .i64 0, .int .i64 0, .int .i64 0, .nilSlice, .nilSlice, .int .i64 0] := zeroA_of inf97 rfl
@[go_sem] theorem inf98 : Tryz.prog.info? 98 = some Tryz.t98 := info_of Tryz.type98
@[go_sem] theorem has98 : hasT Tryz.prog 98 = true := hasT_of inf98
@[go_sem] theorem siz98 : sizeT Tryz.prog 98 = 1 := sizeT_of inf98 rfl
@[go_sem] theorem tsz98 : Tryz.t98.size = 1 := rfl
@[go_sem] theorem tby98 : Tryz.t98.bytes = 8 := rfl
@[go_sem] theorem zer98 : zeroA Tryz.prog 98 = some [.nilFunc] := zeroA_of inf98 rfl
@[go_sem] theorem inf99 : Tryz.prog.info? 99 = some Tryz.t99 := info_of Tryz.type99
@[go_sem] theorem has99 : hasT Tryz.prog 99 = true := hasT_of inf99
@[go_sem] theorem siz99 : sizeT Tryz.prog 99 = 1 := sizeT_of inf99 rfl
@[go_sem] theorem tsz99 : Tryz.t99.size = 1 := rfl
@[go_sem] theorem tby99 : Tryz.t99.bytes = 8 := rfl
@[go_sem] theorem zer99 : zeroA Tryz.prog 99 = some [.nilFunc] := zeroA_of inf99 rfl
@[go_sem] theorem inf100 : Tryz.prog.info? 100 = some Tryz.t100 := info_of Tryz.type100
@[go_sem] theorem has100 : hasT Tryz.prog 100 = true := hasT_of inf100
@[go_sem] theorem siz100 : sizeT Tryz.prog 100 = 1 := sizeT_of inf100 rfl
@[go_sem] theorem tsz100 : Tryz.t100.size = 1 := rfl
@[go_sem] theorem tby100 : Tryz.t100.bytes = 0 := rfl
@[go_sem] theorem zer100 : zeroA Tryz.prog 100 = some [.tuple [.nilSlice, .agg [.nilSlice, .int .i64 0], .int .i64 0]] := zeroA_of inf100 rfl
@[go_sem] theorem inf101 : Tryz.prog.info? 101 = some Tryz.t101 := info_of Tryz.type101
@[go_sem] theorem has101 : hasT Tryz.prog 101 = true := hasT_of inf101
@[go_sem] theorem siz101 : sizeT Tryz.prog 101 = 1 := sizeT_of inf101 rfl
@[go_sem] theorem tsz101 : Tryz.t101.size = 1 := rfl
@[go_sem] theorem tby101 : Tryz.t101.bytes = 8 := rfl
@[go_sem] theorem zer101 : zeroA Tryz.prog 101 = some [.nilFunc] := zeroA_of inf101 rfl
@[go_sem] theorem inf102 : Tryz.prog.info? 102 = some Tryz.t102 := info_of Tryz.type102
@[go_sem] theorem has102 : hasT Tryz.prog 102 = true := hasT_of inf102
@[go_sem] theorem siz102 : sizeT Tryz.prog 102 = 1 := sizeT_of inf102 rfl
@[go_sem] theorem tsz102 : Tryz.t102.size = 1 := rfl
@[go_sem] theorem tby102 : Tryz.t102.bytes = 8 := rfl
@[go_sem] theorem zer102 : zeroA Tryz.prog 102 = some [.nilFunc] := zeroA_of inf102 rfl
@[go_sem] theorem inf103 : Tryz.prog.info? 103 = some Tryz.t103 := info_of Tryz.type103
@[go_sem] theorem has103 : hasT Tryz.prog 103 = true := hasT_of inf103
@[go_sem] theorem siz103 : sizeT Tryz.prog 103 = 1 := sizeT_of inf103 rfl
@[go_sem] theorem tsz103 : Tryz.t103.size = 1 := rfl
@[go_sem] theorem tby103 : Tryz.t103.bytes = 8 := rfl
@[go_sem] theorem zer103 : zeroA Tryz.prog 103 = some [.nilFunc] := zeroA_of inf103 rfl
@[go_sem] theorem inf104 : Tryz.prog.info? 104 = some Tryz.t104 := info_of Tryz.type104
@[go_sem] theorem has104 : hasT Tryz.prog 104 = true := hasT_of inf104
@[go_sem] theorem siz104 : sizeT Tryz.prog 104 = 1 := sizeT_of inf104 rfl
@[go_sem] theorem tsz104 : Tryz.t104.size = 1 := rfl
@[go_sem] theorem tby104 : Tryz.t104.bytes = 8 := rfl
@[go_sem] theorem zer104 : zeroA Tryz.prog 104 = some [.nilFunc] := zeroA_of inf104 rfl
@[go_sem] theorem inf105 : Tryz.prog.info? 105 = some Tryz.t105 := info_of Tryz.type105
@[go_sem] theorem has105 : hasT Tryz.prog 105 = true := hasT_of inf105
@[go_sem] theorem siz105 : sizeT Tryz.prog 105 = 1 := sizeT_of inf105 rfl
@[go_sem] theorem tsz105 : Tryz.t105.size = 1 := rfl
@[go_sem] theorem tby105 : Tryz.t105.bytes = 8 := rfl
@[go_sem] theorem zer105 : zeroA Tryz.prog 105 = some [.nilFunc] := zeroA_of inf105 rfl
@[go_sem] theorem inf106 : Tryz.prog.info? 106 = some Tryz.t106 := info_of Tryz.type106
@[go_sem] theorem has106 : hasT Tryz.prog 106 = true := hasT_of inf106
@[go_sem] theorem siz106 : sizeT Tryz.prog 106 = 1 := sizeT_of inf106 rfl
@[go_sem] theorem tsz106 : Tryz.t106.size = 1 := rfl
@[go_sem] theorem tby106 : Tryz.t106.bytes = 8 := rfl
@[go_sem] theorem zer106 : zeroA Tryz.prog 106 = some [.nilFunc] := zeroA_of inf106 rfl
@[go_sem] theorem inf107 : Tryz.prog.info? 107 = some Tryz.t107 := info_of Tryz.type107
@[go_sem] theorem has107 : hasT Tryz.prog 107 = true := hasT_of inf107
@[go_sem] theorem siz107 : sizeT Tryz.prog 107 = 1 := sizeT_of inf107 rfl
@[go_sem] theorem tsz107 : Tryz.t107.size = 1 := rfl
@[go_sem] theorem tby107 : Tryz.t107.bytes = 8 := rfl
@[go_sem] theorem zer107 : zeroA Tryz.prog 107 = some [.nilFunc] := zeroA_of inf107 rfl
@[go_sem] theorem inf108 : Tryz.prog.info? 108 = some Tryz.t108 := info_of Tryz.type108
@[go_sem] theorem has108 : hasT Tryz.prog 108 = true := hasT_of inf108
@[go_sem] theorem siz108 : sizeT Tryz.prog 108 = 5 := sizeT_of inf108 rfl
@[go_sem] theorem tsz108 : Tryz.t108.size = 5 := rfl
@[go_sem] theorem tby108 : Tryz.t108.bytes = 72 := rfl
@[go_sem] theorem zer108 : zeroA Tryz.prog 108 = some [.int .i64 0, .int .i64 0, .int .i64 0, .nilSlice, .nilSlice] := zeroA_of inf108 rfl
@[go_sem] theorem inf109 : Tryz.prog.info? 109 = some Tryz.t109 := info_of Tryz.type109
@[go_sem] theorem has109 : hasT Tryz.prog 109 = true := hasT_of inf109
@[go_sem] theorem siz109 : sizeT Tryz.prog 109 = 5 := sizeT_of inf109 rfl
@[go_sem] theorem tsz109 : Tryz.t109.size = 5 := rfl
@[go_sem] theorem tby109 : Tryz.t109.bytes = 72 := rfl
@[go_sem] theorem zer109 : zeroA Tryz.prog 109 = some [.int .i64 0, .int .i64 0, .int .i64 0, .nilSlice, .nilSlice] := zeroA_of inf109 rfl
@[go_sem] theorem inf110 : Tryz.prog.info? 110 = some Tryz.t110 := info_of Tryz.type110
@[go_sem] theorem has110 : hasT Tryz.prog 110 = true := hasT_of inf110
@[go_sem] theorem siz110 : sizeT Tryz.prog 110 = 1 := sizeT_of inf110 rfl
@[go_sem] theorem tsz110 : Tryz.t110.size = 1 := rfl
@[go_sem] theorem tby110 : Tryz.t110.bytes = 8 := rfl
@[go_sem] theorem zer110 : zeroA Tryz.prog 110 = some [.nilFunc] := zeroA_of inf110 rfl
@[go_sem] theorem inf111 : Tryz.prog.info? 111 = some Tryz.t111 := info_of Tryz.type111
@[go_sem] theorem has111 : hasT Tryz.prog 111 = true := hasT_of inf111
@[go_sem] theorem siz111 : sizeT Tryz.prog 111 = 1 := sizeT_of inf111 rfl
@[go_sem] theorem tsz111 : Tryz.t111.size = 1 := rfl
@[go_sem] theorem tby111 : Tryz.t111.bytes = 8 := rfl
@[go_sem] theorem zer111 : zeroA Tryz.prog 111 = some [.nilFunc] := zeroA_of inf111 rfl
@[go_sem] theorem inf112 : Tryz.prog.info? 112 = some Tryz.t112 := info_of Tryz.type112
@[go_sem] theorem has112 : hasT Tryz.prog 112 = true := hasT_of inf112
@[go_sem] theorem siz112 : sizeT Tryz.prog 112 = 1 := sizeT_of inf112 rfl
@[go_sem] theorem tsz112 : Tryz.t112.size = 1 := rfl
@[go_sem] theorem tby112 : Tryz.t112.bytes = 24 := rfl
@[go_sem] theorem zer112 : zeroA Tryz.prog 112 = some [.nilSlice] := zeroA_of inf112 rfl
@[go_sem] theorem inf113 : Tryz.prog.info? 113 = some Tryz.t113 := info_of Tryz.type113
@[go_sem] theorem has113 : hasT Tryz.prog 113 = true := hasT_of inf113
@[go_sem] theorem siz113 : sizeT Tryz.prog 113 = 1 := sizeT_of inf113 rfl
@[go_sem] theorem tsz113 : Tryz.t113.size = 1 := rfl
@[go_sem] theorem tby113 : Tryz.t113.bytes = 8 := rfl
@[go_sem] theorem zer113 : zeroA Tryz.prog 113 = some [.nilFunc] := zeroA_of inf113 rfl
@[go_sem] theorem inf114 : Tryz.prog.info? 114 = some Tryz.t114 := info_of Tryz.type114
@[go_sem] theorem has114 : hasT Tryz.prog 114 = true := hasT_of inf114
@[go_sem] theorem siz114 : sizeT Tryz.prog 114 = 1 := sizeT_of inf114 rfl
@[go_sem] theorem tsz114 : Tryz.t114.size = 1 := rfl
@[go_sem] theorem tby114 : Tryz.t114.bytes = 8 := rfl
@[go_sem] theorem zer114 : zeroA Tryz.prog 114 = some [.nilFunc] := zeroA_of inf114 rfl
@[go_sem] theorem inf115 : Tryz.prog.info? 115 = some Tryz.t115 := info_of Tryz.type115
@[go_sem] theorem has115 : hasT Tryz.prog 115 = true := hasT_of inf115
@[go_sem] theorem siz115 : sizeT Tryz.prog 115 = 1 := sizeT_of inf115 rfl
@[go_sem] theorem tsz115 : Tryz.t115.size = 1 := rfl
@[go_sem] theorem tby115 : Tryz.t115.bytes = 8 := rfl
@[go_sem] theorem zer115 : zeroA Tryz.prog 115 = some [.nilFunc] := zeroA_of inf115 rfl
@[go_sem] theorem inf116 : Tryz.prog.info? 116 = some Tryz.t116 := info_of Tryz.type116
@[go_sem] theorem has116 : hasT Tryz.prog 116 = true := hasT_of inf116
@[go_sem] theorem siz116 : sizeT Tryz.prog 116 = 2 := sizeT_of inf116 rfl
@[go_sem] theorem tsz116 : Tryz.t116.size = 2 := rfl
@[go_sem] theorem tby116 : Tryz.t116.bytes = 48 := rfl
@[go_sem] theorem zer116 : zeroA Tryz.prog 116 = some [.nilSlice, .nilSlice] := zeroA_of inf116 rfl
@[go_sem] theorem inf117 : Tryz.prog.info? 117 = some Tryz.t117 := info_of Tryz.type117
@[go_sem] theorem has117 : hasT Tryz.prog 117 = true := hasT_of inf117
@[go_sem] theorem siz117 : sizeT Tryz.prog 117 = 2 := sizeT_of inf117 rfl
@[go_sem] theorem tsz117 : Tryz.t117.size = 2 := rfl
@[go_sem] theorem tby117 : Tryz.t117.bytes = 48 := rfl
@[go_sem] theorem zer117 : zeroA Tryz.prog 117 = some [.nilSlice, .nilSlice] := zeroA_of inf117 rfl
@[go_sem] theorem inf118 : Tryz.prog.info? 118 = some Tryz.t118 := info_of Tryz.type118
@[go_sem] theorem has118 : hasT Tryz.prog 118 = true := hasT_of inf118
@[go_sem] theorem siz118 : sizeT Tryz.prog 118 = 1 := sizeT_of inf118 rfl
@[go_sem] theorem tsz118 : Tryz.t118.size = 1 := rfl
@[go_sem] theorem tby118 : Tryz.t118.bytes = 8 := rfl
@[go_sem] theorem zer118 : zeroA Tryz.prog 118 = some [.nilFunc] := zeroA_of inf118 rfl
@[go_sem] theorem inf119 : Tryz.prog.info? 119 = some Tryz.t119 := info_of Tryz.type119
@[go_sem] theorem has119 : hasT Tryz.prog 119 = true := hasT_of inf119
@[go_sem] theorem siz119 : sizeT Tryz.prog 119 = 1 := sizeT_of inf119 rfl
@[go_sem] theorem tsz119 : Tryz.t119.size = 1 := rfl
@[go_sem] theorem tby119 : Tryz.t119.bytes = 8 := rfl
@[go_sem] theorem inf120 : Tryz.prog.info? 120 = some Tryz.t120 := info_of Tryz.type120
@[go_sem] theorem has120 : hasT Tryz.prog 120 = true := hasT_of inf120
@[go_sem] theorem siz120 : sizeT Tryz.prog 120 = 1 := sizeT_of inf120 rfl
@[go_sem] theorem tsz120 : Tryz.t120.size = 1 := rfl
@[go_sem] theorem tby120 : Tryz.t120.bytes = 8 := rfl
@[go_sem] theorem inf121 : Tryz.prog.info? 121 = some Tryz.t121 := info_of Tryz.type121
@[go_sem] theorem has121 : hasT Tryz.prog 121 = true := hasT_of inf121
@[go_sem] theorem siz121 : sizeT Tryz.prog 121 = 1 := sizeT_of inf121 rfl
@[go_sem] theorem tsz121 : Tryz.t121.size = 1 := rfl
@[go_sem] theorem tby121 : Tryz.t121.bytes = 0 := rfl
@[go_sem] theorem zer121 : zeroA Tryz.prog 121 = some [.tuple [.str ⟨#[]⟩, .int .i64 0]] := zeroA_of inf121 rfl
@[go_sem] theorem inf122 : Tryz.prog.info? 122 = some Tryz.t122 := info_of Tryz.type122
@[go_sem] theorem has122 : hasT Tryz.prog 122 = true := hasT_of inf122
@[go_sem] theorem siz122 : sizeT Tryz.prog 122 = 1 := sizeT_of inf122 rfl
@[go_sem] theorem tsz122 : Tryz.t122.size = 1 := rfl
@[go_sem] theorem tby122 : Tryz.t122.bytes = 8 := rfl
@[go_sem] theorem zer122 : zeroA Tryz.prog 122 = some [.nilFunc] := zeroA_of inf122 rfl
@[go_sem] theorem inf123 : Tryz.prog.info? 123 = some Tryz.t123 := info_of Tryz.type123
@[go_sem] theorem has123 : hasT Tryz.prog 123 = true := hasT_of inf123
@[go_sem] theorem siz123 : sizeT Tryz.prog 123 = 1 := sizeT_of inf123 rfl
@[go_sem] theorem tsz123 : Tryz.t123.size = 1 := rfl
@[go_sem] theorem tby123 : Tryz.t123.bytes = 24 := rfl
@[go_sem] theorem zer123 : zeroA Tryz.prog 123 = some [.nilSlice] := zeroA_of inf123 rfl
@[go_sem] theorem inf124 : Tryz.prog.info? 124 = some Tryz.t124 := info_of Tryz.type124
@[go_sem] theorem has124 : hasT Tryz.prog 124 = true := hasT_of inf124
@[go_sem] theorem siz124 : sizeT Tryz.prog 124 = 1 := sizeT_of inf124 rfl
@[go_sem] theorem tsz124 : Tryz.t124.size = 1 := rfl
@[go_sem] theorem tby124 : Tryz.t124.bytes = 8 := rfl
@[go_sem] theorem zer124 : zeroA Tryz.prog 124 = some [.nilFunc] := zeroA_of inf124 rfl
@[go_sem] theorem inf125 : Tryz.prog.info? 125 = some Tryz.t125 := info_of Tryz.type125
@[go_sem] theorem has125 : hasT Tryz.prog 125 = true := hasT_of inf125
@[go_sem] theorem siz125 : sizeT Tryz.prog 125 = 1 := sizeT_of inf125 rfl
@[go_sem] theorem tsz125 : Tryz.t125.size = 1 := rfl
@[go_sem] theorem tby125 : Tryz.t125.bytes = 8 := rfl
@[go_sem] theorem zer125 : zeroA Tryz.prog 125 = some [.nilFunc] := zeroA_of inf125 rfl
@[go_sem] theorem inf126 : Tryz.prog.info? 126 = some Tryz.t126 := info_of Tryz.type126
@[go_sem] theorem has126 : hasT Tryz.prog 126 = true := hasT_of inf126
@[go_sem] theorem siz126 : sizeT Tryz.prog 126 = 1 := sizeT_of inf126 rfl
@[go_sem] theorem tsz126 : Tryz.t126.size = 1 := rfl
@[go_sem] theorem tby126 : Tryz.t126.bytes = 8 := rfl
@[go_sem] theorem zer126 : zeroA Tryz.prog 126 = some [.nilFunc] := zeroA_of inf126 rfl
@[go_sem] theorem inf127 : Tryz.prog.info? 127 = some Tryz.t127 := info_of Tryz.type127
@[go_sem] theorem has127 : hasT Tryz.prog 127 = true := hasT_of inf127
@[go_sem] theorem siz127 : sizeT Tryz.prog 127 = 1 := sizeT_of inf127 rfl
@[go_sem] theorem tsz127 : Tryz.t127.size = 1 := rfl
@[go_sem] theorem tby127 : Tryz.t127.bytes = 8 := rfl
@[go_sem] theorem zer127 : zeroA Tryz.prog 127 = some [.nilFunc] := zeroA_of inf127 rfl
@[go_sem] theorem inf128 : Tryz.prog.info? 128 = some Tryz.t128 := info_of Tryz.type128
@[go_sem] theorem has128 : hasT Tryz.prog 128 = true := hasT_of inf128
@[go_sem] theorem siz128 : sizeT Tryz.prog 128 = 1 := sizeT_of inf128 rfl
@[go_sem] theorem tsz128 : Tryz.t128.size = 1 := rfl
@[go_sem] theorem tby128 : Tryz.t128.bytes = 8 := rfl
@[go_sem] theorem zer128 : zeroA Tryz.prog 128 = some [.nilFunc] := zeroA_of inf128 rfl
@[go_sem] theorem inf129 : Tryz.prog.info? 129 = some Tryz.t129 := info_of Tryz.type129
@[go_sem] theorem has129 : hasT Tryz.prog 129 = true := hasT_of inf129
@[go_sem] theorem siz129 : sizeT Tryz.prog 129 = 1 := sizeT_of inf129 rfl
@[go_sem] theorem tsz129 : Tryz.t129.size = 1 := rfl
@[go_sem] theorem tby129 : Tryz.t129.bytes = 8 := rfl
@[go_sem] theorem zer129 : zeroA Tryz.prog 129 = some [.nilFunc] := zeroA_of inf129 rfl
@[go_sem] theorem inf130 : Tryz.prog.info? 130 = some Tryz.t130 := info_of Tryz.type130
@[go_sem] theorem has130 : hasT Tryz.prog 130 = true := hasT_of inf130
@[go_sem] theorem siz130 : sizeT Tryz.prog 130 = 1 := sizeT_of inf130 rfl
@[go_sem] theorem tsz130 : Tryz.t130.size = 1 := rfl
@[go_sem] theorem tby130 : Tryz.t130.bytes = 8 := rfl
@[go_sem] theorem zer130 : zeroA Tryz.prog 130 = some [.nilFunc] := zeroA_of inf130 rfl
@[go_sem] theorem inf131 : Tryz.prog.info? 131 = some Tryz.t131 := info_of Tryz.type131
@[go_sem] theorem has131 : hasT Tryz.prog 131 = true := hasT_of inf131
@[go_sem] theorem siz131 : sizeT Tryz.prog 131 = 1 := sizeT_of inf131 rfl
@[go_sem] theorem tsz131 : Tryz.t131.size = 1 := rfl
@[go_sem] theorem tby131 : Tryz.t131.bytes = 8 := rfl
@[go_sem] theorem zer131 : zeroA Tryz.prog 131 = some [.nilFunc] := zeroA_of inf131 rfl
@[go_sem] theorem inf132 : Tryz.prog.info? 132 = some Tryz.t132 := info_of Tryz.type132
@[go_sem] theorem has132 : hasT Tryz.prog 132 = true := hasT_of inf132
@[go_sem] theorem siz132 : sizeT Tryz.prog 132 = 1 := sizeT_of inf132 rfl
@[go_sem] theorem tsz132 : Tryz.t132.size = 1 := rfl
@[go_sem] theorem tby132 : Tryz.t132.bytes = 8 := rfl
@[go_sem] theorem zer132 : zeroA Tryz.prog 132 = some [.nilFunc] := zeroA_of inf132 rfl
@[go_sem] theorem inf133 : Tryz.prog.info? 133 = some Tryz.t133 := info_of Tryz.type133
@[go_sem] theorem has133 : hasT Tryz.prog 133 = true := hasT_of inf133
@[go_sem] theorem siz133 : sizeT Tryz.prog 133 = 1 := sizeT_of inf133 rfl
@[go_sem] theorem tsz133 : Tryz.t133.size = 1 := rfl
@[go_sem] theorem tby133 : Tryz.t133.bytes = 8 := rfl
@[go_sem] theorem zer133 : zeroA Tryz.prog 133 = some [.nilFunc] := zeroA_of inf133 rfl
@[go_sem] theorem inf134 : Tryz.prog.info? 134 = some Tryz.t134 := info_of Tryz.type134
@[go_sem] theorem has134 : hasT Tryz.prog 134 = true := hasT_of inf134
@[go_sem] theorem siz134 : sizeT Tryz.prog 134 = 1 := sizeT_of inf134 rfl
@[go_sem] theorem tsz134 : Tryz.t134.size = 1 := rfl
@[go_sem] theorem tby134 : Tryz.t134.bytes = 8 := rfl
@[go_sem] theorem zer134 : zeroA Tryz.prog 134 = some [.int .u64 0] := zeroA_of inf134 rfl
@[go_sem] theorem inf135 : Tryz.prog.info? 135 = some Tryz.t135 := info_of Tryz.type135
@[go_sem] theorem has135 : hasT Tryz.prog 135 = true := hasT_of inf135
@[go_sem] theorem siz135 : sizeT Tryz.prog 135 = 1 := sizeT_of inf135 rfl
@[go_sem] theorem tsz135 : Tryz.t135.size = 1 := rfl
@[go_sem] theorem tby135 : Tryz.t135.bytes = 0 := rfl
@[go_sem] theorem zer135 : zeroA Tryz.prog 135 = some [.tuple [.int .u64 0, .int .u64 0]] := zeroA_of inf135 rfl
@[go_sem] theorem inf136 : Tryz.prog.info? 136 = some Tryz.t136 := info_of Tryz.type136
@[go_sem] theorem has136 : hasT Tryz.prog 136 = true := hasT_of inf136
@[go_sem] theorem siz136 : sizeT Tryz.prog 136 = 1 := sizeT_of inf136 rfl
@[go_sem] theorem tsz136 : Tryz.t136.size = 1 := rfl
@[go_sem] theorem tby136 : Tryz.t136.bytes = 8 := rfl
@[go_sem] theorem zer136 : zeroA Tryz.prog 136 = some [.nilFunc] := zeroA_of inf136 rfl
@[go_sem] theorem inf137 : Tryz.prog.info? 137 = some Tryz.t137 := info_of Tryz.type137
@[go_sem] theorem has137 : hasT Tryz.prog 137 = true := hasT_of inf137
@[go_sem] theorem siz137 : sizeT Tryz.prog 137 = 1 := sizeT_of inf137 rfl
@[go_sem] theorem tsz137 : Tryz.t137.size = 1 := rfl
@[go_sem] theorem tby137 : Tryz.t137.bytes = 0 := rfl
@[go_sem] theorem zer137 : zeroA Tryz.prog 137 = some [.tuple [.nilSlice, .bool false]] := zeroA_of inf137 rfl
@[go_sem] theorem inf138 : Tryz.prog.info? 138 = some Tryz.t138 := info_of Tryz.type138
@[go_sem] theorem has138 : hasT Tryz.prog 138 = true := hasT_of inf138
@[go_sem] theorem siz138 : sizeT Tryz.prog 138 = 1 := sizeT_of inf138 rfl
@[go_sem] theorem tsz138 : Tryz.t138.size = 1 := rfl
@[go_sem] theorem tby138 : Tryz.t138.bytes = 8 := rfl
@[go_sem] theorem zer138 : zeroA Tryz.prog 138 = some [.nilFunc] := zeroA_of inf138 rfl
@[go_sem] theorem inf139 : Tryz.prog.info? 139 = some Tryz.t139 := info_of Tryz.type139
@[go_sem] theorem has139 : hasT Tryz.prog 139 = true := hasT_of inf139
@[go_sem] theorem siz139 : sizeT Tryz.prog 139 = 1 := sizeT_of inf139 rfl
@[go_sem] theorem tsz139 : Tryz.t139.size = 1 := rfl
@[go_sem] theorem tby139 : Tryz.t139.bytes = 8 := rfl
@[go_sem] theorem zer139 : zeroA Tryz.prog 139 = some [.nilFunc] := zeroA_of inf139 rfl
@[go_sem] theorem inf140 : Tryz.prog.info? 140 = some Tryz.t140 := info_of Tryz.type140
@[go_sem] theorem has140 : hasT Tryz.prog 140 = true := hasT_of inf140
@[go_sem] theorem siz140 : sizeT Tryz.prog 140 = 1 := sizeT_of inf140 rfl
@[go_sem] theorem tsz140 : Tryz.t140.size = 1 := rfl
@[go_sem] theorem tby140 : Tryz.t140.bytes = 8 := rfl
@[go_sem] theorem zer140 : zeroA Tryz.prog 140 = some [.nilFunc] := zeroA_of inf140 rfl
@[go_sem] theorem inf141 : Tryz.prog.info? 141 = some Tryz.t141 := info_of Tryz.type141
@[go_sem] theorem has141 : hasT Tryz.prog 141 = true := hasT_of inf141
@[go_sem] theorem siz141 : sizeT Tryz.prog 141 = 3 := sizeT_of inf141 rfl
@[go_sem] theorem tsz141 : Tryz.t141.size = 3 := rfl
@[go_sem] theorem tby141 : Tryz.t141.bytes = 24 := rfl
@[go_sem] theorem zer141 : zeroA Tryz.prog 141 = some [.int .i64 0, .int .i64 0, .int .i64 0] := zeroA_of inf141 rfl
@[go_sem] theorem inf142 : Tryz.prog.info? 142 = some Tryz.t142 := info_of Tryz.type142
@[go_sem] theorem has142 : hasT Tryz.prog 142 = true := hasT_of inf142
@[go_sem] theorem siz142 : sizeT Tryz.prog 142 = 3 := sizeT_of inf142 rfl
@[go_sem] theorem tsz142 : Tryz.t142.size = 3 := rfl
@[go_sem] theorem tby142 : Tryz.t142.bytes = 24 := rfl
@[go_sem] theorem zer142 : zeroA Tryz.prog 142 = some [.int .i64 0, .int .i64 0, .int .i64 0] := zeroA_of inf142 rfl
@[go_sem] theorem inf143 : Tryz.prog.info? 143 = some Tryz.t143 := info_of Tryz.type143
@[go_sem] theorem has143 : hasT Tryz.prog 143 = true := hasT_of inf143
@[go_sem] theorem siz143 : sizeT Tryz.prog 143 = 3 := sizeT_of inf143 rfl
@[go_sem] theorem tsz143 : Tryz.t143.size = 3 := rfl
@[go_sem] theorem tby143 : Tryz.t143.bytes = 24 := rfl
@[go_sem] theorem zer143 : zeroA Tryz.prog 143 = some [.int .i64 0, .int .i64 0, .int .i64 0] := zeroA_of inf143 rfl
@[go_sem] theorem inf144 : Tryz.prog.info? 144 = some Tryz.t144 := info_of Tryz.type144
@[go_sem] theorem has144 : hasT Tryz.prog 144 = true := hasT_of inf144
@[go_sem] theorem siz144 : sizeT Tryz.prog 144 = 1 := sizeT_of inf144 rfl
@[go_sem] theorem tsz144 : Tryz.t144.size = 1 := rfl
@[go_sem] theorem tby144 : Tryz.t144.bytes = 8 := rfl
@[go_sem] theorem zer144 : zeroA Tryz.prog 144 = some [.nilFunc] := zeroA_of inf144 rfl
@[go_sem] theorem inf145 : Tryz.prog.info? 145 = some Tryz.t145 := info_of Tryz.type145
@[go_sem] theorem has145 : hasT Tryz.prog 145 = true := hasT_of inf145
@[go_sem] theorem siz145 : sizeT Tryz.prog 145 = 1 := sizeT_of inf145 rfl
@[go_sem] theorem tsz145 : Tryz.t145.size = 1 := rfl
@[go_sem] theorem tby145 : Tryz.t145.bytes = 8 := rfl
@[go_sem] theorem zer145 : zeroA Tryz.prog 145 = some [.nilFunc] := zeroA_of inf145 rfl
@[go_sem] theorem inf146 : Tryz.prog.info? 146 = some Tryz.t146 := info_of Tryz.type146
@[go_sem] theorem has146 : hasT Tryz.prog 146 = true := hasT_of inf146
@[go_sem] theorem siz146 : sizeT Tryz.prog 146 = 1 := sizeT_of inf146 rfl
@[go_sem] theorem tsz146 : Tryz.t146.size = 1 := rfl
@[go_sem] theorem tby146 : Tryz.t146.bytes = 8 := rfl
@[go_sem] theorem zer146 : zeroA Tryz.prog 146 = some [.nilFunc] := zeroA_of inf146 rfl
@[go_sem] theorem inf147 : Tryz.prog.info? 147 = some Tryz.t147 := info_of Tryz.type147
@[go_sem] theorem has147 : hasT Tryz.prog 147 = true := hasT_of inf147
@[go_sem] theorem siz147 : sizeT Tryz.prog 147 = 1 := sizeT_of inf147 rfl
@[go_sem] theorem tsz147 : Tryz.t147.size = 1 := rfl
@[go_sem] theorem tby147 : Tryz.t147.bytes = 8 := rfl
@[go_sem] theorem zer147 : zeroA Tryz.prog 147 = some [.nilFunc] := zeroA_of inf147 rfl
@[go_sem] theorem inf148 : Tryz.prog.info? 148 = some Tryz.t148 := info_of Tryz.type148
@[go_sem] theorem has148 : hasT Tryz.prog 148 = true := hasT_of inf148
@[go_sem] theorem siz148 : sizeT Tryz.prog 148 = 2 := sizeT_of inf148 rfl
@[go_sem] theorem tsz148 : Tryz.t148.size = 2 := rfl
@[go_sem] theorem tby148 : Tryz.t148.bytes = 16 := rfl
@[go_sem] theorem zer148 : zeroA Tryz.prog 148 = some [.int .i64 0, .int .i64 0] := zeroA_of inf148 rfl
@[go_sem] theorem inf149 : Tryz.prog.info? 149 = some Tryz.t149 := info_of Tryz.type149
@[go_sem] theorem has149 : hasT Tryz.prog 149 = true := hasT_of inf149
@[go_sem] theorem siz149 : sizeT Tryz.prog 149 = 2 := sizeT_of inf149 rfl
@[go_sem] theorem tsz149 : Tryz.t149.size = 2 := rfl
@[go_sem] theorem tby149 : Tryz.t149.bytes = 16 := rfl
@[go_sem] theorem zer149 : zeroA Tryz.prog 149 = some [.int .i64 0, .int .i64 0] := zeroA_of inf149 rfl
@[go_sem] theorem inf150 : Tryz.prog.info? 150 = some Tryz.t150 := info_of Tryz.type150
@[go_sem] theorem has150 : hasT Tryz.prog 150 = true := hasT_of inf150
@[go_sem] theorem siz150 : sizeT Tryz.prog 150 = 1 := sizeT_of inf150 rfl
@[go_sem] theorem tsz150 : Tryz.t150.size = 1 := rfl
@[go_sem] theorem tby150 : Tryz.t150.bytes = 8 := rfl
@[go_sem] theorem zer150 : zeroA Tryz.prog 150 = some [.nilFunc] := zeroA_of inf150 rfl
@[go_sem] theorem inf151 : Tryz.prog.info? 151 = some Tryz.t151 := info_of Tryz.type151
@[go_sem] theorem has151 : hasT Tryz.prog 151 = true := hasT_of inf151
@[go_sem] theorem siz151 : sizeT Tryz.prog 151 = 1 := sizeT_of inf151 rfl
@[go_sem] theorem tsz151 : Tryz.t151.size = 1 := rfl
@[go_sem] theorem tby151 : Tryz.t151.bytes = 8 := rfl
@[go_sem] theorem zer151 : zeroA Tryz.prog 151 = some [.nilFunc] := zeroA_of inf151 rfl
@[go_sem] theorem inf152 : Tryz.prog.info? 152 = some Tryz.t152 := info_of Tryz.type152
@[go_sem] theorem has152 : hasT Tryz.prog 152 = true := hasT_of inf152
@[go_sem] theorem siz152 : sizeT Tryz.prog 152 = 1 := sizeT_of inf152 rfl
@[go_sem] theorem tsz152 : Tryz.t152.size = 1 := rfl
@[go_sem] theorem tby152 : Tryz.t152.bytes = 8 := rfl
@[go_sem] theorem zer152 : zeroA Tryz.prog 152 = some [.nilFunc] := zeroA_of inf152 rfl
@[go_sem] theorem inf153 : Tryz.prog.info? 153 = some Tryz.t153 := info_of Tryz.type153
@[go_sem] theorem has153 : hasT Tryz.prog 153 = true := hasT_of inf153
@[go_sem] theorem siz153 : sizeT Tryz.prog 153 = 1 := sizeT_of inf153 rfl
@[go_sem] theorem tsz153 : Tryz.t153.size = 1 := rfl
@[go_sem] theorem tby153 : Tryz.t153.bytes = 8 := rfl
@[go_sem] theorem zer153 : zeroA Tryz.prog 153 = some [.nilFunc] := zeroA_of inf153 rfl
@[go_sem] theorem inf154 : Tryz.prog.info? 154 = some Tryz.t154 := info_of Tryz.type154
@[go_sem] theorem has154 : hasT Tryz.prog 154 = true := hasT_of inf154
@[go_sem] theorem siz154 : sizeT Tryz.prog 154 = 1 := sizeT_of inf154 rfl
@[go_sem] theorem tsz154 : Tryz.t154.size = 1 := rfl
@[go_sem] theorem tby154 : Tryz.t154.bytes = 8 := rfl
@[go_sem] theorem zer154 : zeroA Tryz.prog 154 = some [.nilFunc] := zeroA_of inf154 rfl
@[go_sem] theorem inf155 : Tryz.prog.info? 155 = some Tryz.t155 := info_of Tryz.type155
@[go_sem] theorem has155 : hasT Tryz.prog 155 = true := hasT_of inf155
@[go_sem] theorem siz155 : sizeT Tryz.prog 155 = 1 := sizeT_of inf155 rfl
@[go_sem] theorem tsz155 : Tryz.t155.size = 1 := rfl
@[go_sem] theorem tby155 : Tryz.t155.bytes = 8 := rfl
@[go_sem] theorem zer155 : zeroA Tryz.prog 155 = some [.int .i64 0] := zeroA_of inf155 rfl
@[go_sem] theorem inf156 : Tryz.prog.info? 156 = some Tryz.t156 := info_of Tryz.type156
@[go_sem] theorem has156 : hasT Tryz.prog 156 = true := hasT_of inf156
@[go_sem] theorem siz156 : sizeT Tryz.prog 156 = 1 := sizeT_of inf156 rfl
@[go_sem] theorem tsz156 : Tryz.t156.size = 1 := rfl
@[go_sem] theorem tby156 : Tryz.t156.bytes = 0 := rfl
@[go_sem] theorem zer156 : zeroA Tryz.prog 156 = some [.tuple [.int .i64 0, .bool false]] := zeroA_of inf156 rfl
@[go_sem] theorem inf157 : Tryz.prog.info? 157 = some Tryz.t157 := info_of Tryz.type157
@[go_sem] theorem has157 : hasT Tryz.prog 157 = true := hasT_of inf157
@[go_sem] theorem siz157 : sizeT Tryz.prog 157 = 1 := sizeT_of inf157 rfl
@[go_sem] theorem tsz157 : Tryz.t157.size = 1 := rfl
@[go_sem] theorem tby157 : Tryz.t157.bytes = 8 := rfl
@[go_sem] theorem zer157 : zeroA Tryz.prog 157 = some [.nilFunc] := zeroA_of inf157 rfl
@[go_sem] theorem inf158 : Tryz.prog.info? 158 = some Tryz.t158 := info_of Tryz.type158
@[go_sem] theorem has158 : hasT Tryz.prog 158 = true := hasT_of inf158
@[go_sem] theorem siz158 : sizeT Tryz.prog 158 = 1 := sizeT_of inf158 rfl
@[go_sem] theorem tsz158 : Tryz.t158.size = 1 := rfl
@[go_sem] theorem tby158 : Tryz.t158.bytes = 8 := rfl
@[go_sem] theorem zer158 : zeroA Tryz.prog 158 = some [.nilFunc] := zeroA_of inf158 rfl
@[go_sem] theorem inf159 : Tryz.prog.info? 159 = some Tryz.t159 := info_of Tryz.type159
@[go_sem] theorem has159 : hasT Tryz.prog 159 = true := hasT_of inf159
@[go_sem] theorem siz159 : sizeT Tryz.prog 159 = 1 := sizeT_of inf159 rfl
@[go_sem] theorem tsz159 : Tryz.t159.size = 1 := rfl
@[go_sem] theorem tby159 : Tryz.t159.bytes = 8 := rfl
@[go_sem] theorem zer159 : zeroA Tryz.prog 159 = some [.nilFunc] := zeroA_of inf159 rfl
@[go_sem] theorem inf160 : Tryz.prog.info? 160 = some Tryz.t160 := info_of Tryz.type160
@[go_sem] theorem has160 : hasT Tryz.prog 160 = true := hasT_of inf160
@[go_sem] theorem siz160 : sizeT Tryz.prog 160 = 1 := sizeT_of inf160 rfl
@[go_sem] theorem tsz160 : Tryz.t160.size = 1 := rfl
@[go_sem] theorem tby160 : Tryz.t160.bytes = 8 := rfl
@[go_sem] theorem zer160 : zeroA Tryz.prog 160 = some [.nilFunc] := zeroA_of inf160 rfl
@[go_sem] theorem inf161 : Tryz.prog.info? 161 = some Tryz.t161 := info_of Tryz.type161
@[go_sem] theorem has161 : hasT Tryz.prog 161 = true := hasT_of inf161
@[go_sem] theorem siz161 : sizeT Tryz.prog 161 = 32 := sizeT_of inf161 rfl
@[go_sem] theorem tsz161 : Tryz.t161.size = 32 := rfl
@[go_sem] theorem tby161 : Tryz.t161.bytes = 256 := rfl
@[go_sem] theorem zer161 : zeroA Tryz.prog 161 = some [.int .i64 0, .int .i64 0, .int .i64 0, .int .i64 0, .int .i64 0, .int .i64 0, .int .i64 0, .int .i64 0, .int .i64 0, .int .i64 0, .int .i64 0, .int .i64 0, .int .i64 0, .int .i64 0, .int .i64 0, .int .i64 0, .int .i64 0, .int .i64 0, .int .i64 0, .int .i64 0, .int .i64 0, .int .i64 0, .int .i64 0, .int .i64 0, .int .i64 0, .int .i64 0, .int .i64 0, .int .i64 0, .int .i64 0, .int .i64 0, .int .i64 0, .int .i64 0] := zeroA_of inf161 rfl
@[go_sem] theorem inf162 : Tryz.prog.info? 162 = some Tryz.t162 := info_of Tryz.type162
@[go_sem] theorem has162 : hasT Tryz.prog 162 = true := hasT_of inf162
@[go_sem] theorem siz162 : sizeT Tryz.prog 162 = 36 := sizeT_of inf162 rfl
@[go_sem] theorem tsz162 : Tryz.t162.size = 36 := rfl
@[go_sem] theorem tby162 : Tryz.t162.bytes = 304 := rfl
@[go_sem] theorem zer162 : zeroA Tryz.prog 162 = some [.int .i64 0, .int .i64 0, .nilSlice, .int .i64 0, .int .i64 0, .int .i64 0, .int .i64 0, .int .i64 0, .int .i64 0, .int .i64 0, .int .i64 0, .int .i64 0, .int .i64 0, .int .i64 0, .int .i64 0, .int .i64 0, .int .i64 0, .int .i64 0, .int .i64 0, .int .i64 0, .int .i64 0, .int .i64 0, .int .i64 0, .int .i64 0, .int .i64 0, .int .i64 0, .int .i64 0, .int .i64 0, .int .i64 0, .int .i64 0, .int .i64 0, .int .i64 0, .int .i64 0, .int .i64 0, .int .i64 0, .int .i64 0] := zeroA_of inf162 rfl
@[go_sem] theorem inf163 : Tryz.prog.info? 163 = some Tryz.t163 := info_of Tryz.type163
@[go_sem] theorem has163 : hasT Tryz.prog 163 = true := hasT_of inf163
@[go_sem] theorem siz163 : sizeT Tryz.prog 163 = 36 := sizeT_of inf163 rfl
@[go_sem] theorem tsz163 : Tryz.t163.size = 36 := rfl
@[go_sem] theorem tby163 : Tryz.t163.bytes = 304 := rfl
@[go_sem] theorem zer163 : zeroA Tryz.prog 163 = some [.int .i64 0, .int .i64 0, .nilSlice, .int .i64 0, .int .i64 0, .int .i64 0, .int .i64 0, .int .i64 0, .int .i64 0, .int .i64 0, .int .i64 0, .int .i64 0, .int .i64 0, .int .i64 0, .int .i64 0, .int .i64 0, .int .i64 0, .int .i64 0, .int .i64 0, .int .i64 0, .int .i64 0, .int .i64 0, .int .i64 0, .int .i64 0, .int .i64 0, .int .i64 0, .int .i64 0, .int .i64 0, .int .i64 0, .int .i64 0, .int .i64 0, .int .i64 0, .int .i64 0, .int .i64 0, .int .i64 0, .int .i64 0] := zeroA_of inf163 rfl
@[go_sem] theorem inf164 : Tryz.prog.info? 164 = some Tryz.t164 := info_of Tryz.type164
@[go_sem] theorem has164 : hasT Tryz.prog 164 = true := hasT_of inf164
@[go_sem] theorem siz164 : sizeT Tryz.prog 164 = 1 := sizeT_of inf164 rfl
@[go_sem] theorem tsz164 : Tryz.t164.size = 1 := rfl
@[go_sem] theorem tby164 : Tryz.t164.bytes = 8 := rfl
@[go_sem] theorem zer164 : zeroA Tryz.prog 164 = some [.nilPtr] := zeroA_of inf164 rfl
@[go_sem] theorem inf165 : Tryz.prog.info? 165 = some Tryz.t165 := info_of Tryz.type165
@[go_sem] theorem has165 : hasT Tryz.prog 165 = true := hasT_of inf165
@[go_sem] theorem siz165 : sizeT Tryz.prog 165 = 1 := sizeT_of inf165 rfl
@[go_sem] theorem tsz165 : Tryz.t165.size = 1 := rfl
@[go_sem] theorem tby165 : Tryz.t165.bytes = 8 := rfl
@[go_sem] theorem zer165 : zeroA Tryz.prog 165 = some [.nilFunc] := zeroA_of inf165 rfl
@[go_sem] theorem inf166 : Tryz.prog.info? 166 = some Tryz.t166 := info_of Tryz.type166
@[go_sem] theorem has166 : hasT Tryz.prog 166 = true := hasT_of inf166
@[go_sem] theorem siz166 : sizeT Tryz.prog 166 = 1 := sizeT_of inf166 rfl
@[go_sem] theorem tsz166 : Tryz.t166.size = 1 := rfl
@[go_sem] theorem tby166 : Tryz.t166.bytes = 0 := rfl
@[go_sem] theorem zer166 : zeroA Tryz.prog 166 = some [.tuple [.nilSlice, .nilSlice]] := zeroA_of inf166 rfl
@[go_sem] theorem inf167 : Tryz.prog.info? 167 = some Tryz.t167 := info_of Tryz.type167
@[go_sem] theorem has167 : hasT Tryz.prog 167 = true := hasT_of inf167
@[go_sem] theorem siz167 : sizeT Tryz.prog 167 = 1 := sizeT_of inf167 rfl
@[go_sem] theorem tsz167 : Tryz.t167.size = 1 := rfl
@[go_sem] theorem tby167 : Tryz.t167.bytes = 8 := rfl
@[go_sem] theorem zer167 : zeroA Tryz.prog 167 = some [.nilFunc] := zeroA_of inf167 rfl
@[go_sem] theorem inf168 : Tryz.prog.info? 168 = some Tryz.t168 := info_of Tryz.type168
@[go_sem] theorem has168 : hasT Tryz.prog 168 = true := hasT_of inf168
@[go_sem] theorem siz168 : sizeT Tryz.prog 168 = 1 := sizeT_of inf168 rfl
@[go_sem] theorem tsz168 : Tryz.t168.size = 1 := rfl
@[go_sem] theorem tby168 : Tryz.t168.bytes = 8 := rfl
@[go_sem] theorem zer168 : zeroA Tryz.prog 168 = some [.nilFunc] := zeroA_of inf168 rfl
@[go_sem] theorem inf169 : Tryz.prog.info? 169 = some Tryz.t169 := info_of Tryz.type169
@[go_sem] theorem has169 : hasT Tryz.prog 169 = true := hasT_of inf169
@[go_sem] theorem siz169 : sizeT Tryz.prog 169 = 1 := sizeT_of inf169 rfl
@[go_sem] theorem tsz169 : Tryz.t169.size = 1 := rfl
@[go_sem] theorem tby169 : Tryz.t169.bytes = 24 := rfl
@[go_sem] theorem zer169 : zeroA Tryz.prog 169 = some [.nilSlice] := zeroA_of inf169 rfl
@[go_sem] theorem inf170 : Tryz.prog.info? 170 = some Tryz.t170 := info_of Tryz.type170
@[go_sem] theorem has170 : hasT Tryz.prog 170 = true := hasT_of inf170
@[go_sem] theorem siz170 : sizeT Tryz.prog 170 = 4 := sizeT_of inf170 rfl
@[go_sem] theorem tsz170 : Tryz.t170.size = 4 := rfl
@[go_sem] theorem tby170 : Tryz.t170.bytes = 48 := rfl
@[go_sem] theorem zer170 : zeroA Tryz.prog 170 = some [.int .i64 0, .int .i64 0, .int .i64 0, .nilSlice] := zeroA_of inf170 rfl
@[go_sem] theorem inf171 : Tryz.prog.info? 171 = some Tryz.t171 := info_of Tryz.type171
@[go_sem] theorem has171 : hasT Tryz.prog 171 = true := hasT_of inf171
@[go_sem] theorem siz171 : sizeT Tryz.prog 171 = 4 := sizeT_of inf171 rfl
@[go_sem] theorem tsz171 : Tryz.t171.size = 4 := rfl
@[go_sem] theorem tby171 : Tryz.t171.bytes = 48 := rfl
@[go_sem] theorem zer171 : zeroA Tryz.prog 171 = some [.int .i64 0, .int .i64 0, .int .i64 0, .nilSlice] := zeroA_of inf171 rfl
@[go_sem] theorem inf172 : Tryz.prog.info? 172 = some Tryz.t172 := info_of Tryz.type172
@[go_sem] theorem has172 : hasT Tryz.prog 172 = true := hasT_of inf172
@[go_sem] theorem siz172 : sizeT Tryz.prog 172 = 7 := sizeT_of inf172 rfl
@[go_sem] theorem tsz172 : Tryz.t172.size = 7 := rfl
@[go_sem] theorem tby172 : Tryz.t172.bytes = 88 := rfl
@[go_sem] theorem zer172 : zeroA Tryz.prog 172 = some [.int .i64 0, .int .i64 0, .nilSlice, .int .i64 0, .int .i64 0, .int .i64 0, .nilSlice] := zeroA_of inf172 rfl
@[go_sem] theorem inf173 : Tryz.prog.info? 173 = some Tryz.t173 := info_of Tryz.type173
@[go_sem] theorem has173 : hasT Tryz.prog 173 = true := hasT_of inf173
@[go_sem] theorem siz173 : sizeT Tryz.prog 173 = 7 := sizeT_of inf173 rfl
@[go_sem] theorem tsz173 : Tryz.t173.size = 7 := rfl
@[go_sem] theorem tby173 : Tryz.t173.bytes = 88 := rfl
@[go_sem] theorem zer173 : zeroA Tryz.prog 173 = some [.int .i64 0, .int .i64 0, .nilSlice, .int .i64 0, .int .i64 0, .int .i64 0, .nilSlice] := zeroA_of inf173 rfl
@[go_sem] theorem inf174 : Tryz.prog.info? 174 = some Tryz.t174 := info_of Tryz.type174
@[go_sem] theorem has174 : hasT Tryz.prog 174 = true := hasT_of inf174
@[go_sem] theorem siz174 : sizeT Tryz.prog 174 = 1 := sizeT_of inf174 rfl
@[go_sem] theorem tsz174 : Tryz.t174.size = 1 := rfl
@[go_sem] theorem tby174 : Tryz.t174.bytes = 8 := rfl
@[go_sem] theorem zer174 : zeroA Tryz.prog 174 = some [.nilFunc] := zeroA_of inf174 rfl
@[go_sem] theorem inf175 : Tryz.prog.info? 175 = some Tryz.t175 := info_of Tryz.type175
@[go_sem] theorem has175 : hasT Tryz.prog 175 = true := hasT_of inf175
@[go_sem] theorem siz175 : sizeT Tryz.prog 175 = 1 := sizeT_of inf175 rfl
@[go_sem] theorem tsz175 : Tryz.t175.size = 1 := rfl
@[go_sem] theorem tby175 : Tryz.t175.bytes = 8 := rfl
@[go_sem] theorem zer175 : zeroA Tryz.prog 175 = some [.nilFunc] := zeroA_of inf175 rfl
@[go_sem] theorem inf176 : Tryz.prog.info? 176 = some Tryz.t176 := info_of Tryz.type176
@[go_sem] theorem has176 : hasT Tryz.prog 176 = true := hasT_of inf176
@[go_sem] theorem siz176 : sizeT Tryz.prog 176 = 1 := sizeT_of inf176 rfl
@[go_sem] theorem tsz176 : Tryz.t176.size = 1 := rfl
@[go_sem] theorem tby176 : Tryz.t176.bytes = 8 := rfl
@[go_sem] theorem zer176 : zeroA Tryz.prog 176 = some [.nilFunc] := zeroA_of inf176 rfl
@[go_sem] theorem inf177 : Tryz.prog.info? 177 = some Tryz.t177 := info_of Tryz.type177
@[go_sem] theorem has177 : hasT Tryz.prog 177 = true := hasT_of inf177
@[go_sem] theorem siz177 : sizeT Tryz.prog 177 = 1 := sizeT_of inf177 rfl
@[go_sem] theorem tsz177 : Tryz.t177.size = 1 := rfl
@[go_sem] theorem tby177 : Tryz.t177.bytes = 8 := rfl
@[go_sem] theorem zer177 : zeroA Tryz.prog 177 = some [.nilFunc] := zeroA_of inf177 rfl
@[go_sem] theorem inf178 : Tryz.prog.info? 178 = some Tryz.t178 := info_of Tryz.type178
@[go_sem] theorem has178 : hasT Tryz.prog 178 = true := hasT_of inf178
@[go_sem] theorem siz178 : sizeT Tryz.prog 178 = 1 := sizeT_of inf178 rfl
@[go_sem] theorem tsz178 : Tryz.t178.size = 1 := rfl
@[go_sem] theorem tby178 : Tryz.t178.bytes = 8 := rfl
@[go_sem] theorem zer178 : zeroA Tryz.prog 178 = some [.nilFunc] := zeroA_of inf178 rfl
@[go_sem] theorem inf179 : Tryz.prog.info? 179 = some Tryz.t179 := info_of Tryz.type179
@[go_sem] theorem has179 : hasT Tryz.prog 179 = true := hasT_of inf179
@[go_sem] theorem siz179 : sizeT Tryz.prog 179 = 1 := sizeT_of inf179 rfl
@[go_sem] theorem tsz179 : Tryz.t179.size = 1 := rfl
@[go_sem] theorem tby179 : Tryz.t179.bytes = 8 := rfl
@[go_sem] theorem zer179 : zeroA Tryz.prog 179 = some [.int .u64 0] := zeroA_of inf179 rfl
@[go_sem] theorem inf180 : Tryz.prog.info? 180 = some Tryz.t180 := info_of Tryz.type180
@[go_sem] theorem has180 : hasT Tryz.prog 180 = true := hasT_of inf180
@[go_sem] theorem siz180 : sizeT Tryz.prog 180 = 1 := sizeT_of inf180 rfl
@[go_sem] theorem tsz180 : Tryz.t180.size = 1 := rfl
@[go_sem] theorem tby180 : Tryz.t180.bytes = 8 := rfl
@[go_sem] theorem zer180 : zeroA Tryz.prog 180 = some [.nilFunc] := zeroA_of inf180 rfl
@[go_sem] theorem inf181 : Tryz.prog.info? 181 = some Tryz.t181 := info_of Tryz.type181
@[go_sem] theorem has181 : hasT Tryz.prog 181 = true := hasT_of inf181
@[go_sem] theorem siz181 : sizeT Tryz.prog 181 = 1 := sizeT_of inf181 rfl
@[go_sem] theorem tsz181 : Tryz.t181.size = 1 := rfl
@[go_sem] theorem tby181 : Tryz.t181.bytes = 4 := rfl
@[go_sem] theorem zer181 : zeroA Tryz.prog 181 = some [.int .u32 0] := zeroA_of inf181 rfl
@[go_sem] theorem inf182 : Tryz.prog.info? 182 = some Tryz.t182 := info_of Tryz.type182
@[go_sem] theorem has182 : hasT Tryz.prog 182 = true := hasT_of inf182
@[go_sem] theorem siz182 : sizeT Tryz.prog 182 = 1 := sizeT_of inf182 rfl
@[go_sem] theorem tsz182 : Tryz.t182.size = 1 := rfl
@[go_sem] theorem tby182 : Tryz.t182.bytes = 0 := rfl
@[go_sem] theorem zer182 : zeroA Tryz.prog 182 = some [.tuple [.int .u32 0, .int .u32 0]] := zeroA_of inf182 rfl
@[go_sem] theorem inf183 : Tryz.prog.info? 183 = some Tryz.t183 := info_of Tryz.type183
@[go_sem] theorem has183 : hasT Tryz.prog 183 = true := hasT_of inf183
@[go_sem] theorem siz183 : sizeT Tryz.prog 183 = 1 := sizeT_of inf183 rfl
@[go_sem] theorem tsz183 : Tryz.t183.size = 1 := rfl
@[go_sem] theorem tby183 : Tryz.t183.bytes = 8 := rfl
@[go_sem] theorem zer183 : zeroA Tryz.prog 183 = some [.nilFunc] := zeroA_of inf183 rfl
@[go_sem] theorem inf184 : Tryz.prog.info? 184 = some Tryz.t184 := info_of Tryz.type184
@[go_sem] theorem has184 : hasT Tryz.prog 184 = true := hasT_of inf184
@[go_sem] theorem siz184 : sizeT Tryz.prog 184 = 1 := sizeT_of inf184 rfl
@[go_sem] theorem tsz184 : Tryz.t184.size = 1 := rfl
@[go_sem] theorem tby184 : Tryz.t184.bytes = 0 := rfl
@[go_sem] theorem zer184 : zeroA Tryz.prog 184 = some [.tuple [.int .u64 0, .int .u64 0]] := zeroA_of inf184 rfl
@[go_sem] theorem inf185 : Tryz.prog.info? 185 = some Tryz.t185 := info_of Tryz.type185
@[go_sem] theorem has185 : hasT Tryz.prog 185 = true := hasT_of inf185
@[go_sem] theorem siz185 : sizeT Tryz.prog 185 = 1 := sizeT_of inf185 rfl
@[go_sem] theorem tsz185 : Tryz.t185.size = 1 := rfl
@[go_sem] theorem tby185 : Tryz.t185.bytes = 8 := rfl
@[go_sem] theorem zer185 : zeroA Tryz.prog 185 = some [.nilFunc] := zeroA_of inf185 rfl
@[go_sem] theorem inf186 : Tryz.prog.info? 186 = some Tryz.t186 := info_of Tryz.type186
@[go_sem] theorem has186 : hasT Tryz.prog 186 = true := hasT_of inf186
@[go_sem] theorem siz186 : sizeT Tryz.prog 186 = 1 := sizeT_of inf186 rfl
@[go_sem] theorem tsz186 : Tryz.t186.size = 1 := rfl
@[go_sem] theorem tby186 : Tryz.t186.bytes = 8 := rfl
@[go_sem] theorem zer186 : zeroA Tryz.prog 186 = some [.nilFunc] := zeroA_of inf186 rfl
@[go_sem] theorem inf187 : Tryz.prog.info? 187 = some Tryz.t187 := info_of Tryz.type187
@[go_sem] theorem has187 : hasT Tryz.prog 187 = true := hasT_of inf187
@[go_sem] theorem siz187 : sizeT Tryz.prog 187 = 1 := sizeT_of inf187 rfl
@[go_sem] theorem tsz187 : Tryz.t187.size = 1 := rfl
@[go_sem] theorem tby187 : Tryz.t187.bytes = 16 := rfl
@[go_sem] theorem zer187 : zeroA Tryz.prog 187 = some [.nilIface] := zeroA_of inf187 rfl
@[go_sem] theorem inf188 : Tryz.prog.info? 188 = some Tryz.t188 := info_of Tryz.type188
@[go_sem] theorem has188 : hasT Tryz.prog 188 = true := hasT_of inf188
@[go_sem] theorem siz188 : sizeT Tryz.prog 188 = 1 := sizeT_of inf188 rfl
@[go_sem] theorem tsz188 : Tryz.t188.size = 1 := rfl
@[go_sem] theorem tby188 : Tryz.t188.bytes = 16 := rfl
@[go_sem] theorem zer188 : zeroA Tryz.prog 188 = some [.nilIface] := zeroA_of inf188 rfl
@[go_sem] theorem inf189 : Tryz.prog.info? 189 = some Tryz.t189 := info_of Tryz.type189
@[go_sem] theorem has189 : hasT Tryz.prog 189 = true := hasT_of inf189
@[go_sem] theorem siz189 : sizeT Tryz.prog 189 = 1 := sizeT_of inf189 rfl
@[go_sem] theorem tsz189 : Tryz.t189.size = 1 := rfl
@[go_sem] theorem tby189 : Tryz.t189.bytes = 8 := rfl
@[go_sem] theorem zer189 : zeroA Tryz.prog 189 = some [.nilFunc] := zeroA_of inf189 rfl
@[go_sem] theorem inf190 : Tryz.prog.info? 190 = some Tryz.t190 := info_of Tryz.type190
@[go_sem] theorem has190 : hasT Tryz.prog 190 = true := hasT_of inf190
@[go_sem] theorem siz190 : sizeT Tryz.prog 190 = 1 := sizeT_of inf190 rfl
@[go_sem] theorem tsz190 : Tryz.t190.size = 1 := rfl
@[go_sem] theorem tby190 : Tryz.t190.bytes = 8 := rfl
@[go_sem] theorem zer190 : zeroA Tryz.prog 190 = some [.nilFunc] := zeroA_of inf190 rfl
@[go_sem] theorem inf191 : Tryz.prog.info? 191 = some Tryz.t191 := info_of Tryz.type191
@[go_sem] theorem has191 : hasT Tryz.prog 191 = true := hasT_of inf191
@[go_sem] theorem siz191 : sizeT Tryz.prog 191 = 1 := sizeT_of inf191 rfl
@[go_sem] theorem tsz191 : Tryz.t191.size = 1 := rfl
@[go_sem] theorem tby191 : Tryz.t191.bytes = 8 := rfl
@[go_sem] theorem zer191 : zeroA Tryz.prog 191 = some [.nilFunc] := zeroA_of inf191 rfl
@[go_sem] theorem inf192 : Tryz.prog.info? 192 = some Tryz.t192 := info_of Tryz.type192
@[go_sem] theorem has192 : hasT Tryz.prog 192 = true := hasT_of inf192
@[go_sem] theorem siz192 : sizeT Tryz.prog 192 = 1 := sizeT_of inf192 rfl
@[go_sem] theorem tsz192 : Tryz.t192.size = 1 := rfl
@[go_sem] theorem tby192 : Tryz.t192.bytes = 8 := rfl
@[go_sem] theorem zer192 : zeroA Tryz.prog 192 = some [.nilFunc] := zeroA_of inf192 rfl
@[go_sem] theorem inf193 : Tryz.prog.info? 193 = some Tryz.t193 := info_of Tryz.type193
@[go_sem] theorem has193 : hasT Tryz.prog 193 = true := hasT_of inf193
@[go_sem] theorem siz193 : sizeT Tryz.prog 193 = 1 := sizeT_of inf193 rfl
@[go_sem] theorem tsz193 : Tryz.t193.size = 1 := rfl
@[go_sem] theorem tby193 : Tryz.t193.bytes = 0 := rfl
@[go_sem] theorem zer193 : zeroA Tryz.prog 193 = some [.tuple [.agg [.nilSlice, .int .i64 0], .nilSlice, .int .i64 0]] := zeroA_of inf193 rfl
@[go_sem] theorem inf194 : Tryz.prog.info? 194 = some Tryz.t194 := info_of Tryz.type194
@[go_sem] theorem has194 : hasT Tryz.prog 194 = true := hasT_of inf194
@[go_sem] theorem siz194 : sizeT Tryz.prog 194 = 1 := sizeT_of inf194 rfl
@[go_sem] theorem tsz194 : Tryz.t194.size = 1 := rfl
@[go_sem] theorem tby194 : Tryz.t194.bytes = 8 := rfl
@[go_sem] theorem zer194 : zeroA Tryz.prog 194 = some [.nilFunc] := zeroA_of inf194 rfl
@[go_sem] theorem inf195 : Tryz.prog.info? 195 = some Tryz.t195 := info_of Tryz.type195
@[go_sem] theorem has195 : hasT Tryz.prog 195 = true := hasT_of inf195
@[go_sem] theorem siz195 : sizeT Tryz.prog 195 = 1 := sizeT_of inf195 rfl
@[go_sem] theorem tsz195 : Tryz.t195.size = 1 := rfl
@[go_sem] theorem tby195 : Tryz.t195.bytes = 24 := rfl
@[go_sem] theorem zer195 : zeroA Tryz.prog 195 = some [.nilSlice] := zeroA_of inf195 rfl
@[go_sem] theorem inf196 : Tryz.prog.info? 196 = some Tryz.t196 := info_of Tryz.type196
@[go_sem] theorem has196 : hasT Tryz.prog 196 = true := hasT_of inf196
@[go_sem] theorem siz196 : sizeT Tryz.prog 196 = 1 := sizeT_of inf196 rfl
@[go_sem] theorem tsz196 : Tryz.t196.size = 1 := rfl
@[go_sem] theorem tby196 : Tryz.t196.bytes = 0 := rfl
@[go_sem] theorem zer196 : zeroA Tryz.prog 196 = some [.tuple [.nilSlice, .agg [.nilSlice, .int .i64 0], .int .i64 0]] := zeroA_of inf196 rfl
@[go_sem] theorem inf197 : Tryz.prog.info? 197 = some Tryz.t197 := info_of Tryz.type197
@[go_sem] theorem has197 : hasT Tryz.prog 197 = true := hasT_of inf197
@[go_sem] theorem siz197 : sizeT Tryz.prog 197 = 1 := sizeT_of inf197 rfl
@[go_sem] theorem tsz197 : Tryz.t197.size = 1 := rfl
@[go_sem] theorem tby197 : Tryz.t197.bytes = 8 := rfl
@[go_sem] theorem zer197 : zeroA Tryz.prog 197 = some [.nilFunc] := zeroA_of inf197 rfl
@[go_sem] theorem inf198 : Tryz.prog.info? 198 = some Tryz.t198 := info_of Tryz.type198
@[go_sem] theorem has198 : hasT Tryz.prog 198 = true := hasT_of inf198
@[go_sem] theorem siz198 : sizeT Tryz.prog 198 = 2 := sizeT_of inf198 rfl
@[go_sem] theorem tsz198 : Tryz.t198.size = 2 := rfl
@[go_sem] theorem tby198 : Tryz.t198.bytes = 16 := rfl
@[go_sem] theorem zer198 : zeroA Tryz.prog 198 = some [.int .i64 0, .int .i64 0] := zeroA_of inf198 rfl
@[go_sem] theorem inf199 : Tryz.prog.info? 199 = some Tryz.t199 := info_of Tryz.type199
@[go_sem] theorem has199 : hasT Tryz.prog 199 = true := hasT_of inf199
@[go_sem] theorem siz199 : sizeT Tryz.prog 199 = 2 := sizeT_of inf199 rfl
@[go_sem] theorem tsz199 : Tryz.t199.size = 2 := rfl
@[go_sem] theorem tby199 : Tryz.t199.bytes = 16 := rfl
@[go_sem] theorem zer199 : zeroA Tryz.prog 199 = some [.int .i64 0, .int .i64 0] := zeroA_of inf199 rfl
@[go_sem] theorem inf200 : Tryz.prog.info? 200 = some Tryz.t200 := info_of Tryz.type200
@[go_sem] theorem has200 : hasT Tryz.prog 200 = true := hasT_of inf200
@[go_sem] theorem siz200 : sizeT Tryz.prog 200 = 1 := sizeT_of inf200 rfl
@[go_sem] theorem tsz200 : Tryz.t200.size = 1 := rfl
@[go_sem] theorem tby200 : Tryz.t200.bytes = 8 := rfl
@[go_sem] theorem zer200 : zeroA Tryz.prog 200 = some [.nilFunc] := zeroA_of inf200 rfl
@[go_sem] theorem inf201 : Tryz.prog.info? 201 = some Tryz.t201 := info_of Tryz.type201
@[go_sem] theorem has201 : hasT Tryz.prog 201 = true := hasT_of inf201
@[go_sem] theorem siz201 : sizeT Tryz.prog 201 = 1 := sizeT_of inf201 rfl
@[go_sem] theorem tsz201 : Tryz.t201.size = 1 := rfl
@[go_sem] theorem tby201 : Tryz.t201.bytes = 8 := rfl
@[go_sem] theorem zer201 : zeroA Tryz.prog 201 = some [.nilFunc] := zeroA_of inf201 rfl
@[go_sem] theorem inf202 : Tryz.prog.info? 202 = some Tryz.t202 := info_of Tryz.type202
@[go_sem] theorem has202 : hasT Tryz.prog 202 = true := hasT_of inf202
@[go_sem] theorem siz202 : sizeT Tryz.prog 202 = 1 := sizeT_of inf202 rfl
@[go_sem] theorem tsz202 : Tryz.t202.size = 1 := rfl
@[go_sem] theorem tby202 : Tryz.t202.bytes = 8 := rfl
@[go_sem] theorem zer202 : zeroA Tryz.prog 202 = some [.nilFunc] := zeroA_of inf202 rfl
@[go_sem] theorem inf203 : Tryz.prog.info? 203 = some Tryz.t203 := info_of Tryz.type203
@[go_sem] theorem has203 : hasT Tryz.prog 203 = true := hasT_of inf203
@[go_sem] theorem siz203 : sizeT Tryz.prog 203 = 1 := sizeT_of inf203 rfl
@[go_sem] theorem tsz203 : Tryz.t203.size = 1 := rfl
@[go_sem] theorem tby203 : Tryz.t203.bytes = 8 := rfl
@[go_sem] theorem zer203 : zeroA Tryz.prog 203 = some [.nilFunc] := zeroA_of inf203 rfl
@[go_sem] theorem inf204 : Tryz.prog.info? 204 = some Tryz.t204 := info_of Tryz.type204
@[go_sem] theorem has204 : hasT Tryz.prog 204 = true := hasT_of inf204
@[go_sem] theorem siz204 : sizeT Tryz.prog 204 = 1 := sizeT_of inf204 rfl
@[go_sem] theorem tsz204 : Tryz.t204.size = 1 := rfl
@[go_sem] theorem tby204 : Tryz.t204.bytes = 8 := rfl
@[go_sem] theorem zer204 : zeroA Tryz.prog 204 = some [.nilFunc] := zeroA_of inf204 rfl
@[go_sem] theorem inf205 : Tryz.prog.info? 205 = some Tryz.t205 := info_of Tryz.type205
@[go_sem] theorem has205 : hasT Tryz.prog 205 = true := hasT_of inf205
@[go_sem] theorem siz205 : sizeT Tryz.prog 205 = 1 := sizeT_of inf205 rfl
@[go_sem] theorem tsz205 : Tryz.t205.size = 1 := rfl
@[go_sem] theorem tby205 : Tryz.t205.bytes = 8 := rfl
@[go_sem] theorem zer205 : zeroA Tryz.prog 205 = some [.int .i64 0] := zeroA_of inf205 rfl
@[go_sem] theorem inf206 : Tryz.prog.info? 206 = some Tryz.t206 := info_of Tryz.type206
@[go_sem] theorem has206 : hasT Tryz.prog 206 = true := hasT_of inf206
@[go_sem] theorem siz206 : sizeT Tryz.prog 206 = 1 := sizeT_of inf206 rfl
@[go_sem] theorem tsz206 : Tryz.t206.size = 1 := rfl
@[go_sem] theorem tby206 : Tryz.t206.bytes = 8 := rfl
@[go_sem] theorem zer206 : zeroA Tryz.prog 206 = some [.int .i64 0] := zeroA_of inf206 rfl
@[go_sem] theorem inf207 : Tryz.prog.info? 207 = some Tryz.t207 := info_of Tryz.type207
@[go_sem] theorem has207 : hasT Tryz.prog 207 = true := hasT_of inf207
@[go_sem] theorem siz207 : sizeT Tryz.prog 207 = 2 := sizeT_of inf207 rfl
@[go_sem] theorem tsz207 : Tryz.t207.size = 2 := rfl
@[go_sem] theorem tby207 : Tryz.t207.bytes = 16 := rfl
@[go_sem] theorem zer207 : zeroA Tryz.prog 207 = some [.int .i64 0, .int .i64 0] := zeroA_of inf207 rfl
@[go_sem] theorem inf208 : Tryz.prog.info? 208 = some Tryz.t208 := info_of Tryz.type208
@[go_sem] theorem has208 : hasT Tryz.prog 208 = true := hasT_of inf208
@[go_sem] theorem siz208 : sizeT Tryz.prog 208 = 1 := sizeT_of inf208 rfl
@[go_sem] theorem tsz208 : Tryz.t208.size = 1 := rfl
@[go_sem] theorem tby208 : Tryz.t208.bytes = 8 := rfl
@[go_sem] theorem zer208 : zeroA Tryz.prog 208 = some [.nilFunc] := zeroA_of inf208 rfl
@[go_sem] theorem inf209 : Tryz.prog.info? 209 = some Tryz.t209 := info_of Tryz.type209
@[go_sem] theorem has209 : hasT Tryz.prog 209 = true := hasT_of inf209
@[go_sem] theorem siz209 : sizeT Tryz.prog 209 = 1 := sizeT_of inf209 rfl
@[go_sem] theorem tsz209 : Tryz.t209.size = 1 := rfl
@[go_sem] theorem tby209 : Tryz.t209.bytes = 8 := rfl
@[go_sem] theorem zer209 : zeroA Tryz.prog 209 = some [.nilFunc] := zeroA_of inf209 rfl
@[go_sem] theorem inf210 : Tryz.prog.info? 210 = some Tryz.t210 := info_of Tryz.type210
@[go_sem] theorem has210 : hasT Tryz.prog 210 = true := hasT_of inf210
@[go_sem] theorem siz210 : sizeT Tryz.prog 210 = 1 := sizeT_of inf210 rfl
@[go_sem] theorem tsz210 : Tryz.t210.size = 1 := rfl
@[go_sem] theorem tby210 : Tryz.t210.bytes = 8 := rfl
@[go_sem] theorem zer210 : zeroA Tryz.prog 210 = some [.nilFunc] := zeroA_of inf210 rfl
@[go_sem] theorem inf211 : Tryz.prog.info? 211 = some Tryz.t211 := info_of Tryz.type211
@[go_sem] theorem has211 : hasT Tryz.prog 211 = true := hasT_of inf211
@[go_sem] theorem siz211 : sizeT Tryz.prog 211 = 1 := sizeT_of inf211 rfl
@[go_sem] theorem tsz211 : Tryz.t211.size = 1 := rfl
@[go_sem] theorem tby211 : Tryz.t211.bytes = 8 := rfl
@[go_sem] theorem zer211 : zeroA Tryz.prog 211 = some [.nilFunc] := zeroA_of inf211 rfl
@[go_sem] theorem inf212 : Tryz.prog.info? 212 = some Tryz.t212 := info_of Tryz.type212
@[go_sem] theorem has212 : hasT Tryz.prog 212 = true := hasT_of inf212
@[go_sem] theorem siz212 : sizeT Tryz.prog 212 = 1 := sizeT_of inf212 rfl
@[go_sem] theorem tsz212 : Tryz.t212.size = 1 := rfl
@[go_sem] theorem tby212 : Tryz.t212.bytes = 8 := rfl
@[go_sem] theorem zer212 : zeroA Tryz.prog 212 = some [.nilFunc] := zeroA_of inf212 rfl
@[go_sem] theorem inf213 : Tryz.prog.info? 213 = some Tryz.t213 := info_of Tryz.type213
@[go_sem] theorem has213 : hasT Tryz.prog 213 = true := hasT_of inf213
@[go_sem] theorem siz213 : sizeT Tryz.prog 213 = 1 := sizeT_of inf213 rfl
@[go_sem] theorem tsz213 : Tryz.t213.size = 1 := rfl
@[go_sem] theorem tby213 : Tryz.t213.bytes = 8 := rfl
@[go_sem] theorem zer213 : zeroA Tryz.prog 213 = some [.nilFunc] := zeroA_of inf213 rfl
@[go_sem] theorem inf214 : Tryz.prog.info? 214 = some Tryz.t214 := info_of Tryz.type214
@[go_sem] theorem has214 : hasT Tryz.prog 214 = true := hasT_of inf214
@[go_sem] theorem siz214 : sizeT Tryz.prog 214 = 1 := sizeT_of inf214 rfl
@[go_sem] theorem tsz214 : Tryz.t214.size = 1 := rfl
@[go_sem] theorem tby214 : Tryz.t214.bytes = 8 := rfl
@[go_sem] theorem zer214 : zeroA Tryz.prog 214 = some [.nilFunc] := zeroA_of inf214 rfl
@[go_sem] theorem inf215 : Tryz.prog.info? 215 = some Tryz.t215 := info_of Tryz.type215
@[go_sem] theorem has215 : hasT Tryz.prog 215 = true := hasT_of inf215
@[go_sem] theorem siz215 : sizeT Tryz.prog 215 = 1 := sizeT_of inf215 rfl
@[go_sem] theorem tsz215 : Tryz.t215.size = 1 := rfl
@[go_sem] theorem tby215 : Tryz.t215.bytes = 8 := rfl
@[go_sem] theorem zer215 : zeroA Tryz.prog 215 = some [.nilFunc] := zeroA_of inf215 rfl
@[go_sem] theorem inf216 : Tryz.prog.info? 216 = some Tryz.t216 := info_of Tryz.type216
@[go_sem] theorem has216 : hasT Tryz.prog 216 = true := hasT_of inf216
@[go_sem] theorem siz216 : sizeT Tryz.prog 216 = 1 := sizeT_of inf216 rfl
@[go_sem] theorem tsz216 : Tryz.t216.size = 1 := rfl
@[go_sem] theorem tby216 : Tryz.t216.bytes = 8 := rfl
@[go_sem] theorem zer216 : zeroA Tryz.prog 216 = some [.nilFunc] := zeroA_of inf216 rfl
@[go_sem] theorem inf217 : Tryz.prog.info? 217 = some Tryz.t217 := info_of Tryz.type217
@[go_sem] theorem has217 : hasT Tryz.prog 217 = true := hasT_of inf217
@[go_sem] theorem siz217 : sizeT Tryz.prog 217 = 1 := sizeT_of inf217 rfl
@[go_sem] theorem tsz217 : Tryz.t217.size = 1 := rfl
@[go_sem] theorem tby217 : Tryz.t217.bytes = 8 := rfl
@[go_sem] theorem zer217 : zeroA Tryz.prog 217 = some [.nilFunc] := zeroA_of inf217 rfl
@[go_sem] theorem inf218 : Tryz.prog.info? 218 = some Tryz.t218 := info_of Tryz.type218
@[go_sem] theorem has218 : hasT Tryz.prog 218 = true := hasT_of inf218
@[go_sem] theorem siz218 : sizeT Tryz.prog 218 = 1 := sizeT_of inf218 rfl
@[go_sem] theorem tsz218 : Tryz.t218.size = 1 := rfl
@[go_sem] theorem tby218 : Tryz.t218.bytes = 8 := rfl
@[go_sem] theorem zer218 : zeroA Tryz.prog 218 = some [.nilFunc] := zeroA_of inf218 rfl
@[go_sem] theorem inf219 : Tryz.prog.info? 219 = some Tryz.t219 := info_of Tryz.type219
@[go_sem] theorem has219 : hasT Tryz.prog 219 = true := hasT_of inf219
@[go_sem] theorem siz219 : sizeT Tryz.prog 219 = 1 := sizeT_of inf219 rfl
@[go_sem] theorem tsz219 : Tryz.t219.size = 1 := rfl
@[go_sem] theorem tby219 : Tryz.t219.bytes = 8 := rfl
@[go_sem] theorem zer219 : zeroA Tryz.prog 219 = some [.nilFunc] := zeroA_of inf219 rfl
@[go_sem] theorem inf220 : Tryz.prog.info? 220 = some Tryz.t220 := info_of Tryz.type220
@[go_sem] theorem has220 : hasT Tryz.prog 220 = true := hasT_of inf220
@[go_sem] theorem siz220 : sizeT Tryz.prog 220 = 1 := sizeT_of inf220 rfl
@[go_sem] theorem tsz220 : Tryz.t220.size = 1 := rfl
@[go_sem] theorem tby220 : Tryz.t220.bytes = 8 := rfl
@[go_sem] theorem zer220 : zeroA Tryz.prog 220 = some [.nilFunc] := zeroA_of inf220 rfl
@[go_sem] theorem inf221 : Tryz.prog.info? 221 = some Tryz.t221 := info_of Tryz.type221
@[go_sem] theorem has221 : hasT Tryz.prog 221 = true := hasT_of inf221
@[go_sem] theorem siz221 : sizeT Tryz.prog 221 = 1 := sizeT_of inf221 rfl
@[go_sem] theorem tsz221 : Tryz.t221.size = 1 := rfl
@[go_sem] theorem tby221 : Tryz.t221.bytes = 8 := rfl
@[go_sem] theorem zer221 : zeroA Tryz.prog 221 = some [.nilFunc] := zeroA_of inf221 rfl
@[go_sem] theorem inf222 : Tryz.prog.info? 222 = some Tryz.t222 := info_of Tryz.type222
@[go_sem] theorem has222 : hasT Tryz.prog 222 = true := hasT_of inf222
@[go_sem] theorem siz222 : sizeT Tryz.prog 222 = 1 := sizeT_of inf222 rfl
@[go_sem] theorem tsz222 : Tryz.t222.size = 1 := rfl
@[go_sem] theorem tby222 : Tryz.t222.bytes = 8 := rfl
@[go_sem] theorem zer222 : zeroA Tryz.prog 222 = some [.nilFunc] := zeroA_of inf222 rfl
@[go_sem] theorem inf223 : Tryz.prog.info? 223 = some Tryz.t223 := info_of Tryz.type223
@[go_sem] theorem has223 : hasT Tryz.prog 223 = true := hasT_of inf223
@[go_sem] theorem siz223 : sizeT Tryz.prog 223 = 1 := sizeT_of inf223 rfl
@[go_sem] theorem tsz223 : Tryz.t223.size = 1 := rfl
@[go_sem] theorem tby223 : Tryz.t223.bytes = 8 := rfl
@[go_sem] theorem zer223 : zeroA Tryz.prog 223 = some [.nilFunc] := zeroA_of inf223 rfl
@[go_sem] theorem inf224 : Tryz.prog.info? 224 = some Tryz.t224 := info_of Tryz.type224
@[go_sem] theorem has224 : hasT Tryz.prog 224 = true := hasT_of inf224
@[go_sem] theorem siz224 : sizeT Tryz.prog 224 = 1 := sizeT_of inf224 rfl
@[go_sem] theorem tsz224 : Tryz.t224.size = 1 := rfl
@[go_sem] theorem tby224 : Tryz.t224.bytes = 8 := rfl
@[go_sem] theorem zer224 : zeroA Tryz.prog 224 = some [.nilFunc] := zeroA_of inf224 rfl
@[go_sem] theorem inf225 : Tryz.prog.info? 225 = some Tryz.t225 := info_of Tryz.type225
@[go_sem] theorem has225 : hasT Tryz.prog 225 = true := hasT_of inf225
@[go_sem] theorem siz225 : sizeT Tryz.prog 225 = 1 := sizeT_of inf225 rfl
@[go_sem] theorem tsz225 : Tryz.t225.size = 1 := rfl
@[go_sem] theorem tby225 : Tryz.t225.bytes = 8 := rfl
@[go_sem] theorem zer225 : zeroA Tryz.prog 225 = some [.nilFunc] := zeroA_of inf225 rfl
@[go_sem] theorem inf226 : Tryz.prog.info? 226 = some Tryz.t226 := info_of Tryz.type226
@[go_sem] theorem has226 : hasT Tryz.prog 226 = true := hasT_of inf226
@[go_sem] theorem siz226 : sizeT Tryz.prog 226 = 1 := sizeT_of inf226 rfl
@[go_sem] theorem tsz226 : Tryz.t226.size = 1 := rfl
@[go_sem] theorem tby226 : Tryz.t226.bytes = 8 := rfl
@[go_sem] theorem zer226 : zeroA Tryz.prog 226 = some [.nilFunc] := zeroA_of inf226 rfl
@[go_sem] theorem inf227 : Tryz.prog.info? 227 = some Tryz.t227 := info_of Tryz.type227
@[go_sem] theorem has227 : hasT Tryz.prog 227 = true := hasT_of inf227
@[go_sem] theorem siz227 : sizeT Tryz.prog 227 = 1 := sizeT_of inf227 rfl
@[go_sem] theorem tsz227 : Tryz.t227.size = 1 := rfl
@[go_sem] theorem tby227 : Tryz.t227.bytes = 8 := rfl
@[go_sem] theorem zer227 : zeroA Tryz.prog 227 = some [.nilFunc] := zeroA_of inf227 rfl
@[go_sem] theorem inf228 : Tryz.prog.info? 228 = some Tryz.t228 := info_of Tryz.type228
@[go_sem] theorem has228 : hasT Tryz.prog 228 = true := hasT_of inf228
@[go_sem] theorem siz228 : sizeT Tryz.prog 228 = 1 := sizeT_of inf228 rfl
@[go_sem] theorem tsz228 : Tryz.t228.size = 1 := rfl
@[go_sem] theorem tby228 : Tryz.t228.bytes = 8 := rfl
@[go_sem] theorem zer228 : zeroA Tryz.prog 228 = some [.int .i64 0] := zeroA_of inf228 rfl
@[go_sem] theorem inf229 : Tryz.prog.info? 229 = some Tryz.t229 := info_of Tryz.type229
@[go_sem] theorem has229 : hasT Tryz.prog 229 = true := hasT_of inf229
@[go_sem] theorem siz229 : sizeT Tryz.prog 229 = 1 := sizeT_of inf229 rfl
@[go_sem] theorem tsz229 : Tryz.t229.size = 1 := rfl
@[go_sem] theorem tby229 : Tryz.t229.bytes = 0 := rfl
@[go_sem] theorem zer229 : zeroA Tryz.prog 229 = some [.tuple [.int .i64 0, .int .i64 0]] := zeroA_of inf229 rfl
@[go_sem] theorem inf230 : Tryz.prog.info? 230 = some Tryz.t230 := info_of Tryz.type230
@[go_sem] theorem has230 : hasT Tryz.prog 230 = true := hasT_of inf230
@[go_sem] theorem siz230 : sizeT Tryz.prog 230 = 1 := sizeT_of inf230 rfl
@[go_sem] theorem tsz230 : Tryz.t230.size = 1 := rfl
@[go_sem] theorem tby230 : Tryz.t230.bytes = 8 := rfl
@[go_sem] theorem zer230 : zeroA Tryz.prog 230 = some [.nilFunc] := zeroA_of inf230 rfl
@[go_sem] theorem inf231 : Tryz.prog.info? 231 = some Tryz.t231 := info_of Tryz.type231
@[go_sem] theorem has231 : hasT Tryz.prog 231 = true := hasT_of inf231
@[go_sem] theorem siz231 : sizeT Tryz.prog 231 = 1 := sizeT_of inf231 rfl
@[go_sem] theorem tsz231 : Tryz.t231.size = 1 := rfl
@[go_sem] theorem tby231 : Tryz.t231.bytes = 8 := rfl
@[go_sem] theorem zer231 : zeroA Tryz.prog 231 = some [.nilFunc] := zeroA_of inf231 rfl
@[go_sem] theorem inf232 : Tryz.prog.info? 232 = some Tryz.t232 := info_of Tryz.type232
@[go_sem] theorem has232 : hasT Tryz.prog 232 = true := hasT_of inf232
@[go_sem] theorem siz232 : sizeT Tryz.prog 232 = 1 := sizeT_of inf232 rfl
@[go_sem] theorem tsz232 : Tryz.t232.size = 1 := rfl
@[go_sem] theorem tby232 : Tryz.t232.bytes = 8 := rfl
@[go_sem] theorem zer232 : zeroA Tryz.prog 232 = some [.nilFunc] := zeroA_of inf232 rfl
@[go_sem] theorem inf233 : Tryz.prog.info? 233 = some Tryz.t233 := info_of Tryz.type233
@[go_sem] theorem has233 : hasT Tryz.prog 233 = true := hasT_of inf233
@[go_sem] theorem siz233 : sizeT Tryz.prog 233 = 1 := sizeT_of inf233 rfl
@[go_sem] theorem tsz233 : Tryz.t233.size = 1 := rfl
@[go_sem] theorem tby233 : Tryz.t233.bytes = 8 := rfl
@[go_sem] theorem zer233 : zeroA Tryz.prog 233 = some [.nilFunc] := zeroA_of inf233 rfl
@[go_sem] theorem inf234 : Tryz.prog.info? 234 = some Tryz.t234 := info_of Tryz.type234
@[go_sem] theorem has234 : hasT Tryz.prog 234 = true := hasT_of inf234
@[go_sem] theorem siz234 : sizeT Tryz.prog 234 = 1 := sizeT_of inf234 rfl
@[go_sem] theorem tsz234 : Tryz.t234.size = 1 := rfl
@[go_sem] theorem tby234 : Tryz.t234.bytes = 0 := rfl
@[go_sem] theorem zer234 : zeroA Tryz.prog 234 = some [.tuple [.int .i64 0, .bool false]] := zeroA_of inf234 rfl
@[go_sem] theorem inf235 : Tryz.prog.info? 235 = some Tryz.t235 := info_of Tryz.type235
@[go_sem] theorem has235 : hasT Tryz.prog 235 = true := hasT_of inf235
@[go_sem] theorem siz235 : sizeT Tryz.prog 235 = 1 := sizeT_of inf235 rfl
@[go_sem] theorem tsz235 : Tryz.t235.size = 1 := rfl
@[go_sem] theorem tby235 : Tryz.t235.bytes = 8 := rfl
@[go_sem] theorem zer235 : zeroA Tryz.prog 235 = some [.nilFunc] := zeroA_of inf235 rfl
@[go_sem] theorem inf236 : Tryz.prog.info? 236 = some Tryz.t236 := info_of Tryz.type236
@[go_sem] theorem has236 : hasT Tryz.prog 236 = true := hasT_of inf236
@[go_sem] theorem siz236 : sizeT Tryz.prog 236 = 1 := sizeT_of inf236 rfl
@[go_sem] theorem tsz236 : Tryz.t236.size = 1 := rfl
@[go_sem] theorem tby236 : Tryz.t236.bytes = 8 := rfl
@[go_sem] theorem zer236 : zeroA Tryz.prog 236 = some [.nilFunc] := zeroA_of inf236 rfl
@[go_sem] theorem inf237 : Tryz.prog.info? 237 = some Tryz.t237 := info_of Tryz.type237
@[go_sem] theorem has237 : hasT Tryz.prog 237 = true := hasT_of inf237
@[go_sem] theorem siz237 : sizeT Tryz.prog 237 = 1 := sizeT_of inf237 rfl
@[go_sem] theorem tsz237 : Tryz.t237.size = 1 := rfl
@[go_sem] theorem tby237 : Tryz.t237.bytes = 8 := rfl
@[go_sem] theorem zer237 : zeroA Tryz.prog 237 = some [.nilFunc] := zeroA_of inf237 rfl
@[go_sem] theorem inf238 : Tryz.prog.info? 238 = some Tryz.t238 := info_of Tryz.type238
@[go_sem] theorem has238 : hasT Tryz.prog 238 = true := hasT_of inf238
@[go_sem] theorem siz238 : sizeT Tryz.prog 238 = 1 := sizeT_of inf238 rfl
@[go_sem] theorem tsz238 : Tryz.t238.size = 1 := rfl
@[go_sem] theorem tby238 : Tryz.t238.bytes = 8 := rfl
@[go_sem] theorem zer238 : zeroA Tryz.prog 238 = some [.nilFunc] := zeroA_of inf238 rfl
@[go_sem] theorem inf239 : Tryz.prog.info? 239 = some Tryz.t239 := info_of Tryz.type239
@[go_sem] theorem has239 : hasT Tryz.prog 239 = true := hasT_of inf239
@[go_sem] theorem siz239 : sizeT Tryz.prog 239 = 1 := sizeT_of inf239 rfl
@[go_sem] theorem tsz239 : Tryz.t239.size = 1 := rfl
@[go_sem] theorem tby239 : Tryz.t239.bytes = 8 := rfl
@[go_sem] theorem zer239 : zeroA Tryz.prog 239 = some [.int .u64 0] := zeroA_of inf239 rfl
@[go_sem] theorem inf240 : Tryz.prog.info? 240 = some Tryz.t240 := info_of Tryz.type240
@[go_sem] theorem has240 : hasT Tryz.prog 240 = true := hasT_of inf240
@[go_sem] theorem siz240 : sizeT Tryz.prog 240 = 1 := sizeT_of inf240 rfl
@[go_sem] theorem tsz240 : Tryz.t240.size = 1 := rfl
@[go_sem] theorem tby240 : Tryz.t240.bytes = 8 := rfl
@[go_sem] theorem zer240 : zeroA Tryz.prog 240 = some [.nilFunc] := zeroA_of inf240 rfl
@[go_sem] theorem inf241 : Tryz.prog.info? 241 = some Tryz.t241 := info_of Tryz.type241
@[go_sem] theorem has241 : hasT Tryz.prog 241 = true := hasT_of inf241
@[go_sem] theorem siz241 : sizeT Tryz.prog 241 = 1 := sizeT_of inf241 rfl
@[go_sem] theorem tsz241 : Tryz.t241.size = 1 := rfl
@[go_sem] theorem tby241 : Tryz.t241.bytes = 8 := rfl
@[go_sem] theorem zer241 : zeroA Tryz.prog 241 = some [.nilFunc] := zeroA_of inf241 rfl
@[go_sem] theorem inf242 : Tryz.prog.info? 242 = some Tryz.t242 := info_of Tryz.type242
@[go_sem] theorem has242 : hasT Tryz.prog 242 = true := hasT_of inf242
@[go_sem] theorem siz242 : sizeT Tryz.prog 242 = 1 := sizeT_of inf242 rfl
@[go_sem] theorem tsz242 : Tryz.t242.size = 1 := rfl
@[go_sem] theorem tby242 : Tryz.t242.bytes = 8 := rfl
@[go_sem] theorem zer242 : zeroA Tryz.prog 242 = some [.nilFunc] := zeroA_of inf242 rfl
@[go_sem] theorem inf243 : Tryz.prog.info? 243 = some Tryz.t243 := info_of Tryz.type243
@[go_sem] theorem has243 : hasT Tryz.prog 243 = true := hasT_of inf243
@[go_sem] theorem siz243 : sizeT Tryz.prog 243 = 1 := sizeT_of inf243 rfl
@[go_sem] theorem tsz243 : Tryz.t243.size = 1 := rfl
@[go_sem] theorem tby243 : Tryz.t243.bytes = 8 := rfl
@[go_sem] theorem zer243 : zeroA Tryz.prog 243 = some [.nilPtr] := zeroA_of inf243 rfl
@[go_sem] theorem inf244 : Tryz.prog.info? 244 = some Tryz.t244 := info_of Tryz.type244
@[go_sem] theorem has244 : hasT Tryz.prog 244 = true := hasT_of inf244
@[go_sem] theorem siz244 : sizeT Tryz.prog 244 = 1 := sizeT_of inf244 rfl
@[go_sem] theorem tsz244 : Tryz.t244.size = 1 := rfl
@[go_sem] theorem tby244 : Tryz.t244.bytes = 8 := rfl
@[go_sem] theorem zer244 : zeroA Tryz.prog 244 = some [.nilFunc] := zeroA_of inf244 rfl
@[go_sem] theorem inf245 : Tryz.prog.info? 245 = some Tryz.t245 := info_of Tryz.type245
@[go_sem] theorem has245 : hasT Tryz.prog 245 = true := hasT_of inf245
@[go_sem] theorem siz245 : sizeT Tryz.prog 245 = 1 := sizeT_of inf245 rfl
@[go_sem] theorem tsz245 : Tryz.t245.size = 1 := rfl
@[go_sem] theorem tby245 : Tryz.t245.bytes = 8 := rfl
@[go_sem] theorem zer245 : zeroA Tryz.prog 245 = some [.nilPtr] := zeroA_of inf245 rfl
@[go_sem] theorem inf246 : Tryz.prog.info? 246 = some Tryz.t246 := info_of Tryz.type246
@[go_sem] theorem has246 : hasT Tryz.prog 246 = true := hasT_of inf246
@[go_sem] theorem siz246 : sizeT Tryz.prog 246 = 1 := sizeT_of inf246 rfl
@[go_sem] theorem tsz246 : Tryz.t246.size = 1 := rfl
@[go_sem] theorem tby246 : Tryz.t246.bytes = 0 := rfl
@[go_sem] theorem zer246 : zeroA Tryz.prog 246 = some [.tuple [.int .i64 0, .int .i64 0]] := zeroA_of inf246 rfl
@[go_sem] theorem inf247 : Tryz.prog.info? 247 = some Tryz.t247 := info_of Tryz.type247
@[go_sem] theorem has247 : hasT Tryz.prog 247 = true := hasT_of inf247
@[go_sem] theorem siz247 : sizeT Tryz.prog 247 = 1 := sizeT_of inf247 rfl
@[go_sem] theorem tsz247 : Tryz.t247.size = 1 := rfl
@[go_sem] theorem tby247 : Tryz.t247.bytes = 8 := rfl
@[go_sem] theorem zer247 : zeroA Tryz.prog 247 = some [.nilFunc] := zeroA_of inf247 rfl
@[go_sem] theorem inf248 : Tryz.prog.info? 248 = some Tryz.t248 := info_of Tryz.type248
@[go_sem] theorem has248 : hasT Tryz.prog 248 = true := hasT_of inf248
@[go_sem] theorem siz248 : sizeT Tryz.prog 248 = 1 := sizeT_of inf248 rfl
@[go_sem] theorem tsz248 : Tryz.t248.size = 1 := rfl
@[go_sem] theorem tby248 : Tryz.t248.bytes = 8 := rfl
@[go_sem] theorem zer248 : zeroA Tryz.prog 248 = some [.nilFunc] := zeroA_of inf248 rfl
@[go_sem] theorem inf249 : Tryz.prog.info? 249 = some Tryz.t249 := info_of Tryz.type249
@[go_sem] theorem has249 : hasT Tryz.prog 249 = true := hasT_of inf249
@[go_sem] theorem siz249 : sizeT Tryz.prog 249 = 4 := sizeT_of inf249 rfl
@[go_sem] theorem tsz249 : Tryz.t249.size = 4 := rfl
@[go_sem] theorem tby249 : Tryz.t249.bytes = 40 := rfl
@[go_sem] theorem zer249 : zeroA Tryz.prog 249 = some [.nilPtr, .nilPtr, .nilPtr, .str ⟨#[]⟩] := zeroA_of inf249 rfl
@[go_sem] theorem inf250 : Tryz.prog.info? 250 = some Tryz.t250 := info_of Tryz.type250
@[go_sem] theorem has250 : hasT Tryz.prog 250 = true := hasT_of inf250
@[go_sem] theorem siz250 : sizeT Tryz.prog 250 = 4 := sizeT_of inf250 rfl
@[go_sem] theorem tsz250 : Tryz.t250.size = 4 := rfl
@[go_sem] theorem tby250 : Tryz.t250.bytes = 40 := rfl
@[go_sem] theorem zer250 : zeroA Tryz.prog 250 = some [.nilPtr, .nilPtr, .nilPtr, .str ⟨#[]⟩] := zeroA_of inf250 rfl
@[go_sem] theorem inf251 : Tryz.prog.info? 251 = some Tryz.t251 := info_of Tryz.type251
@[go_sem] theorem has251 : hasT Tryz.prog 251 = true := hasT_of inf251
@[go_sem] theorem siz251 : sizeT Tryz.prog 251 = 0 := sizeT_of inf251 rfl
@[go_sem] theorem tsz251 : Tryz.t251.size = 0 := rfl
@[go_sem] theorem tby251 : Tryz.t251.bytes = 0 := rfl
@[go_sem] theorem zer251 : zeroA Tryz.prog 251 = some [] := zeroA_of inf251 rfl
@[go_sem] theorem inf252 : Tryz.prog.info? 252 = some Tryz.t252 := info_of Tryz.type252
@[go_sem] theorem has252 : hasT Tryz.prog 252 = true := hasT_of inf252
@[go_sem] theorem siz252 : sizeT Tryz.prog 252 = 0 := sizeT_of inf252 rfl
@[go_sem] theorem tsz252 : Tryz.t252.size = 0 := rfl
@[go_sem] theorem tby252 : Tryz.t252.bytes = 0 := rfl
@[go_sem] theorem zer252 : zeroA Tryz.prog 252 = some [] := zeroA_of inf252 rfl
@[go_sem] theorem inf253 : Tryz.prog.info? 253 = some Tryz.t253 := info_of Tryz.type253
@[go_sem] theorem has253 : hasT Tryz.prog 253 = true := hasT_of inf253
@[go_sem] theorem siz253 : sizeT Tryz.prog 253 = 0 := sizeT_of inf253 rfl
@[go_sem] theorem tsz253 : Tryz.t253.size = 0 := rfl
@[go_sem] theorem tby253 : Tryz.t253.bytes = 0 := rfl
@[go_sem] theorem zer253 : zeroA Tryz.prog 253 = some [] := zeroA_of inf253 rfl
@[go_sem] theorem inf254 : Tryz.prog.info? 254 = some Tryz.t254 := info_of Tryz.type254
@[go_sem] theorem has254 : hasT Tryz.prog 254 = true := hasT_of inf254
@[go_sem] theorem siz254 : sizeT Tryz.prog 254 = 1 := sizeT_of inf254 rfl
@[go_sem] theorem tsz254 : Tryz.t254.size = 1 := rfl
@[go_sem] theorem tby254 : Tryz.t254.bytes = 8 := rfl
@[go_sem] theorem zer254 : zeroA Tryz.prog 254 = some [.nilFunc] := zeroA_of inf254 rfl
@[go_sem] theorem inf255 : Tryz.prog.info? 255 = some Tryz.t255 := info_of Tryz.type255
@[go_sem] theorem has255 : hasT Tryz.prog 255 = true := hasT_of inf255
@[go_sem] theorem siz255 : sizeT Tryz.prog 255 = 1 := sizeT_of inf255 rfl
@[go_sem] theorem tsz255 : Tryz.t255.size = 1 := rfl
@[go_sem] theorem tby255 : Tryz.t255.bytes = 1 := rfl
@[go_sem] theorem zer255 : zeroA Tryz.prog 255 = some [.int .u8 0] := zeroA_of inf255 rfl
@[go_sem] theorem inf256 : Tryz.prog.info? 256 = some Tryz.t256 := info_of Tryz.type256
@[go_sem] theorem has256 : hasT Tryz.prog 256 = true := hasT_of inf256
@[go_sem] theorem siz256 : sizeT Tryz.prog 256 = 1 := sizeT_of inf256 rfl
@[go_sem] theorem tsz256 : Tryz.t256.size = 1 := rfl
@[go_sem] theorem tby256 : Tryz.t256.bytes = 1 := rfl
@[go_sem] theorem zer256 : zeroA Tryz.prog 256 = some [.int .u8 0] := zeroA_of inf256 rfl
@[go_sem] theorem inf257 : Tryz.prog.info? 257 = some Tryz.t257 := info_of Tryz.type257
@[go_sem] theorem has257 : hasT Tryz.prog 257 = true := hasT_of inf257
@[go_sem] theorem siz257 : sizeT Tryz.prog 257 = 1 := sizeT_of inf257 rfl
@[go_sem] theorem tsz257 : Tryz.t257.size = 1 := rfl
@[go_sem] theorem tby257 : Tryz.t257.bytes = 8 := rfl
@[go_sem] theorem zer257 : zeroA Tryz.prog 257 = some [.nilFunc] := zeroA_of inf257 rfl
@[go_sem] theorem inf258 : Tryz.prog.info? 258 = some Tryz.t258 := info_of Tryz.type258
@[go_sem] theorem has258 : hasT Tryz.prog 258 = true := hasT_of inf258
@[go_sem] theorem siz258 : sizeT Tryz.prog 258 = 1 := sizeT_of inf258 rfl
@[go_sem] theorem tsz258 : Tryz.t258.size = 1 := rfl
@[go_sem] theorem tby258 : Tryz.t258.bytes = 8 := rfl
@[go_sem] theorem zer258 : zeroA Tryz.prog 258 = some [.nilPtr] := zeroA_of inf258 rfl
@[go_sem] theorem inf259 : Tryz.prog.info? 259 = some Tryz.t259 := info_of Tryz.type259
@[go_sem] theorem has259 : hasT Tryz.prog 259 = true := hasT_of inf259
@[go_sem] theorem siz259 : sizeT Tryz.prog 259 = 1 := sizeT_of inf259 rfl
@[go_sem] theorem tsz259 : Tryz.t259.size = 1 := rfl
@[go_sem] theorem tby259 : Tryz.t259.bytes = 4 := rfl
@[go_sem] theorem zer259 : zeroA Tryz.prog 259 = some [.int .i32 0] := zeroA_of inf259 rfl
@[go_sem] theorem inf260 : Tryz.prog.info? 260 = some Tryz.t260 := info_of Tryz.type260
@[go_sem] theorem has260 : hasT Tryz.prog 260 = true := hasT_of inf260
@[go_sem] theorem siz260 : sizeT Tryz.prog 260 = 1 := sizeT_of inf260 rfl
@[go_sem] theorem tsz260 : Tryz.t260.size = 1 := rfl
@[go_sem] theorem tby260 : Tryz.t260.bytes = 4 := rfl
@[go_sem] theorem zer260 : zeroA Tryz.prog 260 = some [.int .i32 0] := zeroA_of inf260 rfl
@[go_sem] theorem inf261 : Tryz.prog.info? 261 = some Tryz.t261 := info_of Tryz.type261
@[go_sem] theorem has261 : hasT Tryz.prog 261 = true := hasT_of inf261
@[go_sem] theorem siz261 : sizeT Tryz.prog 261 = 11 := sizeT_of inf261 rfl
@[go_sem] theorem tsz261 : Tryz.t261.size = 11 := rfl
@[go_sem] theorem tby261 : Tryz.t261.bytes = 48 := rfl
@[go_sem] theorem zer261 : zeroA Tryz.prog 261 = some [.int .u64 0, .int .u64 0, .int .u32 0, .int .u8 0, .int .u8 0, .int .u8 0, .int .u8 0, .nilFunc, .nilPtr, .int .i32 0, .int .i32 0] := zeroA_of inf261 rfl
@[go_sem] theorem inf262 : Tryz.prog.info? 262 = some Tryz.t262 := info_of Tryz.type262
@[go_sem] theorem has262 : hasT Tryz.prog 262 = true := hasT_of inf262
@[go_sem] theorem siz262 : sizeT Tryz.prog 262 = 11 := sizeT_of inf262 rfl
@[go_sem] theorem tsz262 : Tryz.t262.size = 11 := rfl
@[go_sem] theorem tby262 : Tryz.t262.bytes = 48 := rfl
@[go_sem] theorem zer262 : zeroA Tryz.prog 262 = some [.int .u64 0, .int .u64 0, .int .u32 0, .int .u8 0, .int .u8 0, .int .u8 0, .int .u8 0, .nilFunc, .nilPtr, .int .i32 0, .int .i32 0] := zeroA_of inf262 rfl
@[go_sem] theorem inf263 : Tryz.prog.info? 263 = some Tryz.t263 := info_of Tryz.type263
@[go_sem] theorem has263 : hasT Tryz.prog 263 = true := hasT_of inf263
@[go_sem] theorem siz263 : sizeT Tryz.prog 263 = 1 := sizeT_of inf263 rfl
@[go_sem] theorem tsz263 : Tryz.t263.size = 1 := rfl
@[go_sem] theorem tby263 : Tryz.t263.bytes = 8 := rfl
@[go_sem] theorem zer263 : zeroA Tryz.prog 263 = some [.nilFunc] := zeroA_of inf263 rfl
@[go_sem] theorem inf264 : Tryz.prog.info? 264 = some Tryz.t264 := info_of Tryz.type264
@[go_sem] theorem has264 : hasT Tryz.prog 264 = true := hasT_of inf264
@[go_sem] theorem siz264 : sizeT Tryz.prog 264 = 1 := sizeT_of inf264 rfl
@[go_sem] theorem tsz264 : Tryz.t264.size = 1 := rfl
@[go_sem] theorem tby264 : Tryz.t264.bytes = 8 := rfl
@[go_sem] theorem zer264 : zeroA Tryz.prog 264 = some [.nilFunc] := zeroA_of inf264 rfl
@[go_sem] theorem inf265 : Tryz.prog.info? 265 = some Tryz.t265 := info_of Tryz.type265
@[go_sem] theorem has265 : hasT Tryz.prog 265 = true := hasT_of inf265
@[go_sem] theorem siz265 : sizeT Tryz.prog 265 = 1 := sizeT_of inf265 rfl
@[go_sem] theorem tsz265 : Tryz.t265.size = 1 := rfl
@[go_sem] theorem tby265 : Tryz.t265.bytes = 8 := rfl
@[go_sem] theorem zer265 : zeroA Tryz.prog 265 = some [.nilPtr] := zeroA_of inf265 rfl
@[go_sem] theorem inf266 : Tryz.prog.info? 266 = some Tryz.t266 := info_of Tryz.type266
@[go_sem] theorem has266 : hasT Tryz.prog 266 = true := hasT_of inf266
@[go_sem] theorem siz266 : sizeT Tryz.prog 266 = 2 := sizeT_of inf266 rfl
@[go_sem] theorem tsz266 : Tryz.t266.size = 2 := rfl
@[go_sem] theorem tby266 : Tryz.t266.bytes = 32 := rfl
@[go_sem] theorem zer266 : zeroA Tryz.prog 266 = some [.nilSlice, .int .i64 0] := zeroA_of inf266 rfl
@[go_sem] theorem inf267 : Tryz.prog.info? 267 = some Tryz.t267 := info_of Tryz.type267
@[go_sem] theorem has267 : hasT Tryz.prog 267 = true := hasT_of inf267
@[go_sem] theorem siz267 : sizeT Tryz.prog 267 = 2 := sizeT_of inf267 rfl
@[go_sem] theorem tsz267 : Tryz.t267.size = 2 := rfl
@[go_sem] theorem tby267 : Tryz.t267.bytes = 32 := rfl
@[go_sem] theorem zer267 : zeroA Tryz.prog 267 = some [.nilSlice, .int .i64 0] := zeroA_of inf267 rfl
@[go_sem] theorem inf268 : Tryz.prog.info? 268 = some Tryz.t268 := info_of Tryz.type268
@[go_sem] theorem has268 : hasT Tryz.prog 268 = true := hasT_of inf268
@[go_sem] theorem siz268 : sizeT Tryz.prog 268 = 3 := sizeT_of inf268 rfl
@[go_sem] theorem tsz268 : Tryz.t268.size = 3 := rfl
@[go_sem] theorem tby268 : Tryz.t268.bytes = 56 := rfl
@[go_sem] theorem zer268 : zeroA Tryz.prog 268 = some [.nilSlice, .int .i64 0, .nilSlice] := zeroA_of inf268 rfl
@[go_sem] theorem inf269 : Tryz.prog.info? 269 = some Tryz.t269 := info_of Tryz.type269
@[go_sem] theorem has269 : hasT Tryz.prog 269 = true := hasT_of inf269
@[go_sem] theorem siz269 : sizeT Tryz.prog 269 = 3 := sizeT_of inf269 rfl
@[go_sem] theorem tsz269 : Tryz.t269.size = 3 := rfl
@[go_sem] theorem tby269 : Tryz.t269.bytes = 56 := rfl
@[go_sem] theorem zer269 : zeroA Tryz.prog 269 = some [.nilSlice, .int .i64 0, .nilSlice] := zeroA_of inf269 rfl
@[go_sem] theorem inf270 : Tryz.prog.info? 270 = some Tryz.t270 := info_of Tryz.type270
@[go_sem] theorem has270 : hasT Tryz.prog 270 = true := hasT_of inf270
@[go_sem] theorem siz270 : sizeT Tryz.prog 270 = 1 := sizeT_of inf270 rfl
@[go_sem] theorem tsz270 : Tryz.t270.size = 1 := rfl
@[go_sem] theorem tby270 : Tryz.t270.bytes = 8 := rfl
@[go_sem] theorem zer270 : zeroA Tryz.prog 270 = some [.nilFunc] := zeroA_of inf270 rfl
@[go_sem] theorem inf271 : Tryz.prog.info? 271 = some Tryz.t271 := info_of Tryz.type271
@[go_sem] theorem has271 : hasT Tryz.prog 271 = true := hasT_of inf271
@[go_sem] theorem siz271 : sizeT Tryz.prog 271 = 1 := sizeT_of inf271 rfl
@[go_sem] theorem tsz271 : Tryz.t271.size = 1 := rfl
@[go_sem] theorem tby271 : Tryz.t271.bytes = 8 := rfl
@[go_sem] theorem zer271 : zeroA Tryz.prog 271 = some [.nilFunc] := zeroA_of inf271 rfl
@[go_sem] theorem inf272 : Tryz.prog.info? 272 = some Tryz.t272 := info_of Tryz.type272
@[go_sem] theorem has272 : hasT Tryz.prog 272 = true := hasT_of inf272
@[go_sem] theorem siz272 : sizeT Tryz.prog 272 = 1 := sizeT_of inf272 rfl
@[go_sem] theorem tsz272 : Tryz.t272.size = 1 := rfl
@[go_sem] theorem tby272 : Tryz.t272.bytes = 8 := rfl
@[go_sem] theorem zer272 : zeroA Tryz.prog 272 = some [.nilFunc] := zeroA_of inf272 rfl
@[go_sem] theorem inf273 : Tryz.prog.info? 273 = some Tryz.t273 := info_of Tryz.type273
@[go_sem] theorem has273 : hasT Tryz.prog 273 = true := hasT_of inf273
@[go_sem] theorem siz273 : sizeT Tryz.prog 273 = 1 := sizeT_of inf273 rfl
@[go_sem] theorem tsz273 : Tryz.t273.size = 1 := rfl
@[go_sem] theorem tby273 : Tryz.t273.bytes = 8 := rfl
@[go_sem] theorem zer273 : zeroA Tryz.prog 273 = some [.nilFunc] := zeroA_of inf273 rfl
@[go_sem] theorem inf274 : Tryz.prog.info? 274 = some Tryz.t274 := info_of Tryz.type274
@[go_sem] theorem has274 : hasT Tryz.prog 274 = true := hasT_of inf274
@[go_sem] theorem siz274 : sizeT Tryz.prog 274 = 1 := sizeT_of inf274 rfl
@[go_sem] theorem tsz274 : Tryz.t274.size = 1 := rfl
@[go_sem] theorem tby274 : Tryz.t274.bytes = 8 := rfl
@[go_sem] theorem zer274 : zeroA Tryz.prog 274 = some [.nilFunc] := zeroA_of inf274 rfl
@[go_sem] theorem inf275 : Tryz.prog.info? 275 = some Tryz.t275 := info_of Tryz.type275
@[go_sem] theorem has275 : hasT Tryz.prog 275 = true := hasT_of inf275
@[go_sem] theorem siz275 : sizeT Tryz.prog 275 = 1 := sizeT_of inf275 rfl
@[go_sem] theorem tsz275 : Tryz.t275.size = 1 := rfl
@[go_sem] theorem tby275 : Tryz.t275.bytes = 8 := rfl
@[go_sem] theorem zer275 : zeroA Tryz.prog 275 = some [.nilFunc] := zeroA_of inf275 rfl
@[go_sem] theorem inf276 : Tryz.prog.info? 276 = some Tryz.t276 := info_of Tryz.type276
@[go_sem] theorem has276 : hasT Tryz.prog 276 = true := hasT_of inf276
@[go_sem] theorem siz276 : sizeT Tryz.prog 276 = 1 := sizeT_of inf276 rfl
@[go_sem] theorem tsz276 : Tryz.t276.size = 1 := rfl
@[go_sem] theorem tby276 : Tryz.t276.bytes = 8 := rfl
@[go_sem] theorem zer276 : zeroA Tryz.prog 276 = some [.nilPtr] := zeroA_of inf276 rfl
@[go_sem] theorem inf277 : Tryz.prog.info? 277 = some Tryz.t277 := info_of Tryz.type277
@[go_sem] theorem has277 : hasT Tryz.prog 277 = true := hasT_of inf277
@[go_sem] theorem siz277 : sizeT Tryz.prog 277 = 2 := sizeT_of inf277 rfl
@[go_sem] theorem tsz277 : Tryz.t277.size = 2 := rfl
@[go_sem] theorem tby277 : Tryz.t277.bytes = 32 := rfl
@[go_sem] theorem zer277 : zeroA Tryz.prog 277 = some [.int .i64 0, .nilSlice] := zeroA_of inf277 rfl
@[go_sem] theorem inf278 : Tryz.prog.info? 278 = some Tryz.t278 := info_of Tryz.type278
@[go_sem] theorem has278 : hasT Tryz.prog 278 = true := hasT_of inf278
@[go_sem] theorem siz278 : sizeT Tryz.prog 278 = 2 := sizeT_of inf278 rfl
@[go_sem] theorem tsz278 : Tryz.t278.size = 2 := rfl
@[go_sem] theorem tby278 : Tryz.t278.bytes = 32 := rfl
@[go_sem] theorem zer278 : zeroA Tryz.prog 278 = some [.int .i64 0, .nilSlice] := zeroA_of inf278 rfl
@[go_sem] theorem inf279 : Tryz.prog.info? 279 = some Tryz.t279 := info_of Tryz.type279
@[go_sem] theorem has279 : hasT Tryz.prog 279 = true := hasT_of inf279
@[go_sem] theorem siz279 : sizeT Tryz.prog 279 = 1 := sizeT_of inf279 rfl
@[go_sem] theorem tsz279 : Tryz.t279.size = 1 := rfl
@[go_sem] theorem tby279 : Tryz.t279.bytes = 8 := rfl
@[go_sem] theorem zer279 : zeroA Tryz.prog 279 = some [.nilFunc] := zeroA_of inf279 rfl
@[go_sem] theorem inf280 : Tryz.prog.info? 280 = some Tryz.t280 := info_of Tryz.type280
@[go_sem] theorem has280 : hasT Tryz.prog 280 = true := hasT_of inf280
@[go_sem] theorem siz280 : sizeT Tryz.prog 280 = 1 := sizeT_of inf280 rfl
@[go_sem] theorem tsz280 : Tryz.t280.size = 1 := rfl
@[go_sem] theorem tby280 : Tryz.t280.bytes = 8 := rfl
@[go_sem] theorem zer280 : zeroA Tryz.prog 280 = some [.nilFunc] := zeroA_of inf280 rfl
@[go_sem] theorem inf281 : Tryz.prog.info? 281 = some Tryz.t281 := info_of Tryz.type281
@[go_sem] theorem has281 : hasT Tryz.prog 281 = true := hasT_of inf281
@[go_sem] theorem siz281 : sizeT Tryz.prog 281 = 1 := sizeT_of inf281 rfl
@[go_sem] theorem tsz281 : Tryz.t281.size = 1 := rfl
@[go_sem] theorem tby281 : Tryz.t281.bytes = 8 := rfl
@[go_sem] theorem zer281 : zeroA Tryz.prog 281 = some [.nilFunc] := zeroA_of inf281 rfl
@[go_sem] theorem inf282 : Tryz.prog.info? 282 = some Tryz.t282 := info_of Tryz.type282
@[go_sem] theorem has282 : hasT Tryz.prog 282 = true := hasT_of inf282
@[go_sem] theorem siz282 : sizeT Tryz.prog 282 = 1 := sizeT_of inf282 rfl
@[go_sem] theorem tsz282 : Tryz.t282.size = 1 := rfl
@[go_sem] theorem tby282 : Tryz.t282.bytes = 8 := rfl
@[go_sem] theorem zer282 : zeroA Tryz.prog 282 = some [.nilFunc] := zeroA_of inf282 rfl
@[go_sem] theorem inf283 : Tryz.prog.info? 283 = some Tryz.t283 := info_of Tryz.type283
@[go_sem] theorem has283 : hasT Tryz.prog 283 = true := hasT_of inf283
@[go_sem] theorem siz283 : sizeT Tryz.prog 283 = 1 := sizeT_of inf283 rfl
@[go_sem] theorem tsz283 : Tryz.t283.size = 1 := rfl
@[go_sem] theorem tby283 : Tryz.t283.bytes = 8 := rfl
@[go_sem] theorem zer283 : zeroA Tryz.prog 283 = some [.nilFunc] := zeroA_of inf283 rfl
@[go_sem] theorem inf284 : Tryz.prog.info? 284 = some Tryz.t284 := info_of Tryz.type284
@[go_sem] theorem has284 : hasT Tryz.prog 284 = true := hasT_of inf284
@[go_sem] theorem siz284 : sizeT Tryz.prog 284 = 1 := sizeT_of inf284 rfl
@[go_sem] theorem tsz284 : Tryz.t284.size = 1 := rfl
@[go_sem] theorem tby284 : Tryz.t284.bytes = 8 := rfl
@[go_sem] theorem zer284 : zeroA Tryz.prog 284 = some [.nilFunc] := zeroA_of inf284 rfl
@[go_sem] theorem inf285 : Tryz.prog.info? 285 = some Tryz.t285 := info_of Tryz.type285
@[go_sem] theorem has285 : hasT Tryz.prog 285 = true := hasT_of inf285
@[go_sem] theorem siz285 : sizeT Tryz.prog 285 = 1 := sizeT_of inf285 rfl
@[go_sem] theorem tsz285 : Tryz.t285.size = 1 := rfl
@[go_sem] theorem tby285 : Tryz.t285.bytes = 8 := rfl
@[go_sem] theorem zer285 : zeroA Tryz.prog 285 = some [.nilFunc] := zeroA_of inf285 rfl
@[go_sem] theorem inf286 : Tryz.prog.info? 286 = some Tryz.t286 := info_of Tryz.type286
@[go_sem] theorem has286 : hasT Tryz.prog 286 = true := hasT_of inf286
@[go_sem] theorem siz286 : sizeT Tryz.prog 286 = 1 := sizeT_of inf286 rfl
@[go_sem] theorem tsz286 : Tryz.t286.size = 1 := rfl
@[go_sem] theorem tby286 : Tryz.t286.bytes = 8 := rfl
@[go_sem] theorem zer286 : zeroA Tryz.prog 286 = some [.nilFunc] := zeroA_of inf286 rfl
@[go_sem] theorem inf287 : Tryz.prog.info? 287 = some Tryz.t287 := info_of Tryz.type287
@[go_sem] theorem has287 : hasT Tryz.prog 287 = true := hasT_of inf287
@[go_sem] theorem siz287 : sizeT Tryz.prog 287 = 1 := sizeT_of inf287 rfl
@[go_sem] theorem tsz287 : Tryz.t287.size = 1 := rfl
@[go_sem] theorem tby287 : Tryz.t287.bytes = 8 := rfl
@[go_sem] theorem zer287 : zeroA Tryz.prog 287 = some [.nilFunc] := zeroA_of inf287 rfl
@[go_sem] theorem inf288 : Tryz.prog.info? 288 = some Tryz.t288 := info_of Tryz.type288
@[go_sem] theorem has288 : hasT Tryz.prog 288 = true := hasT_of inf288
@[go_sem] theorem siz288 : sizeT Tryz.prog 288 = 1 := sizeT_of inf288 rfl
@[go_sem] theorem tsz288 : Tryz.t288.size = 1 := rfl
@[go_sem] theorem tby288 : Tryz.t288.bytes = 8 := rfl
@[go_sem] theorem zer288 : zeroA Tryz.prog 288 = some [.nilPtr] := zeroA_of inf288 rfl
@[go_sem] theorem inf289 : Tryz.prog.info? 289 = some Tryz.t289 := info_of Tryz.type289
@[go_sem] theorem has289 : hasT Tryz.prog 289 = true := hasT_of inf289
@[go_sem] theorem siz289 : sizeT Tryz.prog 289 = 1 := sizeT_of inf289 rfl
@[go_sem] theorem tsz289 : Tryz.t289.size = 1 := rfl
@[go_sem] theorem tby289 : Tryz.t289.bytes = 24 := rfl
@[go_sem] theorem zer289 : zeroA Tryz.prog 289 = some [.nilSlice] := zeroA_of inf289 rfl
@[go_sem] theorem inf290 : Tryz.prog.info? 290 = some Tryz.t290 := info_of Tryz.type290
@[go_sem] theorem has290 : hasT Tryz.prog 290 = true := hasT_of inf290
@[go_sem] theorem siz290 : sizeT Tryz.prog 290 = 2 := sizeT_of inf290 rfl
@[go_sem] theorem tsz290 : Tryz.t290.size = 2 := rfl
@[go_sem] theorem tby290 : Tryz.t290.bytes = 48 := rfl
@[go_sem] theorem zer290 : zeroA Tryz.prog 290 = some [.nilSlice, .nilSlice] := zeroA_of inf290 rfl
@[go_sem] theorem inf291 : Tryz.prog.info? 291 = some Tryz.t291 := info_of Tryz.type291
@[go_sem] theorem has291 : hasT Tryz.prog 291 = true := hasT_of inf291
@[go_sem] theorem siz291 : sizeT Tryz.prog 291 = 2 := sizeT_of inf291 rfl
@[go_sem] theorem tsz291 : Tryz.t291.size = 2 := rfl
@[go_sem] theorem tby291 : Tryz.t291.bytes = 48 := rfl
@[go_sem] theorem zer291 : zeroA Tryz.prog 291 = some [.nilSlice, .nilSlice] := zeroA_of inf291 rfl
@[go_sem] theorem inf292 : Tryz.prog.info? 292 = some Tryz.t292 := info_of Tryz.type292
@[go_sem] theorem has292 : hasT Tryz.prog 292 = true := hasT_of inf292
@[go_sem] theorem siz292 : sizeT Tryz.prog 292 = 2 := sizeT_of inf292 rfl
@[go_sem] theorem tsz292 : Tryz.t292.size = 2 := rfl
@[go_sem] theorem tby292 : Tryz.t292.bytes = 32 := rfl
@[go_sem] theorem zer292 : zeroA Tryz.prog 292 = some [.bool false, .nilSlice] := zeroA_of inf292 rfl
@[go_sem] theorem inf293 : Tryz.prog.info? 293 = some Tryz.t293 := info_of Tryz.type293
@[go_sem] theorem has293 : hasT Tryz.prog 293 = true := hasT_of inf293
@[go_sem] theorem siz293 : sizeT Tryz.prog 293 = 2 := sizeT_of inf293 rfl
@[go_sem] theorem tsz293 : Tryz.t293.size = 2 := rfl
@[go_sem] theorem tby293 : Tryz.t293.bytes = 32 := rfl
@[go_sem] theorem zer293 : zeroA Tryz.prog 293 = some [.bool false, .nilSlice] := zeroA_of inf293 rfl
theorem ent3 : enters Tryz.prog 3 = true := enters_of Tryz.func3 rfl
theorem ent4 : enters Tryz.prog 4 = true := enters_of Tryz.func4 rfl
theorem ent5 : enters Tryz.prog 5 = true := enters_of Tryz.func5 rfl
theorem ent6 : enters Tryz.prog 6 = true := enters_of Tryz.func6 rfl
theorem ent7 : enters Tryz.prog 7 = true := enters_of Tryz.func7 rfl
theorem ent8 : enters Tryz.prog 8 = true := enters_of Tryz.func8 rfl
theorem ent9 : enters Tryz.prog 9 = true := enters_of Tryz.func9 rfl
theorem ent10 : enters Tryz.prog 10 = true := enters_of Tryz.func10 rfl
theorem ent11 : enters Tryz.prog 11 = true := enters_of Tryz.func11 rfl
theorem ent12 : enters Tryz.prog 12 = true := enters_of Tryz.func12 rfl
theorem ent13 : enters Tryz.prog 13 = true := enters_of Tryz.func13 rfl
theorem ent14 : enters Tryz.prog 14 = true := enters_of Tryz.func14 rfl
theorem ent15 : enters Tryz.prog 15 = true := enters_of Tryz.func15 rfl
theorem ent16 : enters Tryz.prog 16 = true := enters_of Tryz.func16 rfl
theorem ent17 : enters Tryz.prog 17 = true := enters_of Tryz.func17 rfl
theorem ent18 : enters Tryz.prog 18 = true := enters_of Tryz.func18 rfl
theorem ent19 : enters Tryz.prog 19 = true := enters_of Tryz.func19 rfl
theorem ent20 : enters Tryz.prog 20 = true := enters_of Tryz.func20 rfl
theorem ent21 : enters Tryz.prog 21 = true := enters_of Tryz.func21 rfl
theorem ent22 : enters Tryz.prog 22 = true := enters_of Tryz.func22 rfl
theorem ent23 : enters Tryz.prog 23 = true := enters_of Tryz.func23 rfl
theorem ent24 : enters Tryz.prog 24 = true := enters_of Tryz.func24 rfl
theorem ent25 : enters Tryz.prog 25 = true := enters_of Tryz.func25 rfl
theorem ent26 : enters Tryz.prog 26 = true := enters_of Tryz.func26 rfl
theorem ent27 : enters Tryz.prog 27 = true := enters_of Tryz.func27 rfl
theorem ent28 : enters Tryz.prog 28 = true := enters_of Tryz.func28 rfl
theorem ent29 : enters Tryz.prog 29 = true := enters_of Tryz.func29 rfl
theorem ent30 : enters Tryz.prog 30 = true := enters_of Tryz.func30 rfl
theorem ent31 : enters Tryz.prog 31 = true := enters_of Tryz.func31 rfl
theorem ent32 : enters Tryz.prog 32 = true := enters_of Tryz.func32 rfl
theorem ent33 : enters Tryz.prog 33 = true := enters_of Tryz.func33 rfl
theorem ent34 : enters Tryz.prog 34 = true := enters_of Tryz.func34 rfl
theorem ent35 : enters Tryz.prog 35 = true := enters_of Tryz.func35 rfl
theorem ent36 : enters Tryz.prog 36 = true := enters_of Tryz.func36 rfl
theorem ent37 : enters Tryz.prog 37 = true := enters_of Tryz.func37 rfl
theorem ent38 : enters Tryz.prog 38 = true := enters_of Tryz.func38 rfl
theorem ent39 : enters Tryz.prog 39 = true := enters_of Tryz.func39 rfl
theorem ent40 : enters Tryz.prog 40 = true := enters_of Tryz.func40 rfl
theorem ent41 : enters Tryz.prog 41 = true := enters_of Tryz.func41 rfl
theorem ent42 : enters Tryz.prog 42 = true := enters_of Tryz.func42 rfl
theorem ent43 : enters Tryz.prog 43 = true := enters_of Tryz.func43 rfl
theorem ent44 : enters Tryz.prog 44 = true := enters_of Tryz.func44 rfl
theorem ent45 : enters Tryz.prog 45 = true := enters_of Tryz.func45 rfl
theorem ent46 : enters Tryz.prog 46 = true := enters_of Tryz.func46 rfl
theorem ent47 : enters Tryz.prog 47 = true := enters_of Tryz.func47 rfl
theorem ent48 : enters Tryz.prog 48 = true := enters_of Tryz.func48 rfl
theorem ent49 : enters Tryz.prog 49 = true := enters_of Tryz.func49 rfl
theorem ent50 : enters Tryz.prog 50 = true := enters_of Tryz.func50 rfl
theorem ent51 : enters Tryz.prog 51 = true := enters_of Tryz.func51 rfl
theorem ent52 : enters Tryz.prog 52 = true := enters_of Tryz.func52 rfl
theorem ent53 : enters Tryz.prog 53 = true := enters_of Tryz.func53 rfl
theorem ent54 : enters Tryz.prog 54 = true := enters_of Tryz.func54 rfl
theorem ent55 : enters Tryz.prog 55 = true := enters_of Tryz.func55 rfl
theorem ent56 : enters Tryz.prog 56 = true := enters_of Tryz.func56 rfl
theorem ent57 : enters Tryz.prog 57 = true := enters_of Tryz.func57 rfl
theorem ent58 : enters Tryz.prog 58 = true := enters_of Tryz.func58 rfl
theorem ent59 : enters Tryz.prog 59 = true := enters_of Tryz.func59 rfl
theorem ent60 : enters Tryz.prog 60 = true := enters_of Tryz.func60 rfl
theorem ent61 : enters Tryz.prog 61 = true := enters_of Tryz.func61 rfl
theorem ent62 : enters Tryz.prog 62 = true := enters_of Tryz.func62 rfl
theorem ent63 : enters Tryz.prog 63 = true := enters_of Tryz.func63 rfl
theorem ent64 : enters Tryz.prog 64 = true := enters_of Tryz.func64 rfl
theorem ent65 : enters Tryz.prog 65 = true := enters_of Tryz.func65 rfl
theorem ent66 : enters Tryz.prog 66 = true := enters_of Tryz.func66 rfl
theorem ent67 : enters Tryz.prog 67 = true := enters_of Tryz.func67 rfl
theorem ent68 : enters Tryz.prog 68 = true := enters_of Tryz.func68 rfl
theorem ent69 : enters Tryz.prog 69 = true := enters_of Tryz.func69 rfl
theorem ent70 : enters Tryz.prog 70 = true := enters_of Tryz.func70 rfl
theorem ent71 : enters Tryz.prog 71 = true := enters_of Tryz.func71 rfl
theorem ent72 : enters Tryz.prog 72 = true := enters_of Tryz.func72 rfl
theorem ent73 : enters Tryz.prog 73 = true := enters_of Tryz.func73 rfl
theorem ent74 : enters Tryz.prog 74 = true := enters_of Tryz.func74 rfl
theorem ent75 : enters Tryz.prog 75 = true := enters_of Tryz.func75 rfl
theorem ent76 : enters Tryz.prog 76 = true := enters_of Tryz.func76 rfl
theorem ent77 : enters Tryz.prog 77 = true := enters_of Tryz.func77 rfl
theorem ent78 : enters Tryz.prog 78 = true := enters_of Tryz.func78 rfl
theorem ent79 : enters Tryz.prog 79 = true := enters_of Tryz.func79 rfl
theorem ent80 : enters Tryz.prog 80 = true := enters_of Tryz.func80 rfl
theorem ent81 : enters Tryz.prog 81 = true := enters_of Tryz.func81 rfl
theorem ent82 : enters Tryz.prog 82 = true := enters_of Tryz.func82 rfl
theorem ent83 : enters Tryz.prog 83 = true := enters_of Tryz.func83 rfl
theorem ent84 : enters Tryz.prog 84 = true := enters_of Tryz.func84 rfl
theorem ent85 : enters Tryz.prog 85 = true := enters_of Tryz.func85 rfl
theorem ent86 : enters Tryz.prog 86 = true := enters_of Tryz.func86 rfl
theorem ent87 : enters Tryz.prog 87 = true := enters_of Tryz.func87 rfl
theorem ent88 : enters Tryz.prog 88 = true := enters_of Tryz.func88 rfl
theorem ent89 : enters Tryz.prog 89 = true := enters_of Tryz.func89 rfl
theorem ent90 : enters Tryz.prog 90 = true := enters_of Tryz.func90 rfl
theorem ent91 : enters Tryz.prog 91 = true := enters_of Tryz.func91 rfl
theorem ent92 : enters Tryz.prog 92 = true := enters_of Tryz.func92 rfl
theorem ent93 : enters Tryz.prog 93 = true := enters_of Tryz.func93 rfl
theorem ent94 : enters Tryz.prog 94 = true := enters_of Tryz.func94 rfl
theorem ent95 : enters Tryz.prog 95 = true := enters_of Tryz.func95 rfl
theorem ent96 : enters Tryz.prog 96 = true := enters_of Tryz.func96 rfl
theorem ent97 : enters Tryz.prog 97 = true := enters_of Tryz.func97 rfl
theorem ent98 : enters Tryz.prog 98 = true := enters_of Tryz.func98 rfl
theorem ent99 : enters Tryz.prog 99 = true := enters_of Tryz.func99 rfl
theorem ent100 : enters Tryz.prog 100 = true := enters_of Tryz.func100 rfl
theorem ent101 : enters Tryz.prog 101 = true := enters_of Tryz.func101 rfl
theorem ent102 : enters Tryz.prog 102 = true := enters_of Tryz.func102 rfl
theorem ent103 : enters Tryz.prog 103 = true := enters_of Tryz.func103 rfl
theorem ent104 : enters Tryz.prog 104 = true := enters_of Tryz.func104 rfl
theorem ent105 : enters Tryz.prog 105 = true := enters_of Tryz.func105 rfl
theorem ent106 : enters Tryz.prog 106 = true := enters_of Tryz.func106 rfl
theorem ent107 : enters Tryz.prog 107 = true := enters_of Tryz.func107 rfl
theorem ent108 : enters Tryz.prog 108 = true := enters_of Tryz.func108 rfl
theorem ent109 : enters Tryz.prog 109 = true := enters_of Tryz.func109 rfl
theorem ent110 : enters Tryz.prog 110 = true := enters_of Tryz.func110 rfl
theorem ent111 : enters Tryz.prog 111 = true := enters_of Tryz.func111 rfl
theorem ent112 : enters Tryz.prog 112 = true := enters_of Tryz.func112 rfl
theorem ent113 : enters Tryz.prog 113 = true := enters_of Tryz.func113 rfl
theorem ent114 : enters Tryz.prog 114 = true := enters_of Tryz.func114 rfl
theorem ent115 : enters Tryz.prog 115 = true := enters_of Tryz.func115 rfl
theorem ent116 : enters Tryz.prog 116 = true := enters_of Tryz.func116 rfl
theorem ent117 : enters Tryz.prog 117 = true := enters_of Tryz.func117 rfl
theorem ent118 : enters Tryz.prog 118 = true := enters_of Tryz.func118 rfl
theorem ent119 : enters Tryz.prog 119 = true := enters_of Tryz.func119 rfl
theorem ent120 : enters Tryz.prog 120 = true := enters_of Tryz.func120 rfl
theorem ent121 : enters Tryz.prog 121 = true := enters_of Tryz.func121 rfl
theorem ent122 : enters Tryz.prog 122 = true := enters_of Tryz.func122 rfl
theorem ent123 : enters Tryz.prog 123 = true := enters_of Tryz.func123 rfl
theorem ent124 : enters Tryz.prog 124 = true := enters_of Tryz.func124 rfl
theorem ent125 : enters Tryz.prog 125 = true := enters_of Tryz.func125 rfl
theorem ent126 : enters Tryz.prog 126 = true := enters_of Tryz.func126 rfl
theorem ent127 : enters Tryz.prog 127 = true := enters_of Tryz.func127 rfl
theorem ent128 : enters Tryz.prog 128 = true := enters_of Tryz.func128 rfl
theorem ent129 : enters Tryz.prog 129 = true := enters_of Tryz.func129 rfl
theorem ent130 : enters Tryz.prog 130 = true := enters_of Tryz.func130 rfl
theorem ent131 : enters Tryz.prog 131 = true := enters_of Tryz.func131 rfl
theorem ent132 : enters Tryz.prog 132 = true := enters_of Tryz.func132 rfl
theorem ent133 : enters Tryz.prog 133 = true := enters_of Tryz.func133 rfl
theorem ent134 : enters Tryz.prog 134 = true := enters_of Tryz.func134 rfl
theorem ent135 : enters Tryz.prog 135 = true := enters_of Tryz.func135 rfl
theorem ent136 : enters Tryz.prog 136 = true := enters_of Tryz.func136 rfl
theorem ent137 : enters Tryz.prog 137 = true := enters_of Tryz.func137 rfl
theorem ent138 : enters Tryz.prog 138 = true := enters_of Tryz.func138 rfl
theorem ent139 : enters Tryz.prog 139 = true := enters_of Tryz.func139 rfl
theorem ent140 : enters Tryz.prog 140 = true := enters_of Tryz.func140 rfl
theorem ent141 : enters Tryz.prog 141 = true := enters_of Tryz.func141 rfl
theorem ent142 : enters Tryz.prog 142 = true := enters_of Tryz.func142 rfl
theorem ent143 : enters Tryz.prog 143 = true := enters_of Tryz.func143 rfl
theorem ent144 : enters Tryz.prog 144 = true := enters_of Tryz.func144 rfl
theorem ent145 : enters Tryz.prog 145 = true := enters_of Tryz.func145 rfl
theorem ent146 : enters Tryz.prog 146 = true := enters_of Tryz.func146 rfl
theorem ent147 : enters Tryz.prog 147 = true := enters_of Tryz.func147 rfl
theorem ent148 : enters Tryz.prog 148 = true := enters_of Tryz.func148 rfl
theorem ent149 : enters Tryz.prog 149 = true := enters_of Tryz.func149 rfl
theorem ent150 : enters Tryz.prog 150 = true := enters_of Tryz.func150 rfl
theorem ent151 : enters Tryz.prog 151 = true := enters_of Tryz.func151 rfl
theorem ent152 : enters Tryz.prog 152 = true := enters_of Tryz.func152 rfl
theorem ent153 : enters Tryz.prog 153 = true := enters_of Tryz.func153 rfl
theorem ent154 : enters Tryz.prog 154 = true := enters_of Tryz.func154 rfl
theorem ent155 : enters Tryz.prog 155 = true := enters_of Tryz.func155 rfl
theorem ent156 : enters Tryz.prog 156 = true := enters_of Tryz.func156 rfl
theorem ent157 : enters Tryz.prog 157 = true := enters_of Tryz.func157 rfl
theorem ent158 : enters Tryz.prog 158 = true := enters_of Tryz.func158 rfl
theorem ent159 : enters Tryz.prog 159 = true := enters_of Tryz.func159 rfl
theorem ent160 : enters Tryz.prog 160 = true := enters_of Tryz.func160 rfl
theorem ent161 : enters Tryz.prog 161 = true := enters_of Tryz.func161 rfl
theorem ent162 : enters Tryz.prog 162 = true := enters_of Tryz.func162 rfl
theorem ent163 : enters Tryz.prog 163 = true := enters_of Tryz.func163 rfl
theorem ent164 : enters Tryz.prog 164 = true := enters_of Tryz.func164 rfl
theorem ent165 : enters Tryz.prog 165 = true := enters_of Tryz.func165 rfl
theorem ent166 : enters Tryz.prog 166 = true := enters_of Tryz.func166 rfl
theorem ent167 : enters Tryz.prog 167 = true := enters_of Tryz.func167 rfl
theorem ent168 : enters Tryz.prog 168 = true := enters_of Tryz.func168 rfl
theorem ent169 : enters Tryz.prog 169 = true := enters_of Tryz.func169 rfl
theorem ent170 : enters Tryz.prog 170 = true := enters_of Tryz.func170 rfl
theorem ent171 : enters Tryz.prog 171 = true := enters_of Tryz.func171 rfl
theorem ent172 : enters Tryz.prog 172 = true := enters_of Tryz.func172 rfl
theorem ent173 : enters Tryz.prog 173 = true := enters_of Tryz.func173 rfl
theorem ent174 : enters Tryz.prog 174 = true := enters_of Tryz.func174 rfl
theorem ent175 : enters Tryz.prog 175 = true := enters_of Tryz.func175 rfl
theorem ent176 : enters Tryz.prog 176 = true := enters_of Tryz.func176 rfl
theorem ent177 : enters Tryz.prog 177 = true := enters_of Tryz.func177 rfl
theorem ent178 : enters Tryz.prog 178 = true := enters_of Tryz.func178 rfl
theorem ent179 : enters Tryz.prog 179 = true := enters_of Tryz.func179 rfl
theorem ent180 : enters Tryz.prog 180 = true := enters_of Tryz.func180 rfl
theorem ent181 : enters Tryz.prog 181 = true := enters_of Tryz.func181 rfl
theorem ent182 : enters Tryz.prog 182 = true := enters_of Tryz.func182 rfl
theorem ent183 : enters Tryz.prog 183 = true := enters_of Tryz.func183 rfl
theorem ent184 : enters Tryz.prog 184 = true := enters_of Tryz.func184 rfl
theorem ent185 : enters Tryz.prog 185 = true := enters_of Tryz.func185 rfl
theorem ent186 : enters Tryz.prog 186 = true := enters_of Tryz.func186 rfl
theorem ent187 : enters Tryz.prog 187 = true := enters_of Tryz.func187 rfl
theorem ent188 : enters Tryz.prog 188 = true := enters_of Tryz.func188 rfl
theorem ent189 : enters Tryz.prog 189 = true := enters_of Tryz.func189 rfl
theorem ent190 : enters Tryz.prog 190 = true := enters_of Tryz.func190 rfl
theorem ent191 : enters Tryz.prog 191 = true := enters_of Tryz.func191 rfl
theorem ent192 : enters Tryz.prog 192 = true := enters_of Tryz.func192 rfl
theorem ent193 : enters Tryz.prog 193 = true := enters_of Tryz.func193 rfl
theorem ent194 : enters Tryz.prog 194 = true := enters_of Tryz.func194 rfl
theorem ent195 : enters Tryz.prog 195 = true := enters_of Tryz.func195 rfl
theorem ent196 : enters Tryz.prog 196 = true := enters_of Tryz.func196 rfl
theorem ent197 : enters Tryz.prog 197 = true := enters_of Tryz.func197 rfl
theorem ent198 : enters Tryz.prog 198 = true := enters_of Tryz.func198 rfl
theorem ent199 : enters Tryz.prog 199 = true := enters_of Tryz.func199 rfl
theorem ent200 : enters Tryz.prog 200 = true := enters_of Tryz.func200 rfl
theorem ent201 : enters Tryz.prog 201 = true := enters_of Tryz.func201 rfl
theorem ent202 : enters Tryz.prog 202 = true := enters_of Tryz.func202 rfl
theorem ent218 : enters Tryz.prog 218 = true := enters_of Tryz.func218 rfl
theorem ent219 : enters Tryz.prog 219 = true := enters_of Tryz.func219 rfl
theorem ent220 : enters Tryz.prog 220 = true := enters_of Tryz.func220 rfl
theorem ent221 : enters Tryz.prog 221 = true := enters_of Tryz.func221 rfl
theorem ent222 : enters Tryz.prog 222 = true := enters_of Tryz.func222 rfl
theorem ent223 : enters Tryz.prog 223 = true := enters_of Tryz.func223 rfl
theorem ent224 : enters Tryz.prog 224 = true := enters_of Tryz.func224 rfl
theorem ent225 : enters Tryz.prog 225 = true := enters_of Tryz.func225 rfl
theorem ent226 : enters Tryz.prog 226 = true := enters_of Tryz.func226 rfl
theorem ent227 : enters Tryz.prog 227 = true := enters_of Tryz.func227 rfl
theorem ent228 : enters Tryz.prog 228 = true := enters_of Tryz.func228 rfl
theorem ent229 : enters Tryz.prog 229 = true := enters_of Tryz.func229 rfl
theorem ent230 : enters Tryz.prog 230 = true := enters_of Tryz.func230 rfl
theorem ent231 : enters Tryz.prog 231 = true := enters_of Tryz.func231 rfl
theorem ent233 : enters Tryz.prog 233 = true := enters_of Tryz.func233 rfl
theorem ent234 : enters Tryz.prog 234 = true := enters_of Tryz.func234 rfl
theorem ent235 : enters Tryz.prog 235 = true := enters_of Tryz.func235 rfl
theorem ent236 : enters Tryz.prog 236 = true := enters_of Tryz.func236 rfl
theorem ent237 : enters Tryz.prog 237 = true := enters_of Tryz.func237 rfl
theorem ent238 : enters Tryz.prog 238 = true := enters_of Tryz.func238 rfl
theorem ent239 : enters Tryz.prog 239 = true := enters_of Tryz.func239 rfl
theorem ent240 : enters Tryz.prog 240 = true := enters_of Tryz.func240 rfl
theorem ent241 : enters Tryz.prog 241 = true := enters_of Tryz.func241 rfl
theorem ent243 : enters Tryz.prog 243 = true := enters_of Tryz.func243 rfl
theorem ent244 : enters Tryz.prog 244 = true := enters_of Tryz.func244 rfl
theorem ent245 : enters Tryz.prog 245 = true := enters_of Tryz.func245 rfl
theorem ent246 : enters Tryz.prog 246 = true := enters_of Tryz.func246 rfl
theorem ent247 : enters Tryz.prog 247 = true := enters_of Tryz.func247 rfl
theorem ent248 : enters Tryz.prog 248 = true := enters_of Tryz.func248 rfl
theorem ent249 : enters Tryz.prog 249 = true := enters_of Tryz.func249 rfl
theorem ent250 : enters Tryz.prog 250 = true := enters_of Tryz.func250 rfl
theorem ent251 : enters Tryz.prog 251 = true := enters_of Tryz.func251 rfl
theorem ent252 : enters Tryz.prog 252 = true := enters_of Tryz.func252 rfl
end Go.Ab
