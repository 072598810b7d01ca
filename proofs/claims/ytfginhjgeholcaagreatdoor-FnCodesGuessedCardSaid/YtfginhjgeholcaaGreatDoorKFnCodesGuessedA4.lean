import Derived.Test.YtfginhjgeholcaaGreatDoorKFnCodesGuessedA0
import Derived.Test.YtfginhjgeholcaaGreatDoorKFnCodesGuessedA3
import Derived.Test.YtfginhjgeholcaaGreatDoorKFnCodesGuessedA2
import Derived.Test.YtfginhjgeholcaaGreatDoorKFnCodesGuessedA1
import Derived.ProofKit
import Derived.Lib.SmallJoins
import Derived.Deep.Slices
import Derived.HandedShaped
import Derived.LaidMore
import Derived.LaidLaws
import Derived.Lay
namespace Go.Proofs.YtfginhjgeholcaaGreatDoor.P
open Go.RowKit Go.Proofs.YtfginhjgeholcaaGreatDoorW.PrintWords Go.Proofs.YtfginhjgeholcaaGreatDoorW.PrintLast Go.Proofs.YtfginhjgeholcaaGreatDoorW.PrintMore
attribute [local go_sem] max2_int min2_int max_two min_two max_three min_three max_four min_four
set_option linter.unusedVariables false
set_option linter.unusedSimpArgs false
/-! laws.FnCodesGuessedOfAll, a part of its walk: printed by gengu.py. -/
def laws_FnCodesGuessed.T22:Bool×List (List Nat×List Nat):=(true,[([],[]),([],[]),([0,1],[0,1]),([2],[2]),([3],[3]),([3],[3]),([4,5,3,3],[3,4,5]),([6,3],[3,6]),([3,7],[3,7]),([8,6],[8]),([9],[9]),([9],[9]),([10,11,9],[9,10,11]),([9,12],[9,12]),([13,9],[13]),([14],[14]),([14],[14]),([15,16,14],[14,15,16]),([14,17],[14,17]),([18,14],[18]),([19],[19]),([19],[19]),([20,21,19],[19,20,21]),([19,22],[19,22]),([23,19],[23]),([24],[24]),([24],[24]),([25,26,24],[24,25,26]),([24,27],[24,27]),([28,24],[28]),([29],[29]),([29],[29]),([30,31,29],[29,30,31]),([29,32],[29,32]),([33,29],[33]),([34],[34]),([34],[34]),([35,36,34],[34,35,36]),([34,37],[34,37]),([38,34],[38]),([39],[39]),([39],[39]),([40,41,39],[39,40,41]),([39,42],[39,42]),([43,39],[43]),([44],[44]),([44],[44]),([45,46,44],[44,45,46]),([44,47],[44,47]),([48,44],[48]),([49],[49]),([49],[49]),([50,51,49],[49,50,51]),([49,52],[49,52]),([53,49],[53]),([54],[54]),([54],[54]),([55,56,54,54],[54,55,56]),([57,54],[54,57]),([54,58],[54,58]),([59,57],[59]),([60],[60]),([60],[60]),([61,62,60],[60,61,62]),([60,63],[60,63]),([64,60],[64]),([65],[65]),([65],[65]),([66,67,65,65],[65,66,67]),([68,65],[65,68]),([65,69],[65,69]),([70,68],[70]),([71],[71]),([71],[71]),([72,73,71],[71,72,73]),([71,74],[71,74]),([75,71],[75]),([76],[76]),([76],[76]),([77,78,76],[76,77,78]),([76,79],[76,79]),([80,76],[80]),([81],[81]),([81],[81]),([82,83,81],[81,82,83]),([81,84],[81,84]),([85,81],[85]),([86],[86]),([86],[86]),([87,88,86],[86,87,88]),([86,89],[86,89]),([90,86],[90]),([91],[91]),([91],[91]),([93,91,91],[91,93]),([92,94,91],[91,92,94]),([91,95],[91,95]),([96,94],[96]),([97],[97]),([98,97,97],[97,98]),([97],[97]),([100,99,97],[97,100]),([99,101,97],[97,99,101]),([97,102],[97,102]),([103,101],[103]),([104],[104]),([104],[104]),([105,106,104],[104,105,106]),([104,107],[104,107]),([108,104],[108]),([109],[109]),([109],[109]),([111,109,109],[109,111]),([112],[112]),([113,112],[112,113]),([112,114,109],[109,112,114]),([110,115,109],[109,110,115]),([109,116],[109,116]),([117,112],[117]),([118],[118]),([118],[118]),([119,120,118],[118,119,120]),([118,121],[118,121]),([122,118],[122]),([123],[123]),([123],[123]),([124,125,123],[123,124,125]),([123,126],[123,126]),([127,123],[127]),([128],[128]),([128],[128]),([129,130,128],[128,129,130]),([128,131],[128,131]),([132,128],[132]),([133],[133]),([133],[133]),([134,135,133],[133,134,135]),([133,136],[133,136]),([137,133],[137]),([138],[138]),([138],[138]),([140,138,138],[138,140]),([141],[141]),([142,141],[141,142]),([143,141],[141,143]),([144,141],[141,144]),([141,145,138],[138,141,145]),([139,146,138],[138,139,146]),([138,147],[138,147]),([148,141],[148]),([149],[149]),([149],[149]),([150,151,149],[149,150,151]),([149,152],[149,152])])
def laws_FnCodesGuessed.B22:List Nat:=[0,0,3,7,15,15,63,127,255,511,1023,1023,4095,8191,16383,32767,32767,131071,262143,524287,1048575,1048575,4194303,8388607,16777215,33554431,33554431,134217727,268435455,536870911,1073741823,1073741823,4294967295,8589934591,17179869183,34359738367,34359738367,137438953471,274877906943,549755813887,1099511627775,1099511627775,4398046511103,8796093022207,17592186044415,35184372088831,35184372088831,140737488355327,281474976710655,562949953421311,1125899906842623,1125899906842623,4503599627370495,9007199254740991,18014398509481983,36028797018963967,36028797018963967,144115188075855871,288230376151711743,576460752303423487,1152921504606846975,2305843009213693951,2305843009213693951,9223372036854775807,18446744073709551615,36893488147419103231,73786976294838206463,73786976294838206463,295147905179352825855,590295810358705651711,1180591620717411303423,2361183241434822606847,4722366482869645213695,4722366482869645213695,18889465931478580854783,37778931862957161709567,75557863725914323419135,151115727451828646838271,151115727451828646838271,604462909807314587353087,1208925819614629174706175,2417851639229258349412351,4835703278458516698824703,4835703278458516698824703,19342813113834066795298815,38685626227668133590597631,77371252455336267181195263,154742504910672534362390527,154742504910672534362390527,618970019642690137449562111,1237940039285380274899124223,2475880078570760549798248447,4951760157141521099596496895,4951760157141521099596496895,14855280471424563298789490687,39614081257132168796771975167,79228162514264337593543950335,158456325028528675187087900671,316912650057057350374175801343,633825300114114700748351602687,316912650057057350374175801343,2535301200456458802993406410751,5070602400912917605986812821503,10141204801825835211973625643007,20282409603651670423947251286015,40564819207303340847894502572031,40564819207303340847894502572031,162259276829213363391578010288127,324518553658426726783156020576255,649037107316853453566312041152511,1298074214633706907132624082305023,1298074214633706907132624082305023,3894222643901120721397872246915071,9086519502435948349928368576135167,19471113219505603606989361234575359,40240300653644914121111346551455743,83076749736557242056487941267521535,166153499473114484112975882535043071,332306998946228968225951765070086143,664613997892457936451903530140172287,664613997892457936451903530140172287,2658455991569831745807614120560689151,5316911983139663491615228241121378303,10633823966279326983230456482242756607,21267647932558653966460912964485513215,21267647932558653966460912964485513215,85070591730234615865843651857942052863,170141183460469231731687303715884105727,340282366920938463463374607431768211455,680564733841876926926749214863536422911,680564733841876926926749214863536422911,2722258935367507707706996859454145691647,5444517870735015415413993718908291383295,10889035741470030830827987437816582766591,21778071482940061661655974875633165533183,21778071482940061661655974875633165533183,87112285931760246646623899502532662132735,174224571863520493293247799005065324265471,348449143727040986586495598010130648530943,696898287454081973172991196020261297061887,696898287454081973172991196020261297061887,2090694862362245919518973588060783891185663,4878288012178573812210938372141829079433215,10453474311811229597594867940303919455928319,21603846911076541168362727076628100208918527,43904592109607164309898445349276461714898943,88506082506668410592969881894573184726859775,178405961588244985132285746181186892047843327,356811923176489970264571492362373784095686655,713623846352979940529142984724747568191373311,1427247692705959881058285969449495136382746623,1427247692705959881058285969449495136382746623,5708990770823839524233143877797980545530986495,11417981541647679048466287755595961091061972991]
theorem laws_FnCodesGuessed.tab22:rtab .any (opsOf Tryz.f3 22)=laws_FnCodesGuessed.T22:=by kernel_rfl
theorem laws_FnCodesGuessed.bits22:waitsOk laws_FnCodesGuessed.T22.2 laws_FnCodesGuessed.B22=true:=by kernel_rfl
set_option maxHeartbeats 16000000 in
set_option maxRecDepth 100000 in
theorem KVA {w:World} {v0 v1 v2 v3 v4 v42 v43 v44 v45 v46 v47 v48 v49 v50 v51 v52 v53 v54 v55 v56 v57 v58 v59 v60 v61 v62 v63 v64 v65 v66 v67 v68 v69 v70 v71 v72 v73 v74 v75 v76 v77 v78 v79 v80 v81 v82 v83 v84 v85 v86 v87 v88 v89 v90 v91 v92 v93 v94 v95 v96 v97 v98 v99 v100 v101 v102 v103 v104 v105 v106 v107 v108 v109 v110 v111 v112 v113 v114 v115 v116 v117 v118 v119 v120 v121 v122 v123 v124 v125 v126 v127 v128 v129 v130 v131 v132 v133 v134 v135 v136 v137 v138 v139 v140 v141 v142 v143 v144 v145 v146 v147 v148 v149 v150 v151 v152 v153 v154 v155 v156 v157 v158 v159 v160 v161 v162 v163 v164 v165 v166 v167 v168 v169 v170 v171 v172 v173 v174 v175 v176 v177 v178 v179 v180 v181 v182 v183 v184 v185 v186 v187 v188 v189 v190 v191 v192 v193 v194 v195 v196 v197 v198 v199 v200 v201 v202 v203 v204 v205 v206 v207 v208 v209 v210 v211 v212 v213 v214 v215 v216 v217 v218 v219 v220 v221 v222 v223 v224 v225 v226 v227 v228 v229 v230 v231 v232 v233 v234 v235 v236 v237 v238 v239 v240 v241 v242 v243 v244 v245 v246 v247 v248 v249 v250 v251 v252 v253 v254 v255 v256 v257 v258 v259 v260 v261 v262 v263 v264 v265 v266 v267 v268 v269 v270 v271 v272 v273 v274 v275 v276 v277 v278 v279 v280 v281 v282 v283 v284 v285 v286 v287 v288 v289 v290 v291 v292 v293 v294 v295 v296 v297 v298 v299 v300 v301 v302 v303 v304 v305 v306 v307 v308 v309 v310 v311 v312 v313 v314 v315 v316 v317 v318 v319 v320 v321 v322 v323 v324 v325 v326 v327 v328 v329 v330 v331 v332 v333 v334 v335 v336 v337 v338 v339 v340 v341 v342 v343 v344 v345 v346 v347 v348 v349 v350 v351 v352 v353 v354 v355 v356 v357 v358 v359 v360 v361 v362 v363 v364 v365 v366 v367 v368 v369 v370 v371 v372 v373 v374 v375 v376 v377 v378 v379 v380 v381 v382 v383 v384 v385 v386 v387 v388 v389 v390 v391 v392 v393 v394 v395 v396 v397 v398 v399 v400 v401 v402 v403 v404 v405 v406 v407 v408 v409 v410 v411 v412 v413 v414 v415 v416 v417 v418 v419 v420 v421 v422 v423 v424 v425 v426 v427 v428 v429 v430 v431 v432 v433 v434 v435 v436 v437 v438 v439 v440 v441 v442 v443 v444 v445 v446 v447 v448 v449 v450 v451 v452 v453 v454 v455 v456 v457 v458 v459 v460 v461 v462 v463 J Y Z a1 a6 a7 a8 aa ab ac ae af ag ah ai aj ak al am an ap ar au av ax ay az aA aC aD aE aG aH aI aJ aK aM aN aQ aT aU aV aW aX aY aZ b3 b4 b5 b6 b7 b8 b9 ba bb bc bd be bf bg bh bi bj bk bl bm bn bo bp bq br bu bv bw bz bC bD bF bH bJ:Value} (K:Act→World→Prop) (Q:Exit→Act→World→Prop) (hQ : ∀ c t t' d w',Q (.panic c) ⟨t,d⟩ w'→Q (.panic c) ⟨t',d⟩ w')
    (k:Nat) (P D:Int) (L:List S48) (A:Option Addr) (c:Nat) (gp:Nat) (all:List ByteArray) (needless left:List Int) (A1 A2 A3 A4 A5 A6:Option Addr) (c1 c2 c3 c4 c5 c6:Nat) (ok th fv solved:Bool) (count best:Int) (first sure text:ByteArray) (bs:List (Nat×Obj)) (rs:List Rw) (W:World)
    (hm:Mg w bs rs W) (hp:(gp,pzG P D A L.length c)∈bs) (r0:rwC A L∈rs) (i0:L.length≤c) (r1:rwS A1 all∈rs) (r2:rwS A2 all∈rs) (i1:all.length≤c1) (i2:all.length≤c2) (r3:rwI A3 needless∈rs) (r4:rwI A4 needless∈rs) (i3:needless.length≤c3) (i4:needless.length≤c4) (r5:rwI A5 left∈rs) (r6:rwI A6 left∈rs) (i5:left.length≤c5) (i6:left.length≤c6)
    (e1:laws_eTexts.f k all all=some true) (e2:laws_eSame.f k needless needless=some true) (e3:laws_eSame.f k left left=some true) (e4:impl_IsPuzzle.f P D L=some ok) (e5:spec_IsPuzzle.f k P D L=some ok) (h3:th=(ok && decide (count > 0))) (h5:fv=(ok && decide ((L.length:Int) > 0)))
    (hrest : ∀ {u160 bL bM bN bO bQ bR bS bT bU bV bW bX bY bZ c7 c8 ca cb cd ce cf cg ci cj ck cm cn co cp cq cr cu cv cw cx cy cz cA cC cE cF cG cH cJ cK cL cM cN cO cP cQ cS cT cV cW cX cY cZ d6 d7 d8 d9 da db dc de df dh di dj dl dm dn dp dq dr dt du dv dw dx dy dz dA dB dC dD dE dF dG dH dI dJ dK dL dM dN dO dP dQ dR dS dT dU dV dW dX dY dZ e6 e7 e8 e9 ea eb ec ed ee ef eg eh ei ej ek em en eo ep er eu ew ey ez eA eB eC eD eE eF eG eH eI eJ eK eL eM eN eO eP eQ eR eS:Value} (W':World),Mg w bs rs W'→K ⟨List.toArray (v0 :: v1 :: v2 :: v3 :: v4 :: .pointer (some ⟨gp,0,none⟩) :: .slice A1 all.length c1 :: .bool ok :: .slice A2 all.length c2 :: .bool ok :: .int .i64 count :: .bool ok :: .int .i64 count :: .bool ok :: .string first :: .bool th :: .string first :: .bool th :: .string sure :: .bool th :: .string sure :: .bool th :: .bool solved :: .bool ok :: .bool solved :: .bool ok :: .slice A3 needless.length c3 :: .bool ok :: .slice A4 needless.length c4 :: .bool ok :: .slice A5 left.length c5 :: .bool ok :: .slice A6 left.length c6 :: .bool ok :: .int .i64 best :: .bool fv :: .int .i64 best :: .bool fv :: .string text :: .bool ok :: .string text :: .bool ok :: v42 :: v43 :: v44 :: v45 :: v46 :: v47 :: v48 :: v49 :: v50 :: v51 :: v52 :: v53 :: v54 :: v55 :: v56 :: v57 :: v58 :: v59 :: v60 :: v61 :: v62 :: v63 :: v64 :: v65 :: v66 :: v67 :: v68 :: v69 :: v70 :: v71 :: v72 :: v73 :: v74 :: v75 :: v76 :: v77 :: v78 :: v79 :: v80 :: v81 :: v82 :: v83 :: v84 :: v85 :: v86 :: v87 :: v88 :: v89 :: v90 :: v91 :: v92 :: v93 :: v94 :: v95 :: v96 :: v97 :: v98 :: v99 :: v100 :: v101 :: v102 :: v103 :: v104 :: v105 :: v106 :: v107 :: v108 :: v109 :: v110 :: v111 :: v112 :: v113 :: v114 :: v115 :: v116 :: v117 :: v118 :: v119 :: v120 :: v121 :: v122 :: v123 :: v124 :: v125 :: v126 :: v127 :: v128 :: v129 :: v130 :: v131 :: v132 :: v133 :: v134 :: v135 :: v136 :: v137 :: v138 :: v139 :: v140 :: v141 :: v142 :: v143 :: v144 :: v145 :: v146 :: v147 :: v148 :: v149 :: v150 :: v151 :: v152 :: v153 :: v154 :: v155 :: v156 :: v157 :: v158 :: v159 :: u160 :: bL :: bM :: bN :: bO :: bQ :: bR :: bS :: bT :: bU :: bV :: bW :: bX :: bY :: bZ :: c7 :: c8 :: ca :: cb :: cd :: ce :: cf :: cg :: ci :: cj :: ck :: cm :: cn :: co :: cp :: cq :: cr :: cu :: cv :: cw :: cx :: cy :: cz :: cA :: cC :: cE :: cF :: cG :: cH :: cJ :: cK :: cL :: cM :: cN :: cO :: cP :: cQ :: cS :: cT :: cV :: cW :: cX :: cY :: cZ :: d6 :: d7 :: d8 :: d9 :: da :: db :: dc :: de :: df :: dh :: di :: dj :: dl :: dm :: dn :: dp :: dq :: dr :: dt :: du :: dv :: dw :: dx :: dy :: dz :: dA :: dB :: dC :: dD :: dE :: dF :: dG :: dH :: dI :: dJ :: dK :: dL :: dM :: dN :: dO :: dP :: dQ :: dR :: dS :: dT :: dU :: dV :: dW :: dX :: dY :: dZ :: e6 :: e7 :: e8 :: e9 :: ea :: eb :: ec :: ed :: ee :: ef :: eg :: eh :: ei :: ej :: ek :: em :: en :: eo :: ep :: er :: eu :: ew :: ey :: ez :: eA :: eB :: eC :: eD :: eE :: eF :: eG :: eH :: eI :: eJ :: eK :: eL :: eM :: eN :: eO :: eP :: eQ :: eR :: eS :: .bool false :: v314 :: v315 :: v316 :: v317 :: v318 :: v319 :: v320 :: v321 :: v322 :: v323 :: v324 :: v325 :: v326 :: v327 :: v328 :: v329 :: v330 :: v331 :: v332 :: v333 :: v334 :: v335 :: v336 :: v337 :: v338 :: v339 :: v340 :: v341 :: v342 :: v343 :: v344 :: v345 :: v346 :: v347 :: v348 :: v349 :: v350 :: v351 :: v352 :: v353 :: v354 :: v355 :: v356 :: v357 :: v358 :: v359 :: v360 :: v361 :: v362 :: v363 :: v364 :: v365 :: v366 :: v367 :: v368 :: v369 :: v370 :: v371 :: v372 :: v373 :: v374 :: v375 :: v376 :: v377 :: v378 :: v379 :: v380 :: v381 :: v382 :: v383 :: v384 :: v385 :: v386 :: v387 :: v388 :: v389 :: v390 :: v391 :: v392 :: v393 :: v394 :: v395 :: v396 :: v397 :: v398 :: v399 :: v400 :: v401 :: v402 :: v403 :: v404 :: v405 :: v406 :: v407 :: v408 :: v409 :: v410 :: v411 :: v412 :: v413 :: v414 :: v415 :: v416 :: v417 :: v418 :: v419 :: v420 :: v421 :: v422 :: v423 :: v424 :: v425 :: v426 :: v427 :: v428 :: v429 :: v430 :: v431 :: v432 :: v433 :: v434 :: v435 :: v436 :: v437 :: v438 :: v439 :: v440 :: v441 :: v442 :: v443 :: v444 :: v445 :: v446 :: v447 :: v448 :: v449 :: v450 :: v451 :: v452 :: v453 :: v454 :: v455 :: v456 :: v457 :: v458 :: v459 :: v460 :: v461 :: v462 :: v463 :: J :: Y :: Z :: a1 :: a6 :: a7 :: a8 :: aa :: ab :: ac :: ae :: af :: ag :: ah :: ai :: aj :: ak :: al :: am :: an :: ap :: ar :: au :: av :: ax :: ay :: az :: aA :: aC :: aD :: aE :: aG :: aH :: aI :: aJ :: aK :: aM :: aN :: aQ :: aT :: aU :: aV :: aW :: aX :: aY :: aZ :: b3 :: b4 :: b5 :: b6 :: b7 :: b8 :: b9 :: ba :: bb :: bc :: bd :: be :: bf :: bg :: bh :: bi :: bj :: bk :: bl :: bm :: bn :: bo :: bp :: bq :: br :: bu :: bv :: bw :: bz :: bC :: bD :: bF :: bH :: bJ :: []),[]⟩ W') :
    Code.wp Tryz.prog (regV 22) (Exit.then K Q) ⟨List.toArray (v0 :: v1 :: v2 :: v3 :: v4 :: .pointer (some ⟨gp,0,none⟩) :: .slice A1 all.length c1 :: .bool ok :: .slice A2 all.length c2 :: .bool ok :: .int .i64 count :: .bool ok :: .int .i64 count :: .bool ok :: .string first :: .bool th :: .string first :: .bool th :: .string sure :: .bool th :: .string sure :: .bool th :: .bool solved :: .bool ok :: .bool solved :: .bool ok :: .slice A3 needless.length c3 :: .bool ok :: .slice A4 needless.length c4 :: .bool ok :: .slice A5 left.length c5 :: .bool ok :: .slice A6 left.length c6 :: .bool ok :: .int .i64 best :: .bool fv :: .int .i64 best :: .bool fv :: .string text :: .bool ok :: .string text :: .bool ok :: v42 :: v43 :: v44 :: v45 :: v46 :: v47 :: v48 :: v49 :: v50 :: v51 :: v52 :: v53 :: v54 :: v55 :: v56 :: v57 :: v58 :: v59 :: v60 :: v61 :: v62 :: v63 :: v64 :: v65 :: v66 :: v67 :: v68 :: v69 :: v70 :: v71 :: v72 :: v73 :: v74 :: v75 :: v76 :: v77 :: v78 :: v79 :: v80 :: v81 :: v82 :: v83 :: v84 :: v85 :: v86 :: v87 :: v88 :: v89 :: v90 :: v91 :: v92 :: v93 :: v94 :: v95 :: v96 :: v97 :: v98 :: v99 :: v100 :: v101 :: v102 :: v103 :: v104 :: v105 :: v106 :: v107 :: v108 :: v109 :: v110 :: v111 :: v112 :: v113 :: v114 :: v115 :: v116 :: v117 :: v118 :: v119 :: v120 :: v121 :: v122 :: v123 :: v124 :: v125 :: v126 :: v127 :: v128 :: v129 :: v130 :: v131 :: v132 :: v133 :: v134 :: v135 :: v136 :: v137 :: v138 :: v139 :: v140 :: v141 :: v142 :: v143 :: v144 :: v145 :: v146 :: v147 :: v148 :: v149 :: v150 :: v151 :: v152 :: v153 :: v154 :: v155 :: v156 :: v157 :: v158 :: v159 :: v160 :: v161 :: v162 :: v163 :: v164 :: v165 :: v166 :: v167 :: v168 :: v169 :: v170 :: v171 :: v172 :: v173 :: v174 :: v175 :: v176 :: v177 :: v178 :: v179 :: v180 :: v181 :: v182 :: v183 :: v184 :: v185 :: v186 :: v187 :: v188 :: v189 :: v190 :: v191 :: v192 :: v193 :: v194 :: v195 :: v196 :: v197 :: v198 :: v199 :: v200 :: v201 :: v202 :: v203 :: v204 :: v205 :: v206 :: v207 :: v208 :: v209 :: v210 :: v211 :: v212 :: v213 :: v214 :: v215 :: v216 :: v217 :: v218 :: v219 :: v220 :: v221 :: v222 :: v223 :: v224 :: v225 :: v226 :: v227 :: v228 :: v229 :: v230 :: v231 :: v232 :: v233 :: v234 :: v235 :: v236 :: v237 :: v238 :: v239 :: v240 :: v241 :: v242 :: v243 :: v244 :: v245 :: v246 :: v247 :: v248 :: v249 :: v250 :: v251 :: v252 :: v253 :: v254 :: v255 :: v256 :: v257 :: v258 :: v259 :: v260 :: v261 :: v262 :: v263 :: v264 :: v265 :: v266 :: v267 :: v268 :: v269 :: v270 :: v271 :: v272 :: v273 :: v274 :: v275 :: v276 :: v277 :: v278 :: v279 :: v280 :: v281 :: v282 :: v283 :: v284 :: v285 :: v286 :: v287 :: v288 :: v289 :: v290 :: v291 :: v292 :: v293 :: v294 :: v295 :: v296 :: v297 :: v298 :: v299 :: v300 :: v301 :: v302 :: v303 :: v304 :: v305 :: v306 :: v307 :: v308 :: v309 :: v310 :: v311 :: v312 :: v313 :: v314 :: v315 :: v316 :: v317 :: v318 :: v319 :: v320 :: v321 :: v322 :: v323 :: v324 :: v325 :: v326 :: v327 :: v328 :: v329 :: v330 :: v331 :: v332 :: v333 :: v334 :: v335 :: v336 :: v337 :: v338 :: v339 :: v340 :: v341 :: v342 :: v343 :: v344 :: v345 :: v346 :: v347 :: v348 :: v349 :: v350 :: v351 :: v352 :: v353 :: v354 :: v355 :: v356 :: v357 :: v358 :: v359 :: v360 :: v361 :: v362 :: v363 :: v364 :: v365 :: v366 :: v367 :: v368 :: v369 :: v370 :: v371 :: v372 :: v373 :: v374 :: v375 :: v376 :: v377 :: v378 :: v379 :: v380 :: v381 :: v382 :: v383 :: v384 :: v385 :: v386 :: v387 :: v388 :: v389 :: v390 :: v391 :: v392 :: v393 :: v394 :: v395 :: v396 :: v397 :: v398 :: v399 :: v400 :: v401 :: v402 :: v403 :: v404 :: v405 :: v406 :: v407 :: v408 :: v409 :: v410 :: v411 :: v412 :: v413 :: v414 :: v415 :: v416 :: v417 :: v418 :: v419 :: v420 :: v421 :: v422 :: v423 :: v424 :: v425 :: v426 :: v427 :: v428 :: v429 :: v430 :: v431 :: v432 :: v433 :: v434 :: v435 :: v436 :: v437 :: v438 :: v439 :: v440 :: v441 :: v442 :: v443 :: v444 :: v445 :: v446 :: v447 :: v448 :: v449 :: v450 :: v451 :: v452 :: v453 :: v454 :: v455 :: v456 :: v457 :: v458 :: v459 :: v460 :: v461 :: v462 :: v463 :: J :: Y :: Z :: a1 :: a6 :: a7 :: a8 :: aa :: ab :: ac :: ae :: af :: ag :: ah :: ai :: aj :: ak :: al :: am :: an :: ap :: ar :: au :: av :: ax :: ay :: az :: aA :: aC :: aD :: aE :: aG :: aH :: aI :: aJ :: aK :: aM :: aN :: aQ :: aT :: aU :: aV :: aW :: aX :: aY :: aZ :: b3 :: b4 :: b5 :: b6 :: b7 :: b8 :: b9 :: ba :: bb :: bc :: bd :: be :: bf :: bg :: bh :: bi :: bj :: bk :: bl :: bm :: bn :: bo :: bp :: bq :: br :: bu :: bv :: bw :: bz :: bC :: bD :: bF :: bH :: bJ :: []),[]⟩ W:=by
  have eT:=Tryz.underlying28
  have eU:=Tryz.underlying26
  have eV:=Tryz.underlying30
  have eW:=Tryz.underlying39
  have S:=amk (Mg_below hm (bd_ (Below.refl _ _)));clear hm
  have HP:=amk hp;have R0:=amk r0;have I0:=amk i0;have R1:=amk r1;have R2:=amk r2;have I1:=amk i1;have I2:=amk i2;have R3:=amk r3;have R4:=amk r4;have I3:=amk i3;have I4:=amk i4;have R5:=amk r5;have R6:=amk r6;have I5:=amk i5;have I6:=amk i6;have E1:=amk e1;have E2:=amk e2;have E3:=amk e3;have E4:=amk e4;have E5:=amk e5;have H3:=amk h3;have H5:=amk h5;clear hp r0 i0 r1 r2 i1 i2 r3 r4 i3 i4 r5 r6 i5 i6 e1 e2 e3 e4 e5 h3 h5
  have hbb : ∀ b:Bool,(b != b)=false:=fun b=>by cases b <;> rfl
  have hii : ∀ x:Int,(x != x)=false:=fun x=>by simp
  have hss : ∀ x:ByteArray,(x.toList != x.toList)=false:=fun x=>by simp
  have hst : ∀ x:ByteArray,(x.toList == x.toList)=true:=fun x=>by simp
  conv=>arg 2;whnf
  have hc : ∀ W',Mg w bs rs W'→(W'.cell? ⟨gp,0,none⟩=some (.int .i64 P)∧W'.cell? ⟨gp,1,none⟩=some (.int .i64 D)∧W'.cell? ⟨gp,2,none⟩=some (.slice A L.length c)):=fun W' h=>gx3 h HP.out
  have HCc:=amk hc;clear hc
  refine start_ (n:=154) (S:=fun w'=>w'.cell? ⟨gp,0,none⟩=some (.int .i64 P)∧w'.cell? ⟨gp,1,none⟩=some (.int .i64 D)∧w'.cell? ⟨gp,2,none⟩=some (.slice A L.length c)) (ds:=[]) (bA 154 0) (by kernel_rfl) rfl (by kernel_rfl) (HCc.out _ S.out) (fun hHeld=>?_);refine with_tabW laws_FnCodesGuessed.tab22 laws_FnCodesGuessed.bits22 (fun HT_ HW_=>?_)
  generalize World.drew _=W at S hHeld ⊢
  refine pV_ HT_ 0 (some 160) (bP 154 1) ?_
  refine pV_ HT_ 1 (some 161) (bP 154 2) ?_
  refine pV_ HT_ 2 (some 162) (bP 154 3) ?_
  refine pV_ HT_ 3 (some 163) (bP 154 4) ?_
  refine pV_ HT_ 4 (some 164) (bP 154 5) ?_
  refine pV_ HT_ 5 (some 165) (bP 154 6) ?_
  refine oN_ HT_ 6 (some 166) (bP 154 7) (fun K hK=>?_);refine gs_ Tryz.func24 #[.slice A1 all.length c1, .slice A2 all.length c2] ?_;refine Calls.mono (laws_eTexts.calls k _ _ all _ _ all true _ (rS S.out R1.out) I1.out (rS S.out R2.out) I2.out E1.out) ?_;rintro e wx ⟨rfl,hb⟩;refine ⟨_,rfl,?_⟩;have hb:=hb.below;have nS:=amk (Mg_below S.out hb);clear S;have S:=nS;clear nS hb;
  refine hK.out _ _ (HCc.out _ S.out) (fun hHeld=>?_);clear hK K;refine nN_ (some 166) ?_
  refine pV_ HT_ 7 (some 167) (bP 154 8) ?_
  refine pV_ HT_ 8 (some 168) (bP 154 9) ?_
  refine pV_ HT_ 9 (some 169) (bP 154 10) ?_
  refine pV_ HT_ 10 (some 170) (bP 154 11) ?_
  refine pV_ HT_ 11 (some 171) (bP 154 12) ?_
  refine pV_ HT_ 12 (some 172) (bP 154 13) ?_
  refine pV_ HT_ 13 (some 173) (bP 154 14) ?_
  refine pV_ HT_ 14 (some 174) (bP 154 15) ?_
  refine pV_ HT_ 15 (some 175) (bP 154 16) ?_
  refine pV_ HT_ 16 (some 176) (bP 154 17) ?_
  refine pV_ HT_ 17 (some 177) (bP 154 18) ?_
  refine pV_ HT_ 18 (some 178) (bP 154 19) ?_
  refine pV_ HT_ 19 (some 179) (bP 154 20) ?_
  refine pV_ HT_ 20 (some 180) (bP 154 21) ?_
  refine pV_ HT_ 21 (some 181) (bP 154 22) ?_
  refine pV_ HT_ 22 (some 182) (bP 154 23) ?_
  refine pV_ HT_ 23 (some 183) (bP 154 24) ?_
  refine pV_ HT_ 24 (some 184) (bP 154 25) ?_
  refine pV_ HT_ 25 (some 185) (bP 154 26) ?_
  refine pV_ HT_ 26 (some 186) (bP 154 27) ?_
  refine pV_ HT_ 27 (some 187) (bP 154 28) ?_
  refine pV_ HT_ 28 (some 188) (bP 154 29) ?_
  refine pV_ HT_ 29 (some 189) (bP 154 30) ?_
  refine pV_ HT_ 30 (some 190) (bP 154 31) ?_
  refine pV_ HT_ 31 (some 191) (bP 154 32) ?_
  refine pV_ HT_ 32 (some 192) (bP 154 33) ?_
  refine pV_ HT_ 33 (some 193) (bP 154 34) ?_
  refine pV_ HT_ 34 (some 194) (bP 154 35) ?_
  refine pV_ HT_ 35 (some 195) (bP 154 36) ?_
  refine pV_ HT_ 36 (some 196) (bP 154 37) ?_
  refine pV_ HT_ 37 (some 197) (bP 154 38) ?_
  refine pV_ HT_ 38 (some 198) (bP 154 39) ?_
  refine pV_ HT_ 39 (some 199) (bP 154 40) ?_
  refine pV_ HT_ 40 (some 200) (bP 154 41) ?_
  refine pV_ HT_ 41 (some 201) (bP 154 42) ?_
  refine pV_ HT_ 42 (some 202) (bP 154 43) ?_
  refine pV_ HT_ 43 (some 203) (bP 154 44) ?_
  refine pV_ HT_ 44 (some 204) (bP 154 45) ?_
  refine pV_ HT_ 45 (some 205) (bP 154 46) ?_
  refine pV_ HT_ 46 (some 206) (bP 154 47) ?_
  refine pV_ HT_ 47 (some 207) (bP 154 48) ?_
  refine pV_ HT_ 48 (some 208) (bP 154 49) ?_
  refine pV_ HT_ 49 (some 209) (bP 154 50) ?_
  refine pV_ HT_ 50 (some 210) (bP 154 51) ?_
  refine pV_ HT_ 51 (some 211) (bP 154 52) ?_
  refine pV_ HT_ 52 (some 212) (bP 154 53) ?_
  refine pV_ HT_ 53 (some 213) (bP 154 54) ?_
  refine pV_ HT_ 54 (some 214) (bP 154 55) ?_
  refine pV_ HT_ 55 (some 215) (bP 154 56) ?_
  refine pV_ HT_ 56 (some 216) (bP 154 57) ?_
  refine oN_ HT_ 57 (some 217) (bP 154 58) (fun K hK=>?_);refine gs_ Tryz.func25 #[.slice A3 needless.length c3, .slice A4 needless.length c4] ?_;refine Calls.mono (laws_eSame.calls k _ _ needless _ _ needless true _ (rI S.out R3.out) I3.out (rI S.out R4.out) I4.out E2.out) ?_;rintro e wx ⟨rfl,hb⟩;refine ⟨_,rfl,?_⟩;have hb:=hb.below;have nS:=amk (Mg_below S.out hb);clear S;have S:=nS;clear nS hb;
  refine hK.out _ _ (HCc.out _ S.out) (fun hHeld=>?_);clear hK K;refine nN_ (some 217) ?_
  refine pV_ HT_ 58 (some 218) (bP 154 59) ?_
  refine pV_ HT_ 59 (some 219) (bP 154 60) ?_
  refine pV_ HT_ 60 (some 220) (bP 154 61) ?_
  refine pV_ HT_ 61 (some 221) (bP 154 62) ?_
  refine pV_ HT_ 62 (some 222) (bP 154 63) ?_
  refine pV_ HT_ 63 (some 223) (bP 154 64) ?_
  refine pV_ HT_ 64 (some 224) (bP 154 65) ?_
  refine pV_ HT_ 65 (some 225) (bP 154 66) ?_
  refine pV_ HT_ 66 (some 226) (bP 154 67) ?_
  refine pV_ HT_ 67 (some 227) (bP 154 68) ?_
  refine oN_ HT_ 68 (some 228) (bP 154 69) (fun K hK=>?_);refine gs_ Tryz.func25 #[.slice A5 left.length c5, .slice A6 left.length c6] ?_;refine Calls.mono (laws_eSame.calls k _ _ left _ _ left true _ (rI S.out R5.out) I5.out (rI S.out R6.out) I6.out E3.out) ?_;rintro e wx ⟨rfl,hb⟩;refine ⟨_,rfl,?_⟩;have hb:=hb.below;have nS:=amk (Mg_below S.out hb);clear S;have S:=nS;clear nS hb;
  refine hK.out _ _ (HCc.out _ S.out) (fun hHeld=>?_);clear hK K;refine nN_ (some 228) ?_
  refine pV_ HT_ 69 (some 229) (bP 154 70) ?_
  refine pV_ HT_ 70 (some 230) (bP 154 71) ?_
  refine pV_ HT_ 71 (some 231) (bP 154 72) ?_
  refine pV_ HT_ 72 (some 232) (bP 154 73) ?_
  refine pV_ HT_ 73 (some 233) (bP 154 74) ?_
  refine pV_ HT_ 74 (some 234) (bP 154 75) ?_
  refine pV_ HT_ 75 (some 235) (bP 154 76) ?_
  refine pV_ HT_ 76 (some 236) (bP 154 77) ?_
  refine pV_ HT_ 77 (some 237) (bP 154 78) ?_
  refine pV_ HT_ 78 (some 238) (bP 154 79) ?_
  refine pV_ HT_ 79 (some 239) (bP 154 80) ?_
  refine pV_ HT_ 80 (some 240) (bP 154 81) ?_
  refine pV_ HT_ 81 (some 241) (bP 154 82) ?_
  refine pV_ HT_ 82 (some 242) (bP 154 83) ?_
  refine pV_ HT_ 83 (some 243) (bP 154 84) ?_
  refine pV_ HT_ 84 (some 244) (bP 154 85) ?_
  refine pV_ HT_ 85 (some 245) (bP 154 86) ?_
  refine pV_ HT_ 86 (some 246) (bP 154 87) ?_
  refine pV_ HT_ 87 (some 247) (bP 154 88) ?_
  refine pV_ HT_ 88 (some 248) (bP 154 89) ?_
  refine pV_ HT_ 89 (some 249) (bP 154 90) ?_
  refine pV_ HT_ 90 (some 250) (bP 154 91) ?_
  refine pV_ HT_ 91 (some 251) (bP 154 92) ?_
  refine pV_ HT_ 92 (some 252) (bP 154 93) ?_
  refine tV_ HT_ HW_ hHeld 93 (some 253) (bP 154 94) ?_
  refine oN_ HT_ 94 (some 254) (bP 154 95) (fun K hK=>?_);refine gs_ Tryz.func26 #[.agg #[.int .i64 P, .int .i64 D, .slice A L.length c]] ?_;refine Calls.mono (impl_IsPuzzle.calls P D _ _ L ok _ (rC S.out R0.out) I0.out E4.out) ?_;rintro e wx ⟨rfl,hb⟩;refine ⟨_,rfl,?_⟩;have nS:=amk (Mg_below S.out hb);clear S;have S:=nS;clear nS hb;
  refine hK.out _ _ (HCc.out _ S.out) (fun hHeld=>?_);clear hK K;refine nN_ (some 254) ?_
  refine pV_ HT_ 95 (some 255) (bP 154 96) ?_
  refine pV_ HT_ 96 (some 256) (bP 154 97) ?_
  refine pV_ HT_ 97 (some 257) (bP 154 98) ?_
  refine tV_ HT_ HW_ hHeld 98 (some 258) (bP 154 99) ?_
  refine tV_ HT_ HW_ hHeld 100 (some 260) (bA 154 1901475900342344102245054808063) ?_
  refine oN_ HT_ 99 (some 259) (bP 154 101) (fun K hK=>?_);refine gs_ Tryz.func26 #[.agg #[.int .i64 P, .int .i64 D, .slice A L.length c]] ?_;refine Calls.mono (impl_IsPuzzle.calls P D _ _ L ok _ (rC S.out R0.out) I0.out E4.out) ?_;rintro e wx ⟨rfl,hb⟩;refine ⟨_,rfl,?_⟩;have nS:=amk (Mg_below S.out hb);clear S;have S:=nS;clear nS hb;
  refine hK.out _ _ (HCc.out _ S.out) (fun hHeld=>?_);clear hK K;refine nN_ (some 259) ?_
  refine oN_ HT_ 101 (some 261) (bP 154 102) (fun K hK=>?_);refine gs_ Tryz.func27 #[.agg #[.int .i64 P, .int .i64 D, .slice A L.length c]] ?_;refine Calls.mono (spec_IsPuzzle.calls k P D _ _ L ok _ (rC S.out R0.out) I0.out E5.out) ?_;rintro e wx ⟨rfl,hb⟩;refine ⟨_,rfl,?_⟩;have nS:=amk (Mg_below S.out hb);clear S;have S:=nS;clear nS hb;
  refine hK.out _ _ (HCc.out _ S.out) (fun hHeld=>?_);clear hK K;refine nN_ (some 261) ?_
  refine pV_ HT_ 102 (some 262) (bP 154 103) ?_
  refine pV_ HT_ 103 (some 263) (bP 154 104) ?_
  refine pV_ HT_ 104 (some 264) (bP 154 105) ?_
  refine pV_ HT_ 105 (some 265) (bP 154 106) ?_
  refine pV_ HT_ 106 (some 266) (bP 154 107) ?_
  refine pV_ HT_ 107 (some 267) (bP 154 108) ?_
  refine pV_ HT_ 108 (some 268) (bP 154 109) ?_
  have g3:=H3.out;have g5:=H5.out;clear H3 H5
  cases ok with
  | false =>
    obtain rfl:th=false:=g3;obtain rfl:fv=false:=g5
    refine pV_ HT_ 109 (some 269) (bP 154 110) ?_
    refine pV_ HT_ 110 (some 270) (bP 154 111) ?_
    refine pV_ HT_ 111 (some 271) (bP 154 112) ?_
    refine pV_ HT_ 112 (some 272) (bP 154 113) ?_
    refine zV_ HT_ 113 (some 273) (bP 154 114) ?_
    refine zV_ HT_ 114 (some 274) (bP 154 115) ?_
    refine pV_ HT_ 115 (some 275) (bP 154 116) ?_
    refine pV_ HT_ 116 (some 276) (bP 154 117) ?_
    refine pV_ HT_ 117 (some 277) (bP 154 118) ?_
    refine pV_ HT_ 118 (some 278) (bP 154 119) ?_
    refine pV_ HT_ 119 (some 279) (bP 154 120) ?_
    refine pV_ HT_ 120 (some 280) (bP 154 121) ?_
    refine pV_ HT_ 121 (some 281) (bP 154 122) ?_
    refine pV_ HT_ 122 (some 282) (bP 154 123) ?_
    refine pV_ HT_ 123 (some 283) (bP 154 124) ?_
    refine pV_ HT_ 124 (some 284) (bP 154 125) ?_
    refine pV_ HT_ 125 (some 285) (bP 154 126) ?_
    refine pV_ HT_ 126 (some 286) (bP 154 127) ?_
    refine pV_ HT_ 127 (some 287) (bP 154 128) ?_
    refine pV_ HT_ 128 (some 288) (bP 154 129) ?_
    refine pV_ HT_ 129 (some 289) (bP 154 130) ?_
    refine pV_ HT_ 130 (some 290) (bP 154 131) ?_
    refine pV_ HT_ 131 (some 291) (bP 154 132) ?_
    refine pV_ HT_ 132 (some 292) (bP 154 133) ?_
    refine pV_ HT_ 133 (some 293) (bP 154 134) ?_
    refine pV_ HT_ 134 (some 294) (bP 154 135) ?_
    refine pV_ HT_ 135 (some 295) (bP 154 136) ?_
    refine pV_ HT_ 136 (some 296) (bP 154 137) ?_
    refine pV_ HT_ 137 (some 297) (bP 154 138) ?_
    refine pV_ HT_ 138 (some 298) (bP 154 139) ?_
    refine pV_ HT_ 139 (some 299) (bP 154 140) ?_
    refine pV_ HT_ 140 (some 300) (bP 154 141) ?_
    refine pV_ HT_ 141 (some 301) (bP 154 142) ?_
    refine zV_ HT_ 142 (some 302) (bP 154 143) ?_
    refine zV_ HT_ 143 (some 303) (bP 154 144) ?_
    refine zV_ HT_ 144 (some 304) (bP 154 145) ?_
    refine zV_ HT_ 145 (some 305) (bP 154 146) ?_
    refine pV_ HT_ 146 (some 306) (bP 154 147) ?_
    refine pV_ HT_ 147 (some 307) (bP 154 148) ?_
    refine pV_ HT_ 148 (some 308) (bP 154 149) ?_
    refine pV_ HT_ 149 (some 309) (bP 154 150) ?_
    refine pV_ HT_ 150 (some 310) (bP 154 151) ?_
    refine pV_ HT_ 151 (some 311) (bP 154 152) ?_
    refine pV_ HT_ 152 (some 312) (bP 154 153) ?_
    refine pV_ HT_ 153 (some 313) (bP 154 154) ?_
    refine done_ (done_of HT_.out (by kernel_rfl)) ?_;exact hrest _ S.out
  | true =>
    have d1:decide (0 < count)=th:=g3.symm;have d2:decide (count > 0)=th:=g3.symm;have d3:decide (0 < (L.length:Int))=fv:=g5.symm;have d4:decide ((L.length:Int) > 0)=fv:=g5.symm;have d5:decide (0 < L.length)=fv:=by rw [←d3,decide_eq_decide];omega
    clear g3 g5
    refine pV_ HT_ 109 (some 269) (bP 154 110) ?_
    refine pV_ HT_ 110 (some 270) (bP 154 111) ?_
    refine pV_ HT_ 111 (some 271) (bP 154 112) ?_
    refine pV_ HT_ 112 (some 272) (bP 154 113) ?_
    refine pV_ HT_ 113 (some 273) (bP 154 114) ?_
    refine pV_ HT_ 114 (some 274) (bP 154 115) ?_
    refine pV_ HT_ 115 (some 275) (bP 154 116) ?_
    refine pV_ HT_ 116 (some 276) (bP 154 117) ?_
    refine pV_ HT_ 117 (some 277) (bP 154 118) ?_
    refine pV_ HT_ 118 (some 278) (bP 154 119) ?_
    refine pV_ HT_ 119 (some 279) (bP 154 120) ?_
    refine pV_ HT_ 120 (some 280) (bP 154 121) ?_
    refine pV_ HT_ 121 (some 281) (bP 154 122) ?_
    refine pV_ HT_ 122 (some 282) (bP 154 123) ?_
    refine pV_ HT_ 123 (some 283) (bP 154 124) ?_
    refine pV_ HT_ 124 (some 284) (bP 154 125) ?_
    refine pV_ HT_ 125 (some 285) (bP 154 126) ?_
    refine pV_ HT_ 126 (some 286) (bP 154 127) ?_
    refine pV_ HT_ 127 (some 287) (bP 154 128) ?_
    refine pV_ HT_ 128 (some 288) (bP 154 129) ?_
    refine pV_ HT_ 129 (some 289) (bP 154 130) ?_
    refine pV_ HT_ 130 (some 290) (bP 154 131) ?_
    refine pV_ HT_ 131 (some 291) (bP 154 132) ?_
    refine pV_ HT_ 132 (some 292) (bP 154 133) ?_
    refine pV_ HT_ 133 (some 293) (bP 154 134) ?_
    refine pV_ HT_ 134 (some 294) (bP 154 135) ?_
    refine pV_ HT_ 135 (some 295) (bP 154 136) ?_
    refine pV_ HT_ 136 (some 296) (bP 154 137) ?_
    refine pV_ HT_ 137 (some 297) (bP 154 138) ?_
    refine pV_ HT_ 138 (some 298) (bP 154 139) ?_
    refine pV_ HT_ 139 (some 299) (bP 154 140) ?_
    refine pV_ HT_ 140 (some 300) (bP 154 141) ?_
    refine pV_ HT_ 141 (some 301) (bP 154 142) ?_
    refine pV_ HT_ 142 (some 302) (bP 154 143) ?_
    refine tV_ HT_ HW_ hHeld 143 (some 303) (bP 154 144) ?_
    refine pV_ HT_ 144 (some 304) (bP 154 145) ?_
    refine pV_ HT_ 145 (some 305) (bP 154 146) ?_
    refine pV_ HT_ 146 (some 306) (bP 154 147) ?_
    refine pV_ HT_ 147 (some 307) (bP 154 148) ?_
    refine pV_ HT_ 148 (some 308) (bP 154 149) ?_
    refine pV_ HT_ 149 (some 309) (bP 154 150) ?_
    refine pV_ HT_ 150 (some 310) (bP 154 151) ?_
    refine pV_ HT_ 151 (some 311) (bP 154 152) ?_
    refine pV_ HT_ 152 (some 312) (bP 154 153) ?_
    refine pV_ HT_ 153 (some 313) (bP 154 154) ?_
    refine done_ (done_of HT_.out (by kernel_rfl)) ?_;exact hrest _ S.out
/-! Declarations moved out of EDead. -/
theorem rd_str {xs:List ByteArray} {i:Nat} (h:i < xs.length):rdOf ByteArray.empty xs (i:Nat)=xs[i]:=by rw [rdOf_at (by simpa using h)];simp
/-! laws.FnCodesGuessedOfAll, a part of its walk: printed by gengu.py. -/
set_option maxHeartbeats 16000000 in
set_option maxRecDepth 100000 in
theorem KVB {w:World} {v0 v1 v2 v3 v4 v7 v8 v9 v11 v12 v13 v16 v17 v19 v20 v21 v23 v24 v25 v26 v27 v28 v29 v31 v32 v33 v34 v35 v36 v37 v38 v39 v40 v41 v44 v45 v46 v47 v48 v49 v50 v51 v52 v53 v54 v55 v56 v57 v58 v59 v60 v61 v62 v63 v64 v65 v66 v67 v68 v69 v70 v71 v72 v73 v74 v75 v76 v77 v78 v79 v80 v81 v82 v83 v84 v85 v86 v87 v88 v89 v90 v91 v92 v93 v94 v95 v96 v97 v98 v99 v100 v101 v102 v103 v104 v105 v106 v107 v108 v109 v110 v111 v112 v113 v114 v115 v116 v117 v118 v119 v120 v121 v122 v123 v124 v125 v126 v127 v128 v129 v130 v131 v132 v133 v134 v135 v136 v137 v138 v139 v140 v141 v142 v143 v144 v145 v146 v147 v148 v149 v150 v151 v152 v153 v154 v155 v156 v157 v158 v159 v160 v161 v162 v163 v164 v165 v166 v167 v168 v169 v170 v171 v172 v173 v174 v175 v176 v177 v178 v179 v180 v181 v182 v183 v184 v185 v186 v187 v188 v189 v190 v191 v192 v193 v194 v195 v196 v197 v198 v199 v200 v201 v202 v203 v204 v205 v206 v207 v208 v209 v210 v211 v212 v213 v214 v215 v216 v217 v218 v219 v220 v221 v222 v223 v224 v225 v226 v227 v228 v229 v230 v231 v232 v233 v234 v235 v236 v237 v238 v239 v240 v241 v242 v243 v244 v245 v246 v247 v248 v249 v250 v251 v252 v253 v254 v255 v256 v257 v258 v259 v260 v261 v262 v263 v264 v265 v266 v267 v268 v269 v270 v271 v272 v273 v274 v275 v276 v277 v278 v279 v280 v281 v282 v283 v284 v285 v286 v287 v288 v289 v290 v291 v292 v293 v294 v295 v296 v297 v298 v299 v300 v301 v302 v303 v304 v305 v306 v307 v308 v309 v310 v311 v312 v313 v314 v315 v316 v317 v318 v319 v320 v321 v322 v323 v324 v325 v326 v327 v328 v329 v330 v331 v332 v333 v334 v335 v336 v337 v338 v339 v340 v341 v342 v343 v344 v345 v346 v347 v348 v349 v350 v351 v352 v353 v354 v355 v356 v357 v358 v359 v360 v361 v362 v363 v364 v365 v366 v367 v368 v369 v370 v371 v372 v373 v374 v375 v376 v377 v378 v379 v380 v381 v382 v383 v384 v385 v386 v387 v388 v389 v390 v391 v392 v393 v394 v395 v396 v397 v398 v399 v400 v401 v402 v403 v404 v405 v406 v407 v408 v409 v410 v411 v412 v413 v414 v415 v416 v417 v418 v419 v420 v421 v422 v423 v424 v425 v426 v427 v428 v429 v430 v431 v432 v433 v434 v435 v436 v437 v438 v439 v440 v441 v442 v443 v444 v445 v446 v447 v448 v449 v450 v451 v452 v453 v454 v455 v456 v457 v458 v459 v460 v461 v462 v463 J Y Z a6 a7 a8 aa ab ac ae af ag ah ai aj ak al am an ap ar au av ax ay az aA aC aD aE aG aH aI aJ aK aM aN aQ aT aU aV aW aX aY aZ b3 b4 b5 b6 b7 b8 b9 ba bb bc bd be bf bg bh bi bj bk bl bm bn bo bp bq br bu bv bw bz bC bD bF bH bJ bL:Value} (K:Act→World→Prop) (Q:Exit→Act→World→Prop) (hQ : ∀ c t t' d w',Q (.panic c) ⟨t,d⟩ w'→Q (.panic c) ⟨t',d⟩ w')
    (k:Nat) (P D:Int) (L:List S48) (A:Option Addr) (c:Nat) (gp:Nat) (all:List ByteArray) (left:List Int) (A1 A5:Option Addr) (c1 c5:Nat) (th solved:Bool) (count total:Int) (first sure:ByteArray) (bs:List (Nat×Obj)) (rs:List Rw) (W:World)
    (hm:Mg w bs rs W) (hp:(gp,pzG P D A L.length c)∈bs) (r1:rwS A1 all∈rs) (i1:all.length≤c1) (r5:rwI A5 left∈rs)
    (h0:0≤P) (f1:(all.length:Int)=count) (f2:th=decide (count > 0)) (f3:th=true→first=rdOf ByteArray.empty all 0∧sure.size=P.toNat) (f4:solved=(count == 1)) (f5:left.length=L.length + 1) (f6:L.length≤6) (f7:rd left 0=total) (f8:rd left L.length=count) (f9:solved=true→sure=first) (e1:laws_eSorted.f k all=some true)
    (hrest : ∀ {bO bQ bR bS bT bU bV bW bX bY bZ c6 c7 c8 ca cb cd ce cf cg ci cj ck cm cn co cp cq cr cu cv cw cx cy cz cA cC cE cF cG cH cJ cK cL cM cN cO cP cQ cS cT cV cW cX cY cZ d5 d6 d7 d8 d9 da db dc de df dh di dj dl dm dn dp:Value} (W':World),Mg w bs rs W'→K ⟨List.toArray (v0 :: v1 :: v2 :: v3 :: v4 :: .pointer (some ⟨gp,0,none⟩) :: .slice A1 all.length c1 :: v7 :: v8 :: v9 :: .int .i64 count :: v11 :: v12 :: v13 :: .string first :: .bool th :: v16 :: v17 :: .string sure :: v19 :: v20 :: v21 :: .bool solved :: v23 :: v24 :: v25 :: v26 :: v27 :: v28 :: v29 :: .slice A5 left.length c5 :: v31 :: v32 :: v33 :: v34 :: v35 :: v36 :: v37 :: v38 :: v39 :: v40 :: v41 :: .int .i64 total :: .bool true :: v44 :: v45 :: v46 :: v47 :: v48 :: v49 :: v50 :: v51 :: v52 :: v53 :: v54 :: v55 :: v56 :: v57 :: v58 :: v59 :: v60 :: v61 :: v62 :: v63 :: v64 :: v65 :: v66 :: v67 :: v68 :: v69 :: v70 :: v71 :: v72 :: v73 :: v74 :: v75 :: v76 :: v77 :: v78 :: v79 :: v80 :: v81 :: v82 :: v83 :: v84 :: v85 :: v86 :: v87 :: v88 :: v89 :: v90 :: v91 :: v92 :: v93 :: v94 :: v95 :: v96 :: v97 :: v98 :: v99 :: v100 :: v101 :: v102 :: v103 :: v104 :: v105 :: v106 :: v107 :: v108 :: v109 :: v110 :: v111 :: v112 :: v113 :: v114 :: v115 :: v116 :: v117 :: v118 :: v119 :: v120 :: v121 :: v122 :: v123 :: v124 :: v125 :: v126 :: v127 :: v128 :: v129 :: v130 :: v131 :: v132 :: v133 :: v134 :: v135 :: v136 :: v137 :: v138 :: v139 :: v140 :: v141 :: v142 :: v143 :: v144 :: v145 :: v146 :: v147 :: v148 :: v149 :: v150 :: v151 :: v152 :: v153 :: v154 :: v155 :: v156 :: v157 :: v158 :: v159 :: v160 :: v161 :: v162 :: v163 :: v164 :: v165 :: v166 :: v167 :: v168 :: v169 :: v170 :: v171 :: v172 :: v173 :: v174 :: v175 :: v176 :: v177 :: v178 :: v179 :: v180 :: v181 :: v182 :: v183 :: v184 :: v185 :: v186 :: v187 :: v188 :: v189 :: v190 :: v191 :: v192 :: v193 :: v194 :: v195 :: v196 :: v197 :: v198 :: v199 :: v200 :: v201 :: v202 :: v203 :: v204 :: v205 :: v206 :: v207 :: v208 :: v209 :: v210 :: v211 :: v212 :: v213 :: v214 :: v215 :: v216 :: v217 :: v218 :: v219 :: v220 :: v221 :: v222 :: v223 :: v224 :: v225 :: v226 :: v227 :: v228 :: v229 :: v230 :: v231 :: v232 :: v233 :: v234 :: v235 :: v236 :: v237 :: v238 :: v239 :: v240 :: v241 :: v242 :: v243 :: v244 :: v245 :: v246 :: v247 :: v248 :: v249 :: v250 :: v251 :: v252 :: v253 :: v254 :: v255 :: v256 :: v257 :: v258 :: v259 :: v260 :: v261 :: v262 :: v263 :: v264 :: v265 :: v266 :: v267 :: v268 :: v269 :: v270 :: v271 :: v272 :: v273 :: v274 :: v275 :: v276 :: v277 :: v278 :: v279 :: v280 :: v281 :: v282 :: v283 :: v284 :: v285 :: v286 :: v287 :: v288 :: v289 :: v290 :: v291 :: v292 :: v293 :: v294 :: v295 :: v296 :: v297 :: v298 :: v299 :: v300 :: v301 :: v302 :: v303 :: v304 :: v305 :: v306 :: v307 :: v308 :: v309 :: v310 :: v311 :: v312 :: v313 :: v314 :: v315 :: v316 :: v317 :: v318 :: v319 :: v320 :: bO :: bQ :: bR :: bS :: bT :: bU :: bV :: bW :: bX :: bY :: bZ :: c6 :: c7 :: c8 :: ca :: cb :: cd :: ce :: cf :: cg :: ci :: cj :: ck :: cm :: cn :: co :: cp :: cq :: cr :: cu :: cv :: cw :: cx :: cy :: cz :: cA :: cC :: cE :: cF :: cG :: cH :: cJ :: cK :: cL :: cM :: cN :: cO :: cP :: cQ :: cS :: cT :: cV :: cW :: cX :: cY :: cZ :: d5 :: d6 :: d7 :: d8 :: d9 :: da :: db :: dc :: de :: df :: dh :: di :: dj :: dl :: dm :: dn :: dp :: .bool false :: v395 :: v396 :: v397 :: v398 :: v399 :: v400 :: v401 :: v402 :: v403 :: v404 :: v405 :: v406 :: v407 :: v408 :: v409 :: v410 :: v411 :: v412 :: v413 :: v414 :: v415 :: v416 :: v417 :: v418 :: v419 :: v420 :: v421 :: v422 :: v423 :: v424 :: v425 :: v426 :: v427 :: v428 :: v429 :: v430 :: v431 :: v432 :: v433 :: v434 :: v435 :: v436 :: v437 :: v438 :: v439 :: v440 :: v441 :: v442 :: v443 :: v444 :: v445 :: v446 :: v447 :: v448 :: v449 :: v450 :: v451 :: v452 :: v453 :: v454 :: v455 :: v456 :: v457 :: v458 :: v459 :: v460 :: v461 :: v462 :: v463 :: J :: Y :: Z :: a6 :: a7 :: a8 :: aa :: ab :: ac :: ae :: af :: ag :: ah :: ai :: aj :: ak :: al :: am :: an :: ap :: ar :: au :: av :: ax :: ay :: az :: aA :: aC :: aD :: aE :: aG :: aH :: aI :: aJ :: aK :: aM :: aN :: aQ :: aT :: aU :: aV :: aW :: aX :: aY :: aZ :: b3 :: b4 :: b5 :: b6 :: b7 :: b8 :: b9 :: ba :: bb :: bc :: bd :: be :: bf :: bg :: bh :: bi :: bj :: bk :: bl :: bm :: bn :: bo :: bp :: bq :: br :: bu :: bv :: bw :: bz :: bC :: bD :: bF :: bH :: bJ :: bL :: []),[]⟩ W') :
    Code.wp Tryz.prog (regV 26) (Exit.then K Q) ⟨List.toArray (v0 :: v1 :: v2 :: v3 :: v4 :: .pointer (some ⟨gp,0,none⟩) :: .slice A1 all.length c1 :: v7 :: v8 :: v9 :: .int .i64 count :: v11 :: v12 :: v13 :: .string first :: .bool th :: v16 :: v17 :: .string sure :: v19 :: v20 :: v21 :: .bool solved :: v23 :: v24 :: v25 :: v26 :: v27 :: v28 :: v29 :: .slice A5 left.length c5 :: v31 :: v32 :: v33 :: v34 :: v35 :: v36 :: v37 :: v38 :: v39 :: v40 :: v41 :: .int .i64 total :: .bool true :: v44 :: v45 :: v46 :: v47 :: v48 :: v49 :: v50 :: v51 :: v52 :: v53 :: v54 :: v55 :: v56 :: v57 :: v58 :: v59 :: v60 :: v61 :: v62 :: v63 :: v64 :: v65 :: v66 :: v67 :: v68 :: v69 :: v70 :: v71 :: v72 :: v73 :: v74 :: v75 :: v76 :: v77 :: v78 :: v79 :: v80 :: v81 :: v82 :: v83 :: v84 :: v85 :: v86 :: v87 :: v88 :: v89 :: v90 :: v91 :: v92 :: v93 :: v94 :: v95 :: v96 :: v97 :: v98 :: v99 :: v100 :: v101 :: v102 :: v103 :: v104 :: v105 :: v106 :: v107 :: v108 :: v109 :: v110 :: v111 :: v112 :: v113 :: v114 :: v115 :: v116 :: v117 :: v118 :: v119 :: v120 :: v121 :: v122 :: v123 :: v124 :: v125 :: v126 :: v127 :: v128 :: v129 :: v130 :: v131 :: v132 :: v133 :: v134 :: v135 :: v136 :: v137 :: v138 :: v139 :: v140 :: v141 :: v142 :: v143 :: v144 :: v145 :: v146 :: v147 :: v148 :: v149 :: v150 :: v151 :: v152 :: v153 :: v154 :: v155 :: v156 :: v157 :: v158 :: v159 :: v160 :: v161 :: v162 :: v163 :: v164 :: v165 :: v166 :: v167 :: v168 :: v169 :: v170 :: v171 :: v172 :: v173 :: v174 :: v175 :: v176 :: v177 :: v178 :: v179 :: v180 :: v181 :: v182 :: v183 :: v184 :: v185 :: v186 :: v187 :: v188 :: v189 :: v190 :: v191 :: v192 :: v193 :: v194 :: v195 :: v196 :: v197 :: v198 :: v199 :: v200 :: v201 :: v202 :: v203 :: v204 :: v205 :: v206 :: v207 :: v208 :: v209 :: v210 :: v211 :: v212 :: v213 :: v214 :: v215 :: v216 :: v217 :: v218 :: v219 :: v220 :: v221 :: v222 :: v223 :: v224 :: v225 :: v226 :: v227 :: v228 :: v229 :: v230 :: v231 :: v232 :: v233 :: v234 :: v235 :: v236 :: v237 :: v238 :: v239 :: v240 :: v241 :: v242 :: v243 :: v244 :: v245 :: v246 :: v247 :: v248 :: v249 :: v250 :: v251 :: v252 :: v253 :: v254 :: v255 :: v256 :: v257 :: v258 :: v259 :: v260 :: v261 :: v262 :: v263 :: v264 :: v265 :: v266 :: v267 :: v268 :: v269 :: v270 :: v271 :: v272 :: v273 :: v274 :: v275 :: v276 :: v277 :: v278 :: v279 :: v280 :: v281 :: v282 :: v283 :: v284 :: v285 :: v286 :: v287 :: v288 :: v289 :: v290 :: v291 :: v292 :: v293 :: v294 :: v295 :: v296 :: v297 :: v298 :: v299 :: v300 :: v301 :: v302 :: v303 :: v304 :: v305 :: v306 :: v307 :: v308 :: v309 :: v310 :: v311 :: v312 :: v313 :: v314 :: v315 :: v316 :: v317 :: v318 :: v319 :: v320 :: v321 :: v322 :: v323 :: v324 :: v325 :: v326 :: v327 :: v328 :: v329 :: v330 :: v331 :: v332 :: v333 :: v334 :: v335 :: v336 :: v337 :: v338 :: v339 :: v340 :: v341 :: v342 :: v343 :: v344 :: v345 :: v346 :: v347 :: v348 :: v349 :: v350 :: v351 :: v352 :: v353 :: v354 :: v355 :: v356 :: v357 :: v358 :: v359 :: v360 :: v361 :: v362 :: v363 :: v364 :: v365 :: v366 :: v367 :: v368 :: v369 :: v370 :: v371 :: v372 :: v373 :: v374 :: v375 :: v376 :: v377 :: v378 :: v379 :: v380 :: v381 :: v382 :: v383 :: v384 :: v385 :: v386 :: v387 :: v388 :: v389 :: v390 :: v391 :: v392 :: v393 :: v394 :: v395 :: v396 :: v397 :: v398 :: v399 :: v400 :: v401 :: v402 :: v403 :: v404 :: v405 :: v406 :: v407 :: v408 :: v409 :: v410 :: v411 :: v412 :: v413 :: v414 :: v415 :: v416 :: v417 :: v418 :: v419 :: v420 :: v421 :: v422 :: v423 :: v424 :: v425 :: v426 :: v427 :: v428 :: v429 :: v430 :: v431 :: v432 :: v433 :: v434 :: v435 :: v436 :: v437 :: v438 :: v439 :: v440 :: v441 :: v442 :: v443 :: v444 :: v445 :: v446 :: v447 :: v448 :: v449 :: v450 :: v451 :: v452 :: v453 :: v454 :: v455 :: v456 :: v457 :: v458 :: v459 :: v460 :: v461 :: v462 :: v463 :: J :: Y :: Z :: a6 :: a7 :: a8 :: aa :: ab :: ac :: ae :: af :: ag :: ah :: ai :: aj :: ak :: al :: am :: an :: ap :: ar :: au :: av :: ax :: ay :: az :: aA :: aC :: aD :: aE :: aG :: aH :: aI :: aJ :: aK :: aM :: aN :: aQ :: aT :: aU :: aV :: aW :: aX :: aY :: aZ :: b3 :: b4 :: b5 :: b6 :: b7 :: b8 :: b9 :: ba :: bb :: bc :: bd :: be :: bf :: bg :: bh :: bi :: bj :: bk :: bl :: bm :: bn :: bo :: bp :: bq :: br :: bu :: bv :: bw :: bz :: bC :: bD :: bF :: bH :: bJ :: bL :: []),[]⟩ W:=by
  have dw:=Tryz.underlying28
  have dx:=Tryz.underlying25
  have dy:=Tryz.underlying48
  have dz:=Tryz.underlying26
  have dA:=Tryz.underlying30
  have dB:=Tryz.underlying39
  have hbb : ∀ b:Bool,(b != b)=false:=fun b=>by cases b <;> rfl
  have hii : ∀ x:Int,(x != x)=false:=fun x=>by simp
  have hss : ∀ x:ByteArray,(x.toList != x.toList)=false:=fun x=>by simp
  have hst : ∀ x:ByteArray,(x.toList == x.toList)=true:=fun x=>by simp
  have S:=amk hm;clear hm;have HP:=amk hp;have R1:=amk r1;have I1:=amk i1;have R5:=amk r5;have E1:=amk e1;clear hp r1 i1 r5 e1
  conv=>arg 2;whnf
  simp only [List.append_eq,List.cons_append,List.nil_append]
  have hac:((all.length:Int) != count)=false:=by simp [f1]
  have hw:wrap64 ((L.length:Int) + 1)=(left.length:Int):=by rw [w64 (by omega) (by omega)];omega
  have dr:(count == 1)=solved:=f4.symm
  obtain ⟨q0,q1,q2⟩:=gx3 S.out HP.out
  have p1:(0:Int)≤0:=Int.le_refl 0
  have p2:(0:Int) < (left.length:Int):=by omega
  have p3:(0:Int)≤(L.length:Int):=by omega
  have p4:(L.length:Int) < (left.length:Int):=by omega
  obtain ⟨dt,e5,bM⟩:=Kd.at_int (rI S.out R5.out) 0 p1 p2;cases e5
  obtain ⟨dC,e6,dq⟩:=Kd.at_int (rI S.out R5.out) (L.length:Int) p3 p4;cases e6
  rw [f7] at bM;rw [f8] at dq
  have hx6b:=dq;rw [Int.toNat_natCast] at hx6b;replace bM:W.cell? dt=some (.int .i64 total):=bM
  replace p1:=eq_true p1;replace p2:=eq_true p2;replace p3:=eq_true p3;replace p4:=eq_true p4
  have dD:(0 < left.length)=True:=eq_true (by omega)
  have dE:(L.length < left.length)=True:=eq_true (by omega)
  clear f5 f6 f7 f8 f4
  cases th with
  | false =>
    have du:solved=false:=by cases solved with | false=>rfl | true=>(have a1:=of_decide_eq_false f2.symm;have a2:=beq_iff_eq.mp dr;omega)
    subst du;clear f1 f2 f3 f9 h0
    go_wp2_with (go_at_call 29;refine Calls.mono (laws_eSorted.calls k _ _ all true _ (rS S.out R1.out) I1.out E1.out) ?_;rintro e wx ⟨rfl,hb⟩;have hb:=hb.below;have nS:=amk (Mg_below S.out hb);clear S;have S:=nS;clear nS hb)
    exact S.out
  | true =>
    obtain ⟨g1,g2⟩:=f3 rfl
    have hcp:0 < count:=of_decide_eq_true f2.symm
    have p5:(0:Int) < (all.length:Int):=by omega
    have dF:(0 < all.length)=True:=eq_true (by omega)
    obtain ⟨dv,e7,bN⟩:=Kd.at_string (rS S.out R1.out) 0 (Int.le_refl 0) p5;cases e7
    rw [←g1] at bN;replace bN:W.cell? dv=some (.string first):=bN
    have hsp:((sure.size:Int) != P)=false:=by rw [g2,Int.toNat_of_nonneg h0];simp
    replace p5:=eq_true p5;clear f1 f2 f3 g1 g2 hcp h0
    cases solved with
    | false=>clear f9;go_wp2_with (go_at_call 29;refine Calls.mono (laws_eSorted.calls k _ _ all true _ (rS S.out R1.out) I1.out E1.out) ?_;rintro e wx ⟨rfl,hb⟩;have hb:=hb.below;have nS:=amk (Mg_below S.out hb);clear S;have S:=nS;clear nS hb);exact S.out
    | true=>obtain rfl:=f9 rfl;clear f9;go_wp2_with (go_at_call 29;refine Calls.mono (laws_eSorted.calls k _ _ all true _ (rS S.out R1.out) I1.out E1.out) ?_;rintro e wx ⟨rfl,hb⟩;have hb:=hb.below;have nS:=amk (Mg_below S.out hb);clear S;have S:=nS;clear nS hb);exact S.out
/-! laws.FnCodesGuessedOfAll, a part of its walk: printed by gengu.py. -/
def laws_FnCodesGuessed.T41:Bool×List (List Nat×List Nat):=(true,[([],[]),([],[]),([0,1],[0,1]),([2],[2]),([3],[3]),([4],[4]),([4],[4]),([5,6,4],[4,5,6]),([4],[4]),([4],[4]),([8,9,4],[4,8,9]),([7,10,4],[4,7,10]),([4,11],[4,11])])
def laws_FnCodesGuessed.B41:List Nat:=[0,0,3,7,15,31,31,127,31,31,799,2047,4095]
theorem laws_FnCodesGuessed.tab41:rtab .any (opsOf Tryz.f3 41)=laws_FnCodesGuessed.T41:=by kernel_rfl
theorem laws_FnCodesGuessed.bits41:waitsOk laws_FnCodesGuessed.T41.2 laws_FnCodesGuessed.B41=true:=by kernel_rfl
set_option maxHeartbeats 16000000 in
set_option maxRecDepth 100000 in
theorem KVF {w:World} {v0 v1 v2 v3 v4 v5 v6 v7 v8 v9 v10 v11 v12 v13 v14 v15 v16 v17 v19 v20 v21 v22 v23 v24 v25 v26 v27 v28 v29 v30 v31 v32 v33 v34 v35 v36 v37 v38 v39 v40 v41 v42 v43 v44 v46 v47 v48 v49 v51 v52 v53 v54 v55 v56 v57 v58 v59 v60 v61 v62 v63 v64 v65 v66 v67 v68 v69 v70 v71 v72 v73 v74 v75 v76 v77 v78 v79 v80 v81 v82 v83 v84 v85 v86 v87 v88 v89 v90 v91 v92 v93 v94 v95 v96 v97 v98 v99 v100 v101 v102 v103 v104 v105 v106 v107 v108 v109 v110 v111 v112 v113 v114 v115 v116 v117 v118 v119 v120 v121 v122 v123 v124 v125 v126 v127 v128 v129 v130 v131 v132 v133 v134 v135 v136 v137 v138 v139 v140 v141 v142 v143 v144 v145 v146 v147 v148 v149 v150 v151 v152 v153 v154 v155 v156 v157 v158 v159 v160 v161 v162 v163 v164 v165 v166 v167 v168 v169 v170 v171 v172 v173 v174 v175 v176 v177 v178 v179 v180 v181 v182 v183 v184 v185 v186 v187 v188 v189 v190 v191 v192 v193 v194 v195 v196 v197 v198 v199 v200 v201 v202 v203 v204 v205 v206 v207 v208 v209 v210 v211 v212 v213 v214 v215 v216 v217 v218 v219 v220 v221 v222 v223 v224 v225 v226 v227 v228 v229 v230 v231 v232 v233 v234 v235 v236 v237 v238 v239 v240 v241 v242 v243 v244 v245 v246 v247 v248 v249 v250 v251 v252 v253 v254 v255 v256 v257 v258 v259 v260 v261 v262 v263 v264 v265 v266 v267 v268 v269 v270 v271 v272 v273 v274 v275 v276 v277 v278 v279 v280 v281 v282 v283 v284 v285 v286 v287 v288 v289 v290 v291 v292 v293 v294 v295 v296 v297 v298 v299 v300 v301 v302 v303 v304 v305 v306 v307 v308 v309 v310 v311 v312 v313 v314 v315 v316 v317 v318 v319 v320 v321 v322 v323 v324 v325 v326 v327 v328 v329 v330 v331 v332 v333 v334 v335 v336 v337 v338 v339 v340 v341 v342 v343 v344 v345 v346 v347 v348 v349 v350 v351 v352 v353 v354 v355 v356 v357 v358 v359 v360 v361 v362 v363 v364 v365 v366 v367 v368 v369 v370 v371 v372 v373 v374 v375 v376 v377 v378 v379 v380 v381 v382 v383 v384 v385 v386 v387 v388 v389 v390 v391 v392 v393 v394 v395 v396 v397 v398 v399 v400 v401 v402 v403 v404 v405 v406 v407 v408 v409 v410 v411 v412 v413 v414 v415 v416 v417 v418 v419 v420 v421 v422 v423 v424 v425 v426 v427 v428 v429 v430 v431 v432 v433 v434 v435 v436 v437 v438 v439 v440 v441 v442 v443 v444 v445 v446 v447 v448 v449 v450 v451 v452 v453 v454 v455 v456 v457 v458 v459 v460 v461 v462 v463 J Y Z a1 a6 a7 a8 aa ab ac ae af ag ah ai aj ak al am an ap ar au av ax ay az aA aC aD aE aG aH aI aJ aK aM aN aQ aT aU aV aW aX aY aZ b3 b4 b5 b6 b7 b8 b9 ba bb bc bd be bf bg bh bi bj bk bl bm bn bo bp bq br bu bv bw bz bC bD bF bH bJ:Value} (K:Act→World→Prop) (Q:Exit→Act→World→Prop) (hQ : ∀ c t t' d w',Q (.panic c) ⟨t,d⟩ w'→Q (.panic c) ⟨t',d⟩ w')
    (x:Nat) (s sure:ByteArray) (y it:Nat) (bs:List (Nat×Obj)) (rs:List Rw) (W:World)
    (hm:Mi w bs rs s y it W) (hx:x < s.size) (hz:x < sure.size) (hq:bt sure (x:Nat)=63∨bt sure (x:Nat)=bt s (x:Nat))
    (hrest : ∀ {bL bM bN bO bQ bR bS bT bU bV bW bX:Value} (W':World),Mi w bs rs s y it W'→K ⟨List.toArray (v0 :: v1 :: v2 :: v3 :: v4 :: v5 :: v6 :: v7 :: v8 :: v9 :: v10 :: v11 :: v12 :: v13 :: v14 :: v15 :: v16 :: v17 :: .string sure :: v19 :: v20 :: v21 :: v22 :: v23 :: v24 :: v25 :: v26 :: v27 :: v28 :: v29 :: v30 :: v31 :: v32 :: v33 :: v34 :: v35 :: v36 :: v37 :: v38 :: v39 :: v40 :: v41 :: v42 :: v43 :: v44 :: .string s :: v46 :: v47 :: v48 :: v49 :: .int .i64 (x:Int) :: v51 :: v52 :: v53 :: v54 :: v55 :: v56 :: v57 :: v58 :: v59 :: v60 :: v61 :: v62 :: v63 :: v64 :: v65 :: v66 :: v67 :: v68 :: v69 :: v70 :: v71 :: v72 :: v73 :: v74 :: v75 :: v76 :: v77 :: v78 :: v79 :: v80 :: v81 :: v82 :: v83 :: v84 :: v85 :: v86 :: v87 :: v88 :: v89 :: v90 :: v91 :: v92 :: v93 :: v94 :: v95 :: v96 :: v97 :: v98 :: v99 :: v100 :: v101 :: v102 :: v103 :: v104 :: v105 :: v106 :: v107 :: v108 :: v109 :: v110 :: v111 :: v112 :: v113 :: v114 :: v115 :: v116 :: v117 :: v118 :: v119 :: v120 :: v121 :: v122 :: v123 :: v124 :: v125 :: v126 :: v127 :: v128 :: v129 :: v130 :: v131 :: v132 :: v133 :: v134 :: v135 :: v136 :: v137 :: v138 :: v139 :: v140 :: v141 :: v142 :: v143 :: v144 :: v145 :: v146 :: v147 :: v148 :: v149 :: v150 :: v151 :: v152 :: v153 :: v154 :: v155 :: v156 :: v157 :: v158 :: v159 :: v160 :: v161 :: v162 :: v163 :: v164 :: v165 :: v166 :: v167 :: v168 :: v169 :: v170 :: v171 :: v172 :: v173 :: v174 :: v175 :: v176 :: v177 :: v178 :: v179 :: v180 :: v181 :: v182 :: v183 :: v184 :: v185 :: v186 :: v187 :: v188 :: v189 :: v190 :: v191 :: v192 :: v193 :: v194 :: v195 :: v196 :: v197 :: v198 :: v199 :: v200 :: v201 :: v202 :: v203 :: v204 :: v205 :: v206 :: v207 :: v208 :: v209 :: v210 :: v211 :: v212 :: v213 :: v214 :: v215 :: v216 :: v217 :: v218 :: v219 :: v220 :: v221 :: v222 :: v223 :: v224 :: v225 :: v226 :: v227 :: v228 :: v229 :: v230 :: v231 :: v232 :: v233 :: v234 :: v235 :: v236 :: v237 :: v238 :: v239 :: v240 :: v241 :: v242 :: v243 :: v244 :: v245 :: v246 :: v247 :: v248 :: v249 :: v250 :: v251 :: v252 :: v253 :: v254 :: v255 :: v256 :: v257 :: v258 :: v259 :: v260 :: v261 :: v262 :: v263 :: v264 :: v265 :: v266 :: v267 :: v268 :: v269 :: v270 :: v271 :: v272 :: v273 :: v274 :: v275 :: v276 :: v277 :: v278 :: v279 :: v280 :: v281 :: v282 :: v283 :: v284 :: v285 :: v286 :: v287 :: v288 :: v289 :: v290 :: v291 :: v292 :: v293 :: v294 :: v295 :: v296 :: v297 :: v298 :: v299 :: v300 :: v301 :: v302 :: v303 :: v304 :: v305 :: v306 :: v307 :: v308 :: v309 :: v310 :: v311 :: v312 :: v313 :: v314 :: v315 :: v316 :: v317 :: v318 :: v319 :: v320 :: v321 :: v322 :: v323 :: v324 :: v325 :: v326 :: v327 :: v328 :: v329 :: v330 :: v331 :: v332 :: v333 :: v334 :: v335 :: v336 :: v337 :: v338 :: v339 :: v340 :: v341 :: v342 :: v343 :: v344 :: v345 :: v346 :: v347 :: v348 :: v349 :: v350 :: v351 :: v352 :: v353 :: v354 :: v355 :: v356 :: v357 :: v358 :: v359 :: v360 :: v361 :: v362 :: v363 :: v364 :: v365 :: v366 :: v367 :: v368 :: v369 :: v370 :: v371 :: v372 :: v373 :: v374 :: v375 :: v376 :: v377 :: v378 :: v379 :: v380 :: v381 :: v382 :: v383 :: v384 :: v385 :: v386 :: v387 :: v388 :: v389 :: v390 :: v391 :: v392 :: v393 :: v394 :: v395 :: v396 :: v397 :: v398 :: v399 :: v400 :: v401 :: v402 :: v403 :: v404 :: v405 :: v406 :: v407 :: v408 :: v409 :: v410 :: v411 :: v412 :: v413 :: v414 :: v415 :: v416 :: v417 :: v418 :: v419 :: v420 :: v421 :: v422 :: v423 :: v424 :: v425 :: v426 :: v427 :: bL :: bM :: bN :: bO :: bQ :: bR :: bS :: bT :: bU :: bV :: bW :: bX :: .bool false :: v441 :: v442 :: v443 :: v444 :: v445 :: v446 :: v447 :: v448 :: v449 :: v450 :: v451 :: v452 :: v453 :: v454 :: v455 :: v456 :: v457 :: v458 :: v459 :: v460 :: v461 :: v462 :: v463 :: J :: Y :: Z :: a1 :: a6 :: a7 :: a8 :: aa :: ab :: ac :: ae :: af :: ag :: ah :: ai :: aj :: ak :: al :: am :: an :: ap :: ar :: au :: av :: ax :: ay :: az :: aA :: aC :: aD :: aE :: aG :: aH :: aI :: aJ :: aK :: aM :: aN :: aQ :: aT :: aU :: aV :: aW :: aX :: aY :: aZ :: b3 :: b4 :: b5 :: b6 :: b7 :: b8 :: b9 :: ba :: bb :: bc :: bd :: be :: bf :: bg :: bh :: bi :: bj :: bk :: bl :: bm :: bn :: bo :: bp :: bq :: br :: bu :: bv :: bw :: bz :: bC :: bD :: bF :: bH :: bJ :: []),[]⟩ W') :
    Code.wp Tryz.prog (regV 41) (Exit.then K Q) ⟨List.toArray (v0 :: v1 :: v2 :: v3 :: v4 :: v5 :: v6 :: v7 :: v8 :: v9 :: v10 :: v11 :: v12 :: v13 :: v14 :: v15 :: v16 :: v17 :: .string sure :: v19 :: v20 :: v21 :: v22 :: v23 :: v24 :: v25 :: v26 :: v27 :: v28 :: v29 :: v30 :: v31 :: v32 :: v33 :: v34 :: v35 :: v36 :: v37 :: v38 :: v39 :: v40 :: v41 :: v42 :: v43 :: v44 :: .string s :: v46 :: v47 :: v48 :: v49 :: .int .i64 (x:Int) :: v51 :: v52 :: v53 :: v54 :: v55 :: v56 :: v57 :: v58 :: v59 :: v60 :: v61 :: v62 :: v63 :: v64 :: v65 :: v66 :: v67 :: v68 :: v69 :: v70 :: v71 :: v72 :: v73 :: v74 :: v75 :: v76 :: v77 :: v78 :: v79 :: v80 :: v81 :: v82 :: v83 :: v84 :: v85 :: v86 :: v87 :: v88 :: v89 :: v90 :: v91 :: v92 :: v93 :: v94 :: v95 :: v96 :: v97 :: v98 :: v99 :: v100 :: v101 :: v102 :: v103 :: v104 :: v105 :: v106 :: v107 :: v108 :: v109 :: v110 :: v111 :: v112 :: v113 :: v114 :: v115 :: v116 :: v117 :: v118 :: v119 :: v120 :: v121 :: v122 :: v123 :: v124 :: v125 :: v126 :: v127 :: v128 :: v129 :: v130 :: v131 :: v132 :: v133 :: v134 :: v135 :: v136 :: v137 :: v138 :: v139 :: v140 :: v141 :: v142 :: v143 :: v144 :: v145 :: v146 :: v147 :: v148 :: v149 :: v150 :: v151 :: v152 :: v153 :: v154 :: v155 :: v156 :: v157 :: v158 :: v159 :: v160 :: v161 :: v162 :: v163 :: v164 :: v165 :: v166 :: v167 :: v168 :: v169 :: v170 :: v171 :: v172 :: v173 :: v174 :: v175 :: v176 :: v177 :: v178 :: v179 :: v180 :: v181 :: v182 :: v183 :: v184 :: v185 :: v186 :: v187 :: v188 :: v189 :: v190 :: v191 :: v192 :: v193 :: v194 :: v195 :: v196 :: v197 :: v198 :: v199 :: v200 :: v201 :: v202 :: v203 :: v204 :: v205 :: v206 :: v207 :: v208 :: v209 :: v210 :: v211 :: v212 :: v213 :: v214 :: v215 :: v216 :: v217 :: v218 :: v219 :: v220 :: v221 :: v222 :: v223 :: v224 :: v225 :: v226 :: v227 :: v228 :: v229 :: v230 :: v231 :: v232 :: v233 :: v234 :: v235 :: v236 :: v237 :: v238 :: v239 :: v240 :: v241 :: v242 :: v243 :: v244 :: v245 :: v246 :: v247 :: v248 :: v249 :: v250 :: v251 :: v252 :: v253 :: v254 :: v255 :: v256 :: v257 :: v258 :: v259 :: v260 :: v261 :: v262 :: v263 :: v264 :: v265 :: v266 :: v267 :: v268 :: v269 :: v270 :: v271 :: v272 :: v273 :: v274 :: v275 :: v276 :: v277 :: v278 :: v279 :: v280 :: v281 :: v282 :: v283 :: v284 :: v285 :: v286 :: v287 :: v288 :: v289 :: v290 :: v291 :: v292 :: v293 :: v294 :: v295 :: v296 :: v297 :: v298 :: v299 :: v300 :: v301 :: v302 :: v303 :: v304 :: v305 :: v306 :: v307 :: v308 :: v309 :: v310 :: v311 :: v312 :: v313 :: v314 :: v315 :: v316 :: v317 :: v318 :: v319 :: v320 :: v321 :: v322 :: v323 :: v324 :: v325 :: v326 :: v327 :: v328 :: v329 :: v330 :: v331 :: v332 :: v333 :: v334 :: v335 :: v336 :: v337 :: v338 :: v339 :: v340 :: v341 :: v342 :: v343 :: v344 :: v345 :: v346 :: v347 :: v348 :: v349 :: v350 :: v351 :: v352 :: v353 :: v354 :: v355 :: v356 :: v357 :: v358 :: v359 :: v360 :: v361 :: v362 :: v363 :: v364 :: v365 :: v366 :: v367 :: v368 :: v369 :: v370 :: v371 :: v372 :: v373 :: v374 :: v375 :: v376 :: v377 :: v378 :: v379 :: v380 :: v381 :: v382 :: v383 :: v384 :: v385 :: v386 :: v387 :: v388 :: v389 :: v390 :: v391 :: v392 :: v393 :: v394 :: v395 :: v396 :: v397 :: v398 :: v399 :: v400 :: v401 :: v402 :: v403 :: v404 :: v405 :: v406 :: v407 :: v408 :: v409 :: v410 :: v411 :: v412 :: v413 :: v414 :: v415 :: v416 :: v417 :: v418 :: v419 :: v420 :: v421 :: v422 :: v423 :: v424 :: v425 :: v426 :: v427 :: v428 :: v429 :: v430 :: v431 :: v432 :: v433 :: v434 :: v435 :: v436 :: v437 :: v438 :: v439 :: v440 :: v441 :: v442 :: v443 :: v444 :: v445 :: v446 :: v447 :: v448 :: v449 :: v450 :: v451 :: v452 :: v453 :: v454 :: v455 :: v456 :: v457 :: v458 :: v459 :: v460 :: v461 :: v462 :: v463 :: J :: Y :: Z :: a1 :: a6 :: a7 :: a8 :: aa :: ab :: ac :: ae :: af :: ag :: ah :: ai :: aj :: ak :: al :: am :: an :: ap :: ar :: au :: av :: ax :: ay :: az :: aA :: aC :: aD :: aE :: aG :: aH :: aI :: aJ :: aK :: aM :: aN :: aQ :: aT :: aU :: aV :: aW :: aX :: aY :: aZ :: b3 :: b4 :: b5 :: b6 :: b7 :: b8 :: b9 :: ba :: bb :: bc :: bd :: be :: bf :: bg :: bh :: bi :: bj :: bk :: bl :: bm :: bn :: bo :: bp :: bq :: br :: bu :: bv :: bw :: bz :: bC :: bD :: bF :: bH :: bJ :: []),[]⟩ W:=by
  have S:=amk (Mi_below hm (bd_ (Below.refl _ _)));clear hm
  have p0:(0≤(x:Int))=True:=eq_true (Int.natCast_nonneg x)
  have p1:((x:Int) < (s.size:Int))=True:=eq_true (Int.ofNat_lt.mpr hx);have p2:(x < s.size)=True:=eq_true hx
  have p3:((x:Int) < (sure.size:Int))=True:=eq_true (Int.ofNat_lt.mpr hz);have p4:(x < sure.size)=True:=eq_true hz
  have b1 : ∀ h:x < s.size,((s[x]'h).toNat:Int)=bt s (x:Int):=fun h=>bt_nat h
  have b2 : ∀ h:x < sure.size,((sure[x]'h).toNat:Int)=bt sure (x:Int):=fun h=>bt_nat h
  conv=>arg 2;whnf
  refine start_ (n:=13) (S:=fun _=>True) (ds:=[]) (bA 13 0) (by kernel_rfl) rfl (by kernel_rfl) trivial (fun hHeld=>?_);refine with_tabW laws_FnCodesGuessed.tab41 laws_FnCodesGuessed.bits41 (fun HT_ HW_=>?_)
  generalize World.drew _=W at S hHeld ⊢
  by_cases hc:bt sure (x:Int)=63
  · have c1:(bt sure (x:Int) != 63)=false:=by simp [hc]
    clear hx hz hq hc
    refine pV_ HT_ 0 (some 428) (bP 13 1) ?_
    refine pV_ HT_ 1 (some 429) (bP 13 2) ?_
    refine pV_ HT_ 2 (some 430) (bP 13 3) ?_
    refine pV_ HT_ 3 (some 431) (bP 13 4) ?_
    refine pV_ HT_ 4 (some 432) (bP 13 5) ?_
    refine zV_ HT_ 5 (some 433) (bP 13 6) ?_
    refine zV_ HT_ 6 (some 434) (bP 13 7) ?_
    refine zV_ HT_ 7 (some 435) (bP 13 8) ?_
    refine zV_ HT_ 8 (some 436) (bP 13 9) ?_
    refine zV_ HT_ 9 (some 437) (bP 13 10) ?_
    refine zV_ HT_ 10 (some 438) (bP 13 11) ?_
    refine zV_ HT_ 11 (some 439) (bP 13 12) ?_
    refine pV_ HT_ 12 (some 440) (bP 13 13) ?_
    refine done_ (done_of HT_.out (by kernel_rfl)) ?_;exact hrest _ S.out
  · have c1:(bt sure (x:Int) != 63)=true:=by simp [hc]
    have c2:(bt sure (x:Int) != bt s (x:Int))=false:=by simp [hq.resolve_left hc]
    clear hx hz hq hc
    refine pV_ HT_ 0 (some 428) (bP 13 1) ?_
    refine pV_ HT_ 1 (some 429) (bP 13 2) ?_
    refine pV_ HT_ 2 (some 430) (bP 13 3) ?_
    refine pV_ HT_ 3 (some 431) (bP 13 4) ?_
    refine pV_ HT_ 4 (some 432) (bP 13 5) ?_
    refine pV_ HT_ 5 (some 433) (bP 13 6) ?_
    refine pV_ HT_ 6 (some 434) (bP 13 7) ?_
    refine pV_ HT_ 7 (some 435) (bP 13 8) ?_
    refine pV_ HT_ 8 (some 436) (bP 13 9) ?_
    refine pV_ HT_ 9 (some 437) (bP 13 10) ?_
    refine pV_ HT_ 10 (some 438) (bP 13 11) ?_
    refine pV_ HT_ 11 (some 439) (bP 13 12) ?_
    refine pV_ HT_ 12 (some 440) (bP 13 13) ?_
    refine done_ (done_of HT_.out (by kernel_rfl)) ?_;exact hrest _ S.out
/-! laws.FnCodesGuessedOfAll, a part of its walk: printed by gengu.py. -/
def laws_FnCodesGuessed.T49:Bool×List (List Nat×List Nat):=(true,[([],[]),([0],[0]),([1],[1]),([2],[2]),([3,2],[2,3]),([2,4],[2,4]),([5,2],[5]),([6],[6]),([6],[6]),([7,8,6,6],[6,7,8]),([6],[6]),([6],[6]),([10,11,6],[6,10,11]),([9,12,6],[6,9,12]),([6,13],[6,13]),([14,9],[14]),([15],[15]),([15],[15]),([17,15],[15,17]),([16,18,15],[15,16,18]),([19,15],[15,19]),([15],[15]),([15],[15]),([21,22,15],[15,21,22]),([23,15],[15,23]),([20,24,15],[15,20,24]),([15,25],[15,25]),([26,15],[26]),([27],[27]),([28,27],[27,28]),([27,29],[27,29]),([30,27],[30]),([31],[31]),([31],[31]),([33,31],[31,33]),([34,31],[31,34]),([32,35,31],[31,32,35]),([31,36],[31,36])])
def laws_FnCodesGuessed.B49:List Nat:=[0,1,3,7,15,31,63,127,127,511,127,127,3199,8191,16383,32767,65535,65535,196607,524287,1048575,65535,65535,6356991,14745599,33554431,67108863,134217727,268435455,536870911,1073741823,2147483647,4294967295,4294967295,12884901887,30064771071,68719476735,137438953471]
theorem laws_FnCodesGuessed.tab49:rtab .any (opsOf Tryz.f3 49)=laws_FnCodesGuessed.T49:=by kernel_rfl
theorem laws_FnCodesGuessed.bits49:waitsOk laws_FnCodesGuessed.T49.2 laws_FnCodesGuessed.B49=true:=by kernel_rfl
set_option maxHeartbeats 16000000 in
set_option maxRecDepth 100000 in
theorem KVG {w:World} {v0 v1 v2 v3 v4 v6 v7 v8 v9 v11 v12 v13 v14 v15 v16 v17 v18 v19 v20 v21 v22 v23 v24 v25 v27 v28 v29 v31 v32 v33 v35 v36 v37 v38 v39 v40 v41 v42 v43 v44 v45 v46 v47 v48 v49 v50 v52 v56 v57 v58 v59 v60 v61 v62 v63 v64 v65 v66 v67 v68 v69 v70 v71 v72 v73 v74 v75 v76 v77 v78 v79 v80 v81 v82 v83 v84 v85 v86 v87 v88 v89 v90 v91 v92 v93 v94 v95 v96 v97 v98 v99 v100 v101 v102 v103 v104 v105 v106 v107 v108 v109 v110 v111 v112 v113 v114 v115 v116 v117 v118 v119 v120 v121 v122 v123 v124 v125 v126 v127 v128 v129 v130 v131 v132 v133 v134 v135 v136 v137 v138 v139 v140 v141 v142 v143 v144 v145 v146 v147 v148 v149 v150 v151 v152 v153 v154 v155 v156 v157 v158 v159 v160 v161 v162 v163 v164 v165 v166 v167 v168 v169 v170 v171 v172 v173 v174 v175 v176 v177 v178 v179 v180 v181 v182 v183 v184 v185 v186 v187 v188 v189 v190 v191 v192 v193 v194 v195 v196 v197 v198 v199 v200 v201 v202 v203 v204 v205 v206 v207 v208 v209 v210 v211 v212 v213 v214 v215 v216 v217 v218 v219 v220 v221 v222 v223 v224 v225 v226 v227 v228 v229 v230 v231 v232 v233 v234 v235 v236 v237 v238 v239 v240 v241 v242 v243 v244 v245 v246 v247 v248 v249 v250 v251 v252 v253 v254 v255 v256 v257 v258 v259 v260 v261 v262 v263 v264 v265 v266 v267 v268 v269 v270 v271 v272 v273 v274 v275 v276 v277 v278 v279 v280 v281 v282 v283 v284 v285 v286 v287 v288 v289 v290 v291 v292 v293 v294 v295 v296 v297 v298 v299 v300 v301 v302 v303 v304 v305 v306 v307 v308 v309 v310 v311 v312 v313 v314 v315 v316 v317 v318 v319 v320 v321 v322 v323 v324 v325 v326 v327 v328 v329 v330 v331 v332 v333 v334 v335 v336 v337 v338 v339 v340 v341 v342 v343 v344 v345 v346 v347 v348 v349 v350 v351 v352 v353 v354 v355 v356 v357 v358 v359 v360 v361 v362 v363 v364 v365 v366 v367 v368 v369 v370 v371 v372 v373 v374 v375 v376 v377 v378 v379 v380 v381 v382 v383 v384 v385 v386 v387 v388 v389 v390 v391 v392 v393 v394 v395 v396 v397 v398 v399 v400 v401 v402 v403 v404 v405 v406 v407 v408 v409 v410 v411 v412 v413 v414 v415 v416 v417 v418 v419 v420 v421 v422 v423 v424 v425 v426 v427 v428 v429 v430 v431 v432 v433 v434 v435 v436 v437 v438 v439 v440 v441 v442 v443 v444 v445 v446 v447 v448 v449 v450 v451 v452 v453 v454 v455 v456 v457 v458 v459 v460 v461 v462 v463 b6 b7 b8 b9 ba bb bc bd be bf bg bh bi bj bk bl bm bn bo bp bq br bu bv bw bz bC bD bF bH bJ bL bM Y Z a6 a7 a8 aa ab ac ae af ag ah ai aj ak al am an ap ar au av ax ay az aA aC aD aE aG aH aI aJ aK aM aN aQ aT aU aV aW aX aY aZ b3 b4 b5:Value} (K:Act→World→Prop) (Q:Exit→Act→World→Prop) (hQ : ∀ c t t' d w',Q (.panic c) ⟨t,d⟩ w'→Q (.panic c) ⟨t',d⟩ w')
    (k:Nat) (P D:Int) (L:List S48) (A:Option Addr) (c:Nat) (gp i:Nat) (needless left:List Int) (A3 A5:Option Addr) (c3 c5:Nat) (count best still:Int) (bs:List (Nat×Obj)) (rs:List Rw) (W:World)
    (hm:Mg w bs rs W) (hp:(gp,pzG P D A L.length c)∈bs) (r3:rwI A3 needless∈rs) (i3:needless.length≤c3) (r5:rwI A5 left∈rs) (hi:i < L.length) (h6:L.length≤6) (f5:left.length=L.length + 1) (cC:0≤best) (cE:best < L.length) (hle:rd left ((i:Int) + 1)≤rd left (i:Nat)) (e1:laws_eHas.f k needless (i:Nat)=some (still == count))
    (hrest : ∀ {bN bO bQ bR bS bT bU bV bW bX bY bZ c6 c7 c8 ca cb cd ce cf cg ci cj ck cm cn co cp cq cr cu cv cw cx cy cz cA:Value} (W':World),Mg w bs rs W'→K ⟨List.toArray (v0 :: v1 :: v2 :: v3 :: v4 :: .pointer (some ⟨gp,0,none⟩) :: v6 :: v7 :: v8 :: v9 :: .int .i64 count :: v11 :: v12 :: v13 :: v14 :: v15 :: v16 :: v17 :: v18 :: v19 :: v20 :: v21 :: v22 :: v23 :: v24 :: v25 :: .slice A3 needless.length c3 :: v27 :: v28 :: v29 :: .slice A5 left.length c5 :: v31 :: v32 :: v33 :: .int .i64 best :: v35 :: v36 :: v37 :: v38 :: v39 :: v40 :: v41 :: v42 :: v43 :: v44 :: v45 :: v46 :: v47 :: v48 :: v49 :: v50 :: .int .i64 (i:Int) :: v52 :: .bool true :: .int .i64 still :: .bool true :: v56 :: v57 :: v58 :: v59 :: v60 :: v61 :: v62 :: v63 :: v64 :: v65 :: v66 :: v67 :: v68 :: v69 :: v70 :: v71 :: v72 :: v73 :: v74 :: v75 :: v76 :: v77 :: v78 :: v79 :: v80 :: v81 :: v82 :: v83 :: v84 :: v85 :: v86 :: v87 :: v88 :: v89 :: v90 :: v91 :: v92 :: v93 :: v94 :: v95 :: v96 :: v97 :: v98 :: v99 :: v100 :: v101 :: v102 :: v103 :: v104 :: v105 :: v106 :: v107 :: v108 :: v109 :: v110 :: v111 :: v112 :: v113 :: v114 :: v115 :: v116 :: v117 :: v118 :: v119 :: v120 :: v121 :: v122 :: v123 :: v124 :: v125 :: v126 :: v127 :: v128 :: v129 :: v130 :: v131 :: v132 :: v133 :: v134 :: v135 :: v136 :: v137 :: v138 :: v139 :: v140 :: v141 :: v142 :: v143 :: v144 :: v145 :: v146 :: v147 :: v148 :: v149 :: v150 :: v151 :: v152 :: v153 :: v154 :: v155 :: v156 :: v157 :: v158 :: v159 :: v160 :: v161 :: v162 :: v163 :: v164 :: v165 :: v166 :: v167 :: v168 :: v169 :: v170 :: v171 :: v172 :: v173 :: v174 :: v175 :: v176 :: v177 :: v178 :: v179 :: v180 :: v181 :: v182 :: v183 :: v184 :: v185 :: v186 :: v187 :: v188 :: v189 :: v190 :: v191 :: v192 :: v193 :: v194 :: v195 :: v196 :: v197 :: v198 :: v199 :: v200 :: v201 :: v202 :: v203 :: v204 :: v205 :: v206 :: v207 :: v208 :: v209 :: v210 :: v211 :: v212 :: v213 :: v214 :: v215 :: v216 :: v217 :: v218 :: v219 :: v220 :: v221 :: v222 :: v223 :: v224 :: v225 :: v226 :: v227 :: v228 :: v229 :: v230 :: v231 :: v232 :: v233 :: v234 :: v235 :: v236 :: v237 :: v238 :: v239 :: v240 :: v241 :: v242 :: v243 :: v244 :: v245 :: v246 :: v247 :: v248 :: v249 :: v250 :: v251 :: v252 :: v253 :: v254 :: v255 :: v256 :: v257 :: v258 :: v259 :: v260 :: v261 :: v262 :: v263 :: v264 :: v265 :: v266 :: v267 :: v268 :: v269 :: v270 :: v271 :: v272 :: v273 :: v274 :: v275 :: v276 :: v277 :: v278 :: v279 :: v280 :: v281 :: v282 :: v283 :: v284 :: v285 :: v286 :: v287 :: v288 :: v289 :: v290 :: v291 :: v292 :: v293 :: v294 :: v295 :: v296 :: v297 :: v298 :: v299 :: v300 :: v301 :: v302 :: v303 :: v304 :: v305 :: v306 :: v307 :: v308 :: v309 :: v310 :: v311 :: v312 :: v313 :: v314 :: v315 :: v316 :: v317 :: v318 :: v319 :: v320 :: v321 :: v322 :: v323 :: v324 :: v325 :: v326 :: v327 :: v328 :: v329 :: v330 :: v331 :: v332 :: v333 :: v334 :: v335 :: v336 :: v337 :: v338 :: v339 :: v340 :: v341 :: v342 :: v343 :: v344 :: v345 :: v346 :: v347 :: v348 :: v349 :: v350 :: v351 :: v352 :: v353 :: v354 :: v355 :: v356 :: v357 :: v358 :: v359 :: v360 :: v361 :: v362 :: v363 :: v364 :: v365 :: v366 :: v367 :: v368 :: v369 :: v370 :: v371 :: v372 :: v373 :: v374 :: v375 :: v376 :: v377 :: v378 :: v379 :: v380 :: v381 :: v382 :: v383 :: v384 :: v385 :: v386 :: v387 :: v388 :: v389 :: v390 :: v391 :: v392 :: v393 :: v394 :: v395 :: v396 :: v397 :: v398 :: v399 :: v400 :: v401 :: v402 :: v403 :: v404 :: v405 :: v406 :: v407 :: v408 :: v409 :: v410 :: v411 :: v412 :: v413 :: v414 :: v415 :: v416 :: v417 :: v418 :: v419 :: v420 :: v421 :: v422 :: v423 :: v424 :: v425 :: v426 :: v427 :: v428 :: v429 :: v430 :: v431 :: v432 :: v433 :: v434 :: v435 :: v436 :: v437 :: v438 :: v439 :: v440 :: v441 :: v442 :: v443 :: v444 :: v445 :: v446 :: v447 :: v448 :: v449 :: v450 :: v451 :: v452 :: v453 :: v454 :: v455 :: v456 :: v457 :: v458 :: bN :: bO :: bQ :: bR :: bS :: bT :: bU :: bV :: bW :: bX :: bY :: bZ :: c6 :: c7 :: c8 :: ca :: cb :: cd :: ce :: cf :: cg :: ci :: cj :: ck :: cm :: cn :: co :: cp :: cq :: cr :: cu :: cv :: cw :: cx :: cy :: cz :: cA :: .bool false :: Y :: Z :: a6 :: a7 :: a8 :: aa :: ab :: ac :: ae :: af :: ag :: ah :: ai :: aj :: ak :: al :: am :: an :: ap :: ar :: au :: av :: ax :: ay :: az :: aA :: aC :: aD :: aE :: aG :: aH :: aI :: aJ :: aK :: aM :: aN :: aQ :: aT :: aU :: aV :: aW :: aX :: aY :: aZ :: b3 :: b4 :: b5 :: []),[]⟩ W') :
    Code.wp Tryz.prog (regV 49) (Exit.then K Q) ⟨List.toArray (v0 :: v1 :: v2 :: v3 :: v4 :: .pointer (some ⟨gp,0,none⟩) :: v6 :: v7 :: v8 :: v9 :: .int .i64 count :: v11 :: v12 :: v13 :: v14 :: v15 :: v16 :: v17 :: v18 :: v19 :: v20 :: v21 :: v22 :: v23 :: v24 :: v25 :: .slice A3 needless.length c3 :: v27 :: v28 :: v29 :: .slice A5 left.length c5 :: v31 :: v32 :: v33 :: .int .i64 best :: v35 :: v36 :: v37 :: v38 :: v39 :: v40 :: v41 :: v42 :: v43 :: v44 :: v45 :: v46 :: v47 :: v48 :: v49 :: v50 :: .int .i64 (i:Int) :: v52 :: .bool true :: .int .i64 still :: .bool true :: v56 :: v57 :: v58 :: v59 :: v60 :: v61 :: v62 :: v63 :: v64 :: v65 :: v66 :: v67 :: v68 :: v69 :: v70 :: v71 :: v72 :: v73 :: v74 :: v75 :: v76 :: v77 :: v78 :: v79 :: v80 :: v81 :: v82 :: v83 :: v84 :: v85 :: v86 :: v87 :: v88 :: v89 :: v90 :: v91 :: v92 :: v93 :: v94 :: v95 :: v96 :: v97 :: v98 :: v99 :: v100 :: v101 :: v102 :: v103 :: v104 :: v105 :: v106 :: v107 :: v108 :: v109 :: v110 :: v111 :: v112 :: v113 :: v114 :: v115 :: v116 :: v117 :: v118 :: v119 :: v120 :: v121 :: v122 :: v123 :: v124 :: v125 :: v126 :: v127 :: v128 :: v129 :: v130 :: v131 :: v132 :: v133 :: v134 :: v135 :: v136 :: v137 :: v138 :: v139 :: v140 :: v141 :: v142 :: v143 :: v144 :: v145 :: v146 :: v147 :: v148 :: v149 :: v150 :: v151 :: v152 :: v153 :: v154 :: v155 :: v156 :: v157 :: v158 :: v159 :: v160 :: v161 :: v162 :: v163 :: v164 :: v165 :: v166 :: v167 :: v168 :: v169 :: v170 :: v171 :: v172 :: v173 :: v174 :: v175 :: v176 :: v177 :: v178 :: v179 :: v180 :: v181 :: v182 :: v183 :: v184 :: v185 :: v186 :: v187 :: v188 :: v189 :: v190 :: v191 :: v192 :: v193 :: v194 :: v195 :: v196 :: v197 :: v198 :: v199 :: v200 :: v201 :: v202 :: v203 :: v204 :: v205 :: v206 :: v207 :: v208 :: v209 :: v210 :: v211 :: v212 :: v213 :: v214 :: v215 :: v216 :: v217 :: v218 :: v219 :: v220 :: v221 :: v222 :: v223 :: v224 :: v225 :: v226 :: v227 :: v228 :: v229 :: v230 :: v231 :: v232 :: v233 :: v234 :: v235 :: v236 :: v237 :: v238 :: v239 :: v240 :: v241 :: v242 :: v243 :: v244 :: v245 :: v246 :: v247 :: v248 :: v249 :: v250 :: v251 :: v252 :: v253 :: v254 :: v255 :: v256 :: v257 :: v258 :: v259 :: v260 :: v261 :: v262 :: v263 :: v264 :: v265 :: v266 :: v267 :: v268 :: v269 :: v270 :: v271 :: v272 :: v273 :: v274 :: v275 :: v276 :: v277 :: v278 :: v279 :: v280 :: v281 :: v282 :: v283 :: v284 :: v285 :: v286 :: v287 :: v288 :: v289 :: v290 :: v291 :: v292 :: v293 :: v294 :: v295 :: v296 :: v297 :: v298 :: v299 :: v300 :: v301 :: v302 :: v303 :: v304 :: v305 :: v306 :: v307 :: v308 :: v309 :: v310 :: v311 :: v312 :: v313 :: v314 :: v315 :: v316 :: v317 :: v318 :: v319 :: v320 :: v321 :: v322 :: v323 :: v324 :: v325 :: v326 :: v327 :: v328 :: v329 :: v330 :: v331 :: v332 :: v333 :: v334 :: v335 :: v336 :: v337 :: v338 :: v339 :: v340 :: v341 :: v342 :: v343 :: v344 :: v345 :: v346 :: v347 :: v348 :: v349 :: v350 :: v351 :: v352 :: v353 :: v354 :: v355 :: v356 :: v357 :: v358 :: v359 :: v360 :: v361 :: v362 :: v363 :: v364 :: v365 :: v366 :: v367 :: v368 :: v369 :: v370 :: v371 :: v372 :: v373 :: v374 :: v375 :: v376 :: v377 :: v378 :: v379 :: v380 :: v381 :: v382 :: v383 :: v384 :: v385 :: v386 :: v387 :: v388 :: v389 :: v390 :: v391 :: v392 :: v393 :: v394 :: v395 :: v396 :: v397 :: v398 :: v399 :: v400 :: v401 :: v402 :: v403 :: v404 :: v405 :: v406 :: v407 :: v408 :: v409 :: v410 :: v411 :: v412 :: v413 :: v414 :: v415 :: v416 :: v417 :: v418 :: v419 :: v420 :: v421 :: v422 :: v423 :: v424 :: v425 :: v426 :: v427 :: v428 :: v429 :: v430 :: v431 :: v432 :: v433 :: v434 :: v435 :: v436 :: v437 :: v438 :: v439 :: v440 :: v441 :: v442 :: v443 :: v444 :: v445 :: v446 :: v447 :: v448 :: v449 :: v450 :: v451 :: v452 :: v453 :: v454 :: v455 :: v456 :: v457 :: v458 :: v459 :: v460 :: v461 :: v462 :: v463 :: b6 :: b7 :: b8 :: b9 :: ba :: bb :: bc :: bd :: be :: bf :: bg :: bh :: bi :: bj :: bk :: bl :: bm :: bn :: bo :: bp :: bq :: br :: bu :: bv :: bw :: bz :: bC :: bD :: bF :: bH :: bJ :: bL :: bM :: Y :: Z :: a6 :: a7 :: a8 :: aa :: ab :: ac :: ae :: af :: ag :: ah :: ai :: aj :: ak :: al :: am :: an :: ap :: ar :: au :: av :: ax :: ay :: az :: aA :: aC :: aD :: aE :: aG :: aH :: aI :: aJ :: aK :: aM :: aN :: aQ :: aT :: aU :: aV :: aW :: aX :: aY :: aZ :: b3 :: b4 :: b5 :: []),[]⟩ W:=by
  have cF:=Tryz.underlying28
  have cG:=Tryz.underlying25
  have cH:=Tryz.underlying48
  have cJ:=Tryz.underlying26
  have cK:=Tryz.underlying30
  have cL:=Tryz.underlying39
  have hbb : ∀ b:Bool,(b != b)=false:=fun b=>by cases b <;> rfl
  have S:=amk (Mg_below hm (bd_ (Below.refl _ _)))
  have p0:0≤((i:Nat):Int):=Int.natCast_nonneg i
  have p1:((i:Nat):Int) < (left.length:Int):=by omega
  have p2:0≤((i:Nat):Int) + 1:=by omega
  have p3:((i:Nat):Int) + 1 < (left.length:Int):=by omega
  obtain ⟨J,e5,_⟩:=Kd.at_int (rI S.out r5) (i:Int) p0 p1;cases e5
  have HP:=amk hp;have R3:=amk r3;have I3:=amk i3;have R5:=amk r5;have E1:=amk e1;clear hp r3 i3 r5 e1;clear hm
  have hc : ∀ W',Mg w bs rs W'→(W'.cell? ⟨gp,2,none⟩=some (.slice A L.length c)∧W'.cell? ⟨J.block,J.off + (i + 1),none⟩=some (.int .i64 (rd left ((i:Int) + 1)))∧W'.cell? (J.add i)=some (.int .i64 (rd left (i:Nat)))):=by
    intro W' h
    obtain ⟨a1,q1,y1⟩:=Kd.at_int (rI h R5.out) ((i:Int) + 1) p2 p3;cases q1
    obtain ⟨a2,q2,y2⟩:=Kd.at_int (rI h R5.out) (i:Int) p0 p1;cases q2
    rw [show ((i:Int) + 1).toNat=i + 1 by omega,show J.add (i + 1)=⟨J.block,J.off + (i + 1),none⟩ by unfold Addr.add;split <;> simp_all] at y1;rw [Int.toNat_natCast] at y2
    exact ⟨(gx3 h HP.out).2.2,y1,y2⟩
  have HCc:=amk hc;clear hc
  have cM:wrap64 ((i:Int) + 1)=(i:Int) + 1:=w64 (by omega) (by omega)
  have cN:((i:Int) + 1).toNat=i + 1:=by omega
  have dg:decide (rd left (i:Nat) < rd left ((i:Int) + 1))=false:=decide_eq_false (by omega)
  have cO:decide (rd left ((i:Int) + 1) > rd left (i:Nat))=false:=decide_eq_false (by omega)
  have d0:decide (best < 0)=false:=decide_eq_false (by omega)
  have d1:decide (best ≥ (L.length:Int))=false:=decide_eq_false (by omega)
  have d2:decide ((L.length:Int)≤best)=false:=decide_eq_false (by omega)
  have n0:(i < left.length)=True:=eq_true (by omega)
  have n1:(i + 1 < left.length)=True:=eq_true (by omega)
  replace p0:=eq_true p0;replace p1:=eq_true p1;replace p2:=eq_true p2;replace p3:=eq_true p3
  clear hi h6 f5 cC cE hle
  conv=>arg 2;whnf
  refine start_ (n:=38) (S:=fun w'=>w'.cell? ⟨gp,2,none⟩=some (.slice A L.length c)∧w'.cell? ⟨J.block,J.off + (i + 1),none⟩=some (.int .i64 (rd left ((i:Int) + 1)))∧w'.cell? (J.add i)=some (.int .i64 (rd left (i:Nat)))) (ds:=[]) (bA 38 0) (by kernel_rfl) rfl (by kernel_rfl) (HCc.out _ S.out) (fun hHeld=>?_);refine with_tabW laws_FnCodesGuessed.tab49 laws_FnCodesGuessed.bits49 (fun HT_ HW_=>?_)
  generalize World.drew _=W at S hHeld ⊢
  refine pV_ HT_ 0 (some 459) (bP 38 1) ?_
  refine pV_ HT_ 1 (some 460) (bP 38 2) ?_
  refine pV_ HT_ 2 (some 461) (bP 38 3) ?_
  refine pV_ HT_ 3 (some 462) (bP 38 4) ?_
  refine pV_ HT_ 4 (some 463) (bP 38 5) ?_
  refine pV_ HT_ 5 (some 464) (bP 38 6) ?_
  refine pV_ HT_ 6 (some 465) (bP 38 7) ?_
  refine pV_ HT_ 7 (some 466) (bP 38 8) ?_
  refine pV_ HT_ 8 (some 467) (bP 38 9) ?_
  refine pV_ HT_ 10 (some 469) (bA 38 1535) ?_
  refine pV_ HT_ 11 (some 470) (bA 38 3583) ?_
  refine pV_ HT_ 12 (some 471) (bA 38 7679) ?_
  refine oN_ HT_ 9 (some 468) (bP 38 13) (fun K hK=>?_);refine gs_ Tryz.func32 #[.slice A3 needless.length c3, .int .i64 (i:Int)] ?_;refine Calls.mono (laws_eHas.calls k _ _ needless (i:Int) (still == count) _ (rI S.out R3.out) I3.out E1.out) ?_;rintro e wx ⟨rfl,hb⟩;refine ⟨_,rfl,?_⟩;have hb:=hb.below;have nS:=amk (Mg_below S.out hb);clear S;have S:=nS;clear nS hb;
  refine hK.out _ _ (HCc.out _ S.out) (fun hHeld=>?_);clear hK K;refine nN_ (some 468) ?_
  refine pV_ HT_ 13 (some 472) (bP 38 14) ?_
  refine pV_ HT_ 14 (some 473) (bP 38 15) ?_
  refine pV_ HT_ 15 (some 474) (bP 38 16) ?_
  refine pV_ HT_ 16 (some 475) (bP 38 17) ?_
  refine pV_ HT_ 17 (some 476) (bP 38 18) ?_
  refine pV_ HT_ 18 (some 477) (bP 38 19) ?_
  refine pV_ HT_ 19 (some 478) (bP 38 20) ?_
  refine tV_ HT_ HW_ hHeld 20 (some 479) (bP 38 21) ?_
  refine pV_ HT_ 21 (some 480) (bP 38 22) ?_
  refine pV_ HT_ 22 (some 481) (bP 38 23) ?_
  refine pV_ HT_ 23 (some 482) (bP 38 24) ?_
  refine tV_ HT_ HW_ hHeld 24 (some 483) (bP 38 25) ?_
  refine pV_ HT_ 25 (some 484) (bP 38 26) ?_
  refine pV_ HT_ 26 (some 485) (bP 38 27) ?_
  refine pV_ HT_ 27 (some 486) (bP 38 28) ?_
  refine pV_ HT_ 28 (some 487) (bP 38 29) ?_
  refine pV_ HT_ 29 (some 488) (bP 38 30) ?_
  refine pV_ HT_ 30 (some 489) (bP 38 31) ?_
  refine pV_ HT_ 31 (some 490) (bP 38 32) ?_
  refine pV_ HT_ 32 (some 491) (bP 38 33) ?_
  refine pV_ HT_ 33 (some 492) (bP 38 34) ?_
  refine tV_ HT_ HW_ hHeld 34 (some 493) (bP 38 35) ?_
  refine pV_ HT_ 35 (some 494) (bP 38 36) ?_
  refine pV_ HT_ 36 (some 495) (bP 38 37) ?_
  refine pV_ HT_ 37 (some 496) (bP 38 38) ?_
  refine done_ (done_of HT_.out (by kernel_rfl)) ?_;exact hrest _ S.out
/-! laws.FnCodesGuessedOfAll, a part of its walk: printed by gengu.py. -/
set_option maxHeartbeats 16000000 in
set_option maxRecDepth 100000 in
theorem KVD {w:World} {v0 v1 v2 v3 v4 v7 v8 v9 v11 v12 v13 v16 v17 v19 v20 v21 v23 v24 v25 v27 v28 v29 v31 v32 v33 v35 v36 v37 v39 v40 v41 v42 v43 v44 v45 v46 v47 v48 v49 v50 v51 v52 v53 v54 v55 v56 v57 v58 v59 v60 v61 v62 v63 v64 v65 v66 v67 v68 v69 v70 v71 v72 v73 v74 v75 v76 v77 v78 v79 v80 v81 v82 v83 v84 v85 v86 v87 v88 v89 v90 v91 v92 v93 v94 v95 v96 v97 v98 v99 v100 v101 v102 v103 v104 v105 v106 v107 v108 v109 v110 v111 v112 v113 v114 v115 v116 v117 v118 v119 v120 v121 v122 v123 v124 v125 v126 v127 v128 v129 v130 v131 v132 v133 v134 v135 v136 v137 v138 v139 v140 v141 v142 v143 v144 v145 v146 v147 v148 v149 v150 v151 v152 v153 v154 v155 v156 v157 v158 v159 v160 v161 v162 v163 v164 v165 v166 v167 v168 v169 v170 v171 v172 v173 v174 v175 v176 v177 v178 v179 v180 v181 v182 v183 v184 v185 v186 v187 v188 v189 v190 v191 v192 v193 v194 v195 v196 v197 v198 v199 v200 v201 v202 v203 v204 v205 v206 v207 v208 v209 v210 v211 v212 v213 v214 v215 v216 v217 v218 v219 v220 v221 v222 v223 v224 v225 v226 v227 v228 v229 v230 v231 v232 v233 v234 v235 v236 v237 v238 v239 v240 v241 v242 v243 v244 v245 v246 v247 v248 v249 v250 v251 v252 v253 v254 v255 v256 v257 v258 v259 v260 v261 v262 v263 v264 v265 v266 v267 v268 v269 v270 v271 v272 v273 v274 v275 v276 v277 v278 v279 v280 v281 v282 v283 v284 v285 v286 v287 v288 v289 v290 v291 v292 v293 v294 v295 v296 v297 v298 v299 v300 v301 v302 v303 v304 v305 v306 v307 v308 v309 v310 v311 v312 v313 v315 v316 v317 v318 v319 v320 v321 v322 v323 v324 v325 v326 v327 v328 v329 v330 v331 v332 v333 v334 v335 v336 v337 v338 v339 v340 v341 v342 v343 v344 v345 v346 v347 v348 v349 v350 v351 v352 v353 v354 v355 v356 v357 v358 v359 v360 v361 v362 v363 v364 v365 v366 v367 v368 v369 v370 v371 v372 v373 v374 v375 v376 v377 v378 v379 v380 v381 v382 v383 v384 v385 v386 v387 v388 v389 v390 v391 v392 v393 v394 v395 v396 v397 v398 v399 v400 v401 v402 v403 v404 v405 v406 v407 v408 v409 v410 v411 v412 v413 v414 v415 v416 v417 v418 v419 v420 v421 v422 v423 v424 v425 v426 v427 v428 v429 v430 v431 v432 v433 v434 v435 v436 v437 v438 v439 v440 v441 v442 v443 v444 v445 v446 v447 v448 v449 v450 v451 v452 v453 v454 v455 v456 v457 v458 v459 v460 v461 v462 v463 dz dA dB dC dD dE dF dG dH dI dJ dK dL dM dN dO dP dQ dR dS dT dU dV dW dX dY dZ e3 e4 e5 e8 e9 ea eb ec ed ee ef eg eh ei ej ek em en eo ep J Y Z a1 a6 a7 a8 aa ab ac ae af ag ah ai aj ak al am an ap ar au av ax ay az aA aC aD aE aG aH:Value} (K:Act→World→Prop) (Q:Exit→Act→World→Prop) (hQ : ∀ c t t' d w',Q (.panic c) ⟨t,d⟩ w'→Q (.panic c) ⟨t',d⟩ w')
    (k:Nat) (P D:Int) (L:List S48) (A:Option Addr) (c:Nat) (gp:Nat) (all:List ByteArray) (needless left:List Int) (A1 A3 A5:Option Addr) (c1 c3 c5:Nat) (th solved:Bool) (count total best:Int) (first sure text:ByteArray) (bs:List (Nat×Obj)) (rs:List Rw) (ok:Bool) (W:World)
    (hm:Mg w bs rs W) (hp:(gp,pzG P D A L.length c)∈bs) (re:rwE∈rs) (r0:rwC A L∈rs) (i0:L.length≤c) (r1:rwS A1 all∈rs) (i1:all.length≤c1) (r3:rwI A3 needless∈rs) (i3:needless.length≤c3) (r5:rwI A5 left∈rs)
    (h3:ok=true→th=decide (count > 0)) (ht:ok=true→impl_CountCodes.f k P D=some (total,true)∧(all.length:Int)=count∧all.length≤1000∧L.length≤6∧0≤P∧P≤6∧(th=true→first=rdOf ByteArray.empty all 0∧sure.size=P.toNat)∧solved=(count == 1)∧left.length=L.length + 1∧rd left 0=total∧rd left L.length=count∧(solved=true→sure=first)∧laws_eSorted.f k all=some true∧(∀ j (hj:j < all.length),all[j].size=P.toNat∧(∀ i < all[j].size,bt all[j] (i:Nat) < 128∧(bt sure (i:Nat)=63∨bt sure (i:Nat)=bt all[j] (i:Nat)))∧∀ c∈L,impl_DoesFit.f k P D c.f0 c.f1 c.f2 all[j]=some (true,true))∧(∀ i < L.length,impl_DropClue.f P D L (i:Nat)=some (P,D,L.eraseIdx i,true)∧0≤best∧best < L.length∧rd left ((i:Int) + 1)≤rd left (i:Nat)∧∃ still,impl_CountSolutions.f k P D (L.eraseIdx i)=some (still,true)∧laws_eHas.f k needless (i:Nat)=some (still == count))∧impl_ParsePuzzle.f k text=some (P,D,L,true)∧laws_ePuzzle.f k P D L P D L=some true)
    (hrest : ∀ {u4 gi gk gl gm gn gq gr gu gv gw gx gy gz gA gB gC er eu aI aJ aK aM aN aQ aT aU aV aW aX aY aZ ba bb bc bd be bf bg bh bi bj bk bl bm bn bo bp bq br bu bv bw bz bC bD bF bH bJ bL bM bN bO bQ bR bS bT bU bV bW bX bY bZ c6 c7 c8 ca cb cd ce cf cg ci cj ck cm cn co cp cq cr cu ew ey ez eA eB eC eD eE eF eG eH eI eJ eK eL eM eN eO eP eQ eR eS eT eU eV eW eX eY eZ fa fb fc fe ff cv cw cy cz cA cC cE cF cG cH cJ cK fg fh fi fj fo fp fq ft fu fv fw fx fy fz fA fB fC fD fE cL cM cN cO cP cQ cS cT cV cW cX cY cZ d5 d6 d7 d8 d9 da db dc de df dh di dj dl dm dn dp dq dr dt du dv dw dx fF fG fH fI fJ fK fL fM fN fO fP fQ fR fS fT fU fV fW fX:Value} (W':World),Mg w bs rs W'→K ⟨List.toArray (v0 :: v1 :: v2 :: v3 :: u4 :: .pointer (some ⟨gp,0,none⟩) :: .slice A1 all.length c1 :: v7 :: v8 :: v9 :: .int .i64 count :: v11 :: v12 :: v13 :: .string first :: .bool th :: v16 :: v17 :: .string sure :: v19 :: v20 :: v21 :: .bool solved :: v23 :: v24 :: v25 :: .slice A3 needless.length c3 :: v27 :: v28 :: v29 :: .slice A5 left.length c5 :: v31 :: v32 :: v33 :: .int .i64 best :: v35 :: v36 :: v37 :: .string text :: v39 :: v40 :: v41 :: gi :: gk :: gl :: gm :: gn :: gq :: gr :: gu :: gv :: gw :: gx :: gy :: gz :: gA :: gB :: gC :: v58 :: v59 :: v60 :: v61 :: v62 :: v63 :: v64 :: v65 :: v66 :: v67 :: v68 :: v69 :: v70 :: v71 :: v72 :: v73 :: v74 :: v75 :: v76 :: v77 :: v78 :: v79 :: v80 :: v81 :: v82 :: v83 :: v84 :: v85 :: v86 :: v87 :: v88 :: v89 :: v90 :: v91 :: v92 :: v93 :: v94 :: v95 :: v96 :: v97 :: v98 :: v99 :: v100 :: v101 :: v102 :: v103 :: v104 :: v105 :: v106 :: v107 :: v108 :: v109 :: v110 :: v111 :: v112 :: v113 :: v114 :: v115 :: v116 :: v117 :: v118 :: v119 :: v120 :: v121 :: v122 :: v123 :: v124 :: v125 :: v126 :: v127 :: v128 :: v129 :: v130 :: v131 :: v132 :: v133 :: v134 :: v135 :: v136 :: v137 :: v138 :: v139 :: v140 :: v141 :: v142 :: v143 :: v144 :: v145 :: v146 :: v147 :: v148 :: v149 :: v150 :: v151 :: v152 :: v153 :: v154 :: v155 :: v156 :: v157 :: v158 :: v159 :: v160 :: v161 :: v162 :: v163 :: v164 :: v165 :: v166 :: v167 :: v168 :: v169 :: v170 :: v171 :: v172 :: v173 :: v174 :: v175 :: v176 :: v177 :: v178 :: v179 :: v180 :: v181 :: v182 :: v183 :: v184 :: v185 :: v186 :: v187 :: v188 :: v189 :: v190 :: v191 :: v192 :: v193 :: v194 :: v195 :: v196 :: v197 :: v198 :: v199 :: v200 :: v201 :: v202 :: v203 :: v204 :: v205 :: v206 :: v207 :: v208 :: v209 :: v210 :: v211 :: v212 :: v213 :: v214 :: v215 :: v216 :: v217 :: v218 :: v219 :: v220 :: v221 :: v222 :: v223 :: v224 :: v225 :: v226 :: v227 :: v228 :: v229 :: v230 :: v231 :: v232 :: v233 :: v234 :: v235 :: v236 :: v237 :: v238 :: v239 :: v240 :: v241 :: v242 :: v243 :: v244 :: v245 :: v246 :: v247 :: v248 :: v249 :: v250 :: v251 :: v252 :: v253 :: v254 :: v255 :: v256 :: v257 :: v258 :: v259 :: v260 :: v261 :: v262 :: v263 :: v264 :: v265 :: v266 :: v267 :: v268 :: v269 :: v270 :: v271 :: v272 :: v273 :: v274 :: v275 :: v276 :: v277 :: v278 :: v279 :: v280 :: v281 :: v282 :: v283 :: v284 :: v285 :: v286 :: v287 :: v288 :: v289 :: v290 :: v291 :: v292 :: v293 :: v294 :: v295 :: v296 :: v297 :: v298 :: v299 :: v300 :: v301 :: v302 :: v303 :: v304 :: v305 :: v306 :: v307 :: v308 :: v309 :: v310 :: v311 :: v312 :: v313 :: .bool ok :: er :: eu :: aI :: aJ :: aK :: aM :: aN :: aQ :: aT :: aU :: aV :: aW :: aX :: aY :: aZ :: ba :: bb :: bc :: bd :: be :: bf :: bg :: bh :: bi :: bj :: bk :: bl :: bm :: bn :: bo :: bp :: bq :: br :: bu :: bv :: bw :: bz :: bC :: bD :: bF :: bH :: bJ :: bL :: bM :: bN :: bO :: bQ :: bR :: bS :: bT :: bU :: bV :: bW :: bX :: bY :: bZ :: c6 :: c7 :: c8 :: ca :: cb :: cd :: ce :: cf :: cg :: ci :: cj :: ck :: cm :: cn :: co :: cp :: cq :: cr :: cu :: ew :: ey :: ez :: eA :: eB :: eC :: eD :: eE :: eF :: eG :: eH :: eI :: eJ :: eK :: eL :: eM :: eN :: eO :: eP :: eQ :: eR :: eS :: eT :: eU :: eV :: eW :: eX :: eY :: eZ :: fa :: fb :: fc :: fe :: ff :: cv :: cw :: cy :: cz :: cA :: cC :: cE :: cF :: cG :: cH :: cJ :: cK :: fg :: fh :: fi :: fj :: fo :: fp :: fq :: ft :: fu :: fv :: fw :: fx :: fy :: fz :: fA :: fB :: fC :: fD :: fE :: cL :: cM :: cN :: cO :: cP :: cQ :: cS :: cT :: cV :: cW :: cX :: cY :: cZ :: d5 :: d6 :: d7 :: d8 :: d9 :: da :: db :: dc :: de :: df :: dh :: di :: dj :: dl :: dm :: dn :: dp :: dq :: dr :: dt :: du :: dv :: dw :: dx :: fF :: fG :: fH :: fI :: fJ :: fK :: fL :: fM :: fN :: fO :: fP :: fQ :: fR :: fS :: fT :: fU :: fV :: fW :: fX :: J :: Y :: Z :: a1 :: a6 :: a7 :: a8 :: aa :: ab :: ac :: ae :: af :: ag :: ah :: ai :: aj :: ak :: al :: am :: an :: ap :: ar :: au :: av :: ax :: ay :: az :: aA :: aC :: aD :: aE :: aG :: aH :: []),[]⟩ W') :
    Code.wp Tryz.prog (condV 314) (Exit.then K Q) ⟨List.toArray (v0 :: v1 :: v2 :: v3 :: v4 :: .pointer (some ⟨gp,0,none⟩) :: .slice A1 all.length c1 :: v7 :: v8 :: v9 :: .int .i64 count :: v11 :: v12 :: v13 :: .string first :: .bool th :: v16 :: v17 :: .string sure :: v19 :: v20 :: v21 :: .bool solved :: v23 :: v24 :: v25 :: .slice A3 needless.length c3 :: v27 :: v28 :: v29 :: .slice A5 left.length c5 :: v31 :: v32 :: v33 :: .int .i64 best :: v35 :: v36 :: v37 :: .string text :: v39 :: v40 :: v41 :: v42 :: v43 :: v44 :: v45 :: v46 :: v47 :: v48 :: v49 :: v50 :: v51 :: v52 :: v53 :: v54 :: v55 :: v56 :: v57 :: v58 :: v59 :: v60 :: v61 :: v62 :: v63 :: v64 :: v65 :: v66 :: v67 :: v68 :: v69 :: v70 :: v71 :: v72 :: v73 :: v74 :: v75 :: v76 :: v77 :: v78 :: v79 :: v80 :: v81 :: v82 :: v83 :: v84 :: v85 :: v86 :: v87 :: v88 :: v89 :: v90 :: v91 :: v92 :: v93 :: v94 :: v95 :: v96 :: v97 :: v98 :: v99 :: v100 :: v101 :: v102 :: v103 :: v104 :: v105 :: v106 :: v107 :: v108 :: v109 :: v110 :: v111 :: v112 :: v113 :: v114 :: v115 :: v116 :: v117 :: v118 :: v119 :: v120 :: v121 :: v122 :: v123 :: v124 :: v125 :: v126 :: v127 :: v128 :: v129 :: v130 :: v131 :: v132 :: v133 :: v134 :: v135 :: v136 :: v137 :: v138 :: v139 :: v140 :: v141 :: v142 :: v143 :: v144 :: v145 :: v146 :: v147 :: v148 :: v149 :: v150 :: v151 :: v152 :: v153 :: v154 :: v155 :: v156 :: v157 :: v158 :: v159 :: v160 :: v161 :: v162 :: v163 :: v164 :: v165 :: v166 :: v167 :: v168 :: v169 :: v170 :: v171 :: v172 :: v173 :: v174 :: v175 :: v176 :: v177 :: v178 :: v179 :: v180 :: v181 :: v182 :: v183 :: v184 :: v185 :: v186 :: v187 :: v188 :: v189 :: v190 :: v191 :: v192 :: v193 :: v194 :: v195 :: v196 :: v197 :: v198 :: v199 :: v200 :: v201 :: v202 :: v203 :: v204 :: v205 :: v206 :: v207 :: v208 :: v209 :: v210 :: v211 :: v212 :: v213 :: v214 :: v215 :: v216 :: v217 :: v218 :: v219 :: v220 :: v221 :: v222 :: v223 :: v224 :: v225 :: v226 :: v227 :: v228 :: v229 :: v230 :: v231 :: v232 :: v233 :: v234 :: v235 :: v236 :: v237 :: v238 :: v239 :: v240 :: v241 :: v242 :: v243 :: v244 :: v245 :: v246 :: v247 :: v248 :: v249 :: v250 :: v251 :: v252 :: v253 :: v254 :: v255 :: v256 :: v257 :: v258 :: v259 :: v260 :: v261 :: v262 :: v263 :: v264 :: v265 :: v266 :: v267 :: v268 :: v269 :: v270 :: v271 :: v272 :: v273 :: v274 :: v275 :: v276 :: v277 :: v278 :: v279 :: v280 :: v281 :: v282 :: v283 :: v284 :: v285 :: v286 :: v287 :: v288 :: v289 :: v290 :: v291 :: v292 :: v293 :: v294 :: v295 :: v296 :: v297 :: v298 :: v299 :: v300 :: v301 :: v302 :: v303 :: v304 :: v305 :: v306 :: v307 :: v308 :: v309 :: v310 :: v311 :: v312 :: v313 :: .bool ok :: v315 :: v316 :: v317 :: v318 :: v319 :: v320 :: v321 :: v322 :: v323 :: v324 :: v325 :: v326 :: v327 :: v328 :: v329 :: v330 :: v331 :: v332 :: v333 :: v334 :: v335 :: v336 :: v337 :: v338 :: v339 :: v340 :: v341 :: v342 :: v343 :: v344 :: v345 :: v346 :: v347 :: v348 :: v349 :: v350 :: v351 :: v352 :: v353 :: v354 :: v355 :: v356 :: v357 :: v358 :: v359 :: v360 :: v361 :: v362 :: v363 :: v364 :: v365 :: v366 :: v367 :: v368 :: v369 :: v370 :: v371 :: v372 :: v373 :: v374 :: v375 :: v376 :: v377 :: v378 :: v379 :: v380 :: v381 :: v382 :: v383 :: v384 :: v385 :: v386 :: v387 :: v388 :: v389 :: v390 :: v391 :: v392 :: v393 :: v394 :: v395 :: v396 :: v397 :: v398 :: v399 :: v400 :: v401 :: v402 :: v403 :: v404 :: v405 :: v406 :: v407 :: v408 :: v409 :: v410 :: v411 :: v412 :: v413 :: v414 :: v415 :: v416 :: v417 :: v418 :: v419 :: v420 :: v421 :: v422 :: v423 :: v424 :: v425 :: v426 :: v427 :: v428 :: v429 :: v430 :: v431 :: v432 :: v433 :: v434 :: v435 :: v436 :: v437 :: v438 :: v439 :: v440 :: v441 :: v442 :: v443 :: v444 :: v445 :: v446 :: v447 :: v448 :: v449 :: v450 :: v451 :: v452 :: v453 :: v454 :: v455 :: v456 :: v457 :: v458 :: v459 :: v460 :: v461 :: v462 :: v463 :: dz :: dA :: dB :: dC :: dD :: dE :: dF :: dG :: dH :: dI :: dJ :: dK :: dL :: dM :: dN :: dO :: dP :: dQ :: dR :: dS :: dT :: dU :: dV :: dW :: dX :: dY :: dZ :: e3 :: e4 :: e5 :: e8 :: e9 :: ea :: eb :: ec :: ed :: ee :: ef :: eg :: eh :: ei :: ej :: ek :: em :: en :: eo :: ep :: J :: Y :: Z :: a1 :: a6 :: a7 :: a8 :: aa :: ab :: ac :: ae :: af :: ag :: ah :: ai :: aj :: ak :: al :: am :: an :: ap :: ar :: au :: av :: ax :: ay :: az :: aA :: aC :: aD :: aE :: aG :: aH :: []),[]⟩ W:=by
  have gD:=Tryz.underlying28
  have gE:=Tryz.underlying25
  have gF:=Tryz.underlying48
  have gG:=Tryz.underlying26
  have gH:=Tryz.underlying30
  have gI:=Tryz.underlying39
  have gJ:=Tryz.underlying9
  have hbb : ∀ b:Bool,(b != b)=false:=fun b=>by cases b <;> rfl
  have hii : ∀ x:Int,(x != x)=false:=fun x=>by simp
  have hss : ∀ x:ByteArray,(x.toList != x.toList)=false:=fun x=>by simp
  have hst : ∀ x:ByteArray,(x.toList == x.toList)=true:=fun x=>by simp
  have S:=amk hm;clear hm;have HP:=amk hp;have RE:=amk re;have R0:=amk r0;have I0:=amk i0;have R1:=amk r1;have I1:=amk i1;have R3:=amk r3;have I3:=amk i3;have R5:=amk r5;clear hp re r0 i0 r1 i1 r3 i3 r5
  conv=>arg 2;whnf
  cases ok with
  | false=>go_wp2;exact S.out
  | true =>
    have h3x:=h3 rfl;clear h3
    obtain ⟨e1,f1,n1,n2,n3,n4,f3,f4,f5,f7,f8,f9,e2,GA,GL,e6,e7⟩:=ht rfl;clear ht
    have G1:=amk f1;have N1:=amk n1;have N2:=amk n2;have F5:=amk f5;have E1:=amk e1;have HGA:=amk GA;have HGL:=amk GL;have E6:=amk e6;have E7:=amk e7;have gK:=amk n4;clear e1 GA GL e6 e7 n1 n4
    have B5:=amk (And.intro n3 (And.intro f1 (And.intro h3x (And.intro f3 (And.intro f4 (And.intro f5 (And.intro n2 (And.intro f7 (And.intro f8 (And.intro f9 e2))))))))));clear n2 n3 f1 f3 f4 f5 f7 f8 f9 e2 h3x
    obtain ⟨q0,q1,q2⟩:=gx3 S.out HP.out
    go_upto_region 26 with (go_at_call 28;refine Calls.mono (impl_CountCodes.calls k P D total true _ E1.out) ?_;rintro e wx ⟨rfl,hb⟩;have nS:=amk (Mg_below S.out hb);clear S;have S:=nS;clear nS hb;clear q0 q1 q2)
    obtain ⟨b1,b2,b3,b4,b5,b6,b7,b8,b9,fY,fZ⟩:=B5.out
    refine KVB _ _ ?hq k P D L A c gp all left A1 A5 c1 c5 th solved count total first sure bs rs _ S.out HP.out R1.out I1.out R5.out b1 b2 b3 b4 b5 b6 b7 b8 b9 fY fZ (fun {aI aJ aK aM aN aQ aT aU aV aW aX aY aZ ba bb bc bd be bf bg bh bi bj bk bl bm bn bo bp bq br bu bv bw bz bC bD bF bH bJ bL bM bN bO bQ bR bS bT bU bV bW bX bY bZ c6 c7 c8 ca cb cd ce cf cg ci cj ck cm cn co cp cq cr cu} W1 s1=>?_)
    case hq=>intro c t t2 d w2 h;exact hQ c _ _ d w2 h
    have HZ:=amk (show 0 < all.length→sure.size=P.toNat from fun h=>(b4 (by rw [b3];exact decide_eq_true (by omega))).2)
    clear b1 b2 b3 b4 b5 b6 b7 b8 b9 fY fZ B5 S E1;have S:=amk s1;clear s1
    obtain ⟨q0,q1,q2⟩:=gx3 S.out HP.out
    go_wp2
    clear q0 q1 q2
    go_loopg [397] all.length (fun gg v393 W=> ∃ j:Nat,v393 = .int .i64 (j:Int)∧Aside0 (j≤all.length∧all.length≤j + gg)∧Aside0 (Mg w bs rs W))
    case atStart=>exact ⟨0,rfl,⟨⟨Nat.zero_le _,Nat.le_of_eq (Nat.zero_add _).symm⟩⟩,S⟩
    case round =>
      clear S;obtain ⟨j,rfl,HJ,S⟩:=hrel
      by_cases hj:j < all.length
      · have p1:0≤(j:Int):=Int.natCast_nonneg j
        have p2:(j:Int) < (all.length:Int):=Int.ofNat_lt.mpr hj
        obtain ⟨ad,e0,dy⟩:=Kd.at_string (rS S.out R1.out) (j:Int) p1 p2
        rw [rd_str hj,Int.toNat_natCast] at dy
        cases e0
        have d1:decide ((j:Int) < (all.length:Int))=true:=decide_eq_true p2
        have d1b:(j < all.length)=True:=eq_true hj
        have hwj:wrap64 ((j:Int) + 1)=((j + 1:Nat):Int):=wr_g hj (Nat.le_trans N1.out (by decide))
        have LJ:=amk hj
        obtain ⟨z1,z2,z3⟩:=HGA.out j hj
        have Z1:=amk z1;have Z2:=amk z2;have Z3:=amk z3;clear z1 z2 z3
        generalize all[j]=s at dy Z1 Z2 Z3
        replace p1:=eq_true p1;replace p2:=eq_true p2
        obtain ⟨q0,q1,q2⟩:=gx3 S.out HP.out
        go_wp2
        clear p1 p2 d1 dy q0 q1 q2 d1b
        go_loopg [404] L.length (fun gg v400 W=> ∃ i:Nat,v400 = .int .i64 (i:Int)∧Aside0 (i≤L.length∧L.length≤i + gg)∧Aside0 (Mg w bs rs W))
        case atStart=>exact ⟨0,rfl,⟨⟨Nat.zero_le _,Nat.le_of_eq (Nat.zero_add _).symm⟩⟩,S⟩
        case round =>
          clear S;obtain ⟨i,rfl,HI,S⟩:=hrel
          by_cases hi:i < L.length
          · have p1:0≤(i:Int):=Int.natCast_nonneg i
            have p2:(i:Int) < (L.length:Int):=Int.ofNat_lt.mpr hi
            obtain ⟨gL,e0,ga,gf,gh⟩:=at_T48 (rC S.out R0.out) (i:Int) p1 p2
            simp only [rd_clueN hi,Int.toNat_natCast] at ga gf gh
            cases e0
            have ET:=amk (Z3.out L[i] (List.getElem_mem hi))
            generalize L[i]=q at ga gf gh ET
            have d1:decide ((i:Int) < (L.length:Int))=true:=decide_eq_true p2
            have d1b:(i < L.length)=True:=eq_true hi
            have hwi:wrap64 ((i:Int) + 1)=((i + 1:Nat):Int):=wr_g hi (Nat.le_trans N2.out (by decide))
            have LI:=amk hi
            replace p1:=eq_true p1;replace p2:=eq_true p2
            have SB:=amk (Mg_box S.out (clG q.f0 q.f1 q.f2))
            obtain ⟨q0,q1,q2⟩:=gx3 SB.out (.tail _ HP.out);obtain ⟨z0,z1,z2⟩:=gx3 SB.out (.head _)
            go_wp2_with (go_at_call 30;refine Calls.mono (impl_DoesFit.calls k P D q.f0 q.f1 q.f2 s true true _ ET.out) ?_;rintro e wx ⟨rfl,hb⟩;have nS:=amk (Mg_pop (Mg_below SB.out hb));clear S;have S:=nS;clear nS hb;clear q0 q1 q2 z0 z1 z2 SB)
            go_roundg (L.length - (i + 1))
            case measure=>exact mg1 LI.out HI.out
            case rel=>exact ⟨i + 1,by rw [←hwi],⟨mg2 LI.out⟩,S⟩
          · have d1:decide ((i:Int) < (L.length:Int))=false:=decide_eq_false (fun h=>hi (Int.ofNat_lt.mp h))
            have d1b:(i < L.length)=False:=eq_false hi
            have SI:=amk (Mi_of S.out s)
            have HIT:=amk (show wr.heap.size=wr.heap.size from rfl)
            clear HI
            go_wp2
            generalize wr.heap.size=it at SI ⊢
            clear d1 d1b hi S HIT
            go_loopg [] s.size (fun gg W=> ∃ x:Nat,Aside0 (x≤s.size∧s.size≤x + gg)∧Aside0 (Mi w bs rs s x it W))
            case atStart=>exact ⟨0,⟨⟨Nat.zero_le _,Nat.le_of_eq (Nat.zero_add _).symm⟩⟩,SI⟩
            case round =>
              clear SI;obtain ⟨x,HX,SI⟩:=hrel
              by_cases hx:x < s.size
              · have hnx : ∀ ty,(Instr.next (.pointer (some ⟨it,0,none⟩)) true ty).run Tryz.prog wr = .ok (.tuple #[.bool true, .int .i64 (x:Nat), .int .i32 (bt s (x:Nat))]) (wr.iterAt it s (x + 1)):=by
                  intro ty
                  have:=Lib.run_next_ascii_at (P:=Tryz.prog) wr it s x ty (by obtain ⟨_,_,_,_,h⟩:=SI.out;exact h) hx (by have:=bt_nat hx;have:=(Z2.out x hx).1;omega)
                  rw [bt_nat hx] at this
                  exact this
                obtain ⟨_,y2⟩:=Z2.out x hx
                have SY:=amk (Mi_iter SI.out (x + 1));clear SI
                generalize wr.iterAt it s (x + 1)=W1 at hnx SY
                have LX:=amk hx
                have hz:x < sure.size:=by rw [HZ.out (Nat.lt_of_le_of_lt (Nat.zero_le _) LJ.out),←Z1.out];exact hx
                go_upto_region 41 with (fail)
                refine KVF _ _ ?hq x s sure (x + 1) it bs rs _ SY.out LX.out hz y2 (fun {cv cw cy cz cA cC cE cF cG cH cJ cK} W2 s2=>?_)
                case hq=>intro c t t2 d w2 h;exact hQ c _ _ d w2 h
                clear SY y2 hx hz;go_wp2
                go_roundg (s.size - (x + 1))
                case measure=>exact mg1 LX.out HX.out
                case rel=>exact ⟨x + 1,⟨mg2 LX.out⟩,⟨s2⟩⟩
              · have hnx : ∀ ty,(Instr.next (.pointer (some ⟨it,0,none⟩)) true ty).run Tryz.prog wr = .ok (.tuple #[.bool false]) wr:=fun ty=>Lib.run_next_end_at (P:=Tryz.prog) wr it s x ty (by obtain ⟨_,_,_,_,h⟩:=SI.out;exact h) hx
                have S:=amk (Mi_mg SI.out);clear SI
                go_wp2
                go_roundg (all.length - (j + 1))
                case measure=>exact mg1 LJ.out HJ.out
                case rel=>exact ⟨j + 1,by rw [←hwj],⟨mg2 LJ.out⟩,S⟩
      · have d1:decide ((j:Int) < (all.length:Int))=false:=decide_eq_false (fun h=>hj (Int.ofNat_lt.mp h))
        have d1b:(j < all.length)=False:=eq_false hj
        obtain ⟨q0,q1,q2⟩:=gx3 S.out HP.out
        clear HJ HGA
        go_wp2
        clear d1 d1b hj q0 q1 q2
        go_loopg [445] L.length (fun gg v441 W=> ∃ i:Nat,v441 = .int .i64 (i:Int)∧Aside0 (i≤L.length∧L.length≤i + gg)∧Aside0 (Mg w bs rs W))
        case atStart=>exact ⟨0,rfl,⟨⟨Nat.zero_le _,Nat.le_of_eq (Nat.zero_add _).symm⟩⟩,S⟩
        case round =>
          clear S;obtain ⟨i,rfl,HI,S⟩:=hrel
          by_cases hi:i < L.length
          · obtain ⟨y1,y2,y3,y4,still,y5,y6⟩:=HGL.out i hi
            have Y1:=amk y1;have Y5:=amk y5;have YY:=amk (And.intro y2 (And.intro y3 (And.intro y4 y6)));clear y1 y2 y3 y4 y5 y6
            have d1:decide ((i:Int) < (L.length:Int))=true:=decide_eq_true (Int.ofNat_lt.mpr hi)
            have d1b:(i < L.length)=True:=eq_true hi
            have hwi:wrap64 ((i:Int) + 1)=((i + 1:Nat):Int):=wr_g hi (Nat.le_trans N2.out (by decide))
            have LI:=amk hi;clear hi
            obtain ⟨q0,q1,q2⟩:=gx3 S.out HP.out
            go_wp2_with (go_at_call 31;refine Calls.mono (impl_DropClue.calls P D _ _ L (i:Int) P D (L.eraseIdx i) true _ (rC S.out R0.out) I0.out Y1.out) ?_;rintro e wx ⟨v,rfl,hs,hb⟩;obtain ⟨Ax,cx,rfl⟩:=Kd.R_slice hs;have IX:=amk (Kd.R_reads' hs).2.1;have nS:=amk (Mg_box (Mg_row (Mg_below S.out hb) (rwC Ax (L.eraseIdx i)) (Kd.R_reads' hs).2.2) (pzG P D Ax (L.eraseIdx i).length cx));clear S;have S:=nS;clear nS hs hb;clear q0 q1 q2;obtain ⟨z0,z1,z2⟩:=gx3 S.out (.head _))
            go_upto_region 49 with (go_at_call 8;refine Calls.mono (impl_CountSolutions.calls k P D _ _ (L.eraseIdx i) still true _ (rC S.out (.head _)) IX.out Y5.out) ?_;rintro e wx ⟨rfl,hb⟩;have nS:=amk (Mg_drop (Mg_below S.out hb));clear S;have S:=nS;clear nS hb;clear z0 z1 z2)
            refine KVG _ _ ?hq k P D L A c gp i needless left A3 A5 c3 c5 count best still bs rs _ S.out HP.out R3.out I3.out R5.out LI.out N2.out F5.out YY.out.1 YY.out.2.1 YY.out.2.2.1 YY.out.2.2.2 (fun {cL cM cN cO cP cQ cS cT cV cW cX cY cZ d5 d6 d7 d8 d9 da db dc de df dh di dj dl dm dn dp dq dr dt du dv dw dx} W2 s2=>?_)
            case hq=>intro c t t2 d w2 h;exact hQ c _ _ d w2 h
            clear S d1 d1b;have S:=amk s2;clear s2;go_wp2
            go_roundg (L.length - (i + 1))
            case measure=>exact mg1 LI.out HI.out
            case rel=>exact ⟨i + 1,by rw [←hwi],⟨mg2 LI.out⟩,S⟩
          · have d1:decide ((i:Int) < (L.length:Int))=false:=decide_eq_false (fun h=>hi (Int.ofNat_lt.mp h))
            have d1b:(i < L.length)=False:=eq_false hi
            clear HI HGL
            go_wp2_with (go_at_call 33;refine Calls.mono (impl_ParsePuzzle.calls k text P D L true _ (rE S.out RE.out) E6.out) ?_;rintro e wx ⟨v,rfl,hs,hb⟩;obtain ⟨Ax,cx,rfl⟩:=Kd.R_slice hs;have IX:=amk (Kd.R_reads' hs).2.1;have nS:=amk (Mg_box (Mg_row (Mg_below S.out hb) (rwC Ax L) (Kd.R_reads' hs).2.2) (pzG P D Ax L.length cx));clear S;have S:=nS;clear nS hs hb;obtain ⟨z0,z1,z2⟩:=gx3 S.out (.head _);obtain ⟨q0,q1,q2⟩:=gx3 S.out (.tail _ HP.out))
            go_wp2_with (go_at_call 34;refine Calls.mono (laws_ePuzzle.calls k P D _ _ L P D _ _ L true _ (rC S.out (.head _)) IX.out (rC S.out (.tail _ R0.out)) I0.out E7.out) ?_;rintro e wx ⟨rfl,hb⟩;have nS:=amk (Mg_drop (Mg_below S.out hb));clear S;have S:=nS;clear nS hb;clear z0 z1 z2 q0 q1 q2)
            exact S.out
/-! laws.FnCodesGuessed: the whole walk; each callee's value is told: printed by gengu.py. -/
set_option maxHeartbeats 16000000 in
set_option maxRecDepth 100000 in
theorem laws_FnCodesGuessed.walk (lA lB:List Int) (xA xB:Option Addr) (yA yB:Nat) (w:World) (hsA:BytesV lA) (hsB:BytesV lB) (hrA:Kd.C (Kd.int .u8) w xA lA.length lA) (hcA:lA.length≤yA) (hrB:Kd.C (Kd.int .u8) w xB lB.length lB) (hcB:lB.length≤yB) (hbig:laws_big.f lA lB=some false) (htp:EnvP w) (gP:Guess_P) (gS:Guess_S) :
    Calls Tryz.prog 3 #[.slice xA lA.length yA, .slice xB lB.length yB] w fun e w'=>e = .returned (.bool true)∧Below w.heap.size w w':=by
  have aE:=Tryz.underlying28
  have aG:=Tryz.underlying25
  have aH:=Tryz.underlying48
  have aI:=Tryz.underlying26
  have aJ:=Tryz.underlying30
  have aK:=Tryz.underlying39
  have jk:=Tryz.underlying9
  have HsA:=amk hsA;have HsB:=amk hsB;have HrA:=amk hrA;have HcA:=amk hcA;have HrB:=amk hrB;have HcB:=amk hcB;have Hbig:=amk hbig;have GPz:=amk gP;have GS:=amk gS
  have SQ:=amk (fun (W:World) (hb:Below w.heap.size w W)=>(⟨hb,fun b m=>(by cases m),fun r m=>(by cases m with | head=>exact htp.below hb | tail _ m=>cases m)⟩:Mg w [] [rwE] W));clear hsA hsB hrA hcA hrB hcB hbig htp gP gS
  go_enter Tryz.func3,Tryz.ntmps3
  go_wp2_with (go_at_call 4;refine Calls.mono (laws_big.calls xA yA lA xB yB lB false _ HrA.out HcA.out HrB.out HcB.out Hbig.out) ?_;rintro e w0 ⟨rfl,hb⟩;have S:=amk (SQ.out w0 hb.below);clear hb)
  go_wp2_with (go_at_call 5;refine Calls.mono (spec_DrawSolutions.calls xA yA lA _ HsA.out (Kd.C_below HrA.out S.out.1)) ?_;rintro e wd ⟨P,D,A,c,L,rfl,hc,hr,hL,hb⟩;have I0:=amk hc;have nS:=amk (Mg_box (Mg_row (Mg_below S.out hb) (rwC A L) hr) (pzG P D A L.length c));clear S;have S:=nS;clear nS;have HL:=amk hL;clear hc hr hL hb;obtain ⟨q0,q1,q2⟩:=gx3 S.out (.head _))
  have gP:=GPz.out;have hL:L.length≤9223372036854775807:=by have:=HL.out;omega
  obtain ⟨k,all,ok,th,solved,fv,count,total,best,first,sure,text,needless,left,e1,e2,e3,e4,e5,e6,e7,e8,e9,J,Y,Z,a1,a6,a7,a8,aa,ab,ac,ae,x1,x2,x3,g3,g5,fb⟩:=gP P D L hL
  have E1:=amk e1
  have E2:=amk e2
  have E3:=amk e3
  have E4:=amk e4
  have E5:=amk e5
  have E6:=amk e6
  have E7:=amk e7
  have E8:=amk e8
  have E9:=amk e9
  have af:=amk J
  have ag:=amk Y
  have ah:=amk Z
  have ai:=amk a1
  have aj:=amk a6
  have ak:=amk a7
  have al:=amk a8
  have am:=amk aa
  have an:=amk ab
  have ap:=amk ac
  have ar:=amk ae
  have au:=amk x1;have av:=amk x2;have ax:=amk x3;have G3:=amk g3;have G5:=amk g5;have FB:=amk fb
  clear e1 e2 e3 e4 e5 e6 e7 e8 e9 J Y Z a1 a6 a7 a8 aa ab ac ae x1 x2 x3 g3 g5 fb  gP hL
  go_wp2_with (go_at_call 6;refine Calls.mono (impl_Solutions.calls k P D _ _ L all ok _ (rC S.out (.head _)) I0.out E1.out) ?_;rintro e wx ⟨v,rfl,hs,hb⟩;obtain ⟨A1,c1,rfl⟩:=Kd.R_slice hs;have I1:=amk (Kd.R_reads' hs).2.1;have nS:=amk (Mg_row (Mg_below S.out hb) (rwS A1 all) (Kd.R_reads' hs).2.2);clear S;have S:=nS;clear nS hs hb;clear q0 q1 q2;obtain ⟨q0,q1,q2⟩:=gx3 S.out (.head _))
  go_wp2_with (go_at_call 7;refine Calls.mono (spec_Solutions.calls k P D _ _ L all ok _ (rC S.out (.tail _ (.head _))) I0.out E2.out) ?_;rintro e wx ⟨v,rfl,hs,hb⟩;obtain ⟨A2,c2,rfl⟩:=Kd.R_slice hs;have I2:=amk (Kd.R_reads' hs).2.1;have nS:=amk (Mg_row (Mg_below S.out hb) (rwS A2 all) (Kd.R_reads' hs).2.2);clear S;have S:=nS;clear nS hs hb;clear q0 q1 q2;obtain ⟨q0,q1,q2⟩:=gx3 S.out (.head _))
  go_wp2_with (go_at_call 8;refine Calls.mono (impl_CountSolutions.calls k P D _ _ L count ok _ (rC S.out (.tail _ (.tail _ (.head _)))) I0.out E3.out) ?_;rintro e wx ⟨rfl,hb⟩;have nS:=amk (Mg_below S.out hb);clear S;have S:=nS;clear nS hb;clear q0 q1 q2;obtain ⟨q0,q1,q2⟩:=gx3 S.out (.head _))
  go_wp2_with (go_at_call 9;refine Calls.mono (spec_CountSolutions.calls k P D _ _ L count ok _ (rC S.out (.tail _ (.tail _ (.head _)))) I0.out E4.out) ?_;rintro e wx ⟨rfl,hb⟩;have nS:=amk (Mg_below S.out hb);clear S;have S:=nS;clear nS hb;clear q0 q1 q2;obtain ⟨q0,q1,q2⟩:=gx3 S.out (.head _))
  go_wp2_with (go_at_call 10;refine Calls.mono (impl_FirstSolution.calls k P D _ _ L first th _ (rC S.out (.tail _ (.tail _ (.head _)))) I0.out E5.out) ?_;rintro e wx ⟨rfl,hb⟩;have nS:=amk (Mg_below S.out hb);clear S;have S:=nS;clear nS hb;clear q0 q1 q2;obtain ⟨q0,q1,q2⟩:=gx3 S.out (.head _))
  go_wp2_with (go_at_call 11;refine Calls.mono (spec_FirstSolution.calls k P D _ _ L first th _ (rC S.out (.tail _ (.tail _ (.head _)))) I0.out E6.out) ?_;rintro e wx ⟨rfl,hb⟩;have nS:=amk (Mg_below S.out hb);clear S;have S:=nS;clear nS hb;clear q0 q1 q2;obtain ⟨q0,q1,q2⟩:=gx3 S.out (.head _))
  go_wp2_with (go_at_call 12;refine Calls.mono (impl_SureDigits.calls k P D _ _ L sure th _ (rC S.out (.tail _ (.tail _ (.head _)))) I0.out E7.out) ?_;rintro e wx ⟨rfl,hb⟩;have nS:=amk (Mg_below S.out hb);clear S;have S:=nS;clear nS hb;clear q0 q1 q2;obtain ⟨q0,q1,q2⟩:=gx3 S.out (.head _))
  go_wp2_with (go_at_call 13;refine Calls.mono (spec_SureDigits.calls k P D _ _ L sure th _ (rC S.out (.tail _ (.tail _ (.head _)))) I0.out E8.out) ?_;rintro e wx ⟨rfl,hb⟩;have nS:=amk (Mg_below S.out hb);clear S;have S:=nS;clear nS hb;clear q0 q1 q2;obtain ⟨q0,q1,q2⟩:=gx3 S.out (.head _))
  go_wp2_with (go_at_call 14;refine Calls.mono (impl_IsSolved.calls k P D _ _ L solved ok _ (rC S.out (.tail _ (.tail _ (.head _)))) I0.out E9.out) ?_;rintro e wx ⟨rfl,hb⟩;have nS:=amk (Mg_below S.out hb);clear S;have S:=nS;clear nS hb;clear q0 q1 q2;obtain ⟨q0,q1,q2⟩:=gx3 S.out (.head _))
  go_wp2_with (go_at_call 15;refine Calls.mono (spec_IsSolved.calls k P D _ _ L solved ok _ (rC S.out (.tail _ (.tail _ (.head _)))) I0.out af.out) ?_;rintro e wx ⟨rfl,hb⟩;have nS:=amk (Mg_below S.out hb);clear S;have S:=nS;clear nS hb;clear q0 q1 q2;obtain ⟨q0,q1,q2⟩:=gx3 S.out (.head _))
  go_wp2_with (go_at_call 16;refine Calls.mono (impl_NeedlessClues.calls k P D _ _ L needless ok _ (rC S.out (.tail _ (.tail _ (.head _)))) I0.out ag.out) ?_;rintro e wx ⟨v,rfl,hs,hb⟩;obtain ⟨A3,c3,rfl⟩:=Kd.R_slice hs;have I3:=amk (Kd.R_reads' hs).2.1;have nS:=amk (Mg_row (Mg_below S.out hb) (rwI A3 needless) (Kd.R_reads' hs).2.2);clear S;have S:=nS;clear nS hs hb;clear q0 q1 q2;obtain ⟨q0,q1,q2⟩:=gx3 S.out (.head _))
  go_wp2_with (go_at_call 17;refine Calls.mono (spec_NeedlessClues.calls k P D _ _ L needless ok _ (rC S.out (.tail _ (.tail _ (.tail _ (.head _))))) I0.out ah.out) ?_;rintro e wx ⟨v,rfl,hs,hb⟩;obtain ⟨A4,c4,rfl⟩:=Kd.R_slice hs;have I4:=amk (Kd.R_reads' hs).2.1;have nS:=amk (Mg_row (Mg_below S.out hb) (rwI A4 needless) (Kd.R_reads' hs).2.2);clear S;have S:=nS;clear nS hs hb;clear q0 q1 q2;obtain ⟨q0,q1,q2⟩:=gx3 S.out (.head _))
  go_wp2_with (go_at_call 18;refine Calls.mono (impl_LeftByClues.calls k P D _ _ L left ok _ (rC S.out (.tail _ (.tail _ (.tail _ (.tail _ (.head _)))))) I0.out ai.out) ?_;rintro e wx ⟨v,rfl,hs,hb⟩;obtain ⟨A5,c5,rfl⟩:=Kd.R_slice hs;have I5:=amk (Kd.R_reads' hs).2.1;have nS:=amk (Mg_row (Mg_below S.out hb) (rwI A5 left) (Kd.R_reads' hs).2.2);clear S;have S:=nS;clear nS hs hb;clear q0 q1 q2;obtain ⟨q0,q1,q2⟩:=gx3 S.out (.head _))
  go_wp2_with (go_at_call 19;refine Calls.mono (spec_LeftByClues.calls k P D _ _ L left ok _ (rC S.out (.tail _ (.tail _ (.tail _ (.tail _ (.tail _ (.head _))))))) I0.out aj.out) ?_;rintro e wx ⟨v,rfl,hs,hb⟩;obtain ⟨A6,c6,rfl⟩:=Kd.R_slice hs;have I6:=amk (Kd.R_reads' hs).2.1;have nS:=amk (Mg_row (Mg_below S.out hb) (rwI A6 left) (Kd.R_reads' hs).2.2);clear S;have S:=nS;clear nS hs hb;clear q0 q1 q2;obtain ⟨q0,q1,q2⟩:=gx3 S.out (.head _))
  go_wp2_with (go_at_call 20;refine Calls.mono (impl_BestClue.calls k P D _ _ L best fv _ (rC S.out (.tail _ (.tail _ (.tail _ (.tail _ (.tail _ (.tail _ (.head _)))))))) I0.out ak.out) ?_;rintro e wx ⟨rfl,hb⟩;have nS:=amk (Mg_below S.out hb);clear S;have S:=nS;clear nS hb;clear q0 q1 q2;obtain ⟨q0,q1,q2⟩:=gx3 S.out (.head _))
  go_wp2_with (go_at_call 21;refine Calls.mono (spec_BestClue.calls k P D _ _ L best fv _ (rC S.out (.tail _ (.tail _ (.tail _ (.tail _ (.tail _ (.tail _ (.head _)))))))) I0.out al.out) ?_;rintro e wx ⟨rfl,hb⟩;have nS:=amk (Mg_below S.out hb);clear S;have S:=nS;clear nS hb;clear q0 q1 q2;obtain ⟨q0,q1,q2⟩:=gx3 S.out (.head _))
  go_wp2_with (go_at_call 22;refine Calls.mono (impl_PuzzleText.calls k P D _ _ L text ok _ (rC S.out (.tail _ (.tail _ (.tail _ (.tail _ (.tail _ (.tail _ (.head _)))))))) I0.out (rE S.out (.tail _ (.tail _ (.tail _ (.tail _ (.tail _ (.tail _ (.tail _ (.head _))))))))).1 am.out) ?_;rintro e wx ⟨rfl,hb⟩;have nS:=amk (Mg_below S.out hb);clear S;have S:=nS;clear nS hb;clear q0 q1 q2;obtain ⟨q0,q1,q2⟩:=gx3 S.out (.head _))
  go_upto_region 22 with (go_at_call 23;refine Calls.mono (spec_PuzzleText.calls k P D _ _ L text ok _ (rC S.out (.tail _ (.tail _ (.tail _ (.tail _ (.tail _ (.tail _ (.head _)))))))) I0.out an.out) ?_;rintro e wx ⟨rfl,hb⟩;have nS:=amk (Mg_below S.out hb);clear S;have S:=nS;clear nS hb;clear q0 q1 q2)
  refine KVA _ _ ?hq k P D L A c wd.heap.size all needless left A1 A2 A3 A4 A5 A6 c1 c2 c3 c4 c5 c6 ok th fv solved count best first sure text _ _ _ S.out (.head _) (.tail _ (.tail _ (.tail _ (.tail _ (.tail _ (.tail _ (.head _))))))) I0.out (.tail _ (.tail _ (.tail _ (.tail _ (.tail _ (.head _)))))) (.tail _ (.tail _ (.tail _ (.tail _ (.head _))))) I1.out I2.out (.tail _ (.tail _ (.tail _ (.head _)))) (.tail _ (.tail _ (.head _))) I3.out I4.out (.tail _ (.head _)) (.head _) I5.out I6.out au.out av.out ax.out ap.out ar.out G3.out G5.out (fun {u156 aM aN aQ aT aU aV aW aX aY aZ b3 b4 b5 b6 b7 b8 b9 ba bb bc bd be bf bg bh bi bj bk bl bm bn bo bp bq br bu bv bw bz bC bD bF bH bJ bL bM bN bO bQ bR bS bT bU bV bW bX bY bZ ca cb cd ce cf cg ci cj ck cm cn co cp cq cr cu cv cw cx cy cz cA cC cE cF cG cH cJ cK cL cM cN cO cP cQ cS cT cV cW cX cY cZ d5 d6 d7 d8 d9 da db dc de df dh di dj dl dm dn dp dq dr dt du dv dw dx dy dz dA dB dC dD dE dF dG dH dI dJ dK dL dM dN dO dP dQ dR dS dT dU dV dW dX dY dZ} W1 s1=>?_)
  case hq=>exact fun _ _ _ _ _ h=>h
  clear S E1 E2 E3 E4 E5 E6 E7 E8 E9 af ag ah ai aj ak al am an ap ar au av ax G5;have S:=amk s1;clear s1
  go_upto_if 314 with (fail)
  refine KVD _ _ ?hq k P D L A c wd.heap.size all needless left A1 A3 A5 c1 c3 c5 th solved count total best first sure text _ _ ok _ S.out (.head _) (.tail _ (.tail _ (.tail _ (.tail _ (.tail _ (.tail _ (.tail _ (.head _)))))))) (.tail _ (.tail _ (.tail _ (.tail _ (.tail _ (.tail _ (.head _))))))) I0.out (.tail _ (.tail _ (.tail _ (.tail _ (.tail _ (.head _)))))) I1.out (.tail _ (.tail _ (.tail _ (.head _)))) I3.out (.tail _ (.head _)) (fun h=>by rw [G3.out,h];rfl) FB.out (fun {u4 jl jm jo jp jq jr js ju jv jw jy jz jA jB jC jD ea eb ec ed ee ef eg eh ei ej ek em en eo ep er eu ew ey ez eA eB eC eD eE eF eG eH eI eJ eK eL eM eN eO eP eQ eR eS eT eU eV eW eX eY eZ f3 fa fc fe ff fg fh fi fj fo fp fq ft fu fw fx fy fz fA fB fC fD fE fF fG fH fI fJ fK fL fM fN fO fP fQ fR fS fT fU fV fW fX fY fZ ga gf gg gh gi gk gl gm gn gp gq gr gu gv gw gx gy gz gA gB gC gD gE gF gG gH gI gJ gK gL gM gN gO gQ gR gT gU gV gW gX gY gZ i1 i6 i7 ia ib ic ie ig ih ii ij ik il im io iq ir iu iv iw ix iy iz iA iB iC iD iE iF iG iH iI iJ iK iM iN iO iP iQ iS iT iU iV iW iX iY iZ j3 j4 j5 j6 j7 j8 j9 ja jb jc jd je jf jg jh ji jj} W2 s2=>?_)
  case hq=>exact fun _ _ _ _ _ h=>h
  clear S G3 FB;have S:=amk s2;clear s2
  go_wp2_with (go_at_call 35;refine Calls.mono (spec_DrawParsePuzzle.calls xB yB lB _ HsB.out (Kd.C_below HrB.out S.out.1)) ?_;rintro e jE ⟨s,rfl,hz,hb⟩;have HS:=amk hz;have nS:=amk (Mg_below S.out hb);clear S;have S:=nS;clear nS hz hb)
  obtain ⟨k2,a,b,M,tq,m1,m2,m3,m4⟩:=GS.out s HS.out
  have aA:=amk m1;have aC:=amk m2;have ay:=amk m3;have az:=amk m4;clear m1 m2 m3 m4
  have hbb : ∀ b:Bool,(b != b)=false:=fun b=>by cases b <;> rfl
  have hst : ∀ x:ByteArray,(x.toList == x.toList)=true:=fun x=>by simp
  go_wp2_with (go_at_call 33;refine Calls.mono (impl_ParsePuzzle.calls k2 s a b M tq _ (rE S.out (.tail _ (.tail _ (.tail _ (.tail _ (.tail _ (.tail _ (.tail _ (.head _))))))))) aA.out) ?_;rintro e wx ⟨v,rfl,hs,hb⟩;obtain ⟨A7,c7,rfl⟩:=Kd.R_slice hs;have I7:=amk (Kd.R_reads' hs).2.1;have nS:=amk (Mg_box (Mg_row (Mg_below S.out hb) (rwC A7 M) (Kd.R_reads' hs).2.2) (pzG a b A7 M.length c7));clear S;have S:=nS;clear nS hs hb)
  go_wp2_with (go_at_call 36;refine Calls.mono (spec_ParsePuzzle.calls k2 s a b M tq _ aC.out) ?_;rintro e wx ⟨v,rfl,hs,hb⟩;obtain ⟨A8,c8,rfl⟩:=Kd.R_slice hs;have I8:=amk (Kd.R_reads' hs).2.1;have nS:=amk (Mg_box (Mg_row (Mg_below S.out hb) (rwC A8 M) (Kd.R_reads' hs).2.2) (pzG a b A8 M.length c8));clear S;have S:=nS;clear nS hs hb;obtain ⟨z0,z1,z2⟩:=gx3 S.out (.tail _ (.head _));obtain ⟨y0,y1,y2⟩:=gx3 S.out (.head _))
  cases tq with
  | false =>
    go_wp2_with (go_at_call 34;refine Calls.mono (laws_ePuzzle.calls k2 a b _ _ M a b _ _ M true _ (rC S.out (.tail _ (.head _))) I7.out (rC S.out (.head _)) I8.out ay.out) ?_;rintro e wx ⟨rfl,hb⟩;have nS:=amk (Mg_below S.out hb);clear S;have S:=nS;clear nS hb;clear z0 z1 z2 y0 y1 y2;obtain ⟨z0,z1,z2⟩:=gx3 S.out (.tail _ (.head _)))
    go_ret;exact ⟨rfl,S.out.1⟩
  | true =>
    have aD:=amk (az.out rfl);clear az
    go_wp2_with (go_at_call 34;refine Calls.mono (laws_ePuzzle.calls k2 a b _ _ M a b _ _ M true _ (rC S.out (.tail _ (.head _))) I7.out (rC S.out (.head _)) I8.out ay.out) ?_;rintro e wx ⟨rfl,hb⟩;have nS:=amk (Mg_below S.out hb);clear S;have S:=nS;clear nS hb;clear z0 z1 z2 y0 y1 y2;obtain ⟨z0,z1,z2⟩:=gx3 S.out (.tail _ (.head _)))
    go_wp2_with (go_at_call 22;refine Calls.mono (impl_PuzzleText.calls k2 a b _ _ M s true _ (rC S.out (.tail _ (.head _))) I7.out (rE S.out (.tail _ (.tail _ (.tail _ (.tail _ (.tail _ (.tail _ (.tail _ (.tail _ (.tail _ (.head _))))))))))).1 aD.out) ?_;rintro e wx ⟨rfl,hb⟩;have nS:=amk (Mg_below S.out hb);clear S;have S:=nS;clear nS hb;clear z0 z1 z2)
    go_ret;exact ⟨rfl,S.out.1⟩
section
/-! What a readable argument holds, told by kinds: the bridge from a statement's reading to the print's words. -/
open Go.WideShapes in
def Opens {α:Type} (P:Program) (t:TypeId) (d:Kd α) (V:α→Prop):Prop:=
  ∀ (H : Type) (enc : TypeId × Value → H) (w : World) (base : Nat) (spare : Nat → Bool) (held : Bool) (fuel : Nat) (cs : List Value) (x : DataW H × List MemPlace),
    DataW.trod enc P w base spare held fuel t cs=some x→∃ a:α,d.K w a cs∧V a
def ListV {α:Type} (V:α→Prop) (l:List α):Prop:=l.length≤9223372036854775807∧∀ x∈l,V x
def U8V (x:Int):Prop:=0≤x∧x < 256
theorem opens_u8 {P:Program} {t:TypeId} (ht:P.underlying t=some (.int .u8)):Opens P t (Kd.int .u8) U8V:=by
  intro H enc w base spare held fuel cs x h
  obtain ⟨n,rfl,_,hw⟩:=DataW.trod_int ht h
  refine ⟨n,rfl,?_⟩
  have hb:(IntKind.u8.min≤n∧n≤IntKind.u8.max):=by simpa [Lit.wf] using hw
  have e1:IntKind.u8.min=0:=rfl
  have e2:IntKind.u8.max=255:=rfl
  rw [e1,e2] at hb
  unfold U8V
  omega
theorem cells_list {w:World} {base:Nat} {a:Addr} {n:Nat} {cs:List Value} (h:w.cells? base a n=some cs):cs.length=n∧∀ i u,cs[i]?=some u→w.cell? (a.add i)=some u:=by
  unfold World.cells? at h
  split at h
  · have hl:=mapM_some_length h
    refine ⟨by simpa using hl,fun i u hu=>?_⟩
    have hi:i < n:=by
      have:=(List.getElem?_eq_some_iff.1 hu).1
      rw [hl] at this;simpa using this
    have:=mapM_some_get h i i (by simp [hi])
    rw [hu] at this
    exact this
  · cases h
theorem opens_slice {α:Type} {P:Program} {t e:TypeId} {d:Kd α} {V:α→Prop} (ht:P.underlying t=some (.slice e)) (hd:Opens P e d V) (hsz:P.cellsOf e=d.sz):Opens P t (Kd.slice e d) (ListV V):=by
  intro H enc w base spare held fuel cs x h
  rcases Go.Deep.open_slice ht h with ⟨rfl,_⟩ | ⟨a,len,cap,m,n,D,Pl,rfl,_,hl,hm,hmm,_,hel⟩
  · exact ⟨[],⟨none,0,rfl,Nat.le_refl _,⟨rfl,by simp,fun h0=>absurd h0 (by simp)⟩⟩,⟨by simp,fun x hx=>by simp at hx⟩⟩
  · have hle:len≤m:=by rw [hmm];split <;> omega
    have each : ∀ i:Nat,∃ a':Option α,i < len→∃ z cs',a'=some z∧V z∧d.K w z cs'∧∀ j u,cs'[j]?=some u→w.cell? (a.add (i * d.sz + j))=some u:=by
      intro i
      by_cases hi:i < len
      · obtain ⟨cs',h1,h2⟩:=hel i (by omega)
        obtain ⟨z,hK,hV⟩:=hd H enc w base spare held n cs' _ h2
        refine ⟨some z,fun _=>⟨z,cs',rfl,hV,hK,fun j u hu=>?_⟩⟩
        obtain ⟨_,hc⟩:=cells_list h1
        have:=hc j u hu
        rw [Go.Deep.add_add,hsz] at this
        exact this
      · exact ⟨none,fun h0=>absurd h0 hi⟩
    have ⟨f,hf⟩:=Classical.axiomOfChoice each
    have hz : ∀ i,i < len→∃ z,f i=some z∧V z∧∃ cs',d.K w z cs'∧∀ j u,cs'[j]?=some u→w.cell? (a.add (i * d.sz + j))=some u:=by
      intro i hi
      obtain ⟨z,cs',h1,h2,h3,h4⟩:=hf i hi
      exact ⟨z,h1,h2,cs',h3,h4⟩
    have hlist : ∃ l:List α,l.length=len∧∀ i,i < len→f i=l[i]?:=by
      clear hf each hel hmm hle
      have : ∀ n,n≤len→∃ l:List α,l.length=n∧∀ i,i < n→f i=l[i]?:=by
        intro n
        induction n with
        | zero=>intro _;exact ⟨[],rfl,fun i hi=>by omega⟩
        | succ n ih =>
          intro hn
          obtain ⟨l,J,Y⟩:=ih (by omega)
          obtain ⟨z,h1,_⟩:=hz n (by omega)
          refine ⟨l ++ [z],by simp [J],fun i hi=>?_⟩
          by_cases e:i < n
          · rw [List.getElem?_append_left (by omega)];exact Y i e
          · obtain rfl:i=n:=by omega
            rw [h1,←J];simp
      exact this len (Nat.le_refl _)
    obtain ⟨l,hlen,hget⟩:=hlist
    have hV : ∀ x∈l,V x:=by
      intro x hx
      obtain ⟨i,hi,rfl⟩:=List.getElem_of_mem hx
      obtain ⟨z,h1,h2,_⟩:=hz i (by omega)
      have h3:=hget i (by omega)
      rw [h1,List.getElem?_eq_getElem hi] at h3
      injection h3 with h3
      rw [←h3];exact h2
    unfold maxLen at hm
    subst hlen
    refine ⟨l,⟨some a,cap,rfl,hl,⟨rfl,by omega,fun _=>⟨a,rfl,fun j p hp=>?_⟩⟩⟩,⟨by omega,hV⟩⟩
    have hj:j < l.length:=(List.getElem?_eq_some_iff.1 hp).1
    obtain ⟨z,h1,_,cs',h3,h4⟩:=hz j hj
    have h5:=hget j hj
    rw [h1,hp] at h5
    injection h5 with h5
    subst h5
    exact ⟨cs',d.K_len h3,h3,h4⟩
section
variable {H:Type} {enc:TypeId×Value→H} {P:Program} {w:World} {base:Nat} {spare:Nat→Bool} {held:Bool} {r:Reach} {b0:Nat} {t:TypeId} {v:Value} {x:DataW H} {p:List MemPlace}
theorem arg_slice {α:Type} {d:Kd α} {e:TypeId} {V:List α→Prop} (ho:Opens P t (Kd.slice e d) V) (ht:P.underlying t=some (.slice e)) (hv:Value.okWide P w r b0 t v) (h:DataW.Trod enc P w base spare held t v x p) :
    ∃ A l c,v = .slice A (List.length l) c∧l.length≤c∧d.C w A l.length l∧V l:=by
  obtain ⟨a,len,cap,rfl⟩:=WideShapes.okWide_slice ht hv
  obtain ⟨fuel,hf⟩:=h
  obtain ⟨l,⟨A,c,hc,hl,hC⟩,hV⟩:=ho H enc w base spare held fuel _ _ hf
  simp only [Value.cells,List.cons.injEq,and_true] at hc
  injection hc with e1 e2 e3
  subst e1 e2 e3
  exact ⟨_,l,_,rfl,hl,hC,hV⟩
theorem arg_lt (h:DataW.Trod enc P w base spare held t v x p) : ∀ y∈p,y.block < w.heap.size:=by
  obtain ⟨m,hm⟩:=h
  exact DataW.trod_lt m _ _ _ hm
end
end
/-! The best clue. -/
def bestV (f:Nat→Int):Nat→Nat→Int→Int→Int
  | 0,_,b,_=>b
  | m + 1,i,b,x=>if f i < x then bestV f m (i + 1) (i:Nat) (f i) else bestV f m (i + 1) b x
def oneV (w d:Int) (l:List S48) (i:Nat):Int:=((solA w d ((l.take (i + 1)).drop i) (d ^ w.toNat).toNat).length:Int)
theorem one_ok {w d:Int} {l:List S48} (h : ∀ c∈l,clueB w d c.f0 c.f1 c.f2=true) (i:Nat) : ∀ c∈(l.take (i + 1)).drop i,clueB w d c.f0 c.f1 c.f2=true:=
  fun c hc=>h c (List.mem_of_mem_take (List.mem_of_mem_drop hc))
def bestR (w d:Int) (l:List S48):Int×Bool:=if puzzleB w d l=true then (if l.length=0 then (0,false) else (bestV (oneV w d l) l.length 0 0 (d ^ w.toNat + 1),true)) else (0,false)
/-! Facts that hold from some number of rounds on. -/
def Evt (P:Nat→Prop):Prop:= ∃ K,∀ k,K≤k→P k
theorem Evt.and {P Q:Nat→Prop} (h:Evt P) (g:Evt Q):Evt fun k=>P k∧Q k:=by
  obtain ⟨a,h⟩:=h
  obtain ⟨b,g⟩:=g
  exact ⟨a + b,fun k hk=>⟨h k (by omega),g k (by omega)⟩⟩
theorem Evt.all {α:Type} {P:Nat→α→Prop} : ∀ (l:List α),(∀ x∈l,Evt fun k=>P k x)→Evt fun k=> ∀ x∈l,P k x:=by
  intro l
  induction l with
  | nil=>intro _;exact ⟨0,fun k _ x hx=>by cases hx⟩
  | cons a t ih =>
    intro h
    obtain ⟨K1,h1⟩:=h a List.mem_cons_self
    obtain ⟨K2,h2⟩:=ih (fun x hx=>h x (List.mem_cons_of_mem _ hx))
    refine ⟨K1 + K2,fun k hk x hx=>?_⟩
    rcases List.mem_cons.mp hx with rfl | hx
    · exact h1 k (by omega)
    · exact h2 k (by omega) x hx
theorem Evt.mono {P Q:Nat→Prop} (h:Evt P) (g : ∀ k,P k→Q k):Evt Q:=by
  obtain ⟨K,h⟩:=h
  exact ⟨K,fun k hk=>g k (h k hk)⟩
/-! First solutions. -/
def firstV (xs:List ByteArray):ByteArray×Bool:=if xs.length=0 then (⟨#[]⟩,false) else (rdOf ByteArray.empty xs 0,true)
/-! How many codes the first clues leave. -/
def leftL (w d:Int) (l:List S48) (n:Nat):List Int:=(List.range n).map fun j=>((solA w d (l.take j) (d ^ w.toNat).toNat).length:Int)
theorem leftL_succ (w d:Int) (l:List S48) (n:Nat):leftL w d l (n + 1)=leftL w d l n ++ [((solA w d (l.take n) (d ^ w.toNat).toNat).length:Int)]:=by simp [leftL,List.range_succ]
theorem take_ok {w d:Int} {l:List S48} (h : ∀ c∈l,clueB w d c.f0 c.f1 c.f2=true) (i:Nat) : ∀ c∈l.take i,clueB w d c.f0 c.f1 c.f2=true:=fun c hc=>h c (List.mem_of_mem_take hc)
def leftR (w d:Int) (l:List S48):List Int×Bool:=if puzzleB w d l=true then (leftL w d l (l.length + 1),true) else ([],false)
theorem leftR_len (w d:Int) (l:List S48):(leftR w d l).1.length≤1000000:=by
  unfold leftR
  cases h:puzzleB w d l with
  | true=>obtain ⟨_,h2,_⟩:=puzzleB_parts h;simp [leftL];omega
  | false=>simp
/-! Sure digits, as a text. -/
theorem solA_code {w d:Int} (hl:lockB w d=true) (l:List S48) : ∀ n,∀ s∈solA w d l n,codeS w d s
  | 0=>fun s hs=>by simp [solA] at hs
  | n + 1 => fun s hs => by
    unfold solA at hs
    rw [List.mem_append] at hs
    rcases hs with hs | hs
    · exact solA_code hl l n s hs
    · split at hs
      · rw [List.mem_singleton] at hs
        subst hs
        exact codeB_code hl
      · simp at hs
theorem sureOk_solA {w d:Int} (hl:lockB w d=true) (l:List S48) (n:Nat) (h0 : ¬ (solA w d l n).length=0):sureOk (solA w d l n)=true:=by
  obtain ⟨w1,w2,d1,d2⟩:=lockB_iff.mp hl
  have hc:=solA_code hl l n
  generalize solA w d l n=xs at h0 hc
  have hm:hdS xs∈xs:=by
    show rdOf ByteArray.empty xs ((0:Nat):Int)∈xs
    rw [rdOf_get (by omega)]
    exact List.getElem_mem _
  have h1:=hc _ hm
  refine sureOk_iff.mpr ⟨fun t ht=>by rw [(hc t ht).1,h1.1],by rw [h1.1];omega,fun i hi=>?_⟩
  have:=h1.2 i hi
  omega
def sureV (w d:Int) (l:List S48):ByteArray×Bool:=if puzzleB w d l=true then (if (solA w d l (d ^ w.toNat).toNat).length=0 then (⟨#[]⟩,false) else (strOfNums (sureL (solA w d l (d ^ w.toNat).toNat) (hdS (solA w d l (d ^ w.toNat).toNat)) (solA w d l (d ^ w.toNat).toNat).length (hdS (solA w d l (d ^ w.toNat).toNat)).size),true)) else (⟨#[]⟩,false)
/-! Best clues: what the two come to. -/
theorem impl_BestClue.lev {w d:Int} (hl:lockB w d=true) (l:List S48) (h6:l.length≤6) (h : ∀ c∈l,clueB w d c.f0 c.f1 c.f2=true) : ∀ (m i:Nat) (b x:Int),i + m=l.length→Ev (fun k=>impl_BestClue.l0 k b x (l.length:Int) (i:Nat) w d l) (bestV (oneV w d l) m i b x,true):=by
  intro m
  induction m with
  | zero =>
    intro i b x hi
    exact Ev.step (fun k=>rfl) (Ev.no (by omega) (Ev.now _))
  | succ m ih =>
    intro i b x hi
    have hw:wrap64 ((i:Int) + 1)=((i + 1:Nat):Int):=w64 (by omega) (by omega)
    refine Ev.step (fun k=>rfl) (Ev.yes (by omega) (Ev.yes (by omega) ?_))
    rw [hw]
    refine Ev.yes (by omega) (Ev.yes (by omega) ?_)
    rw [Int.toNat_natCast,Int.toNat_natCast]
    refine Ev.bind (impl_Lock_solutions.ev hl _ (one_ok h i)) ?_
    show Ev _ (if oneV w d l i < x then _ else _,true)
    by_cases e:oneV w d l i < x
    · rw [if_pos e];exact Ev.yes e (ih (i + 1) _ _ (by omega))
    · rw [if_neg e];exact Ev.no e (ih (i + 1) _ _ (by omega))
theorem spec_BestClue.lev {w d:Int} (hl:lockB w d=true) (l:List S48) (h6:l.length≤6) (h : ∀ c∈l,clueB w d c.f0 c.f1 c.f2=true) : ∀ (m i:Nat) (b x:Int),i + m=l.length→(i=0→oneV w d l 0 < x)→Ev (fun k=>spec_BestClue.l0 k b (if i=0 then 0 else x) (l.length:Int) (i:Nat) w d l) (bestV (oneV w d l) m i b x,true):=by
  intro m
  induction m with
  | zero =>
    intro i b x hi h0
    exact Ev.step (fun k=>rfl) (Ev.no (by omega) (Ev.now _))
  | succ m ih =>
    intro i b x hi h0
    have hw:wrap64 ((i:Int) + 1)=((i + 1:Nat):Int):=w64 (by omega) (by omega)
    refine Ev.step (fun k=>rfl) (Ev.yes (by omega) (Ev.yes (by omega) ?_))
    rw [hw]
    refine Ev.yes (by omega) (Ev.yes (by omega) ?_)
    rw [Int.toNat_natCast,Int.toNat_natCast]
    refine Ev.bind (spec_pzAll.ev hl _ (by rw [List.length_drop,List.length_take];omega) (one_ok h i)) ?_
    show Ev _ (if oneV w d l i < x then _ else _,true)
    by_cases hz:i=0
    · subst hz
      rw [if_pos (h0 rfl)]
      exact Ev.yes rfl (ih 1 _ _ (by omega) (by omega))
    · rw [if_neg hz]
      refine Ev.no (by omega) ?_
      by_cases e:oneV w d l i < x
      · rw [if_pos e];exact Ev.yes e (ih (i + 1) _ _ (by omega) (by omega))
      · rw [if_neg e];exact Ev.no e (ih (i + 1) _ _ (by omega) (by omega))
theorem impl_BestClue.ev (w d:Int) (l:List S48):Ev (fun k=>impl_BestClue.f k w d l) (bestR w d l):=by
  unfold impl_BestClue.f bestR
  refine Ev.bindc (show impl_IsPuzzle.f w d l=some (puzzleB w d l) from rfl) ?_
  cases h:puzzleB w d l with
  | true =>
    obtain ⟨h1,h2,h3⟩:=puzzleB_parts h
    have hcb:=count_bound h1
    rw [if_pos rfl]
    refine Ev.yes rfl (Ev.step (fun k=>rfl) ?_)
    simp only [impl_BestClue.j0]
    by_cases e:l.length=0
    · rw [if_pos e];exact Ev.yes (by simp [e]) (Ev.now _)
    · rw [if_neg e]
      refine Ev.no (by simp;intro h;exact e (by rw [h];rfl)) (Ev.bind (impl_Lock_count.ev h1) ?_)
      rw [w64 (x:=d ^ w.toNat + 1) (by omega) (by omega)]
      exact impl_BestClue.lev h1 l h2 h3 l.length 0 0 _ (by omega)
  | false =>
    rw [if_neg (by simp)]
    refine Ev.no (by simp) (Ev.step (fun k=>rfl) ?_)
    simp only [impl_BestClue.j0]
    exact Ev.yes trivial (Ev.now _)
theorem spec_BestClue.ev (w d:Int) (l:List S48) (hn:l.length≤9223372036854775807):Ev (fun k=>spec_BestClue.f k w d l) (bestR w d l):=by
  unfold spec_BestClue.f bestR
  refine Ev.bind (spec_pzGood.ev w d l hn) ?_
  cases h:puzzleB w d l with
  | true =>
    obtain ⟨h1,h2,h3⟩:=puzzleB_parts h
    have hcb:=count_bound h1
    rw [if_pos rfl]
    refine Ev.yes rfl (Ev.step (fun k=>rfl) ?_)
    simp only [spec_BestClue.j0]
    by_cases e:l.length=0
    · rw [if_pos e];exact Ev.yes (by simp [e]) (Ev.now _)
    · rw [if_neg e]
      refine Ev.no (by simp;intro h;exact e (by rw [h];rfl)) ?_
      have:=spec_BestClue.lev h1 l h2 h3 l.length 0 0 (d ^ w.toNat + 1) (by omega) (fun _=>by
        have:=solA_len w d ((l.take (0 + 1)).drop 0) (d ^ w.toNat).toNat
        unfold oneV;omega)
      rw [if_pos rfl] at this
      exact this
  | false =>
    rw [if_neg (by simp)]
    refine Ev.no (by simp) (Ev.step (fun k=>rfl) ?_)
    simp only [spec_BestClue.j0]
    exact Ev.yes trivial (Ev.now _)
/-! Numbers of solutions: what the two come to. -/
theorem spec_CountSolutions.ev (w d:Int) (l:List S48) (hn:l.length≤9223372036854775807):Ev (fun k=>spec_CountSolutions.f k w d l) (if puzzleB w d l=true then (((solA w d l (d ^ w.toNat).toNat).length:Int),true) else (0,false)):=by
  unfold spec_CountSolutions.f
  refine Ev.bind (spec_pzGood.ev w d l hn) ?_
  cases h:puzzleB w d l with
  | true =>
    obtain ⟨h1,h2,h3⟩:=puzzleB_parts h
    rw [if_pos rfl]
    exact Ev.yes rfl (Ev.bind (spec_pzAll.ev h1 l h2 h3) (Ev.now _))
  | false =>
    rw [if_neg (by simp)]
    exact Ev.no (by simp) (Ev.now _)
theorem impl_CountSolutions.ev (w d:Int) (l:List S48):Ev (fun k=>impl_CountSolutions.f k w d l) (if puzzleB w d l=true then (((solA w d l (d ^ w.toNat).toNat).length:Int),true) else (0,false)):=by
  unfold impl_CountSolutions.f
  refine Ev.bind (impl_Solutions.ev w d l) (Ev.id ?_)
  cases h:puzzleB w d l <;> simp
/-! Which texts are codes: both sides. -/
theorem impl_Lock_isText.lev {w d:Int} (hl:lockB w d=true) (s:ByteArray) (h6:s.size≤6) : ∀ (m i:Nat),i + m=s.size→Ev (fun k=>impl_Lock_isText.l0 k s (s.size:Int) (i:Nat) w d) (restT d s m i):=by
  obtain ⟨w1,w2,d1,d2⟩:=lockB_iff.mp hl
  intro m
  induction m with
  | zero=>intro i hi;exact Ev.step (fun k=>rfl) (Ev.no (by omega) (Ev.now _))
  | succ m ih =>
    intro i hi
    have hb:=bt_range s (i:Nat)
    refine Ev.step (fun k=>rfl) (Ev.yes (by omega) (Ev.yes (by omega) (Ev.yes (by omega) ?_)))
    rw [w64 (x:=bt s (i:Nat)) (by omega) (by omega),w64 (x:=48 + d) (by omega) (by omega),w64 (x:=48 + d - 1) (by omega) (by omega)]
    refine Ev.bindc (impl_within.is _ _ _) ?_
    rw [restT,show decide (48≤bt s (i:Nat)∧bt s (i:Nat)≤48 + d - 1)=decide (48≤bt s (i:Nat)∧bt s (i:Nat) < 48 + d) from decide_eq_decide.mpr (by omega),w64 (x:=(i:Int) + 1) (by omega) (by omega)]
    cases decide (48≤bt s (i:Nat)∧bt s (i:Nat) < 48 + d) with
    | true=>exact Ev.yes rfl (ih (i + 1) (by omega))
    | false=>exact Ev.no (by simp) (Ev.now _)
theorem impl_Lock_isCode.ev {w d:Int} (hl:lockB w d=true) (s:ByteArray):Ev (fun k=>impl_Lock_isCode.f k w d s) (codeT w d s):=by
  obtain ⟨w1,w2,d1,d2⟩:=lockB_iff.mp hl
  unfold impl_Lock_isCode.f impl_Lock_isText.f
  by_cases e:(s.size:Int)=w
  · rw [codeT_rest (by omega) e]
    exact Ev.yes e (Ev.bind (impl_Lock_isText.lev hl s (by omega) s.size 0 (by omega)) (Ev.now _))
  · rw [codeT_no (by omega) e]
    exact Ev.no e (Ev.now _)
theorem impl_has.one {w d:Int} (hl:lockB w d=true) (s:ByteArray):Ev (fun k=>impl_has.f k w d [s]) (codeT w d s):=by
  unfold impl_has.f
  refine Ev.bindc (impl_IsLock.is w d) (Ev.yes hl ?_)
  refine Ev.step (fun k=>rfl) (Ev.yes (by simp) (Ev.yes (by omega) (Ev.yes (by simp) ?_)))
  rw [show rdOf ByteArray.empty [s] 0=s from rfl]
  refine Ev.bind (impl_Lock_isCode.ev hl s) ?_
  cases codeT w d s with
  | true =>
    refine Ev.yes rfl (Ev.step (fun k=>rfl) (Ev.no ?_ (Ev.now _)))
    rw [show wrap64 ((0:Int) + 1)=1 from w64 (by omega) (by omega)];simp
  | false=>exact Ev.no (by simp) (Ev.now _)
/-! What DoesFit comes to, over numbers and lists alone. -/
theorem impl_DoesFit.ev (w d a b c:Int) (s:ByteArray):Ev (fun k=>impl_DoesFit.f k w d a b c s) (doesV w d a b c s):=by
  unfold impl_DoesFit.f doesV
  refine Ev.bind (impl_IsClue.ev w d a b c) ?_
  cases h:smallB w d 125 with
  | false=>exact Ev.no (by simp) (Ev.id (by simp))
  | true =>
    have hl:=smallB_lock h
    cases h3:clueB w d a b c with
    | false=>exact Ev.no (by simp) (Ev.id (by simp))
    | true =>
      refine Ev.yes rfl (Ev.bind (impl_has.one hl s) ?_)
      cases h2:codeT w d s with
      | false=>exact Ev.no (by simp) (Ev.id (by simp))
      | true =>
        refine Ev.yes rfl (Ev.bind (impl_Lock_fit.ev hl (codeT_iff.mp h2) [⟨a,b,c⟩] (fun x hx=>by rw [List.mem_singleton.mp hx];exact h3)) (Ev.id ?_))
        simp [fitA]
/-! Clues without one: spec's and impl's. -/
theorem impl_DropClue.is (w d:Int) (l:List S48) (a:Int) (hn:l.length≤1048576) :
    impl_DropClue.f w d l a=some (if puzzleB w d l=true∧0≤a∧a < l.length then (w,d,l.eraseIdx a.toNat,true) else (0,0,[],false)):=by
  unfold impl_DropClue.f impl_IsPuzzle.f
  simp only [Option.bind_some,impl_within.is,w64 (x:=(l.length:Int) - 1) (by omega) (by omega)]
  cases h:puzzleB w d l with
  | false=>rw [if_neg (by simp),if_neg (by simp)]
  | true =>
    rw [if_pos rfl]
    by_cases h1:0≤a∧a < l.length
    · rw [if_pos (by simp;omega),impl_but.is (by omega) h1.1 h1.2,if_pos ⟨by simp,h1⟩]
      rfl
    · rw [if_neg (by simp;omega),if_neg (fun h=>h1 h.2)]
/-! The laws' look at an order of texts. -/
theorem laws_eSorted.ev (l:List ByteArray) (hn:l.length≤1000000) (h : ∀ (i j:Nat) (hi:i < l.length) (hj:j < l.length),i < j→Op.bytesLess l[i].toList l[j].toList=true):Ev (fun k=>laws_eSorted.f k l) true:=by
  have : ∀ (m i:Nat),i + m=l.length + 1→1≤i→Ev (fun k=>laws_eSorted.l0 k l (i:Nat)) true:=by
    intro m
    induction m with
    | zero=>intro i hi _;exact Ev.step (fun k=>rfl) (Ev.no (by omega) (Ev.now _))
    | succ m ih =>
      intro i hi h1
      by_cases hlt:i < l.length
      · have e:wrap64 ((i:Int) - 1)=((i - 1:Nat):Int):=by rw [w64 (by omega) (by omega)];omega
        have e2:wrap64 ((i:Int) + 1)=((i + 1:Nat):Int):=w64 (by omega) (by omega)
        refine Ev.step (fun k=>rfl) (Ev.yes (by omega) ?_)
        rw [e,e2]
        clear e e2
        refine Ev.yes (by omega) (Ev.yes (by omega) (Ev.yes (by omega) ?_))
        have J:i - 1 < l.length:=by omega
        rw [rd_str hlt,rd_str J]
        exact Ev.yes (h (i - 1) i J hlt (by omega)) (ih (i + 1) (by omega) (by omega))
      · exact Ev.step (fun k=>rfl) (Ev.no (by omega) (Ev.now _))
  unfold laws_eSorted.f
  exact this l.length 1 (by omega) (Nat.le_refl _)
/-! The laws' comparison of puzzles: what it comes to at two that are alike. -/
theorem laws_ePuzzle.ev (p d:Int) (l:List S48) (hn:l.length≤1000000):Ev (fun k=>laws_ePuzzle.f k p d l p d l) true:=by
  have h0 : ∀ (m i:Nat),i + m=l.length→Ev (fun k=>laws_ePuzzle.l0 k (l.length:Int) (i:Nat) p d l p d l) true:=by
    intro m
    induction m with
    | zero=>intro i hi;exact Ev.step (fun k=>rfl) (Ev.no (by omega) (Ev.now _))
    | succ m ih =>
      intro i hi
      refine Ev.step (fun k=>rfl) (Ev.yes (by omega) (Ev.yes (by omega) (Ev.yes (by omega) (Ev.yes (by omega) (Ev.no (by simp) ?_)))))
      rw [show wrap64 ((i:Int) + 1)=((i + 1:Nat):Int) from w64 (by omega) (by omega)]
      exact ih (i + 1) (by omega)
  unfold laws_ePuzzle.f
  refine Ev.no (by simp) ?_
  rw [show ((l.length:Int) != (l.length:Int))=false by simp]
  exact Ev.step (fun k=>(by rw [laws_ePuzzle.j0,if_neg (by simp)]:laws_ePuzzle.j0 (k + 1) false p d l p d l=laws_ePuzzle.l0 k (l.length:Int) 0 p d l p d l)) (h0 l.length 0 (by omega))
/-! The laws' comparison of rows of numbers. -/
theorem laws_eSame.ev (l:List Int) (hn:l.length≤9223372036854775807):Ev (fun k=>laws_eSame.f k l l) true:=by
  have : ∀ (m i:Nat),i + m=l.length→Ev (fun k=>laws_eSame.l0 k l l (l.length:Int) (i:Nat)) true:=by
    intro m
    induction m with
    | zero=>intro i hi;exact Ev.step (fun k=>rfl) (Ev.no (by omega) (Ev.now _))
    | succ m ih =>
      intro i hi
      refine Ev.step (fun k=>rfl) (Ev.yes (by omega) (Ev.yes (by omega) (Ev.yes (by omega) (Ev.yes (by omega) (Ev.yes rfl ?_)))))
      rw [show wrap64 ((i:Int) + 1)=((i + 1:Nat):Int) from w64 (by omega) (by omega)]
      exact ih (i + 1) (by omega)
  unfold laws_eSame.f
  exact Ev.yes rfl (this l.length 0 (by omega))
/-! The laws' comparisons of texts: what they come to. -/
theorem laws_eTexts.ev (l:List ByteArray) (hn:l.length≤1000000):Ev (fun k=>laws_eTexts.f k l l) true:=by
  have : ∀ (m i:Nat),i + m=l.length→Ev (fun k=>laws_eTexts.l0 k l l (l.length:Int) (i:Nat)) true:=by
    intro m
    induction m with
    | zero=>intro i hi;exact Ev.step (fun k=>rfl) (Ev.no (by omega) (Ev.now _))
    | succ m ih =>
      intro i hi
      refine Ev.step (fun k=>rfl) (Ev.yes (by omega) (Ev.yes (by omega) (Ev.yes (by omega) (Ev.yes (by omega) (Ev.yes rfl ?_)))))
      rw [show wrap64 ((i:Int) + 1)=((i + 1:Nat):Int) from w64 (by omega) (by omega)]
      exact ih (i + 1) (by omega)
  unfold laws_eTexts.f
  exact Ev.yes rfl (this l.length 0 (by omega))
/-! First solutions: what the two come to. -/
theorem spec_FirstSolution.ev (w d:Int) (l:List S48) (hn:l.length≤9223372036854775807):Ev (fun k=>spec_FirstSolution.f k w d l) (if puzzleB w d l=true then firstV (solA w d l (d ^ w.toNat).toNat) else (⟨#[]⟩,false)):=by
  unfold spec_FirstSolution.f
  refine Ev.bind (spec_pzGood.ev w d l hn) ?_
  cases h:puzzleB w d l with
  | true =>
    obtain ⟨h1,h2,h3⟩:=puzzleB_parts h
    rw [if_pos rfl]
    refine Ev.yes rfl (Ev.bind (spec_pzAll.ev h1 l h2 h3) ?_)
    unfold firstV
    by_cases e:(solA w d l (d ^ w.toNat).toNat).length=0
    · rw [if_pos e];exact Ev.yes (by omega) (Ev.now _)
    · rw [if_neg e];exact Ev.no (by omega) (Ev.yes (by omega) (Ev.now _))
  | false =>
    rw [if_neg (by simp)]
    exact Ev.no (by simp) (Ev.now _)
theorem impl_FirstSolution.ev (w d:Int) (l:List S48):Ev (fun k=>impl_FirstSolution.f k w d l) (if puzzleB w d l=true then firstV (solA w d l (d ^ w.toNat).toNat) else (⟨#[]⟩,false)):=by
  unfold impl_FirstSolution.f
  refine Ev.bind (impl_Solutions.ev w d l) ?_
  generalize solA w d l (d ^ w.toNat).toNat=xs
  cases h:puzzleB w d l with
  | true =>
    show Ev (fun _=>if (xs.length:Int)=0 then some ((⟨#[]⟩:ByteArray),false) else if 0 < (xs.length:Int) then some (rdOf ByteArray.empty xs 0,true) else none) (firstV xs)
    unfold firstV
    by_cases e:xs.length=0
    · rw [if_pos e];exact Ev.yes (by omega) (Ev.now _)
    · rw [if_neg e];exact Ev.no (by omega) (Ev.yes (by omega) (Ev.now _))
  | false =>
    exact Ev.now ((⟨#[]⟩:ByteArray),false)
/-! Numbers told by digits, as texts: their order. -/
theorem less_app : ∀ (x y p q:List UInt8),x.length=y.length→Op.bytesLess x y=true→Op.bytesLess (x ++ p) (y ++ q)=true:=by
  intro x
  induction x with
  | nil => intro y p q hl h; cases y with
    | nil=>exact absurd h (by simp [Op.bytesLess])
    | cons b y=>simp at hl
  | cons a x ih => intro y p q hl h; cases y with
    | nil=>simp at hl
    | cons b y =>
      have:=ih y p q (by simpa using hl)
      simp only [List.cons_append,Op.bytesLess] at h ⊢
      by_cases e:a < b
      · simp [e]
      · simp [e] at h ⊢
        exact ⟨h.1,this h.2⟩
theorem less_pre : ∀ (x p q:List UInt8),Op.bytesLess p q=true→Op.bytesLess (x ++ p) (x ++ q)=true:=by
  intro x
  induction x with
  | nil=>intro p q h;exact h
  | cons a x ih=>intro p q h;simp [Op.bytesLess,ih p q h]
def byD (d:Int):UInt8:=UInt8.ofNat (48 + d.toNat)
theorem byD_lt {a b:Int} (ha:0≤a∧a < 10) (hb:0≤b∧b < 10) (h:a < b):byD a < byD b:=by
  rw [UInt8.lt_iff_toNat_lt]
  unfold byD
  rw [UInt8.toNat_ofNat',UInt8.toNat_ofNat']
  omega
theorem digs_less {d:Int} (hd:2≤d) (Z:d≤10) : ∀ (m:Nat) (a b:Int),0≤a→a < b→b < d ^ m→Op.bytesLess ((digs d m a).map byD) ((digs d m b).map byD)=true:=by
  intro m
  induction m with
  | zero=>intro a b h0 h1 h2;simp at h2;omega
  | succ m ih =>
    intro a b h0 h1 h2
    rw [digs,digs,List.map_append,List.map_append]
    have J:=Int.emod_nonneg a (show d≠0 by omega)
    have a1:=Int.emod_lt_of_pos a (show 0 < d by omega)
    have Y:=Int.emod_nonneg b (show d≠0 by omega)
    have a6:=Int.emod_lt_of_pos b (show 0 < d by omega)
    have ha:=Int.mul_ediv_add_emod a d
    have hb:=Int.mul_ediv_add_emod b d
    have hle:a / d≤b / d:=Int.ediv_le_ediv (by omega) (by omega)
    by_cases e:a / d < b / d
    · refine less_app _ _ _ _ (by rw [List.length_map,List.length_map,digs_length,digs_length]) (ih _ _ (Int.ediv_nonneg h0 (by omega)) e ?_)
      refine Int.ediv_lt_of_lt_mul (by omega) ?_
      rw [←Int.pow_succ];exact h2
    · have e2:a / d=b / d:=by omega
      rw [e2]
      refine less_pre _ _ _ ?_
      rw [e2] at ha
      have:=byD_lt (a:=a % d) (b:=b % d) ⟨J,by omega⟩ ⟨Y,by omega⟩ (by omega)
      simp [Op.bytesLess,this]
/-! Solutions: they come in order, they fit all clues, fewer clues leave more of them. -/
theorem codeB_less {w d:Int} (hl:lockB w d=true) {a b:Int} (h0:0≤a) (h1:a < b) (h2:b < d ^ w.toNat):Op.bytesLess (codeB w d a).toList (codeB w d b).toList=true:=by
  obtain ⟨w1,w2,d1,d2⟩:=lockB_iff.mp hl
  have e : ∀ n,(codeB w d n).toList=(digs d w.toNat n).map byD:=fun n=>by
    rw [ByteArray.toList_eq]
    exact textB_bytes (fun x hx=>by have:=digs_range (d:=d) (by omega) w.toNat n x hx;omega)
  rw [e,e]
  exact digs_less d1 d2 _ _ _ h0 h1 h2
theorem solA_mem {w d:Int} {l:List S48} : ∀ n,∀ s∈solA w d l n,∃ k:Nat,k < n∧s=codeB w d (k:Nat)∧fitA w d l s=true
  | 0=>fun s hs=>by simp [solA] at hs
  | n + 1 => fun s hs => by
    unfold solA at hs
    rw [List.mem_append] at hs
    rcases hs with hs | hs
    · obtain ⟨k,h1,h2⟩:=solA_mem n s hs
      exact ⟨k,by omega,h2⟩
    · split at hs
      · rename_i hf
        rw [List.mem_singleton] at hs
        subst hs
        exact ⟨n,by omega,rfl,hf⟩
      · simp at hs
theorem solA_rises {w d:Int} (hl:lockB w d=true) (l:List S48) : ∀ n:Nat,(n:Int)≤d ^ w.toNat→(solA w d l n).Pairwise fun x y=>Op.bytesLess x.toList y.toList=true
  | 0=>fun _=>List.Pairwise.nil
  | n + 1 => fun hn => by
    unfold solA
    rw [List.pairwise_append]
    refine ⟨solA_rises hl l n (by omega),by split <;> simp,fun x hx y hy=>?_⟩
    split at hy
    · rw [List.mem_singleton] at hy
      subst hy
      obtain ⟨k,h1,rfl,_⟩:=solA_mem n x hx
      exact codeB_less hl (by omega) (by omega) (by omega)
    · simp at hy
theorem solA_nil {w d:Int} : ∀ n,(solA w d [] n).length=n
  | 0=>rfl
  | n + 1=>by unfold solA;rw [List.length_append,solA_nil n];rfl
/-! Fewer clues leave more solutions. -/
theorem fitA_sub {w d:Int} {l m:List S48} (h:m.Sublist l) {s:ByteArray} (hf:fitA w d l s=true):fitA w d m s=true:=by
  unfold fitA at hf ⊢
  rw [List.all_eq_true] at hf ⊢
  exact fun c hc=>hf c (h.subset hc)
theorem solA_sub {w d:Int} {l m:List S48} (h:m.Sublist l) : ∀ n,(solA w d l n).Sublist (solA w d m n)
  | 0=>List.Sublist.refl _
  | n + 1 => by
    unfold solA
    refine List.Sublist.append (solA_sub h n) ?_
    by_cases e:fitA w d l (codeB w d (n:Nat))=true
    · rw [if_pos e,if_pos (fitA_sub h e)];exact List.Sublist.refl _
    · rw [if_neg e];exact List.nil_sublist _
/-! What NeedlessClues comes to, over numbers and lists alone. -/
def needL (w d:Int) (l:List S48):Nat→List Int
  | 0=> []
  | i + 1=>needL w d l i ++ if (solA w d (l.eraseIdx i) (d ^ w.toNat).toNat).length=(solA w d l (d ^ w.toNat).toNat).length then [((i:Nat):Int)] else []
theorem needL_len (w d:Int) (l:List S48) : ∀ n,(needL w d l n).length≤n
  | 0=>by simp [needL]
  | n + 1 => by
    have:=needL_len w d l n
    simp only [needL,List.length_append]
    split <;> simp <;> omega
theorem erase_ok {w d:Int} {l:List S48} (h : ∀ c∈l,clueB w d c.f0 c.f1 c.f2=true) (i:Nat) : ∀ c∈l.eraseIdx i,clueB w d c.f0 c.f1 c.f2=true:=fun c hc=>h c (List.mem_of_mem_eraseIdx hc)
theorem spec_pzWithout.one {l:List S48} {i:Nat} (h6:l.length≤6) (hi:i < l.length):spec_pzWithout.f l (i:Nat)=some (l.eraseIdx i):=by
  unfold spec_pzWithout.f
  have hw:wrap64 ((i:Int) + 1)=((i + 1:Nat):Int):=w64 (by omega) (by omega)
  simp only [Option.bind_some,hw,Int.toNat_natCast,List.nil_append]
  rw [if_pos (by omega),if_pos (by omega),if_pos (by simp;omega),if_pos (by omega),if_pos (by omega),if_pos (by simp;omega),List.eraseIdx_eq_take_drop_succ]
theorem impl_but.one {l:List S48} {i:Nat} (h6:l.length≤6) (hi:i < l.length):impl_but.f l (i:Nat)=some (l.eraseIdx i):=by
  unfold impl_but.f
  rw [if_pos ⟨by omega,by omega,by omega⟩,Int.toNat_natCast]
theorem impl_NeedlessClues.lev {w d:Int} (hl:lockB w d=true) (l:List S48) (h6:l.length≤6) (h : ∀ c∈l,clueB w d c.f0 c.f1 c.f2=true) : ∀ (m i:Nat),i + m=l.length→Ev (fun k=>impl_NeedlessClues.l0 k (solA w d l (d ^ w.toNat).toNat) (needL w d l i) (l.length:Int) (i:Nat) w d l) (needL w d l l.length,true):=by
  intro m
  induction m with
  | zero =>
    intro i hi
    refine Ev.step (fun k=>rfl) (Ev.no (by omega) (Ev.id ?_))
    rw [show i=l.length by omega]
  | succ m ih =>
    intro i hi
    have hx:=needL_len w d l i
    refine Ev.step (fun k=>rfl) (Ev.yes (by omega) (Ev.bindc (impl_but.one h6 (by omega)) (Ev.bind (impl_Lock_solutions.ev hl _ (erase_ok h i)) ?_)))
    rw [show wrap64 ((i:Int) + 1)=((i + 1:Nat):Int) from w64 (by omega) (by omega)]
    have hh:=ih (i + 1) (by omega)
    rw [needL] at hh
    by_cases e:(solA w d (l.eraseIdx i) (d ^ w.toNat).toNat).length=(solA w d l (d ^ w.toNat).toNat).length
    · rw [if_pos e] at hh;exact Ev.yes (by omega) (Ev.yes (by omega) hh)
    · rw [if_neg e,List.append_nil] at hh;exact Ev.no (by omega) hh
def needR (w d:Int) (l:List S48):List Int×Bool:=if puzzleB w d l=true then (needL w d l l.length,true) else ([],false)
theorem needR_len (w d:Int) (l:List S48):(needR w d l).1.length≤1000000:=by
  unfold needR
  cases h:puzzleB w d l with
  | true=>obtain ⟨_,h2,_⟩:=puzzleB_parts h;have:=needL_len w d l l.length;rw [if_pos rfl];show (needL w d l l.length).length≤_;omega
  | false=>simp
theorem impl_NeedlessClues.ev (w d:Int) (l:List S48):Ev (fun k=>impl_NeedlessClues.f k w d l) (needR w d l):=by
  unfold impl_NeedlessClues.f needR
  refine Ev.bind (impl_Solutions.ev w d l) ?_
  cases h:puzzleB w d l with
  | true =>
    obtain ⟨h1,h2,h3⟩:=puzzleB_parts h
    rw [if_pos rfl,if_pos rfl]
    exact Ev.yes rfl (impl_NeedlessClues.lev h1 l h2 h3 l.length 0 (by omega))
  | false =>
    rw [if_neg (by simp),if_neg (by simp)]
    exact Ev.no (by simp) (Ev.now _)
/-! First solutions, sure digits, what clues leave, needless clues, best clues: what the law asks of them. -/
theorem first_is {xs:List ByteArray} (h : ¬ xs.length=0):firstV xs=(rdOf ByteArray.empty xs 0,true):=by unfold firstV;exact if_neg h
theorem bt_nums {L:List Int} (h : ∀ x∈L,0≤x∧x < 256) {i:Nat} (hi:i < L.length):bt (strOfNums L) (i:Nat)=L[i]:=by
  have hx:=h L[i] (List.getElem_mem hi)
  have hs:(strOfNums L).size=L.length:=strOfNums_size L
  unfold bt
  rw [dif_pos (by rw [hs];simpa using hi)]
  have e1:((strOfNums L)[(i:Int).toNat]'(by rw [hs];simpa using hi))=UInt8.ofNat (L[i]).toNat:=by
    show (strOfNums L).data[(i:Int).toNat]'_=_
    have:(strOfNums L).data=(L.map fun n=>UInt8.ofNat n.toNat).toArray:=rfl
    simp [this]
  rw [e1]
  simp
  omega
theorem bt_byteB (s:ByteArray) (i:Int):0≤bt s i∧bt s i < 256:=by
  unfold bt
  split
  · exact ⟨Int.natCast_nonneg _,by have:=(s[i.toNat]).toNat_lt;omega⟩
  · exact ⟨Int.le_refl _,by omega⟩
theorem sureC_byte (xs:List ByteArray) (s:ByteArray) (j i:Nat):0≤sureC xs s j i∧sureC xs s j i < 256:=by
  unfold sureC
  split
  · exact bt_byteB s _
  · omega
theorem sureC_fits {xs:List ByteArray} {s t:ByteArray} (ht:t∈xs) (i:Nat):sureC xs s xs.length i=63∨sureC xs s xs.length i=bt t (i:Nat):=by
  unfold sureC
  split
  · rename_i h
    rw [List.all_eq_true] at h
    exact Or.inr (of_decide_eq_true (h t (by rw [List.take_length];exact ht))).symm
  · exact Or.inl rfl
theorem sureL_byte (xs:List ByteArray) (s:ByteArray) (j n:Nat) : ∀ x∈sureL xs s j n,0≤x∧x < 256:=by
  intro x hx
  obtain ⟨i,_,rfl⟩:=List.mem_map.mp hx
  exact sureC_byte xs s j i
theorem bt_sureL (xs:List ByteArray) (s:ByteArray) (j n i:Nat) (h:i < n):bt (strOfNums (sureL xs s j n)) (i:Nat)=sureC xs s j i:=by
  rw [bt_nums (sureL_byte xs s j n) (by rw [sureL_length];exact h),sureL_get]
theorem bt_all {a b:ByteArray} (hs:a.size=b.size) (h : ∀ i < a.size,bt a (i:Nat)=bt b (i:Nat)):a=b:=by
  apply ByteArray.ext
  apply Array.ext
  · exact hs
  · intro i h1 h2
    have:=h i h1
    unfold bt at this
    rw [dif_pos (by simpa using h1),dif_pos (by simpa using h2)] at this
    simp only [Int.toNat_natCast] at this
    exact UInt8.toNat_inj.mp (by exact_mod_cast this)
theorem sureV_yes {w d:Int} {l:List S48} (hp:puzzleB w d l=true) (h0 : ¬ (solA w d l (d ^ w.toNat).toNat).length=0) : ∃ S,sureV w d l=(S,true)∧S.size=w.toNat∧(∀ t∈solA w d l (d ^ w.toNat).toNat,∀ i:Nat,i < w.toNat→bt S (i:Nat)=63∨bt S (i:Nat)=bt t (i:Nat))∧((solA w d l (d ^ w.toNat).toNat).length=1→S=rdOf ByteArray.empty (solA w d l (d ^ w.toNat).toNat) 0):=by
  have hl:=(puzzleB_parts hp).1
  have hc:=solA_code hl l (d ^ w.toNat).toNat
  unfold sureV
  rw [if_pos hp,if_neg h0]
  generalize solA w d l (d ^ w.toNat).toNat=xs at h0 hc
  have hm:hdS xs∈xs:=by
    show rdOf ByteArray.empty xs ((0:Nat):Int)∈xs
    rw [rdOf_get (by omega)]
    exact List.getElem_mem _
  have hsz:=(hc _ hm).1
  have hS:(strOfNums (sureL xs (hdS xs) xs.length (hdS xs).size)).size=w.toNat:=by rw [strOfNums_size,sureL_length,hsz]
  refine ⟨_,rfl,hS,fun t ht i hi=>?_,fun h1=>?_⟩
  · rw [bt_sureL _ _ _ _ _ (by omega)]
    exact sureC_fits ht i
  · refine bt_all (by rw [hS];exact hsz.symm) (fun i hi=>?_)
    rw [bt_sureL _ _ _ _ _ (by omega)]
    show _=bt (hdS xs) (i:Nat)
    unfold sureC
    rw [if_pos]
    rw [List.all_eq_true,List.take_length]
    intro t ht
    have:t=hdS xs:=by
      match xs,h1,ht with
      | [x],_,ht=>rw [List.mem_singleton] at ht;rw [ht];rfl
    rw [this]
    exact decide_eq_true rfl
theorem rd_left {w d:Int} {l:List S48} {n j:Nat} (h:j < n):rd (leftL w d l n) (j:Nat)=((solA w d (l.take j) (d ^ w.toNat).toNat).length:Int):=by
  rw [rd_at (by simpa [leftL] using h)]
  simp [leftL]
theorem left_falls {w d:Int} {l:List S48} {n j:Nat} (h:j + 1 < n):rd (leftL w d l n) ((j + 1:Nat):Int)≤rd (leftL w d l n) (j:Nat):=by
  rw [rd_left h,rd_left (by omega)]
  have:=(solA_sub (w:=w) (d:=d) (List.take_sublist_take_left (l:=l) (show j≤j + 1 by omega)) (d ^ w.toNat).toNat).length_le
  omega
theorem left_len {w d:Int} {l:List S48} {n:Nat} : (leftL w d l n).length=n:=by simp [leftL]
theorem left_first {w d:Int} {l:List S48} {n:Nat} (hd:0≤d) (h:0 < n):rd (leftL w d l n) ((0:Nat):Int)=d ^ w.toNat:=by
  rw [rd_left h,List.take_zero,solA_nil]
  have:0≤d ^ w.toNat:=Int.pow_nonneg hd
  omega
theorem left_last {w d:Int} {l:List S48} : rd (leftL w d l (l.length + 1)) (l.length:Nat)=((solA w d l (d ^ w.toNat).toNat).length:Int):=by
  rw [rd_left (Nat.lt_succ_self _),List.take_length]
theorem needL_mem {w d:Int} {l:List S48} {i:Nat} : ∀ n,((i:Int)∈needL w d l n ↔ i < n∧(solA w d (l.eraseIdx i) (d ^ w.toNat).toNat).length=(solA w d l (d ^ w.toNat).toNat).length)
  | 0=>by simp [needL]
  | n + 1 => by
    rw [needL,List.mem_append,needL_mem n]
    constructor
    · rintro (h | h)
      · exact ⟨by omega,h.2⟩
      · split at h
        · rename_i e
          rw [List.mem_singleton] at h
          have:i=n:=by omega
          subst this
          exact ⟨by omega,e⟩
        · simp at h
    · intro h
      by_cases e:i=n
      · subst e
        right
        rw [if_pos h.2]
        exact List.mem_singleton.mpr rfl
      · exact Or.inl ⟨by omega,h.2⟩
theorem bestV_range {f:Nat→Int} {N:Nat} : ∀ (m i:Nat) (b x:Int),i + m=N→0≤b→b < N→0≤bestV f m i b x∧bestV f m i b x < N
  | 0,_,_,_=>fun _ h0 h1=>⟨h0,h1⟩
  | m + 1, i, b, x => fun h h0 h1 => by
    unfold bestV
    split
    · exact bestV_range m (i + 1) _ _ (by omega) (by omega) (by omega)
    · exact bestV_range m (i + 1) _ _ (by omega) h0 h1
/-! What IsSolved comes to, over numbers and lists alone. -/
theorem impl_IsSolved.ev (w d:Int) (l:List S48):Ev (fun k=>impl_IsSolved.f k w d l) (if puzzleB w d l=true then (((solA w d l (d ^ w.toNat).toNat).length:Int) == 1,true) else (false,false)):=by
  unfold impl_IsSolved.f
  refine Ev.bind (impl_Solutions.ev w d l) (Ev.id ?_)
  cases h:puzzleB w d l <;> simp
/-! Solved or not, as the reference tells it. -/
theorem spec_IsSolved.ev (w d:Int) (l:List S48) (hn:l.length≤9223372036854775807):Ev (fun k=>spec_IsSolved.f k w d l) (if puzzleB w d l=true then (((solA w d l (d ^ w.toNat).toNat).length:Int) == 1,true) else (false,false)):=by
  unfold spec_IsSolved.f spec_pzSolved.f
  refine Ev.bind (spec_pzGood.ev w d l hn) ?_
  cases h:puzzleB w d l with
  | true =>
    obtain ⟨h1,h2,h3⟩:=puzzleB_parts h
    rw [if_pos rfl]
    exact Ev.yes rfl (Ev.bind (Ev.bind (spec_pzAll.ev h1 l h2 h3) (Ev.now _)) (Ev.now _))
  | false =>
    rw [if_neg (by simp)]
    exact Ev.no (by simp) (Ev.now _)
/-! What clues leave: what the two come to. -/
theorem spec_LeftByClues.lev {w d:Int} (hl:lockB w d=true) (l:List S48) (h6:l.length≤6) (h : ∀ c∈l,clueB w d c.f0 c.f1 c.f2=true) : ∀ (m i:Nat),i + m=l.length + 1→Ev (fun k=>spec_LeftByClues.l0 k (leftL w d l i) (i:Nat) w d l) (leftL w d l (l.length + 1),true):=by
  intro m
  induction m with
  | zero =>
    intro i hi
    refine Ev.step (fun k=>rfl) (Ev.no (by omega) (Ev.id ?_))
    rw [show i=l.length + 1 by omega]
  | succ m ih =>
    intro i hi
    refine Ev.step (fun k=>rfl) (Ev.yes (by omega) (Ev.yes (by omega) ?_))
    rw [Int.toNat_natCast]
    refine Ev.bind (spec_pzAll.ev hl _ (by rw [List.length_take];omega) (take_ok h i)) (Ev.yes (by simp [leftL];omega) ?_)
    rw [show wrap64 ((i:Int) + 1)=((i + 1:Nat):Int) from w64 (by omega) (by omega),←leftL_succ]
    exact ih (i + 1) (by omega)
theorem impl_LeftByClues.lev {w d:Int} (hl:lockB w d=true) (l:List S48) (h6:l.length≤6) (h : ∀ c∈l,clueB w d c.f0 c.f1 c.f2=true) : ∀ (m i:Nat),i + m=l.length + 1→Ev (fun k=>impl_LeftByClues.l0 k (leftL w d l i) (((l.length + 1:Nat)):Int) (i:Nat) w d l) (leftL w d l (l.length + 1),true):=by
  intro m
  induction m with
  | zero =>
    intro i hi
    refine Ev.step (fun k=>rfl) (Ev.no (by omega) (Ev.id ?_))
    rw [show i=l.length + 1 by omega]
  | succ m ih =>
    intro i hi
    refine Ev.step (fun k=>rfl) (Ev.yes (by omega) (Ev.yes (by omega) (Ev.yes (by omega) ?_)))
    rw [Int.toNat_natCast]
    refine Ev.bind (impl_Lock_solutions.ev hl _ (take_ok h i)) (Ev.yes (by simp [leftL];omega) ?_)
    rw [show wrap64 ((i:Int) + 1)=((i + 1:Nat):Int) from w64 (by omega) (by omega),←leftL_succ]
    exact ih (i + 1) (by omega)
theorem spec_LeftByClues.ev (w d:Int) (l:List S48) (hn:l.length≤9223372036854775807):Ev (fun k=>spec_LeftByClues.f k w d l) (leftR w d l):=by
  unfold spec_LeftByClues.f leftR
  refine Ev.bind (spec_pzGood.ev w d l hn) ?_
  cases h:puzzleB w d l with
  | true =>
    obtain ⟨h1,h2,h3⟩:=puzzleB_parts h
    rw [if_pos rfl]
    exact Ev.yes rfl (spec_LeftByClues.lev h1 l h2 h3 (l.length + 1) 0 (by omega))
  | false =>
    rw [if_neg (by simp)]
    exact Ev.no (by simp) (Ev.now _)
theorem impl_LeftByClues.ev (w d:Int) (l:List S48):Ev (fun k=>impl_LeftByClues.f k w d l) (leftR w d l):=by
  unfold impl_LeftByClues.f leftR
  refine Ev.bindc (show impl_IsPuzzle.f w d l=some (puzzleB w d l) from rfl) ?_
  cases h:puzzleB w d l with
  | true =>
    obtain ⟨h1,h2,h3⟩:=puzzleB_parts h
    rw [if_pos rfl]
    rw [show wrap64 ((l.length:Int) + 1)=((l.length + 1:Nat):Int) from w64 (by omega) (by omega)]
    exact Ev.yes rfl (impl_LeftByClues.lev h1 l h2 h3 (l.length + 1) 0 (by omega))
  | false =>
    rw [if_neg (by simp)]
    exact Ev.no (by simp) (Ev.now _)
/-! Needless clues, as the reference tells them. -/
theorem spec_NeedlessClues.lev {w d:Int} (hl:lockB w d=true) (l:List S48) (h6:l.length≤6) (h : ∀ c∈l,clueB w d c.f0 c.f1 c.f2=true) : ∀ (m i:Nat),i + m=l.length→Ev (fun k=>spec_NeedlessClues.l0 k (needL w d l i) ((solA w d l (d ^ w.toNat).toNat).length:Int) (l.length:Int) (i:Nat) w d l) (needL w d l l.length,true):=by
  intro m
  induction m with
  | zero =>
    intro i hi
    refine Ev.step (fun k=>rfl) (Ev.no (by omega) (Ev.id ?_))
    rw [show i=l.length by omega]
  | succ m ih =>
    intro i hi
    have hx:=needL_len w d l i
    have he:=List.length_eraseIdx_le l i
    refine Ev.step (fun k=>rfl) (Ev.yes (by omega) (Ev.bindc (spec_pzWithout.one h6 (by omega)) (Ev.bind (spec_pzAll.ev hl _ (by omega) (erase_ok h i)) ?_)))
    rw [show wrap64 ((i:Int) + 1)=((i + 1:Nat):Int) from w64 (by omega) (by omega)]
    have hh:=ih (i + 1) (by omega)
    rw [needL] at hh
    by_cases e:(solA w d (l.eraseIdx i) (d ^ w.toNat).toNat).length=(solA w d l (d ^ w.toNat).toNat).length
    · rw [if_pos e] at hh;exact Ev.yes (by omega) (Ev.yes (by omega) hh)
    · rw [if_neg e,List.append_nil] at hh;exact Ev.no (by omega) hh
theorem spec_NeedlessClues.ev (w d:Int) (l:List S48) (hn:l.length≤9223372036854775807):Ev (fun k=>spec_NeedlessClues.f k w d l) (needR w d l):=by
  unfold spec_NeedlessClues.f needR
  refine Ev.bind (spec_pzGood.ev w d l hn) ?_
  cases h:puzzleB w d l with
  | true =>
    obtain ⟨h1,h2,h3⟩:=puzzleB_parts h
    rw [if_pos rfl]
    exact Ev.yes rfl (Ev.bind (spec_pzAll.ev h1 l h2 h3) (spec_NeedlessClues.lev h1 l h2 h3 l.length 0 (by omega)))
  | false =>
    rw [if_neg (by simp)]
    exact Ev.no (by simp) (Ev.now _)
/-! What Solutions comes to, over numbers and lists alone. -/
def solR (w d:Int) (l:List S48):List ByteArray×Bool:=if puzzleB w d l=true then (solA w d l (d ^ w.toNat).toNat,true) else ([],false)
theorem solR_len (w d:Int) (l:List S48):(solR w d l).1.length≤1000:=by
  unfold solR
  cases h:puzzleB w d l with
  | true =>
    have h2:smallB w d 125=true:=by unfold puzzleB at h;rw [Bool.and_eq_true,Bool.and_eq_true] at h;exact h.1.1
    have:=(smallB_iff.mp h2).2
    have:=solA_len w d l (d ^ w.toNat).toNat
    rw [if_pos rfl];show (solA w d l (d ^ w.toNat).toNat).length≤_;omega
  | false=>simp
theorem impl_Solutions.evR (w d:Int) (l:List S48):Ev (fun k=>impl_Solutions.f k w d l) (solR w d l):=impl_Solutions.ev w d l
/-! Solutions, as the reference tells them. -/
theorem spec_Solutions.ev (w d:Int) (l:List S48) (hn:l.length≤9223372036854775807):Ev (fun k=>spec_Solutions.f k w d l) (solR w d l):=by
  unfold spec_Solutions.f solR
  refine Ev.bind (spec_pzGood.ev w d l hn) ?_
  cases h:puzzleB w d l with
  | true =>
    obtain ⟨h1,h2,h3⟩:=puzzleB_parts h
    rw [if_pos rfl]
    exact Ev.yes rfl (Ev.bind (spec_pzAll.ev h1 l h2 h3) (Ev.now _))
  | false =>
    rw [if_neg (by simp)]
    exact Ev.no (by simp) (Ev.now _)
/-! Sure digits: what the two come to. -/
theorem spec_SureDigits.ev (w d:Int) (l:List S48) (hn:l.length≤9223372036854775807):Ev (fun k=>spec_SureDigits.f k w d l) (sureV w d l):=by
  unfold spec_SureDigits.f sureV
  refine Ev.bind (spec_pzGood.ev w d l hn) ?_
  cases h:puzzleB w d l with
  | true =>
    obtain ⟨h1,h2,h3⟩:=puzzleB_parts h
    rw [if_pos rfl]
    refine Ev.yes rfl (Ev.bind (spec_pzAll.ev h1 l h2 h3) ?_)
    by_cases e:(solA w d l (d ^ w.toNat).toNat).length=0
    · exact Ev.eq (Ev.yes e (Ev.now _)) (by rw [if_pos e])
    · exact Ev.eq (Ev.no e (Ev.yes (sureOk_solA h1 l _ e) (Ev.now _))) (by rw [if_neg e])
  | false =>
    rw [if_neg (by simp)]
    exact Ev.no (by simp) (Ev.now _)
theorem impl_SureDigits.ev (w d:Int) (l:List S48):Ev (fun k=>impl_SureDigits.f k w d l) (sureV w d l):=by
  unfold impl_SureDigits.f sureV
  refine Ev.bind (impl_Solutions.ev w d l) ?_
  cases h:puzzleB w d l with
  | true =>
    obtain ⟨h1,h2,h3⟩:=puzzleB_parts h
    have hs:=sureOk_solA h1 l (d ^ w.toNat).toNat
    rw [if_pos rfl]
    simp only [if_true]
    generalize solA w d l (d ^ w.toNat).toNat=xs at hs
    by_cases e:xs.length=0
    · exact Ev.eq (Ev.yes e (Ev.now _)) (by rw [if_pos e])
    · exact Ev.eq (Ev.no e (Ev.yes (hs e) (Ev.now _))) (by rw [if_neg e])
  | false =>
    exact Ev.now ((⟨#[]⟩:ByteArray),false)
/-! What the callees of the law FnCodesGuessedOfAll come to, told at once. -/
theorem laws_eHas.ev (l:List Int) (hn:l.length≤1000000) (n:Int):Ev (fun k=>laws_eHas.f k l n) (decide (n∈l)):=by
  have : ∀ (m i:Nat),i + m=l.length→Ev (fun k=>laws_eHas.l0 k n l (l.length:Int) (i:Nat)) (decide (n∈l.drop i)):=by
    intro m
    induction m with
    | zero =>
      intro i hi
      refine Ev.step (fun k=>rfl) (Ev.no (by omega) (Ev.id ?_))
      rw [List.drop_eq_nil_of_le (by omega)];rfl
    | succ m ih =>
      intro i hi
      have hlt:i < l.length:=by omega
      rw [List.drop_eq_getElem_cons hlt]
      refine Ev.step (fun k=>rfl) (Ev.yes (by omega) (Ev.yes (by omega) (Ev.yes (by omega) ?_)))
      rw [show rd l (i:Nat)=l[i] from rd_at (by simpa using hlt)]
      by_cases h:l[i]=n
      · exact Ev.yes h (Ev.id (decide_eq_true (by rw [h];exact List.mem_cons_self)).symm)
      · refine Ev.no h ?_
        rw [show wrap64 ((i:Int) + 1)=((i + 1:Nat):Int) from w64 (by omega) (by omega),show decide (n∈l[i] :: l.drop (i + 1))=decide (n∈l.drop (i + 1)) from decide_eq_decide.mpr (by rw [List.mem_cons];exact ⟨fun e=>e.resolve_left (fun e=>h e.symm),Or.inr⟩)]
        exact ih (i + 1) (by omega)
  unfold laws_eHas.f
  have:=this l.length 0 (by omega)
  rw [List.drop_zero] at this
  exact this
theorem impl_CountCodes.ev {w d:Int} (h:lockB w d=true):Ev (fun k=>impl_CountCodes.f k w d) (d ^ w.toNat,true):=by
  unfold impl_CountCodes.f
  rw [impl_IsLock.is,h]
  exact Ev.bindc rfl (Ev.yes rfl (Ev.bind (impl_Lock_count.ev h) (Ev.now _)))
theorem parse_own {w d:Int} {l:List S48} (h:puzzleB w d l=true):Ev (fun k=>impl_ParsePuzzle.f k (puzzleT w d l)) (w,d,l,true):=by
  have hs:=puzzleT_small h
  obtain ⟨w1,d1,l1,hi,o1⟩:=impl_ParsePuzzle.ev (puzzleT w d l) (by omega)
  obtain ⟨rfl,rfl,rfl⟩:=o1 w d l h rfl
  have e:qqV w1 d1 l1 (puzzleT w1 d1 l1)=(w1,d1,l1,true):=by unfold qqV;exact if_pos ⟨h,rfl⟩
  rw [e] at hi
  exact hi
theorem guess_S:Guess_S:=by
  intro s hs
  obtain ⟨w1,d1,l1,hi,o1⟩:=impl_ParsePuzzle.ev s hs
  obtain ⟨w2,d2,l2,hx,o2⟩:=spec_ParsePuzzle.ev s hs
  rw [qqV_own o2 o1] at hx
  have q1:=qqV_len w1 d1 l1 s
  by_cases h:puzzleB w1 d1 l1=true∧puzzleT w1 d1 l1=s
  · have e:qqV w1 d1 l1 s=(w1,d1,l1,true):=by unfold qqV;exact if_pos h
    rw [e] at hi hx q1
    have ht:=impl_PuzzleText.ev w1 d1 l1
    have e2:pzV w1 d1 l1=(s,true):=by unfold pzV;rw [if_pos h.1,h.2]
    rw [e2] at ht
    obtain ⟨k,hk⟩:=Evt.and hi (Evt.and hx (Evt.and (laws_ePuzzle.ev w1 d1 l1 (by simp only at q1;omega)) ht))
    obtain ⟨g1,g2,g3,g4⟩:=hk k (Nat.le_refl _)
    exact ⟨k,w1,d1,l1,true,g1,g2,g3,fun _=>g4⟩
  · have e:qqV w1 d1 l1 s=(0,0,[],false):=by unfold qqV;exact if_neg h
    rw [e] at hi hx
    obtain ⟨k,hk⟩:=Evt.and hi (Evt.and hx (laws_ePuzzle.ev 0 0 [] (by simp)))
    obtain ⟨g1,g2,g3⟩:=hk k (Nat.le_refl _)
    exact ⟨k,0,0,[],false,g1,g2,g3,fun h=>absurd h (by simp)⟩
theorem guess_fits {w d:Int} {l:List S48} (h:puzzleB w d l=true) {t:ByteArray} (ht:t∈solA w d l (d ^ w.toNat).toNat) {c:S48} (hc:c∈l):Ev (fun k=>impl_DoesFit.f k w d c.f0 c.f1 c.f2 t) (true,true):=by
  obtain ⟨hl,h6,hcl⟩:=puzzleB_parts h
  have hs:=solA_code hl l _ t ht
  obtain ⟨_,_,_,hf⟩:=solA_mem _ t ht
  have h1:smallB w d 125=true:=by unfold puzzleB at h;rw [Bool.and_eq_true,Bool.and_eq_true] at h;exact h.1.1
  have e:=impl_DoesFit.ev w d c.f0 c.f1 c.f2 t
  unfold fitA at hf
  rw [List.all_eq_true] at hf
  have e2:doesV w d c.f0 c.f1 c.f2 t=(true,true):=by
    unfold doesV
    rw [if_pos (by rw [h1,hcl c hc,codeT_iff.mpr hs];rfl),hf c hc]
  rw [e2] at e
  exact e
theorem guess_drop {w d:Int} {l:List S48} (h:puzzleB w d l=true) (i:Nat) (hi:i < l.length):Evt fun k=> ∃ still,impl_CountSolutions.f k w d (l.eraseIdx i)=some (still,true)∧laws_eHas.f k (needL w d l l.length) (i:Nat)=some (still == ((solA w d l (d ^ w.toNat).toNat).length:Int)):=by
  obtain ⟨hl,h6,hcl⟩:=puzzleB_parts h
  have hq:puzzleB w d (l.eraseIdx i)=true:=by
    unfold puzzleB at h ⊢
    simp only [Bool.and_eq_true,decide_eq_true_eq,List.all_eq_true] at h ⊢
    refine ⟨⟨h.1.1,?_⟩,fun c hc=>h.2 c (List.mem_of_mem_eraseIdx hc)⟩
    rw [List.length_eraseIdx_of_lt hi];omega
  have e1:=impl_CountSolutions.ev w d (l.eraseIdx i)
  rw [if_pos hq] at e1
  have hn:=needL_len w d l l.length
  have e2:=laws_eHas.ev (needL w d l l.length) (by omega) (i:Nat)
  have e3:decide (((i:Nat):Int)∈needL w d l l.length)=(((solA w d (l.eraseIdx i) (d ^ w.toNat).toNat).length:Int) == ((solA w d l (d ^ w.toNat).toNat).length:Int)):=by
    rw [Bool.eq_iff_iff,decide_eq_true_eq,needL_mem,beq_iff_eq]
    constructor
    · intro e;omega
    · intro e;exact ⟨hi,by omega⟩
  rw [e3] at e2
  exact Evt.mono (Evt.and e1 e2) (fun k e=>⟨_,e.1,e.2⟩)
theorem guess_P:Guess_P:=by
  intro P D L hL
  have A1:=impl_Solutions.evR P D L
  have A2:=spec_Solutions.ev P D L (by omega)
  have A3:=impl_CountSolutions.ev P D L
  have A4:=spec_CountSolutions.ev P D L (by omega)
  have A5:=impl_FirstSolution.ev P D L
  have A6:=spec_FirstSolution.ev P D L (by omega)
  have A7:=impl_SureDigits.ev P D L
  have A8:=spec_SureDigits.ev P D L (by omega)
  have A9:=impl_IsSolved.ev P D L
  have J:=spec_IsSolved.ev P D L (by omega)
  have Y:=impl_NeedlessClues.ev P D L
  have Z:=spec_NeedlessClues.ev P D L (by omega)
  have a1:=impl_LeftByClues.ev P D L
  have a6:=spec_LeftByClues.ev P D L (by omega)
  have a7:=impl_BestClue.ev P D L
  have a8:=spec_BestClue.ev P D L (by omega)
  have aa:=impl_PuzzleText.ev P D L
  have ab:=spec_PuzzleText.ev P D L (by omega)
  have ac:Ev (fun k=>spec_IsPuzzle.f k P D L) (puzzleB P D L):=Ev.bind (spec_pzGood.ev P D L (by omega)) (Ev.now _)
  have hsl:=solR_len P D L
  have hnl:=needR_len P D L
  have hll:=leftR_len P D L
  cases h:puzzleB P D L with
  | false =>
    have z1:solR P D L=([],false):=by unfold solR;rw [h];exact if_neg (by simp)
    have z2:sureV P D L=(⟨#[]⟩,false):=by unfold sureV;rw [h];exact if_neg (by simp)
    have z3:needR P D L=([],false):=by unfold needR;rw [h];exact if_neg (by simp)
    have z4:leftR P D L=([],false):=by unfold leftR;rw [h];exact if_neg (by simp)
    have z5:bestR P D L=(0,false):=by unfold bestR;rw [h];exact if_neg (by simp)
    have z6:pzV P D L=(⟨#[]⟩,false):=by unfold pzV;rw [h];exact if_neg (by simp)
    rw [h,if_neg (by simp)] at A3 A4 A5 A6 A9 J
    rw [z1] at A1 A2
    rw [z2] at A7 A8
    rw [z3] at Y Z
    rw [z4] at a1 a6
    rw [z5] at a7 a8
    rw [z6] at aa ab
    rw [h] at ac
    obtain ⟨k,hk⟩:=Evt.and A1 (Evt.and A2 (Evt.and A3 (Evt.and A4 (Evt.and A5 (Evt.and A6 (Evt.and A7 (Evt.and A8 (Evt.and A9 (Evt.and J (Evt.and Y (Evt.and Z (Evt.and a1 (Evt.and a6 (Evt.and a7 (Evt.and a8 (Evt.and aa (Evt.and ab (Evt.and ac (Evt.and (laws_eTexts.ev [] (by simp)) (laws_eSame.ev [] (by simp)))))))))))))))))))))
    obtain ⟨g1,g2,g3,g4,g5,g6,g7,g8,g9,g10,g11,g12,g13,g14,g15,g16,g17,g18,g20,g21,g22⟩:=hk k (Nat.le_refl _)
    exact ⟨k,[],false,false,false,false,0,0,0,⟨#[]⟩,⟨#[]⟩,⟨#[]⟩,[],[],g1,g2,g3,g4,g5,g6,g7,g8,g9,g10,g11,g12,g13,g14,g15,g16,g17,g18,congrArg some h,g20,g21,g22,g22,rfl,rfl,fun h=>absurd h (by simp)⟩
  | true =>
    obtain ⟨hl,h6,hcl⟩:=puzzleB_parts h
    obtain ⟨w1,w2,d1,d2⟩:=lockB_iff.mp hl
    have hpos:0≤D ^ P.toNat:=Int.pow_nonneg (by omega)
    have z1:solR P D L=(solA P D L (D ^ P.toNat).toNat,true):=by unfold solR;exact if_pos h
    have z3:needR P D L=(needL P D L L.length,true):=by unfold needR;exact if_pos h
    have z4:leftR P D L=(leftL P D L (L.length + 1),true):=by unfold leftR;exact if_pos h
    have z6:pzV P D L=(puzzleT P D L,true):=by unfold pzV;exact if_pos h
    obtain ⟨best,five,z5,hfive,hbest⟩ : ∃ best five,bestR P D L=(best,five)∧five=decide ((L.length:Int) > 0)∧(0 < L.length→0≤best∧best < L.length):=by
      unfold bestR
      rw [if_pos h]
      by_cases e:L.length=0
      · rw [if_pos e];exact ⟨_,_,rfl,(decide_eq_false (by omega)).symm,fun h=>by omega⟩
      · rw [if_neg e];exact ⟨_,_,rfl,(decide_eq_true (by omega)).symm,fun _=>bestV_range (N:=L.length) _ _ _ _ (by omega) (Int.le_refl _) (by omega)⟩
    have hri:=solA_rises hl L (D ^ P.toNat).toNat (by omega)
    have hco:=solA_code hl L (D ^ P.toNat).toNat
    obtain ⟨first,sure,three,z7,z2,h3,h3s,h1s,hfit⟩ : ∃ first sure three,firstV (solA P D L (D ^ P.toNat).toNat)=(first,three)∧sureV P D L=(sure,three)∧three=decide (((solA P D L (D ^ P.toNat).toNat).length:Int) > 0)∧(three=true→first=rdOf ByteArray.empty (solA P D L (D ^ P.toNat).toNat) 0∧sure.size=P.toNat)∧((solA P D L (D ^ P.toNat).toNat).length=1→sure=first)∧(∀ t∈solA P D L (D ^ P.toNat).toNat,∀ i:Nat,i < P.toNat→bt sure (i:Nat)=63∨bt sure (i:Nat)=bt t (i:Nat)):=by
      by_cases e:(solA P D L (D ^ P.toNat).toNat).length=0
      · refine ⟨⟨#[]⟩,⟨#[]⟩,false,by unfold firstV;exact if_pos e,by unfold sureV;rw [if_pos h,if_pos e],(decide_eq_false (by omega)).symm,fun h=>absurd h (by simp),fun e1=>by omega,fun t ht=>?_⟩
        rw [List.eq_nil_of_length_eq_zero e] at ht
        simp at ht
      · obtain ⟨S,s1,s2,s3,s4⟩:=sureV_yes h e
        exact ⟨_,S,true,first_is e,s1,(decide_eq_true (by omega)).symm,fun _=>⟨rfl,s2⟩,fun e1=>s4 e1,s3⟩
    rw [h,if_pos rfl] at A3 A4 A5 A6 A9 J
    rw [z1] at A1 A2 hsl
    rw [z2] at A7 A8
    rw [z3] at Y Z hnl
    rw [z4] at a1 a6 hll
    rw [z5] at a7 a8
    rw [z6] at aa ab
    rw [z7] at A5 A6
    rw [h] at ac
    have ae:(solA P D L (D ^ P.toNat).toNat).length≤1000:=hsl
    have B1:=laws_eTexts.ev (solA P D L (D ^ P.toNat).toNat) (by omega)
    have B2:=laws_eSame.ev (needL P D L L.length) (by have:=needL_len P D L L.length;omega)
    have B3:=laws_eSame.ev (leftL P D L (L.length + 1)) (by rw [left_len];omega)
    have B4:=impl_CountCodes.ev hl
    have B5:=laws_eSorted.ev (solA P D L (D ^ P.toNat).toNat) (by omega) (fun i j hi hj hij=>List.pairwise_iff_getElem.mp hri i j hi hj hij)
    have B6:Evt fun k=> ∀ t∈solA P D L (D ^ P.toNat).toNat,∀ c∈L,impl_DoesFit.f k P D c.f0 c.f1 c.f2 t=some (true,true):=Evt.all _ (fun t ht=>Evt.all _ (fun c hc=>guess_fits h ht hc))
    have B7:Evt fun k=> ∀ i∈List.range L.length,∃ still,impl_CountSolutions.f k P D (L.eraseIdx i)=some (still,true)∧laws_eHas.f k (needL P D L L.length) (i:Nat)=some (still == ((solA P D L (D ^ P.toNat).toNat).length:Int)):=Evt.all _ (fun i hi=>guess_drop h i (List.mem_range.mp hi))
    obtain ⟨k,hk⟩:=Evt.and A1 (Evt.and A2 (Evt.and A3 (Evt.and A4 (Evt.and A5 (Evt.and A6 (Evt.and A7 (Evt.and A8 (Evt.and A9 (Evt.and J (Evt.and Y (Evt.and Z (Evt.and a1 (Evt.and a6 (Evt.and a7 (Evt.and a8 (Evt.and aa (Evt.and ab (Evt.and ac (Evt.and B1 (Evt.and B2 (Evt.and B3 (Evt.and B4 (Evt.and B5 (Evt.and B6 (Evt.and B7 (Evt.and (parse_own h) (laws_ePuzzle.ev P D L (by omega))))))))))))))))))))))))))))
    obtain ⟨g1,g2,g3,g4,g5,g6,g7,g8,g9,g10,g11,g12,g13,g14,g15,g16,g17,g18,g20,b1,b2,b3,b4,b5,b6,b7,b8,b9⟩:=hk k (Nat.le_refl _)
    refine ⟨k,solA P D L (D ^ P.toNat).toNat,true,three,_,five,_,D ^ P.toNat,best,first,sure,puzzleT P D L,needL P D L L.length,leftL P D L (L.length + 1),g1,g2,g3,g4,g5,g6,g7,g8,g9,g10,g11,g12,g13,g14,g15,g16,g17,g18,congrArg some h,g20,b1,b2,b3,by rw [h3];rfl,by rw [hfive];rfl,
      fun _=>⟨b4,rfl,ae,h6,by omega,by omega,h3s,rfl,left_len,left_first (by omega) (by omega),left_last,fun hs=>h1s (by have:=beq_iff_eq.mp hs;omega),b5,fun j hj=>⟨(hco _ (List.getElem_mem hj)).1,fun i hi=>⟨?_,hfit _ (List.getElem_mem hj) i (by rw [←(hco _ (List.getElem_mem hj)).1];exact hi)⟩,fun c hc=>b6 _ (List.getElem_mem hj) c hc⟩,fun i hi=>⟨?_,(hbest (by omega)).1,(hbest (by omega)).2,?_,b7 i (List.mem_range.mpr hi)⟩,b8,b9⟩⟩
    · have:=(hco _ (List.getElem_mem hj)).2 i hi
      omega
    · rw [impl_DropClue.is P D L (i:Nat) (by omega),if_pos ⟨h,by omega,by omega⟩]
      rfl
    · have:=left_falls (w:=P) (d:=D) (l:=L) (n:=L.length + 1) (j:=i) (by omega)
      rw [show ((i:Int) + 1)=((i + 1:Nat):Int) by omega]
      exact this
/-! The law FnCodesGuessed: the facts of what is drawn, told at once. -/
noncomputable def laws_FnCodesGuessed.f (l0 l1:List Int):Option Bool:=by
  classical
  exact if (∀ x∈l0,U8V x)∧(∀ x∈l1,U8V x) then some true else none
theorem big_len {l m:List Int} (h:laws_big.f l m=some false):l.length≤1048576∧m.length≤1048576:=by
  unfold laws_big.f at h
  split at h
  · exact absurd h (by simp)
  · rename_i h1
    have h2:decide ((m.length:Int) > wrap64 (1048576 - (l.length:Int)))=false:=Option.some.inj h
    have h3:=of_decide_eq_false h2
    rw [w64 (by omega) (by omega)] at h3
    omega
set_option maxRecDepth 100000 in
theorem laws_FnCodesGuessed.walkBig (lA lB:List Int) (xA xB:Option Addr) (yA yB:Nat) (w:World) (hrA:Kd.C (Kd.int .u8) w xA lA.length lA) (hcA:lA.length≤yA) (hrB:Kd.C (Kd.int .u8) w xB lB.length lB) (hcB:lB.length≤yB) (hbig:laws_big.f lA lB=some true) :
    Calls Tryz.prog 3 #[.slice xA lA.length yA, .slice xB lB.length yB] w fun e w'=>e = .returned (.bool true)∧Below w.heap.size w w':=by
  have HrA:=amk hrA;have HcA:=amk hcA;have HrB:=amk hrB;have HcB:=amk hcB;have Hbig:=amk hbig
  clear hrA hcA hrB hcB hbig
  go_enter Tryz.func3,Tryz.ntmps3
  go_wp2_with (go_at_call 4;refine Calls.mono (laws_big.calls xA yA lA xB yB lB true _ HrA.out HcA.out HrB.out HcB.out Hbig.out) ?_;rintro e wx ⟨rfl,⟨nd,rfl⟩⟩)
  go_ret
  exact ⟨rfl,by repeat (first | exact Below.refl _ _ | apply bn_ | apply bd_)⟩
theorem laws_FnCodesGuessed.calls (A0:Option Addr) (c0:Nat) (l0:List Int) (A1:Option Addr) (c1:Nat) (l1:List Int) (r:Bool) (w:World) (J:Kd.C (Kd.int .u8) w A0 l0.length l0) (Y:l0.length≤c0) (Z:Kd.C (Kd.int .u8) w A1 l1.length l1) (a1:l1.length≤c1) (htp:EnvP w) (h:laws_FnCodesGuessed.f l0 l1=some r) :
    Calls Tryz.prog 3 #[.slice A0 l0.length c0, .slice A1 l1.length c1] w fun e w'=>e = .returned (.bool r)∧Below w.heap.size w w':=by
  unfold laws_FnCodesGuessed.f at h
  split at h
  · rename_i hv
    obtain rfl:=Option.some.inj h
    obtain ⟨b,hb⟩ : ∃ b,laws_big.f l0 l1=some b:=by unfold laws_big.f;split <;> exact ⟨_,rfl⟩
    cases b with
    | true=>exact laws_FnCodesGuessed.walkBig l0 l1 A0 A1 c0 c1 w J Y Z a1 hb
    | false =>
      obtain ⟨h0,h1⟩:=big_len hb
      exact laws_FnCodesGuessed.walk l0 l1 A0 A1 c0 c1 w ⟨hv.1,by omega⟩ ⟨hv.2,by omega⟩ J Y Z a1 hb htp guess_P guess_S
  · exact absurd h (by simp)
theorem pure_FnCodesGuessed (l:List Int) (hl:ListV U8V l) (m:List Int) (hm:ListV U8V m):laws_FnCodesGuessed.f l m=some true:=by
  unfold laws_FnCodesGuessed.f
  rw [if_pos ⟨hl.2,hm.2⟩]
theorem opens_t5:Opens Tryz.prog 5 (Kd.int .u8) U8V:=opens_u8 Tryz.underlying5
theorem opens_t22:Opens Tryz.prog 22 (Kd.slice 5 (Kd.int .u8)) (ListV U8V):=opens_slice Tryz.underlying22 opens_t5 (by kernel_rfl)
/-! A row that lists variables and keeps the world's shape; what a listed variable of an interface type holds. -/
section
variable {H:Type} {enc:TypeId×Value→H}
theorem handed_and_shaped {a:Assume} {C:Checked} {os:Os} {f:FuncId} {fn:Func} {s:ChangeSpec} {conds:List PathCond} {apart fresh handsOn again:Bool} {X:World→Array Value→Prop}
    (hX : ∀ (w w':World) (args:Array Value),w.heap=w'.heap→X w args→X w' args)
    (own:ownKnob C.prog.godebug=none) (started:os.Started) (noInit:C.prog.inits.idxOf? f=none) (hfn:C.prog.funcs[f]?=some fn)
    (witness : ∃ (w:World) (tape:Tape) (i:Input),w.os=os∧(w.forCall tape i).Shaped C.prog∧i.vars=[]∧Input.okWide C.prog (w.forCall tape i) .any w.heap.size f i ∧
      ((s.pre enc C.prog fn conds apart (w.forCall tape i).memory i.args∧X (w.forCall tape i).memory i.args)∧sizedMet enc C.prog fn (OpenSpec.ofChange s) apart (w.forCall tape i).memory i.args)∧a.holds C.prog (lone (Frame.enter C.prog f i.args .normal) [] (w.forCall tape i)))
    (contract : ∀ (W:World) (base:Nat) (args:Array Value) (ds gs:List (DataW H)) (before:List MemPlace),
      (∀ (j:Nat) t v,fn.params[j]?=some t→args[j]?=some v→Value.okWide C.prog W .any base t v) →
      DataW.Whole enc C.prog fn.params.toList s.vars apart W args.toList ds gs before →
      conds.all (PathCond.test C.prog ⟨fn.params.toList,ds,s.plain.varTypes C.prog,gs⟩)=true →
      (DataW.weightsEach C.prog (fn.params.toList ++ s.plain.varTypes C.prog) (ds ++ gs)).all (· ≤ reachBytes)=true→X W args→W.ShapedOpen C.prog →
      a.holds C.prog (lone (Frame.enter C.prog f args .normal) [] W) →
      Calls C.prog f args W fun e W'=> ∃ v,e = .returned v∧s.post enc C.prog fn apart fresh handsOn again W args v W') :
    ReturnsInHanded a C os f .any (fun w args=>(s.pre enc C.prog fn conds apart w args∧X w args)∧sizedMet enc C.prog fn (OpenSpec.ofChange s) apart w args) (s.post enc C.prog fn apart fresh handsOn again):=by
  refine returnsInHanded_of_calls own started noInit witness ?_
  intro w tape i _ hsh _ hok hpre hholds
  obtain ⟨_,_,_,fn',hfn',_,_,_,_,hval⟩:=hok
  have e:fn'=fn:=Option.some.inj (hfn'.symm.trans hfn)
  subst e
  obtain ⟨⟨⟨ds,gs,before,hw,hc⟩,hx⟩,hz⟩:=hpre
  have hw':=DataW.Whole.of_heap (w':=w.forCall tape i) (by rfl) hw
  refine (contract (w.forCall tape i) w.heap.size i.args ds gs before hval hw' hc (hz.weights hw) (hX _ _ _ (by rfl) hx) hsh hholds).mono fun e W' ⟨v,he,hp⟩=>?_
  subst he
  exact ChangeSpec.post_blind hp
end
theorem laid_iface {P:Program} {n nm:String} {d:DataW Unit} {r:List (String×DataW Unit)} {W:World} {g:Nat} {ti:TypeId} {ms:Array (String×TypeId)}
    (h:laidMet P ((n, .iface nm d) :: r) W) (hg:P.globalNamed n=some g) (ht:(P.globals[g]?).map (·.type)=some ti) (hi:P.underlying ti=some (.interface ms)) : ∃ te pe,W.cell? ⟨g,0,none⟩=some (.iface te pe):=by
  obtain ⟨ps,⟨g0,t0,Y,f0,p0,q0,J,Z,a1,a6,_,e0⟩,_,hrows⟩:=h
  obtain rfl:=Option.some.inj (hg.symm.trans J)
  obtain rfl:=Option.some.inj (ht.symm.trans Z)
  obtain ⟨l0⟩:=Y
  obtain ⟨_,u,v,rfl,_⟩:=iface_of_trod hi a6
  exact ⟨u,v,by simpa using World.var?_cell J a1 0⟩
end Go.Proofs.YtfginhjgeholcaaGreatDoor.P