import Derived.Test.YtggfbkekamomiaaKFnCodesHiddenA0
import Derived.Test.YtggfbkekamomiaaKFnCodesHiddenA1
import Derived.Test.YtggfbkekamomiaaKFnCodesHiddenA3
import Derived.Test.YtggfbkekamomiaaKFnCodesHiddenA2
import Derived.ProofKit
import Derived.Lib.SmallJoins
import Derived.Deep.Slices
namespace Go.Proofs.Ytggfbkekamomiaa.P
open Go.RowKit Go.Proofs.YtggfbkekamomiaaW.PrintWords Go.Proofs.YtggfbkekamomiaaW.PrintLast Go.Proofs.YtggfbkekamomiaaW.PrintMore
attribute [local go_sem] max2_int min2_int max_two min_two max_three min_three max_four min_four
set_option linter.unusedVariables false
set_option linter.unusedSimpArgs false
/-! laws.FnCodesHidden, a part of its walk: printed by genkh.py. -/
set_option maxHeartbeats 16000000 in
set_option maxRecDepth 100000 in
theorem KHA {w:World} {v0 v1 v2 v3 v4 v8 v10 v11 v12 v13 v14 v15 v16 v17 v18 v19 v20 v21 v22 v23 v24 v25 v26 v27 v28 v29 v30 v31 v32 v33 v34 v35 v36 v37 v38 v39 v40 v41 v42 v43 v44 v45 v46 v47 v48 v49 v50 v51 v52 v53 v54 v55 v56 v57 v58 v59 v60 v61 v62 v63 v64 v65 v66 v67 v68 v69 v70 v71 v72 v73 v74 v75 v76 v77 v78 v79 v80 v81 v82 v83 v84 v85 v86 v87 v88 v89 v90 v91 v92 v93 v94 v95 v96 v97 v98 v99 v100 v101 v102 v104 v105 v106 v107 v108 v109 v110 v111 v112 v113 v114 v115 v116 v117 v118 v119 v120 v121 v122 v123 v124 v125 v126 v127 v128 v129 v130 v131 v132 v133 v134 v135 v136 v137 v138 v139 v140 v141 v142 v143 v144 v145 v146 v147 v148 v149 v150 v151 v152 v153 v154 v155 v156 v157 v158 v159 v160 v161 v162 v163 v164 v165 v166 v167 v168 v169 v170 v171 v172 v173 v174 v175 v176 v177 v178 v179 v180 v181 v182 v183 v184 v185 v186 v187 v188 v189 v190 v191 v192 v193 v194 v195 v196 v197 v198 v199 v200 v201 v202 v203 v204 v205 v206 v207 v208 v209 v210 v211 v212 v213 v214 v215 v216 v217 v218 v219 v220 v221 v222 v223 v224 v225 v226 v227 v228 v229 v230 v231 v232 v233 v234 v235 v236 v237 v238 v239 v240 v241 v242 v243 v244 v245 v246 v247 v248 v249 v250 v251 v252 v253 v254 v255 v256 v257 v258 v259 v260 v261 v262 v263 v264 v265 v266 v267 v268 v269 v270 v271 v272 v273 v274 v275 v276 v277 v278 v279 v280 v281 v282 v283 v284 v285 v286 v287 v288 v289 v290 v291 v292 v293 v294 v295 v296 v297 v298 v299 v300 v301 v302 v303 v304 v305 v306 v307 v308 v309 v310 v311 v312 v313 v314 v315 v316 v317 v318 v319 v320 v321 v322 v323 v324 v325 v326 v327 v328 v329 v330 v331 v332 v333 v334 v335 v336 v337 v338 v339 v340 v341 v342 v343 v344 v345 v346 v347 v348 v349 v350 v351 v352 v353 v354 v355 v356 v357 v358 v359 v360 v361 v362 v363 v364 v365 v366 v367 v368 v369 v370 v371 v372 v373 v374 v375 v376 v377 v378 v379 v380 v381 v382 v383 v384 v385 v386 v387 v388 v389 v390 v391 v392 v393 v394 v395 v396 v397 v398 v399 v400 v401 v402 v403 v404 v405 v406 v407 v408 v409 v410 v411 v412 v413 v414 v415 v416 v417 v418 v419 v420 v421 v422 v423 v424 v425 v426 v427 v428 v429 v430 v431 v432 v433 v434 v435 v436 v437 v438 v439 v440 v441 v442 v443 v444 v445 v446 v447 v448 v449 v450 v451 v452 v453 v454 v455 v456 v457 v458 v459:Value} (K:Act→World→Prop) (Q:Exit→Act→World→Prop) (hQ : ∀ c t t' d w',Q (.panic c) ⟨t,d⟩ w'→Q (.panic c) ⟨t',d⟩ w')
    (k:Nat) (p d x P D:Int) (s:ByteArray) (L:List S44) (A:Option Addr) (c:Nat) (gl gm:Nat) (bs:List (Nat×Obj)) (rs:List (Option Addr×List S44)) (t:Bool) (W:World)
    (hm:Mm w bs rs W) (hl:(gl,lkB p d)∈bs) (hp:(gm,pzB P D A L.length c)∈bs) (hr:(A,L)∈rs) (hc:L.length≤c)
    (ht:t=true→∃ (all:List ByteArray) (zero:ByteArray) (far pl qq n:Int),impl_Solutions.f k P D L=some (all,true)∧impl_ZeroCode.f p d=some (zero,true)∧impl_FewestTurns.f k p d zero s=some (far,true)∧impl_DoesFit.f k p d 3 0 far s=some (true,true)∧impl_HintOf.f k p d zero s=some (pl,qq,true)∧impl_DoesFit.f k p d 2 0 pl s=some (true,true)∧impl_NumberOfCode.f k p d s=some (n,true)∧impl_DoesFit.f k p d 4 7 (n.tmod 7) s=some (true,true)∧impl_IsPuzzle.f P D L=some true∧(L.length:Int)=x∧laws_eText.f k all s=some true)
    (hrest : ∀ {u13 u14 u15 u16 u17 u18 u19 u20 u21 u22 u23 u24 u25 u26 u27 u28 u29 u104 u105 u106 u107 u108 u109 u110 u111 u112 u113 u114 u115 u116 u117 u118 u119 u120 u121 u122 u123 u124 u125 u126 u127 u128 u129 u130 u131 u132 u133 u134 u135 u136 u137 u138 u139 u140 u141 u142 u143 u144 u145 u146 u147 u148 u149 u150 u151 u152 u153 u154 u155 u156 u157 u158 u159 u160 u161 u162 u163 u164 u165 u166 u167 u168 u169 u170 u171 u172 u173 u174 u175 u176 u177 u178 u179 u180 u181 u182 u183 u184 u185 u186 u187 u188 u189 u190 u191 u192 u193 u194 u195 u196 u197 u198 u199 u200 u201 u202 u203 u204 u205 u206 u207 u208 u209 u210 u211 u212 u213 u214 u215 u216 u217 u218 u219:Value} (W':World),Mm w bs rs W'→K ⟨List.toArray (v0 :: v1 :: v2 :: v3 :: v4 :: .pointer (some ⟨gl,0,none⟩) :: .string s :: .int .i64 x :: v8 :: .pointer (some ⟨gm,0,none⟩) :: v10 :: v11 :: v12 :: u13 :: u14 :: u15 :: u16 :: u17 :: u18 :: u19 :: u20 :: u21 :: u22 :: u23 :: u24 :: u25 :: u26 :: u27 :: u28 :: u29 :: v30 :: v31 :: v32 :: v33 :: v34 :: v35 :: v36 :: v37 :: v38 :: v39 :: v40 :: v41 :: v42 :: v43 :: v44 :: v45 :: v46 :: v47 :: v48 :: v49 :: v50 :: v51 :: v52 :: v53 :: v54 :: v55 :: v56 :: v57 :: v58 :: v59 :: v60 :: v61 :: v62 :: v63 :: v64 :: v65 :: v66 :: v67 :: v68 :: v69 :: v70 :: v71 :: v72 :: v73 :: v74 :: v75 :: v76 :: v77 :: v78 :: v79 :: v80 :: v81 :: v82 :: v83 :: v84 :: v85 :: v86 :: v87 :: v88 :: v89 :: v90 :: v91 :: v92 :: v93 :: v94 :: v95 :: v96 :: v97 :: v98 :: v99 :: v100 :: v101 :: v102 :: .bool t :: u104 :: u105 :: u106 :: u107 :: u108 :: u109 :: u110 :: u111 :: u112 :: u113 :: u114 :: u115 :: u116 :: u117 :: u118 :: u119 :: u120 :: u121 :: u122 :: u123 :: u124 :: u125 :: u126 :: u127 :: u128 :: u129 :: u130 :: u131 :: u132 :: u133 :: u134 :: u135 :: u136 :: u137 :: u138 :: u139 :: u140 :: u141 :: u142 :: u143 :: u144 :: u145 :: u146 :: u147 :: u148 :: u149 :: u150 :: u151 :: u152 :: u153 :: u154 :: u155 :: u156 :: u157 :: u158 :: u159 :: u160 :: u161 :: u162 :: u163 :: u164 :: u165 :: u166 :: u167 :: u168 :: u169 :: u170 :: u171 :: u172 :: u173 :: u174 :: u175 :: u176 :: u177 :: u178 :: u179 :: u180 :: u181 :: u182 :: u183 :: u184 :: u185 :: u186 :: u187 :: u188 :: u189 :: u190 :: u191 :: u192 :: u193 :: u194 :: u195 :: u196 :: u197 :: u198 :: u199 :: u200 :: u201 :: u202 :: u203 :: u204 :: u205 :: u206 :: u207 :: u208 :: u209 :: u210 :: u211 :: u212 :: u213 :: u214 :: u215 :: u216 :: u217 :: u218 :: u219 :: v220 :: v221 :: v222 :: v223 :: v224 :: v225 :: v226 :: v227 :: v228 :: v229 :: v230 :: v231 :: v232 :: v233 :: v234 :: v235 :: v236 :: v237 :: v238 :: v239 :: v240 :: v241 :: v242 :: v243 :: v244 :: v245 :: v246 :: v247 :: v248 :: v249 :: v250 :: v251 :: v252 :: v253 :: v254 :: v255 :: v256 :: v257 :: v258 :: v259 :: v260 :: v261 :: v262 :: v263 :: v264 :: v265 :: v266 :: v267 :: v268 :: v269 :: v270 :: v271 :: v272 :: v273 :: v274 :: v275 :: v276 :: v277 :: v278 :: v279 :: v280 :: v281 :: v282 :: v283 :: v284 :: v285 :: v286 :: v287 :: v288 :: v289 :: v290 :: v291 :: v292 :: v293 :: v294 :: v295 :: v296 :: v297 :: v298 :: v299 :: v300 :: v301 :: v302 :: v303 :: v304 :: v305 :: v306 :: v307 :: v308 :: v309 :: v310 :: v311 :: v312 :: v313 :: v314 :: v315 :: v316 :: v317 :: v318 :: v319 :: v320 :: v321 :: v322 :: v323 :: v324 :: v325 :: v326 :: v327 :: v328 :: v329 :: v330 :: v331 :: v332 :: v333 :: v334 :: v335 :: v336 :: v337 :: v338 :: v339 :: v340 :: v341 :: v342 :: v343 :: v344 :: v345 :: v346 :: v347 :: v348 :: v349 :: v350 :: v351 :: v352 :: v353 :: v354 :: v355 :: v356 :: v357 :: v358 :: v359 :: v360 :: v361 :: v362 :: v363 :: v364 :: v365 :: v366 :: v367 :: v368 :: v369 :: v370 :: v371 :: v372 :: v373 :: v374 :: v375 :: v376 :: v377 :: v378 :: v379 :: v380 :: v381 :: v382 :: v383 :: v384 :: v385 :: v386 :: v387 :: v388 :: v389 :: v390 :: v391 :: v392 :: v393 :: v394 :: v395 :: v396 :: v397 :: v398 :: v399 :: v400 :: v401 :: v402 :: v403 :: v404 :: v405 :: v406 :: v407 :: v408 :: v409 :: v410 :: v411 :: v412 :: v413 :: v414 :: v415 :: v416 :: v417 :: v418 :: v419 :: v420 :: v421 :: v422 :: v423 :: v424 :: v425 :: v426 :: v427 :: v428 :: v429 :: v430 :: v431 :: v432 :: v433 :: v434 :: v435 :: v436 :: v437 :: v438 :: v439 :: v440 :: v441 :: v442 :: v443 :: v444 :: v445 :: v446 :: v447 :: v448 :: v449 :: v450 :: v451 :: v452 :: v453 :: v454 :: v455 :: v456 :: v457 :: v458 :: v459 :: []),[]⟩ W') :
    Code.wp Try.prog (condH 103) (Exit.then K Q) ⟨List.toArray (v0 :: v1 :: v2 :: v3 :: v4 :: .pointer (some ⟨gl,0,none⟩) :: .string s :: .int .i64 x :: v8 :: .pointer (some ⟨gm,0,none⟩) :: v10 :: v11 :: v12 :: v13 :: v14 :: v15 :: v16 :: v17 :: v18 :: v19 :: v20 :: v21 :: v22 :: v23 :: v24 :: v25 :: v26 :: v27 :: v28 :: v29 :: v30 :: v31 :: v32 :: v33 :: v34 :: v35 :: v36 :: v37 :: v38 :: v39 :: v40 :: v41 :: v42 :: v43 :: v44 :: v45 :: v46 :: v47 :: v48 :: v49 :: v50 :: v51 :: v52 :: v53 :: v54 :: v55 :: v56 :: v57 :: v58 :: v59 :: v60 :: v61 :: v62 :: v63 :: v64 :: v65 :: v66 :: v67 :: v68 :: v69 :: v70 :: v71 :: v72 :: v73 :: v74 :: v75 :: v76 :: v77 :: v78 :: v79 :: v80 :: v81 :: v82 :: v83 :: v84 :: v85 :: v86 :: v87 :: v88 :: v89 :: v90 :: v91 :: v92 :: v93 :: v94 :: v95 :: v96 :: v97 :: v98 :: v99 :: v100 :: v101 :: v102 :: .bool t :: v104 :: v105 :: v106 :: v107 :: v108 :: v109 :: v110 :: v111 :: v112 :: v113 :: v114 :: v115 :: v116 :: v117 :: v118 :: v119 :: v120 :: v121 :: v122 :: v123 :: v124 :: v125 :: v126 :: v127 :: v128 :: v129 :: v130 :: v131 :: v132 :: v133 :: v134 :: v135 :: v136 :: v137 :: v138 :: v139 :: v140 :: v141 :: v142 :: v143 :: v144 :: v145 :: v146 :: v147 :: v148 :: v149 :: v150 :: v151 :: v152 :: v153 :: v154 :: v155 :: v156 :: v157 :: v158 :: v159 :: v160 :: v161 :: v162 :: v163 :: v164 :: v165 :: v166 :: v167 :: v168 :: v169 :: v170 :: v171 :: v172 :: v173 :: v174 :: v175 :: v176 :: v177 :: v178 :: v179 :: v180 :: v181 :: v182 :: v183 :: v184 :: v185 :: v186 :: v187 :: v188 :: v189 :: v190 :: v191 :: v192 :: v193 :: v194 :: v195 :: v196 :: v197 :: v198 :: v199 :: v200 :: v201 :: v202 :: v203 :: v204 :: v205 :: v206 :: v207 :: v208 :: v209 :: v210 :: v211 :: v212 :: v213 :: v214 :: v215 :: v216 :: v217 :: v218 :: v219 :: v220 :: v221 :: v222 :: v223 :: v224 :: v225 :: v226 :: v227 :: v228 :: v229 :: v230 :: v231 :: v232 :: v233 :: v234 :: v235 :: v236 :: v237 :: v238 :: v239 :: v240 :: v241 :: v242 :: v243 :: v244 :: v245 :: v246 :: v247 :: v248 :: v249 :: v250 :: v251 :: v252 :: v253 :: v254 :: v255 :: v256 :: v257 :: v258 :: v259 :: v260 :: v261 :: v262 :: v263 :: v264 :: v265 :: v266 :: v267 :: v268 :: v269 :: v270 :: v271 :: v272 :: v273 :: v274 :: v275 :: v276 :: v277 :: v278 :: v279 :: v280 :: v281 :: v282 :: v283 :: v284 :: v285 :: v286 :: v287 :: v288 :: v289 :: v290 :: v291 :: v292 :: v293 :: v294 :: v295 :: v296 :: v297 :: v298 :: v299 :: v300 :: v301 :: v302 :: v303 :: v304 :: v305 :: v306 :: v307 :: v308 :: v309 :: v310 :: v311 :: v312 :: v313 :: v314 :: v315 :: v316 :: v317 :: v318 :: v319 :: v320 :: v321 :: v322 :: v323 :: v324 :: v325 :: v326 :: v327 :: v328 :: v329 :: v330 :: v331 :: v332 :: v333 :: v334 :: v335 :: v336 :: v337 :: v338 :: v339 :: v340 :: v341 :: v342 :: v343 :: v344 :: v345 :: v346 :: v347 :: v348 :: v349 :: v350 :: v351 :: v352 :: v353 :: v354 :: v355 :: v356 :: v357 :: v358 :: v359 :: v360 :: v361 :: v362 :: v363 :: v364 :: v365 :: v366 :: v367 :: v368 :: v369 :: v370 :: v371 :: v372 :: v373 :: v374 :: v375 :: v376 :: v377 :: v378 :: v379 :: v380 :: v381 :: v382 :: v383 :: v384 :: v385 :: v386 :: v387 :: v388 :: v389 :: v390 :: v391 :: v392 :: v393 :: v394 :: v395 :: v396 :: v397 :: v398 :: v399 :: v400 :: v401 :: v402 :: v403 :: v404 :: v405 :: v406 :: v407 :: v408 :: v409 :: v410 :: v411 :: v412 :: v413 :: v414 :: v415 :: v416 :: v417 :: v418 :: v419 :: v420 :: v421 :: v422 :: v423 :: v424 :: v425 :: v426 :: v427 :: v428 :: v429 :: v430 :: v431 :: v432 :: v433 :: v434 :: v435 :: v436 :: v437 :: v438 :: v439 :: v440 :: v441 :: v442 :: v443 :: v444 :: v445 :: v446 :: v447 :: v448 :: v449 :: v450 :: v451 :: v452 :: v453 :: v454 :: v455 :: v456 :: v457 :: v458 :: v459 :: []),[]⟩ W:=by
  have hu25:=Try.underlying25
  have hu30:=Try.underlying30
  have hu44:=Try.underlying44
  have hu28:=Try.underlying28
  have hu34:=Try.underlying34
  have S:=amk hm;have HL:=amk hl;have HP:=amk hp;have HR:=amk hr;have HC:=amk hc;clear hm hl hp hr hc
  conv=>arg 2;whnf
  cases t with
  | false=>go_wp2;exact S.out
  | true =>
    obtain ⟨all,zero,far,pl,qq,n,e1,e2,e3,e4,e5,e6,e7,e8,e9,ex,et⟩:=ht rfl
    have E1:=amk e1
    have E2:=amk e2
    have E3:=amk e3
    have E4:=amk e4
    have E5:=amk e5
    have E6:=amk e6
    have E7:=amk e7
    have E8:=amk e8
    have E9:=amk e9
    have hx:((L.length:Int) != x)=false:=by rw [ex];simp
    have ET:=amk et;clear e1 e2 e3 e4 e5 e6 e7 e8 e9 ex et ht
    obtain ⟨m0,m1,m2⟩:=bx3 S.out HP.out
    go_wp2_with (go_at_call 9;refine Calls.mono (impl_Solutions.calls k P D _ _ L all true _ (Mm_r S.out HR.out) HC.out E1.out) ?_;rintro e wx ⟨v7,rfl,hs,hb⟩;obtain ⟨A7,c7,rfl⟩:=Kd.R_slice hs;have R7:=amk (Kd.R_reads' hs).2.2;have C7:=amk (Kd.R_reads' hs).2.1;clear hs;have nS:=amk (Mm_below S.out hb);clear S;have S:=nS;clear nS hb;clear m0 m1 m2;obtain ⟨q0,q1⟩:=bx2 S.out HL.out)
    go_wp2_with (go_at_call 10;refine Calls.mono (impl_ZeroCode.calls p d zero true _ E2.out) ?_;rintro e wx ⟨rfl,hb⟩;have nR:=amk (Kd.C_below R7.out hb);clear R7;have R7:=nR;clear nR;have nS:=amk (Mm_below S.out hb);clear S;have S:=nS;clear nS hb;clear q0 q1;obtain ⟨q0,q1⟩:=bx2 S.out HL.out)
    go_wp2_with (go_at_call 11;refine Calls.mono (impl_FewestTurns.calls k p d zero s far true _ E3.out) ?_;rintro e wx ⟨rfl,hb⟩;have nR:=amk (Kd.C_below R7.out hb);clear R7;have R7:=nR;clear nR;have nS:=amk (Mm_below S.out hb);clear S;have S:=nS;clear nS hb;clear q0 q1;obtain ⟨q0,q1⟩:=bx2 S.out HL.out)
    go_wp2_with (go_at_call 12;refine Calls.mono (impl_DoesFit.calls k p d 3 0 far s true true _ E4.out) ?_;rintro e wx ⟨rfl,hb⟩;have nR:=amk (Kd.C_below R7.out hb);clear R7;have R7:=nR;clear nR;have nS:=amk (Mm_below S.out hb);clear S;have S:=nS;clear nS hb;clear q0 q1;obtain ⟨q0,q1⟩:=bx2 S.out HL.out)
    go_wp2_with (go_at_call 13;refine Calls.mono (impl_HintOf.calls k p d zero s pl qq true _ E5.out) ?_;rintro e wx ⟨rfl,hb⟩;have nR:=amk (Kd.C_below R7.out hb);clear R7;have R7:=nR;clear nR;have nS:=amk (Mm_below S.out hb);clear S;have S:=nS;clear nS hb;clear q0 q1;obtain ⟨q0,q1⟩:=bx2 S.out HL.out)
    go_wp2_with (go_at_call 12;refine Calls.mono (impl_DoesFit.calls k p d 2 0 pl s true true _ E6.out) ?_;rintro e wx ⟨rfl,hb⟩;have nR:=amk (Kd.C_below R7.out hb);clear R7;have R7:=nR;clear nR;have nS:=amk (Mm_below S.out hb);clear S;have S:=nS;clear nS hb;clear q0 q1;obtain ⟨q0,q1⟩:=bx2 S.out HL.out)
    go_wp2_with (go_at_call 14;refine Calls.mono (impl_NumberOfCode.calls k p d s n true _ E7.out) ?_;rintro e wx ⟨rfl,hb⟩;have nR:=amk (Kd.C_below R7.out hb);clear R7;have R7:=nR;clear nR;have nS:=amk (Mm_below S.out hb);clear S;have S:=nS;clear nS hb;clear q0 q1;obtain ⟨q0,q1⟩:=bx2 S.out HL.out)
    go_wp2_with (go_at_call 12;refine Calls.mono (impl_DoesFit.calls k p d 4 7 (n.tmod 7) s true true _ E8.out) ?_;rintro e wx ⟨rfl,hb⟩;have nR:=amk (Kd.C_below R7.out hb);clear R7;have R7:=nR;clear nR;have nS:=amk (Mm_below S.out hb);clear S;have S:=nS;clear nS hb;clear q0 q1;obtain ⟨m0,m1,m2⟩:=bx3 S.out HP.out)
    go_wp2_with (go_at_call 15;refine Calls.mono (impl_IsPuzzle.calls P D _ _ L true _ (Mm_r S.out HR.out) HC.out E9.out) ?_;rintro e wx ⟨rfl,hb⟩;have nR:=amk (Kd.C_below R7.out hb);clear R7;have R7:=nR;clear nR;have nS:=amk (Mm_below S.out hb);clear S;have S:=nS;clear nS hb;clear m0 m1 m2;obtain ⟨m0,m1,m2⟩:=bx3 S.out HP.out)
    go_wp2_with (go_at_call 16;refine Calls.mono (laws_eText.calls k _ _ all s true _ R7.out C7.out ET.out) ?_;rintro e wx ⟨rfl,hb⟩;have hb:=hb.below;have nS:=amk (Mm_below S.out hb);clear S;have S:=nS;clear nS hb;)
    exact S.out
/-! laws.FnCodesHidden, a part of its walk: printed by genkh.py. -/
set_option maxHeartbeats 16000000 in
set_option maxRecDepth 100000 in
theorem KHB {w:World} {v0 v1 v2 v3 v4 v5 v6 v7 v8 v9 v10 v11 v12 v13 v14 v15 v16 v17 v18 v19 v20 v21 v22 v23 v24 v25 v26 v27 v28 v29 v32 v33 v34 v35 v36 v37 v38 v39 v40 v41 v42 v43 v44 v45 v46 v47 v48 v49 v50 v51 v52 v53 v54 v55 v56 v57 v58 v59 v60 v61 v62 v63 v64 v65 v66 v67 v68 v69 v70 v71 v72 v73 v74 v75 v76 v77 v78 v79 v80 v81 v82 v83 v84 v85 v86 v87 v88 v89 v90 v91 v92 v93 v94 v95 v96 v97 v98 v99 v100 v101 v102 v103 v104 v105 v106 v107 v108 v109 v110 v111 v112 v113 v114 v115 v116 v117 v118 v119 v120 v121 v122 v123 v124 v125 v126 v127 v128 v129 v130 v131 v132 v133 v134 v135 v136 v137 v138 v139 v140 v141 v142 v143 v144 v145 v146 v147 v148 v149 v150 v151 v152 v153 v154 v155 v156 v157 v158 v159 v160 v161 v162 v163 v164 v165 v166 v167 v168 v169 v170 v171 v172 v173 v174 v175 v176 v177 v178 v179 v180 v181 v182 v183 v184 v185 v186 v187 v188 v189 v190 v191 v192 v193 v194 v195 v196 v197 v198 v199 v200 v201 v202 v203 v204 v205 v206 v207 v208 v209 v210 v211 v212 v213 v214 v215 v216 v217 v218 v219 v220 v221 v222 v223 v224 v225 v226 v227 v228 v229 v230 v231 v232 v233 v234 v235 v236 v237 v238 v239 v240 v241 v242 v243 v244 v245 v246 v247 v248 v249 v250 v251 v252 v253 v255 v256 v257 v258 v259 v260 v261 v262 v263 v264 v265 v266 v267 v268 v269 v270 v271 v272 v273 v274 v275 v276 v277 v278 v279 v280 v281 v282 v283 v284 v285 v286 v287 v288 v289 v290 v291 v292 v293 v294 v295 v296 v297 v298 v299 v300 v301 v302 v303 v304 v305 v306 v307 v308 v309 v310 v311 v312 v313 v314 v315 v316 v317 v318 v319 v320 v321 v322 v323 v324 v325 v326 v327 v328 v329 v330 v331 v332 v333 v334 v335 v336 v337 v338 v339 v340 v341 v342 v343 v344 v345 v346 v347 v348 v349 v350 v351 v352 v353 v354 v355 v356 v357 v358 v359 v360 v361 v362 v363 v364 v365 v366 v367 v368 v369 v370 v371 v372 v373 v374 v375 v376 v377 v378 v379 v380 v381 v382 v383 v384 v385 v386 v387 v388 v389 v390 v391 v392 v393 v394 v395 v396 v397 v398 v399 v400 v401 v402 v403 v404 v405 v406 v407 v408 v409 v410 v411 v412 v413 v414 v415 v416 v417 v418 v419 v420 v421 v422 v423 v424 v425 v426 v427 v428 v429 v430 v431 v432 v433 v434 v435 v436 v437 v438 v439 v440 v441 v442 v443 v444 v445 v446 v447 v448 v449 v450 v451 v452 v453 v454 v455 v456 v457 v458 v459:Value} (K:Act→World→Prop) (Q:Exit→Act→World→Prop) (hQ : ∀ c t t' d w',Q (.panic c) ⟨t,d⟩ w'→Q (.panic c) ⟨t',d⟩ w')
    (k:Nat) (P D a b:Int) (L L2:List S44) (A A2:Option Addr) (c c2:Nat) (gq gh:Nat) (bs:List (Nat×Obj)) (rs:List (Option Addr×List S44)) (t:Bool) (W:World)
    (hm:Mm w bs rs W) (hq:(gq,pzB P D A L.length c)∈bs) (hh:(gh,pzB a b A2 L2.length c2)∈bs) (hr:(A,L)∈rs) (hc:L.length≤c) (hr2:(A2,L2)∈rs) (hc2:L2.length≤c2)
    (ht:t=true→∃ (all:List ByteArray),impl_Solutions.f k P D L=some (all,true)∧impl_Solutions.f k a b L2=some (all,true)∧impl_NeedlessClues.f k a b L2=some ([],true)∧L2.length≤L.length∧laws_eTexts.f k all all=some true)
    (hrest : ∀ {u37 u38 u39 u40 u41 u42 u255 u256 u257 u258 u259 u260 u261 u262 u263 u264 u265 u266 u267 u268 u269 u270 u271 u272 u273 u274 u275 u276 u277 u278 u279 u280 u281 u282 u283 u284 u285 u286 u287 u288 u289 u290 u291 u292 u293 u294 u295 u296 u297 u298 u299:Value} (W':World),Mm w bs rs W'→K ⟨List.toArray (v0 :: v1 :: v2 :: v3 :: v4 :: v5 :: v6 :: v7 :: v8 :: v9 :: v10 :: v11 :: v12 :: v13 :: v14 :: v15 :: v16 :: v17 :: v18 :: v19 :: v20 :: v21 :: v22 :: v23 :: v24 :: v25 :: v26 :: v27 :: v28 :: v29 :: .pointer (some ⟨gq,0,none⟩) :: .pointer (some ⟨gh,0,none⟩) :: v32 :: v33 :: v34 :: v35 :: v36 :: u37 :: u38 :: u39 :: u40 :: u41 :: u42 :: v43 :: v44 :: v45 :: v46 :: v47 :: v48 :: v49 :: v50 :: v51 :: v52 :: v53 :: v54 :: v55 :: v56 :: v57 :: v58 :: v59 :: v60 :: v61 :: v62 :: v63 :: v64 :: v65 :: v66 :: v67 :: v68 :: v69 :: v70 :: v71 :: v72 :: v73 :: v74 :: v75 :: v76 :: v77 :: v78 :: v79 :: v80 :: v81 :: v82 :: v83 :: v84 :: v85 :: v86 :: v87 :: v88 :: v89 :: v90 :: v91 :: v92 :: v93 :: v94 :: v95 :: v96 :: v97 :: v98 :: v99 :: v100 :: v101 :: v102 :: v103 :: v104 :: v105 :: v106 :: v107 :: v108 :: v109 :: v110 :: v111 :: v112 :: v113 :: v114 :: v115 :: v116 :: v117 :: v118 :: v119 :: v120 :: v121 :: v122 :: v123 :: v124 :: v125 :: v126 :: v127 :: v128 :: v129 :: v130 :: v131 :: v132 :: v133 :: v134 :: v135 :: v136 :: v137 :: v138 :: v139 :: v140 :: v141 :: v142 :: v143 :: v144 :: v145 :: v146 :: v147 :: v148 :: v149 :: v150 :: v151 :: v152 :: v153 :: v154 :: v155 :: v156 :: v157 :: v158 :: v159 :: v160 :: v161 :: v162 :: v163 :: v164 :: v165 :: v166 :: v167 :: v168 :: v169 :: v170 :: v171 :: v172 :: v173 :: v174 :: v175 :: v176 :: v177 :: v178 :: v179 :: v180 :: v181 :: v182 :: v183 :: v184 :: v185 :: v186 :: v187 :: v188 :: v189 :: v190 :: v191 :: v192 :: v193 :: v194 :: v195 :: v196 :: v197 :: v198 :: v199 :: v200 :: v201 :: v202 :: v203 :: v204 :: v205 :: v206 :: v207 :: v208 :: v209 :: v210 :: v211 :: v212 :: v213 :: v214 :: v215 :: v216 :: v217 :: v218 :: v219 :: v220 :: v221 :: v222 :: v223 :: v224 :: v225 :: v226 :: v227 :: v228 :: v229 :: v230 :: v231 :: v232 :: v233 :: v234 :: v235 :: v236 :: v237 :: v238 :: v239 :: v240 :: v241 :: v242 :: v243 :: v244 :: v245 :: v246 :: v247 :: v248 :: v249 :: v250 :: v251 :: v252 :: v253 :: .bool t :: u255 :: u256 :: u257 :: u258 :: u259 :: u260 :: u261 :: u262 :: u263 :: u264 :: u265 :: u266 :: u267 :: u268 :: u269 :: u270 :: u271 :: u272 :: u273 :: u274 :: u275 :: u276 :: u277 :: u278 :: u279 :: u280 :: u281 :: u282 :: u283 :: u284 :: u285 :: u286 :: u287 :: u288 :: u289 :: u290 :: u291 :: u292 :: u293 :: u294 :: u295 :: u296 :: u297 :: u298 :: u299 :: v300 :: v301 :: v302 :: v303 :: v304 :: v305 :: v306 :: v307 :: v308 :: v309 :: v310 :: v311 :: v312 :: v313 :: v314 :: v315 :: v316 :: v317 :: v318 :: v319 :: v320 :: v321 :: v322 :: v323 :: v324 :: v325 :: v326 :: v327 :: v328 :: v329 :: v330 :: v331 :: v332 :: v333 :: v334 :: v335 :: v336 :: v337 :: v338 :: v339 :: v340 :: v341 :: v342 :: v343 :: v344 :: v345 :: v346 :: v347 :: v348 :: v349 :: v350 :: v351 :: v352 :: v353 :: v354 :: v355 :: v356 :: v357 :: v358 :: v359 :: v360 :: v361 :: v362 :: v363 :: v364 :: v365 :: v366 :: v367 :: v368 :: v369 :: v370 :: v371 :: v372 :: v373 :: v374 :: v375 :: v376 :: v377 :: v378 :: v379 :: v380 :: v381 :: v382 :: v383 :: v384 :: v385 :: v386 :: v387 :: v388 :: v389 :: v390 :: v391 :: v392 :: v393 :: v394 :: v395 :: v396 :: v397 :: v398 :: v399 :: v400 :: v401 :: v402 :: v403 :: v404 :: v405 :: v406 :: v407 :: v408 :: v409 :: v410 :: v411 :: v412 :: v413 :: v414 :: v415 :: v416 :: v417 :: v418 :: v419 :: v420 :: v421 :: v422 :: v423 :: v424 :: v425 :: v426 :: v427 :: v428 :: v429 :: v430 :: v431 :: v432 :: v433 :: v434 :: v435 :: v436 :: v437 :: v438 :: v439 :: v440 :: v441 :: v442 :: v443 :: v444 :: v445 :: v446 :: v447 :: v448 :: v449 :: v450 :: v451 :: v452 :: v453 :: v454 :: v455 :: v456 :: v457 :: v458 :: v459 :: []),[]⟩ W') :
    Code.wp Try.prog (condH 254) (Exit.then K Q) ⟨List.toArray (v0 :: v1 :: v2 :: v3 :: v4 :: v5 :: v6 :: v7 :: v8 :: v9 :: v10 :: v11 :: v12 :: v13 :: v14 :: v15 :: v16 :: v17 :: v18 :: v19 :: v20 :: v21 :: v22 :: v23 :: v24 :: v25 :: v26 :: v27 :: v28 :: v29 :: .pointer (some ⟨gq,0,none⟩) :: .pointer (some ⟨gh,0,none⟩) :: v32 :: v33 :: v34 :: v35 :: v36 :: v37 :: v38 :: v39 :: v40 :: v41 :: v42 :: v43 :: v44 :: v45 :: v46 :: v47 :: v48 :: v49 :: v50 :: v51 :: v52 :: v53 :: v54 :: v55 :: v56 :: v57 :: v58 :: v59 :: v60 :: v61 :: v62 :: v63 :: v64 :: v65 :: v66 :: v67 :: v68 :: v69 :: v70 :: v71 :: v72 :: v73 :: v74 :: v75 :: v76 :: v77 :: v78 :: v79 :: v80 :: v81 :: v82 :: v83 :: v84 :: v85 :: v86 :: v87 :: v88 :: v89 :: v90 :: v91 :: v92 :: v93 :: v94 :: v95 :: v96 :: v97 :: v98 :: v99 :: v100 :: v101 :: v102 :: v103 :: v104 :: v105 :: v106 :: v107 :: v108 :: v109 :: v110 :: v111 :: v112 :: v113 :: v114 :: v115 :: v116 :: v117 :: v118 :: v119 :: v120 :: v121 :: v122 :: v123 :: v124 :: v125 :: v126 :: v127 :: v128 :: v129 :: v130 :: v131 :: v132 :: v133 :: v134 :: v135 :: v136 :: v137 :: v138 :: v139 :: v140 :: v141 :: v142 :: v143 :: v144 :: v145 :: v146 :: v147 :: v148 :: v149 :: v150 :: v151 :: v152 :: v153 :: v154 :: v155 :: v156 :: v157 :: v158 :: v159 :: v160 :: v161 :: v162 :: v163 :: v164 :: v165 :: v166 :: v167 :: v168 :: v169 :: v170 :: v171 :: v172 :: v173 :: v174 :: v175 :: v176 :: v177 :: v178 :: v179 :: v180 :: v181 :: v182 :: v183 :: v184 :: v185 :: v186 :: v187 :: v188 :: v189 :: v190 :: v191 :: v192 :: v193 :: v194 :: v195 :: v196 :: v197 :: v198 :: v199 :: v200 :: v201 :: v202 :: v203 :: v204 :: v205 :: v206 :: v207 :: v208 :: v209 :: v210 :: v211 :: v212 :: v213 :: v214 :: v215 :: v216 :: v217 :: v218 :: v219 :: v220 :: v221 :: v222 :: v223 :: v224 :: v225 :: v226 :: v227 :: v228 :: v229 :: v230 :: v231 :: v232 :: v233 :: v234 :: v235 :: v236 :: v237 :: v238 :: v239 :: v240 :: v241 :: v242 :: v243 :: v244 :: v245 :: v246 :: v247 :: v248 :: v249 :: v250 :: v251 :: v252 :: v253 :: .bool t :: v255 :: v256 :: v257 :: v258 :: v259 :: v260 :: v261 :: v262 :: v263 :: v264 :: v265 :: v266 :: v267 :: v268 :: v269 :: v270 :: v271 :: v272 :: v273 :: v274 :: v275 :: v276 :: v277 :: v278 :: v279 :: v280 :: v281 :: v282 :: v283 :: v284 :: v285 :: v286 :: v287 :: v288 :: v289 :: v290 :: v291 :: v292 :: v293 :: v294 :: v295 :: v296 :: v297 :: v298 :: v299 :: v300 :: v301 :: v302 :: v303 :: v304 :: v305 :: v306 :: v307 :: v308 :: v309 :: v310 :: v311 :: v312 :: v313 :: v314 :: v315 :: v316 :: v317 :: v318 :: v319 :: v320 :: v321 :: v322 :: v323 :: v324 :: v325 :: v326 :: v327 :: v328 :: v329 :: v330 :: v331 :: v332 :: v333 :: v334 :: v335 :: v336 :: v337 :: v338 :: v339 :: v340 :: v341 :: v342 :: v343 :: v344 :: v345 :: v346 :: v347 :: v348 :: v349 :: v350 :: v351 :: v352 :: v353 :: v354 :: v355 :: v356 :: v357 :: v358 :: v359 :: v360 :: v361 :: v362 :: v363 :: v364 :: v365 :: v366 :: v367 :: v368 :: v369 :: v370 :: v371 :: v372 :: v373 :: v374 :: v375 :: v376 :: v377 :: v378 :: v379 :: v380 :: v381 :: v382 :: v383 :: v384 :: v385 :: v386 :: v387 :: v388 :: v389 :: v390 :: v391 :: v392 :: v393 :: v394 :: v395 :: v396 :: v397 :: v398 :: v399 :: v400 :: v401 :: v402 :: v403 :: v404 :: v405 :: v406 :: v407 :: v408 :: v409 :: v410 :: v411 :: v412 :: v413 :: v414 :: v415 :: v416 :: v417 :: v418 :: v419 :: v420 :: v421 :: v422 :: v423 :: v424 :: v425 :: v426 :: v427 :: v428 :: v429 :: v430 :: v431 :: v432 :: v433 :: v434 :: v435 :: v436 :: v437 :: v438 :: v439 :: v440 :: v441 :: v442 :: v443 :: v444 :: v445 :: v446 :: v447 :: v448 :: v449 :: v450 :: v451 :: v452 :: v453 :: v454 :: v455 :: v456 :: v457 :: v458 :: v459 :: []),[]⟩ W:=by
  have hu30:=Try.underlying30
  have hu44:=Try.underlying44
  have hu28:=Try.underlying28
  have hu34:=Try.underlying34
  have hu53:=Try.underlying53
  have S:=amk hm;have HQ:=amk hq;have HH:=amk hh;have HR:=amk hr;have HC:=amk hc;have HR2:=amk hr2;have HC2:=amk hc2;clear hm hq hh hr hc hr2 hc2
  conv=>arg 2;whnf
  cases t with
  | false=>go_wp2;exact S.out
  | true =>
    obtain ⟨all,e1,e2,e3,e4,e5⟩:=ht rfl
    have E1:=amk e1;have E2:=amk e2;have E3:=amk e3;have E5:=amk e5
    have hx:decide ((L.length:Int) < (L2.length:Int))=false:=decide_eq_false (by omega);have hx2:((L.length:Int) < (L2.length:Int))=False:=eq_false (by omega);have hx3:(L.length < L2.length)=False:=eq_false (by omega)
    clear e1 e2 e3 e4 e5 ht
    obtain ⟨q0,q1,q2⟩:=bx3 S.out HQ.out
    go_upto_region 27 with (go_at_call 9;refine Calls.mono (impl_Solutions.calls k P D _ _ L all true _ (Mm_r S.out HR.out) HC.out E1.out) ?_;rintro e wx ⟨v7,rfl,hs,hb⟩;obtain ⟨A7,c7,rfl⟩:=Kd.R_slice hs;have R7:=amk (Kd.R_reads' hs).2.2;have C7:=amk (Kd.R_reads' hs).2.1;clear hs;have nS:=amk (Mm_below S.out hb);clear S;have S:=nS;clear nS hb;clear q0 q1 q2;obtain ⟨h0,h1,h2⟩:=bx3 S.out HH.out)
    go_wp2_with (go_at_call 9;refine Calls.mono (impl_Solutions.calls k a b _ _ L2 all true _ (Mm_r S.out HR2.out) HC2.out E2.out) ?_;rintro e wx ⟨v8,rfl,hs,hb⟩;obtain ⟨A8,c8,rfl⟩:=Kd.R_slice hs;have R8:=amk (Kd.R_reads' hs).2.2;have C8:=amk (Kd.R_reads' hs).2.1;clear hs;have nR:=amk (Kd.C_below R7.out hb);clear R7;have R7:=nR;clear nR;have nS:=amk (Mm_below S.out hb);clear S;have S:=nS;clear nS hb;clear h0 h1 h2;obtain ⟨h0,h1,h2⟩:=bx3 S.out HH.out)
    go_wp2_with (go_at_call 21;refine Calls.mono (impl_NeedlessClues.calls k a b _ _ L2 [] true _ (Mm_r S.out HR2.out) HC2.out E3.out) ?_;rintro e wx ⟨v9,rfl,hs,hb⟩;obtain ⟨A9,c9,rfl⟩:=Kd.R_slice hs;have R9:=amk (Kd.R_reads' hs).2.2;have C9:=amk (Kd.R_reads' hs).2.1;clear hs;have nR:=amk (Kd.C_below R7.out hb);clear R7;have R7:=nR;clear nR;have nR:=amk (Kd.C_below R8.out hb);clear R8;have R8:=nR;clear nR;have nS:=amk (Mm_below S.out hb);clear S;have S:=nS;clear nS hb;clear h0 h1 h2;obtain ⟨h0,h1,h2⟩:=bx3 S.out HH.out)
    go_wp2_with (go_at_call 22;refine Calls.mono (laws_eTexts.calls k _ _ all _ _ all true _ R7.out C7.out R8.out C8.out E5.out) ?_;rintro e wx ⟨rfl,hb⟩;have hb:=hb.below;have nS:=amk (Mm_below S.out hb);clear S;have S:=nS;clear nS hb;clear h0 h1 h2;obtain ⟨q0,q1,q2⟩:=bx3 S.out HQ.out;obtain ⟨h0,h1,h2⟩:=bx3 S.out HH.out)
    exact S.out
/-! laws.FnCodesHidden, a part of its walk: printed by genkh.py. -/
def laws_FnCodesHidden.T41:Bool×List (List Nat×List Nat):=(true,[([],[]),([],[]),([0,1],[0,1]),([2],[2]),([3],[3]),([3],[3]),([4,5,3,3],[3,4,5]),([6,3],[3,6]),([3,7],[3,7]),([8,6],[8]),([9],[9]),([9],[9]),([10,11,9],[9,10,11]),([9,12],[9,12]),([13,9],[13]),([14],[14]),([14],[14]),([15,16,14,14],[14,15,16]),([17,14],[14,17]),([14,18],[14,18]),([19,17],[19]),([20],[20]),([20],[20]),([21,22,20],[20,21,22]),([20,23],[20,23]),([24,20],[24]),([25],[25]),([25],[25]),([26,27,25],[25,26,27]),([25,28],[25,28]),([29,25],[29]),([30],[30]),([30],[30]),([31,32,30,30],[30,31,32]),([30],[30]),([30],[30]),([34,35,33,30],[30,34,35]),([33,36,30],[30,33,36]),([30,37],[30,37]),([38,36],[38]),([39],[39]),([40,39,39],[39,40]),([41],[41]),([41],[41]),([42,43,41,41],[41,42,43]),([44,41],[41,44]),([41,45,39],[39,41,45]),([39,46],[39,46])])
def laws_FnCodesHidden.B41:List Nat:=[0,0,3,7,15,15,63,127,255,511,1023,1023,4095,8191,16383,32767,32767,131071,262143,524287,1048575,2097151,2097151,8388607,16777215,33554431,67108863,67108863,268435455,536870911,1073741823,2147483647,2147483647,8589934591,2147483647,2147483647,68719476735,137438953471,274877906943,549755813887,1099511627775,2199023255551,4398046511103,4398046511103,17592186044415,35184372088831,70368744177663,140737488355327]
theorem laws_FnCodesHidden.tab41:rtab .any (opsOf Try.f3 41)=laws_FnCodesHidden.T41:=by kernel_rfl
theorem laws_FnCodesHidden.bits41:waitsOk laws_FnCodesHidden.T41.2 laws_FnCodesHidden.B41=true:=by kernel_rfl
set_option maxHeartbeats 16000000 in
set_option maxRecDepth 100000 in
theorem KHC {w:World} {v0 v1 v2 v3 v4 v5 v6 v7 v8 v9 v10 v11 v12 v13 v14 v15 v16 v17 v18 v19 v20 v21 v22 v23 v24 v25 v26 v27 v28 v29 v30 v31 v32 v33 v34 v35 v36 v37 v38 v39 v40 v41 v42 v43 v44 v49 v50 v57 v64 v65 v66 v67 v68 v69 v70 v71 v72 v73 v74 v75 v76 v77 v78 v79 v80 v81 v82 v83 v84 v85 v86 v87 v88 v89 v90 v91 v92 v93 v94 v95 v96 v97 v98 v99 v100 v101 v102 v103 v104 v105 v106 v107 v108 v109 v110 v111 v112 v113 v114 v115 v116 v117 v118 v119 v120 v121 v122 v123 v124 v125 v126 v127 v128 v129 v130 v131 v132 v133 v134 v135 v136 v137 v138 v139 v140 v141 v142 v143 v144 v145 v146 v147 v148 v149 v150 v151 v152 v153 v154 v155 v156 v157 v158 v159 v160 v161 v162 v163 v164 v165 v166 v167 v168 v169 v170 v171 v172 v173 v174 v175 v176 v177 v178 v179 v180 v181 v182 v183 v184 v185 v186 v187 v188 v189 v190 v191 v192 v193 v194 v195 v196 v197 v198 v199 v200 v201 v202 v203 v204 v205 v206 v207 v208 v209 v210 v211 v212 v213 v214 v215 v216 v217 v218 v219 v220 v221 v222 v223 v224 v225 v226 v227 v228 v229 v230 v231 v232 v233 v234 v235 v236 v237 v238 v239 v240 v241 v242 v243 v244 v245 v246 v247 v248 v249 v250 v251 v252 v253 v254 v255 v256 v257 v258 v259 v260 v261 v262 v263 v264 v265 v266 v267 v268 v269 v270 v271 v272 v273 v274 v275 v276 v277 v278 v279 v280 v281 v282 v283 v284 v285 v286 v287 v288 v289 v290 v291 v292 v293 v294 v295 v296 v297 v298 v299 v300 v301 v302 v303 v304 v305 v306 v307 v308 v309 v310 v311 v312 v313 v314 v315 v316 v317 v318 v319 v320 v321 v322 v323 v324 v325 v326 v327 v328 v329 v330 v331 v332 v333 v334 v335 v336 v337 v338 v339 v340 v341 v342 v343 v344 v345 v346 v347 v348 v349 v350 v351 v352 v353 v354 v355 v356 v357 v358 v359 v360 v361 v362 v363 v364 v365 v366 v367 v368 v369 v370 v371 v372 v373 v374 v375 v376 v377 v378 v379 v380 v381 v382 v383 v384 v385 v386 v387 v388 v389 v390 v391 v392 v393 v394 v395 v396 v397 v398 v399 v400 v401 v402 v403 v404 v405 v406 v407 v408 v409 v410 v411 v412 v413 v414 v415 v416 v417 v418 v419 v420 v421 v422 v423 v424 v425 v426 v427 v428 v429 v430 v431 v432 v433 v434 v435 v436 v437 v438 v439 v440 v441 v442 v443 v444 v445 v446 v447 v448 v449 v450 v451 v452 v453 v454 v455 v456 v457 v458 v459:Value} (K:Act→World→Prop) (Q:Exit→Act→World→Prop) (hQ : ∀ c t t' d w',Q (.panic c) ⟨t,d⟩ w'→Q (.panic c) ⟨t',d⟩ w')
    (k1 k3 k5 k7:Nat) (a1 b1 a3 b3 p5 d5 x6 y6 z6 p7 d7 x8 y8 z8:Int) (L1 L3:List S44) (A1 A2 A3 A4:Option Addr) (c1 c2 c3 c4:Nat) (g1 g2 g3 g4 g5 g6 g7 g8:Nat) (bs:List (Nat×Obj)) (rs:List (Option Addr×List S44)) (t1 t2 t3 ft ic:Bool) (W:World)
    (hm:Mm w bs rs W) (h1:(g1,pzB a1 b1 A1 L1.length c1)∈bs) (h2:(g2,pzB a1 b1 A2 L1.length c2)∈bs) (h3:(g3,pzB a3 b3 A3 L3.length c3)∈bs) (h4:(g4,pzB a3 b3 A4 L3.length c4)∈bs) (h5:(g5,lkB p5 d5)∈bs) (h6:(g6,clB x6 y6 z6)∈bs) (h7:(g7,lkB p7 d7)∈bs) (h8:(g8,clB x8 y8 z8)∈bs)
    (r1:(A1,L1)∈rs) (r2:(A2,L1)∈rs) (r3:(A3,L3)∈rs) (r4:(A4,L3)∈rs) (i1:L1.length≤c1) (i2:L1.length≤c2) (i3:L3.length≤c3) (i4:L3.length≤c4)
    (e1:laws_ePuzzle.f k1 a1 b1 L1 a1 b1 L1=some true) (e3:laws_ePuzzle.f k3 a3 b3 L3 a3 b3 L3=some true) (e5:impl_IsClue.f k5 p7 d7 x8 y8 z8=some ic) (e6:spec_IsClue.f k5 p7 d7 x8 y8 z8=some ic) (e7:t3=true→impl_IsClue.f k7 p5 d5 x6 y6 z6=some true)
    (hrest : ∀ {u359 u360 u361 u362 u363 u364 u365 u366 u367 u368 u369 u370 u371 u372 u373 u374 u375 u376 u377 u378 u379 u380 u381 u382 u383 u384 u385 u386 u387 u388 u389 u390 u391 u392 u393 u394 u395 u396 u397 u398 u399 u400 u401 u402 u403 u404 u405:Value} (W':World),Mm w bs rs W'→K ⟨List.toArray (v0 :: v1 :: v2 :: v3 :: v4 :: v5 :: v6 :: v7 :: v8 :: v9 :: v10 :: v11 :: v12 :: v13 :: v14 :: v15 :: v16 :: v17 :: v18 :: v19 :: v20 :: v21 :: v22 :: v23 :: v24 :: v25 :: v26 :: v27 :: v28 :: v29 :: v30 :: v31 :: v32 :: v33 :: v34 :: v35 :: v36 :: v37 :: v38 :: v39 :: v40 :: v41 :: v42 :: v43 :: v44 :: .pointer (some ⟨g1,0,none⟩) :: .bool t1 :: .pointer (some ⟨g2,0,none⟩) :: .bool t1 :: v49 :: v50 :: .pointer (some ⟨g3,0,none⟩) :: .bool t2 :: .pointer (some ⟨g4,0,none⟩) :: .bool t2 :: .pointer (some ⟨g5,0,none⟩) :: .pointer (some ⟨g6,0,none⟩) :: v57 :: .bool ft :: .bool t3 :: .bool ft :: .bool t3 :: .pointer (some ⟨g7,0,none⟩) :: .pointer (some ⟨g8,0,none⟩) :: v64 :: v65 :: v66 :: v67 :: v68 :: v69 :: v70 :: v71 :: v72 :: v73 :: v74 :: v75 :: v76 :: v77 :: v78 :: v79 :: v80 :: v81 :: v82 :: v83 :: v84 :: v85 :: v86 :: v87 :: v88 :: v89 :: v90 :: v91 :: v92 :: v93 :: v94 :: v95 :: v96 :: v97 :: v98 :: v99 :: v100 :: v101 :: v102 :: v103 :: v104 :: v105 :: v106 :: v107 :: v108 :: v109 :: v110 :: v111 :: v112 :: v113 :: v114 :: v115 :: v116 :: v117 :: v118 :: v119 :: v120 :: v121 :: v122 :: v123 :: v124 :: v125 :: v126 :: v127 :: v128 :: v129 :: v130 :: v131 :: v132 :: v133 :: v134 :: v135 :: v136 :: v137 :: v138 :: v139 :: v140 :: v141 :: v142 :: v143 :: v144 :: v145 :: v146 :: v147 :: v148 :: v149 :: v150 :: v151 :: v152 :: v153 :: v154 :: v155 :: v156 :: v157 :: v158 :: v159 :: v160 :: v161 :: v162 :: v163 :: v164 :: v165 :: v166 :: v167 :: v168 :: v169 :: v170 :: v171 :: v172 :: v173 :: v174 :: v175 :: v176 :: v177 :: v178 :: v179 :: v180 :: v181 :: v182 :: v183 :: v184 :: v185 :: v186 :: v187 :: v188 :: v189 :: v190 :: v191 :: v192 :: v193 :: v194 :: v195 :: v196 :: v197 :: v198 :: v199 :: v200 :: v201 :: v202 :: v203 :: v204 :: v205 :: v206 :: v207 :: v208 :: v209 :: v210 :: v211 :: v212 :: v213 :: v214 :: v215 :: v216 :: v217 :: v218 :: v219 :: v220 :: v221 :: v222 :: v223 :: v224 :: v225 :: v226 :: v227 :: v228 :: v229 :: v230 :: v231 :: v232 :: v233 :: v234 :: v235 :: v236 :: v237 :: v238 :: v239 :: v240 :: v241 :: v242 :: v243 :: v244 :: v245 :: v246 :: v247 :: v248 :: v249 :: v250 :: v251 :: v252 :: v253 :: v254 :: v255 :: v256 :: v257 :: v258 :: v259 :: v260 :: v261 :: v262 :: v263 :: v264 :: v265 :: v266 :: v267 :: v268 :: v269 :: v270 :: v271 :: v272 :: v273 :: v274 :: v275 :: v276 :: v277 :: v278 :: v279 :: v280 :: v281 :: v282 :: v283 :: v284 :: v285 :: v286 :: v287 :: v288 :: v289 :: v290 :: v291 :: v292 :: v293 :: v294 :: v295 :: v296 :: v297 :: v298 :: v299 :: v300 :: v301 :: v302 :: v303 :: v304 :: v305 :: v306 :: v307 :: v308 :: v309 :: v310 :: v311 :: v312 :: v313 :: v314 :: v315 :: v316 :: v317 :: v318 :: v319 :: v320 :: v321 :: v322 :: v323 :: v324 :: v325 :: v326 :: v327 :: v328 :: v329 :: v330 :: v331 :: v332 :: v333 :: v334 :: v335 :: v336 :: v337 :: v338 :: v339 :: v340 :: v341 :: v342 :: v343 :: v344 :: v345 :: v346 :: v347 :: v348 :: v349 :: v350 :: v351 :: v352 :: v353 :: v354 :: v355 :: v356 :: v357 :: v358 :: u359 :: u360 :: u361 :: u362 :: u363 :: u364 :: u365 :: u366 :: u367 :: u368 :: u369 :: u370 :: u371 :: u372 :: u373 :: u374 :: u375 :: u376 :: u377 :: u378 :: u379 :: u380 :: u381 :: u382 :: u383 :: u384 :: u385 :: u386 :: u387 :: u388 :: u389 :: u390 :: u391 :: u392 :: u393 :: u394 :: u395 :: u396 :: u397 :: u398 :: u399 :: u400 :: u401 :: u402 :: u403 :: u404 :: u405 :: .bool false :: v407 :: v408 :: v409 :: v410 :: v411 :: v412 :: v413 :: v414 :: v415 :: v416 :: v417 :: v418 :: v419 :: v420 :: v421 :: v422 :: v423 :: v424 :: v425 :: v426 :: v427 :: v428 :: v429 :: v430 :: v431 :: v432 :: v433 :: v434 :: v435 :: v436 :: v437 :: v438 :: v439 :: v440 :: v441 :: v442 :: v443 :: v444 :: v445 :: v446 :: v447 :: v448 :: v449 :: v450 :: v451 :: v452 :: v453 :: v454 :: v455 :: v456 :: v457 :: v458 :: v459 :: []),[]⟩ W') :
    Code.wp Try.prog (regH 41) (Exit.then K Q) ⟨List.toArray (v0 :: v1 :: v2 :: v3 :: v4 :: v5 :: v6 :: v7 :: v8 :: v9 :: v10 :: v11 :: v12 :: v13 :: v14 :: v15 :: v16 :: v17 :: v18 :: v19 :: v20 :: v21 :: v22 :: v23 :: v24 :: v25 :: v26 :: v27 :: v28 :: v29 :: v30 :: v31 :: v32 :: v33 :: v34 :: v35 :: v36 :: v37 :: v38 :: v39 :: v40 :: v41 :: v42 :: v43 :: v44 :: .pointer (some ⟨g1,0,none⟩) :: .bool t1 :: .pointer (some ⟨g2,0,none⟩) :: .bool t1 :: v49 :: v50 :: .pointer (some ⟨g3,0,none⟩) :: .bool t2 :: .pointer (some ⟨g4,0,none⟩) :: .bool t2 :: .pointer (some ⟨g5,0,none⟩) :: .pointer (some ⟨g6,0,none⟩) :: v57 :: .bool ft :: .bool t3 :: .bool ft :: .bool t3 :: .pointer (some ⟨g7,0,none⟩) :: .pointer (some ⟨g8,0,none⟩) :: v64 :: v65 :: v66 :: v67 :: v68 :: v69 :: v70 :: v71 :: v72 :: v73 :: v74 :: v75 :: v76 :: v77 :: v78 :: v79 :: v80 :: v81 :: v82 :: v83 :: v84 :: v85 :: v86 :: v87 :: v88 :: v89 :: v90 :: v91 :: v92 :: v93 :: v94 :: v95 :: v96 :: v97 :: v98 :: v99 :: v100 :: v101 :: v102 :: v103 :: v104 :: v105 :: v106 :: v107 :: v108 :: v109 :: v110 :: v111 :: v112 :: v113 :: v114 :: v115 :: v116 :: v117 :: v118 :: v119 :: v120 :: v121 :: v122 :: v123 :: v124 :: v125 :: v126 :: v127 :: v128 :: v129 :: v130 :: v131 :: v132 :: v133 :: v134 :: v135 :: v136 :: v137 :: v138 :: v139 :: v140 :: v141 :: v142 :: v143 :: v144 :: v145 :: v146 :: v147 :: v148 :: v149 :: v150 :: v151 :: v152 :: v153 :: v154 :: v155 :: v156 :: v157 :: v158 :: v159 :: v160 :: v161 :: v162 :: v163 :: v164 :: v165 :: v166 :: v167 :: v168 :: v169 :: v170 :: v171 :: v172 :: v173 :: v174 :: v175 :: v176 :: v177 :: v178 :: v179 :: v180 :: v181 :: v182 :: v183 :: v184 :: v185 :: v186 :: v187 :: v188 :: v189 :: v190 :: v191 :: v192 :: v193 :: v194 :: v195 :: v196 :: v197 :: v198 :: v199 :: v200 :: v201 :: v202 :: v203 :: v204 :: v205 :: v206 :: v207 :: v208 :: v209 :: v210 :: v211 :: v212 :: v213 :: v214 :: v215 :: v216 :: v217 :: v218 :: v219 :: v220 :: v221 :: v222 :: v223 :: v224 :: v225 :: v226 :: v227 :: v228 :: v229 :: v230 :: v231 :: v232 :: v233 :: v234 :: v235 :: v236 :: v237 :: v238 :: v239 :: v240 :: v241 :: v242 :: v243 :: v244 :: v245 :: v246 :: v247 :: v248 :: v249 :: v250 :: v251 :: v252 :: v253 :: v254 :: v255 :: v256 :: v257 :: v258 :: v259 :: v260 :: v261 :: v262 :: v263 :: v264 :: v265 :: v266 :: v267 :: v268 :: v269 :: v270 :: v271 :: v272 :: v273 :: v274 :: v275 :: v276 :: v277 :: v278 :: v279 :: v280 :: v281 :: v282 :: v283 :: v284 :: v285 :: v286 :: v287 :: v288 :: v289 :: v290 :: v291 :: v292 :: v293 :: v294 :: v295 :: v296 :: v297 :: v298 :: v299 :: v300 :: v301 :: v302 :: v303 :: v304 :: v305 :: v306 :: v307 :: v308 :: v309 :: v310 :: v311 :: v312 :: v313 :: v314 :: v315 :: v316 :: v317 :: v318 :: v319 :: v320 :: v321 :: v322 :: v323 :: v324 :: v325 :: v326 :: v327 :: v328 :: v329 :: v330 :: v331 :: v332 :: v333 :: v334 :: v335 :: v336 :: v337 :: v338 :: v339 :: v340 :: v341 :: v342 :: v343 :: v344 :: v345 :: v346 :: v347 :: v348 :: v349 :: v350 :: v351 :: v352 :: v353 :: v354 :: v355 :: v356 :: v357 :: v358 :: v359 :: v360 :: v361 :: v362 :: v363 :: v364 :: v365 :: v366 :: v367 :: v368 :: v369 :: v370 :: v371 :: v372 :: v373 :: v374 :: v375 :: v376 :: v377 :: v378 :: v379 :: v380 :: v381 :: v382 :: v383 :: v384 :: v385 :: v386 :: v387 :: v388 :: v389 :: v390 :: v391 :: v392 :: v393 :: v394 :: v395 :: v396 :: v397 :: v398 :: v399 :: v400 :: v401 :: v402 :: v403 :: v404 :: v405 :: v406 :: v407 :: v408 :: v409 :: v410 :: v411 :: v412 :: v413 :: v414 :: v415 :: v416 :: v417 :: v418 :: v419 :: v420 :: v421 :: v422 :: v423 :: v424 :: v425 :: v426 :: v427 :: v428 :: v429 :: v430 :: v431 :: v432 :: v433 :: v434 :: v435 :: v436 :: v437 :: v438 :: v439 :: v440 :: v441 :: v442 :: v443 :: v444 :: v445 :: v446 :: v447 :: v448 :: v449 :: v450 :: v451 :: v452 :: v453 :: v454 :: v455 :: v456 :: v457 :: v458 :: v459 :: []),[]⟩ W:=by
  have hu30:=Try.underlying30
  have hu25:=Try.underlying25
  have hu44:=Try.underlying44
  have S:=amk (Mm_below hm (bd_ (Below.refl _ _)))
  have H1:=amk h1
  have H2:=amk h2
  have H3:=amk h3
  have H4:=amk h4
  have H5:=amk h5
  have H6:=amk h6
  have H7:=amk h7
  have H8:=amk h8
  have R1:=amk r1;have I1:=amk i1
  have R2:=amk r2;have I2:=amk i2
  have R3:=amk r3;have I3:=amk i3
  have R4:=amk r4;have I4:=amk i4
  have E1:=amk e1;have E3:=amk e3;have E5:=amk e5;have E6:=amk e6;have E7:=amk e7
  clear hm h1 h2 h3 h4 h5 h6 h7 h8 r1 r2 r3 r4 i1 i2 i3 i4 e1 e3 e5 e6 e7
  have hbb : ∀ b:Bool,(b != b)=false:=fun b=>by cases b <;> rfl
  conv=>arg 2;whnf
  have hc : ∀ W',Mm w bs rs W'→(W'.cell? ⟨g1,0,none⟩=some (.int .i64 a1)∧W'.cell? ⟨g1,1,none⟩=some (.int .i64 b1)∧W'.cell? ⟨g1,2,none⟩=some (.slice A1 L1.length c1)∧W'.cell? ⟨g2,0,none⟩=some (.int .i64 a1)∧W'.cell? ⟨g2,1,none⟩=some (.int .i64 b1)∧W'.cell? ⟨g2,2,none⟩=some (.slice A2 L1.length c2)∧W'.cell? ⟨g3,0,none⟩=some (.int .i64 a3)∧W'.cell? ⟨g3,1,none⟩=some (.int .i64 b3)∧W'.cell? ⟨g3,2,none⟩=some (.slice A3 L3.length c3)∧W'.cell? ⟨g4,0,none⟩=some (.int .i64 a3)∧W'.cell? ⟨g4,1,none⟩=some (.int .i64 b3)∧W'.cell? ⟨g4,2,none⟩=some (.slice A4 L3.length c4)∧W'.cell? ⟨g5,0,none⟩=some (.int .i64 p5)∧W'.cell? ⟨g5,1,none⟩=some (.int .i64 d5)∧W'.cell? ⟨g6,0,none⟩=some (.int .i64 x6)∧W'.cell? ⟨g6,1,none⟩=some (.int .i64 y6)∧W'.cell? ⟨g6,2,none⟩=some (.int .i64 z6)∧W'.cell? ⟨g7,0,none⟩=some (.int .i64 p7)∧W'.cell? ⟨g7,1,none⟩=some (.int .i64 d7)∧W'.cell? ⟨g8,0,none⟩=some (.int .i64 x8)∧W'.cell? ⟨g8,1,none⟩=some (.int .i64 y8)∧W'.cell? ⟨g8,2,none⟩=some (.int .i64 z8)):=by
    intro W' h;have k1:=bx3 h H1.out;have k2:=bx3 h H2.out;have k3:=bx3 h H3.out;have k4:=bx3 h H4.out;have k5:=bx2 h H5.out;have k6:=bx3 h H6.out;have k7:=bx2 h H7.out;have k8:=bx3 h H8.out
    exact ⟨k1.1,k1.2.1,k1.2.2,k2.1,k2.2.1,k2.2.2,k3.1,k3.2.1,k3.2.2,k4.1,k4.2.1,k4.2.2,k5.1,k5.2,k6.1,k6.2.1,k6.2.2,k7.1,k7.2,k8.1,k8.2.1,k8.2.2⟩
  have HCc:=amk hc;clear hc
  refine start_ (n:=48) (S:=fun w'=>w'.cell? ⟨g1,0,none⟩=some (.int .i64 a1)∧w'.cell? ⟨g1,1,none⟩=some (.int .i64 b1)∧w'.cell? ⟨g1,2,none⟩=some (.slice A1 L1.length c1)∧w'.cell? ⟨g2,0,none⟩=some (.int .i64 a1)∧w'.cell? ⟨g2,1,none⟩=some (.int .i64 b1)∧w'.cell? ⟨g2,2,none⟩=some (.slice A2 L1.length c2)∧w'.cell? ⟨g3,0,none⟩=some (.int .i64 a3)∧w'.cell? ⟨g3,1,none⟩=some (.int .i64 b3)∧w'.cell? ⟨g3,2,none⟩=some (.slice A3 L3.length c3)∧w'.cell? ⟨g4,0,none⟩=some (.int .i64 a3)∧w'.cell? ⟨g4,1,none⟩=some (.int .i64 b3)∧w'.cell? ⟨g4,2,none⟩=some (.slice A4 L3.length c4)∧w'.cell? ⟨g5,0,none⟩=some (.int .i64 p5)∧w'.cell? ⟨g5,1,none⟩=some (.int .i64 d5)∧w'.cell? ⟨g6,0,none⟩=some (.int .i64 x6)∧w'.cell? ⟨g6,1,none⟩=some (.int .i64 y6)∧w'.cell? ⟨g6,2,none⟩=some (.int .i64 z6)∧w'.cell? ⟨g7,0,none⟩=some (.int .i64 p7)∧w'.cell? ⟨g7,1,none⟩=some (.int .i64 d7)∧w'.cell? ⟨g8,0,none⟩=some (.int .i64 x8)∧w'.cell? ⟨g8,1,none⟩=some (.int .i64 y8)∧w'.cell? ⟨g8,2,none⟩=some (.int .i64 z8)) (ds:=[]) (bA 48 0) (by kernel_rfl) rfl (by kernel_rfl) (HCc.out _ S.out) (fun hHeld=>?_);refine with_tabW laws_FnCodesHidden.tab41 laws_FnCodesHidden.bits41 (fun HT_ HW_=>?_)
  generalize World.drew _=W at S hHeld ⊢
  refine pU_ HT_ 0 (some 359) (bA 48 1) ?_ (hQ:=by intro c a w2 h;exact hQ c _ a.tmps a.defers w2 h)
  refine pU_ HT_ 1 (some 360) (bA 48 3) ?_ (hQ:=by intro c a w2 h;exact hQ c _ a.tmps a.defers w2 h)
  refine pU_ HT_ 2 (some 361) (bA 48 7) ?_ (hQ:=by intro c a w2 h;exact hQ c _ a.tmps a.defers w2 h)
  refine pU_ HT_ 3 (some 362) (bA 48 15) ?_ (hQ:=by intro c a w2 h;exact hQ c _ a.tmps a.defers w2 h)
  refine tK_ HT_ HW_ hHeld 4 (some 363) (bA 48 31) ?_ (hQ:=by intro c a w2 h;exact hQ c _ a.tmps a.defers w2 h)
  refine tK_ HT_ HW_ hHeld 5 (some 364) (bA 48 63) ?_ (hQ:=by intro c a w2 h;exact hQ c _ a.tmps a.defers w2 h)
  refine oN_ HT_ 6 (some 365) (bA 48 127) (fun K hK=>?_);refine gs_ Try.func8 #[.agg #[.int .i64 a1, .int .i64 b1, .slice A1 L1.length c1], .agg #[.int .i64 a1, .int .i64 b1, .slice A2 L1.length c2]] ?_;refine Calls.mono (laws_ePuzzle.calls k1 a1 b1 _ _ L1 a1 b1 _ _ L1 true _ (Mm_r S.out R1.out) I1.out (Mm_r S.out R2.out) I2.out E1.out) ?_;rintro e wx ⟨rfl,hb⟩;refine ⟨_,rfl,?_⟩;have nS:=amk (Mm_below S.out hb);clear S;have S:=nS;clear nS hb;
  refine hK.out _ _ (HCc.out _ S.out) (fun hHeld=>?_);clear hK K;refine nN_ (some 365) ?_
  refine pU_ HT_ 7 (some 366) (bA 48 255) ?_ (hQ:=by intro c a w2 h;exact hQ c _ a.tmps a.defers w2 h)
  refine pU_ HT_ 8 (some 367) (bA 48 511) ?_ (hQ:=by intro c a w2 h;exact hQ c _ a.tmps a.defers w2 h)
  refine pU_ HT_ 9 (some 368) (bA 48 1023) ?_ (hQ:=by intro c a w2 h;exact hQ c _ a.tmps a.defers w2 h)
  refine pU_ HT_ 10 (some 369) (bA 48 2047) ?_ (hQ:=by intro c a w2 h;exact hQ c _ a.tmps a.defers w2 h)
  refine pU_ HT_ 11 (some 370) (bA 48 4095) ?_ (hQ:=by intro c a w2 h;exact hQ c _ a.tmps a.defers w2 h)
  refine pU_ HT_ 12 (some 371) (bA 48 8191) ?_ (hQ:=by intro c a w2 h;exact hQ c _ a.tmps a.defers w2 h)
  refine pU_ HT_ 13 (some 372) (bA 48 16383) ?_ (hQ:=by intro c a w2 h;exact hQ c _ a.tmps a.defers w2 h)
  refine pU_ HT_ 14 (some 373) (bA 48 32767) ?_ (hQ:=by intro c a w2 h;exact hQ c _ a.tmps a.defers w2 h)
  refine tK_ HT_ HW_ hHeld 15 (some 374) (bA 48 65535) ?_ (hQ:=by intro c a w2 h;exact hQ c _ a.tmps a.defers w2 h)
  refine tK_ HT_ HW_ hHeld 16 (some 375) (bA 48 131071) ?_ (hQ:=by intro c a w2 h;exact hQ c _ a.tmps a.defers w2 h)
  refine oN_ HT_ 17 (some 376) (bA 48 262143) (fun K hK=>?_);refine gs_ Try.func8 #[.agg #[.int .i64 a3, .int .i64 b3, .slice A3 L3.length c3], .agg #[.int .i64 a3, .int .i64 b3, .slice A4 L3.length c4]] ?_;refine Calls.mono (laws_ePuzzle.calls k3 a3 b3 _ _ L3 a3 b3 _ _ L3 true _ (Mm_r S.out R3.out) I3.out (Mm_r S.out R4.out) I4.out E3.out) ?_;rintro e wx ⟨rfl,hb⟩;refine ⟨_,rfl,?_⟩;have nS:=amk (Mm_below S.out hb);clear S;have S:=nS;clear nS hb;
  refine hK.out _ _ (HCc.out _ S.out) (fun hHeld=>?_);clear hK K;refine nN_ (some 376) ?_
  refine pU_ HT_ 18 (some 377) (bA 48 524287) ?_ (hQ:=by intro c a w2 h;exact hQ c _ a.tmps a.defers w2 h)
  refine pU_ HT_ 19 (some 378) (bA 48 1048575) ?_ (hQ:=by intro c a w2 h;exact hQ c _ a.tmps a.defers w2 h)
  refine pU_ HT_ 20 (some 379) (bA 48 2097151) ?_ (hQ:=by intro c a w2 h;exact hQ c _ a.tmps a.defers w2 h)
  refine pU_ HT_ 21 (some 380) (bA 48 4194303) ?_ (hQ:=by intro c a w2 h;exact hQ c _ a.tmps a.defers w2 h)
  refine pU_ HT_ 22 (some 381) (bA 48 8388607) ?_ (hQ:=by intro c a w2 h;exact hQ c _ a.tmps a.defers w2 h)
  refine pU_ HT_ 23 (some 382) (bA 48 16777215) ?_ (hQ:=by intro c a w2 h;exact hQ c _ a.tmps a.defers w2 h)
  refine pU_ HT_ 24 (some 383) (bA 48 33554431) ?_ (hQ:=by intro c a w2 h;exact hQ c _ a.tmps a.defers w2 h)
  refine pU_ HT_ 25 (some 384) (bA 48 67108863) ?_ (hQ:=by intro c a w2 h;exact hQ c _ a.tmps a.defers w2 h)
  refine pU_ HT_ 26 (some 385) (bA 48 134217727) ?_ (hQ:=by intro c a w2 h;exact hQ c _ a.tmps a.defers w2 h)
  refine pU_ HT_ 27 (some 386) (bA 48 268435455) ?_ (hQ:=by intro c a w2 h;exact hQ c _ a.tmps a.defers w2 h)
  refine pU_ HT_ 28 (some 387) (bA 48 536870911) ?_ (hQ:=by intro c a w2 h;exact hQ c _ a.tmps a.defers w2 h)
  refine pU_ HT_ 29 (some 388) (bA 48 1073741823) ?_ (hQ:=by intro c a w2 h;exact hQ c _ a.tmps a.defers w2 h)
  refine pU_ HT_ 30 (some 389) (bA 48 2147483647) ?_ (hQ:=by intro c a w2 h;exact hQ c _ a.tmps a.defers w2 h)
  refine tK_ HT_ HW_ hHeld 31 (some 390) (bA 48 4294967295) ?_ (hQ:=by intro c a w2 h;exact hQ c _ a.tmps a.defers w2 h)
  refine tK_ HT_ HW_ hHeld 32 (some 391) (bA 48 8589934591) ?_ (hQ:=by intro c a w2 h;exact hQ c _ a.tmps a.defers w2 h)
  refine tK_ HT_ HW_ hHeld 34 (some 393) (bA 48 25769803775) ?_ (hQ:=by intro c a w2 h;exact hQ c _ a.tmps a.defers w2 h)
  refine tK_ HT_ HW_ hHeld 35 (some 394) (bA 48 60129542143) ?_ (hQ:=by intro c a w2 h;exact hQ c _ a.tmps a.defers w2 h)
  refine oN_ HT_ 33 (some 392) (bA 48 68719476735) (fun K hK=>?_);refine gs_ Try.func32 #[.agg #[.int .i64 p7, .int .i64 d7], .agg #[.int .i64 x8, .int .i64 y8, .int .i64 z8]] ?_;refine Calls.mono (impl_IsClue.calls k5 p7 d7 x8 y8 z8 ic _ E5.out) ?_;rintro e wx ⟨rfl,hb⟩;refine ⟨_,rfl,?_⟩;have nS:=amk (Mm_below S.out hb);clear S;have S:=nS;clear nS hb;
  refine hK.out _ _ (HCc.out _ S.out) (fun hHeld=>?_);clear hK K;refine nN_ (some 392) ?_
  refine oN_ HT_ 36 (some 395) (bA 48 137438953471) (fun K hK=>?_);refine gs_ Try.func33 #[.agg #[.int .i64 p7, .int .i64 d7], .agg #[.int .i64 x8, .int .i64 y8, .int .i64 z8]] ?_;refine Calls.mono (spec_IsClue.calls k5 p7 d7 x8 y8 z8 ic _ E6.out) ?_;rintro e wx ⟨rfl,hb⟩;refine ⟨_,rfl,?_⟩;have nS:=amk (Mm_below S.out hb);clear S;have S:=nS;clear nS hb;
  refine hK.out _ _ (HCc.out _ S.out) (fun hHeld=>?_);clear hK K;refine nN_ (some 395) ?_
  refine pU_ HT_ 37 (some 396) (bA 48 274877906943) ?_ (hQ:=by intro c a w2 h;exact hQ c _ a.tmps a.defers w2 h)
  refine pU_ HT_ 38 (some 397) (bA 48 549755813887) ?_ (hQ:=by intro c a w2 h;exact hQ c _ a.tmps a.defers w2 h)
  refine pU_ HT_ 39 (some 398) (bA 48 1099511627775) ?_ (hQ:=by intro c a w2 h;exact hQ c _ a.tmps a.defers w2 h)
  refine pU_ HT_ 40 (some 399) (bA 48 2199023255551) ?_ (hQ:=by intro c a w2 h;exact hQ c _ a.tmps a.defers w2 h)
  refine pU_ HT_ 41 (some 400) (bA 48 4398046511103) ?_ (hQ:=by intro c a w2 h;exact hQ c _ a.tmps a.defers w2 h)
  cases t3 with
  | false =>
    refine pZ_ HT_ 42 (some 401) (bA 48 8796093022207) ?_ (hQ:=by intro c a w2 h;exact hQ c _ a.tmps a.defers w2 h)
    refine pZ_ HT_ 43 (some 402) (bA 48 17592186044415) ?_ (hQ:=by intro c a w2 h;exact hQ c _ a.tmps a.defers w2 h)
    refine pZ_ HT_ 44 (some 403) (bA 48 35184372088831) ?_ (hQ:=by intro c a w2 h;exact hQ c _ a.tmps a.defers w2 h)
    refine pZ_ HT_ 45 (some 404) (bA 48 70368744177663) ?_ (hQ:=by intro c a w2 h;exact hQ c _ a.tmps a.defers w2 h)
    refine pU_ HT_ 46 (some 405) (bA 48 140737488355327) ?_ (hQ:=by intro c a w2 h;exact hQ c _ a.tmps a.defers w2 h)
    refine pU_ HT_ 47 (some 406) (bA 48 281474976710655) ?_ (hQ:=by intro c a w2 h;exact hQ c _ a.tmps a.defers w2 h)
    refine done_ (done_of HT_.out (by kernel_rfl)) ?_;exact hrest _ S.out
  | true =>
    refine tK_ HT_ HW_ hHeld 42 (some 401) (bA 48 8796093022207) ?_ (hQ:=by intro c a w2 h;exact hQ c _ a.tmps a.defers w2 h)
    refine tK_ HT_ HW_ hHeld 43 (some 402) (bA 48 17592186044415) ?_ (hQ:=by intro c a w2 h;exact hQ c _ a.tmps a.defers w2 h)
    refine oN_ HT_ 44 (some 403) (bA 48 35184372088831) (fun K hK=>?_);refine gs_ Try.func32 #[.agg #[.int .i64 p5, .int .i64 d5], .agg #[.int .i64 x6, .int .i64 y6, .int .i64 z6]] ?_;refine Calls.mono (impl_IsClue.calls k7 p5 d5 x6 y6 z6 true _ (E7.out rfl)) ?_;rintro e wx ⟨rfl,hb⟩;refine ⟨_,rfl,?_⟩;have nS:=amk (Mm_below S.out hb);clear S;have S:=nS;clear nS hb;
    refine hK.out _ _ (HCc.out _ S.out) (fun hHeld=>?_);clear hK K;refine nN_ (some 403) ?_
    refine pU_ HT_ 45 (some 404) (bA 48 70368744177663) ?_ (hQ:=by intro c a w2 h;exact hQ c _ a.tmps a.defers w2 h)
    refine pU_ HT_ 46 (some 405) (bA 48 140737488355327) ?_ (hQ:=by intro c a w2 h;exact hQ c _ a.tmps a.defers w2 h)
    refine pU_ HT_ 47 (some 406) (bA 48 281474976710655) ?_ (hQ:=by intro c a w2 h;exact hQ c _ a.tmps a.defers w2 h)
    refine done_ (done_of HT_.out (by kernel_rfl)) ?_;exact hrest _ S.out
/-! laws.FnCodesHidden, a part of its walk: printed by genkh.py. -/
def laws_FnCodesHidden.T45:Bool×List (List Nat×List Nat):=(true,[([],[]),([0],[0]),([1],[1]),([2],[2]),([2],[2]),([3,4,2,2],[2,3,4]),([5,2],[2,5]),([2,6],[2,6]),([7,5],[7]),([8],[8]),([9,8],[8,9]),([8],[8]),([11,8],[8,11]),([12,8],[8,12]),([10,13,8],[8,10,13]),([14,8],[8,14]),([8],[8]),([15,16,8],[8,15,16]),([8,17],[8,17])])
def laws_FnCodesHidden.B45:List Nat:=[0,1,3,7,7,31,63,127,255,511,1023,511,2559,6655,16383,32767,511,131071,262143]
theorem laws_FnCodesHidden.tab45:rtab .any (opsOf Try.f3 45)=laws_FnCodesHidden.T45:=by kernel_rfl
theorem laws_FnCodesHidden.bits45:waitsOk laws_FnCodesHidden.T45.2 laws_FnCodesHidden.B45=true:=by kernel_rfl
set_option maxHeartbeats 16000000 in
set_option maxRecDepth 100000 in
theorem KHD {w:World} {v0 v1 v2 v3 v4 v5 v6 v7 v8 v9 v10 v11 v12 v13 v14 v15 v16 v17 v18 v19 v20 v21 v22 v23 v24 v25 v26 v27 v28 v29 v30 v31 v32 v33 v34 v35 v36 v37 v38 v39 v40 v41 v42 v46 v47 v48 v49 v50 v51 v52 v53 v54 v55 v56 v57 v58 v59 v60 v61 v62 v63 v64 v65 v66 v67 v68 v69 v70 v71 v72 v73 v74 v75 v76 v77 v78 v79 v80 v81 v82 v83 v84 v85 v86 v87 v88 v89 v90 v91 v92 v93 v94 v95 v96 v97 v98 v99 v100 v101 v102 v103 v104 v105 v106 v107 v108 v109 v110 v111 v112 v113 v114 v115 v116 v117 v118 v119 v120 v121 v122 v123 v124 v125 v126 v127 v128 v129 v130 v131 v132 v133 v134 v135 v136 v137 v138 v139 v140 v141 v142 v143 v144 v145 v146 v147 v148 v149 v150 v151 v152 v153 v154 v155 v156 v157 v158 v159 v160 v161 v162 v163 v164 v165 v166 v167 v168 v169 v170 v171 v172 v173 v174 v175 v176 v177 v178 v179 v180 v181 v182 v183 v184 v185 v186 v187 v188 v189 v190 v191 v192 v193 v194 v195 v196 v197 v198 v199 v200 v201 v202 v203 v204 v205 v206 v207 v208 v209 v210 v211 v212 v213 v214 v215 v216 v217 v218 v219 v220 v221 v222 v223 v224 v225 v226 v227 v228 v229 v230 v231 v232 v233 v234 v235 v236 v237 v238 v239 v240 v241 v242 v243 v244 v245 v246 v247 v248 v249 v250 v251 v252 v253 v254 v255 v256 v257 v258 v259 v260 v261 v262 v263 v264 v265 v266 v267 v268 v269 v270 v271 v272 v273 v274 v275 v276 v277 v278 v279 v280 v281 v282 v283 v284 v285 v286 v287 v288 v289 v290 v291 v292 v293 v294 v295 v296 v297 v298 v299 v300 v301 v302 v303 v304 v305 v306 v307 v308 v309 v310 v311 v312 v313 v314 v315 v316 v317 v318 v319 v320 v321 v322 v323 v324 v325 v326 v327 v328 v329 v330 v331 v332 v333 v334 v335 v336 v337 v338 v339 v340 v341 v342 v343 v344 v345 v346 v347 v348 v349 v350 v351 v352 v353 v354 v355 v356 v357 v358 v359 v360 v361 v362 v363 v364 v365 v366 v367 v368 v369 v370 v371 v372 v373 v374 v375 v376 v377 v378 v379 v380 v381 v382 v383 v384 v385 v386 v387 v388 v389 v390 v391 v392 v393 v394 v395 v396 v397 v398 v399 v400 v401 v402 v403 v404 v405 v406 v408 v409 v410 v411 v412 v413 v414 v415 v416 v417 v418 v419 v420 v421 v422 v423 v424 v425 v426 v427 v428 v429 v430 v431 v432 v433 v434 v435 v436 v437 v438 v439 v440 v441 v442 v443 v444 v445 v446 v447 v448 v449 v450 v451 v452 v453 v454 v455 v456 v457 v458 v459:Value} (K:Act→World→Prop) (Q:Exit→Act→World→Prop) (hQ : ∀ c t t' d w',Q (.panic c) ⟨t,d⟩ w'→Q (.panic c) ⟨t',d⟩ w')
    (k:Nat) (P D a b x y z:Int) (L L1:List S44) (A A1:Option Addr) (c c1:Nat) (gr gk ga:Nat) (bs:List (Nat×Obj)) (rs:List (Option Addr×List S44)) (t:Bool) (W:World)
    (hm:Mm w bs rs W) (h1:(gr,pzB P D A L.length c)∈bs) (h2:(gk,clB x y z)∈bs) (h3:(ga,pzB a b A1 L1.length c1)∈bs) (r1:(A,L)∈rs) (r2:(A1,L1)∈rs) (i1:L.length≤c) (i2:L1.length≤c1)
    (ht:t=true→impl_DropClue.f a b L1 L.length=some (P,D,L,true)∧laws_ePuzzle.f k P D L P D L=some true∧L.length < L1.length∧rd_T44 L1 L.length=⟨x,y,z⟩)
    (hrest : ∀ {u64 u65 u408 u409 u410 u411 u412 u413 u414 u415 u416 u417 u418 u419 u420 u421 u422 u423 u424 u425 u426 u427 u428 u429 u430 u431 u432 u433 u434:Value} (W':World),Mm w bs rs W'→K ⟨List.toArray (v0 :: v1 :: v2 :: v3 :: v4 :: v5 :: v6 :: v7 :: v8 :: v9 :: v10 :: v11 :: v12 :: v13 :: v14 :: v15 :: v16 :: v17 :: v18 :: v19 :: v20 :: v21 :: v22 :: v23 :: v24 :: v25 :: v26 :: v27 :: v28 :: v29 :: v30 :: v31 :: v32 :: v33 :: v34 :: v35 :: v36 :: v37 :: v38 :: v39 :: v40 :: v41 :: v42 :: .pointer (some ⟨gr,0,none⟩) :: .pointer (some ⟨gk,0,none⟩) :: .pointer (some ⟨ga,0,none⟩) :: v46 :: v47 :: v48 :: v49 :: v50 :: v51 :: v52 :: v53 :: v54 :: v55 :: v56 :: v57 :: v58 :: v59 :: v60 :: v61 :: v62 :: v63 :: u64 :: u65 :: v66 :: v67 :: v68 :: v69 :: v70 :: v71 :: v72 :: v73 :: v74 :: v75 :: v76 :: v77 :: v78 :: v79 :: v80 :: v81 :: v82 :: v83 :: v84 :: v85 :: v86 :: v87 :: v88 :: v89 :: v90 :: v91 :: v92 :: v93 :: v94 :: v95 :: v96 :: v97 :: v98 :: v99 :: v100 :: v101 :: v102 :: v103 :: v104 :: v105 :: v106 :: v107 :: v108 :: v109 :: v110 :: v111 :: v112 :: v113 :: v114 :: v115 :: v116 :: v117 :: v118 :: v119 :: v120 :: v121 :: v122 :: v123 :: v124 :: v125 :: v126 :: v127 :: v128 :: v129 :: v130 :: v131 :: v132 :: v133 :: v134 :: v135 :: v136 :: v137 :: v138 :: v139 :: v140 :: v141 :: v142 :: v143 :: v144 :: v145 :: v146 :: v147 :: v148 :: v149 :: v150 :: v151 :: v152 :: v153 :: v154 :: v155 :: v156 :: v157 :: v158 :: v159 :: v160 :: v161 :: v162 :: v163 :: v164 :: v165 :: v166 :: v167 :: v168 :: v169 :: v170 :: v171 :: v172 :: v173 :: v174 :: v175 :: v176 :: v177 :: v178 :: v179 :: v180 :: v181 :: v182 :: v183 :: v184 :: v185 :: v186 :: v187 :: v188 :: v189 :: v190 :: v191 :: v192 :: v193 :: v194 :: v195 :: v196 :: v197 :: v198 :: v199 :: v200 :: v201 :: v202 :: v203 :: v204 :: v205 :: v206 :: v207 :: v208 :: v209 :: v210 :: v211 :: v212 :: v213 :: v214 :: v215 :: v216 :: v217 :: v218 :: v219 :: v220 :: v221 :: v222 :: v223 :: v224 :: v225 :: v226 :: v227 :: v228 :: v229 :: v230 :: v231 :: v232 :: v233 :: v234 :: v235 :: v236 :: v237 :: v238 :: v239 :: v240 :: v241 :: v242 :: v243 :: v244 :: v245 :: v246 :: v247 :: v248 :: v249 :: v250 :: v251 :: v252 :: v253 :: v254 :: v255 :: v256 :: v257 :: v258 :: v259 :: v260 :: v261 :: v262 :: v263 :: v264 :: v265 :: v266 :: v267 :: v268 :: v269 :: v270 :: v271 :: v272 :: v273 :: v274 :: v275 :: v276 :: v277 :: v278 :: v279 :: v280 :: v281 :: v282 :: v283 :: v284 :: v285 :: v286 :: v287 :: v288 :: v289 :: v290 :: v291 :: v292 :: v293 :: v294 :: v295 :: v296 :: v297 :: v298 :: v299 :: v300 :: v301 :: v302 :: v303 :: v304 :: v305 :: v306 :: v307 :: v308 :: v309 :: v310 :: v311 :: v312 :: v313 :: v314 :: v315 :: v316 :: v317 :: v318 :: v319 :: v320 :: v321 :: v322 :: v323 :: v324 :: v325 :: v326 :: v327 :: v328 :: v329 :: v330 :: v331 :: v332 :: v333 :: v334 :: v335 :: v336 :: v337 :: v338 :: v339 :: v340 :: v341 :: v342 :: v343 :: v344 :: v345 :: v346 :: v347 :: v348 :: v349 :: v350 :: v351 :: v352 :: v353 :: v354 :: v355 :: v356 :: v357 :: v358 :: v359 :: v360 :: v361 :: v362 :: v363 :: v364 :: v365 :: v366 :: v367 :: v368 :: v369 :: v370 :: v371 :: v372 :: v373 :: v374 :: v375 :: v376 :: v377 :: v378 :: v379 :: v380 :: v381 :: v382 :: v383 :: v384 :: v385 :: v386 :: v387 :: v388 :: v389 :: v390 :: v391 :: v392 :: v393 :: v394 :: v395 :: v396 :: v397 :: v398 :: v399 :: v400 :: v401 :: v402 :: v403 :: v404 :: v405 :: v406 :: .bool t :: u408 :: u409 :: u410 :: u411 :: u412 :: u413 :: u414 :: u415 :: u416 :: u417 :: u418 :: u419 :: u420 :: u421 :: u422 :: u423 :: u424 :: u425 :: u426 :: u427 :: u428 :: u429 :: u430 :: u431 :: u432 :: u433 :: u434 :: v435 :: v436 :: v437 :: v438 :: v439 :: v440 :: v441 :: v442 :: v443 :: v444 :: v445 :: v446 :: v447 :: v448 :: v449 :: v450 :: v451 :: v452 :: v453 :: v454 :: v455 :: v456 :: v457 :: v458 :: v459 :: []),[]⟩ W') :
    Code.wp Try.prog (condH 407) (Exit.then K Q) ⟨List.toArray (v0 :: v1 :: v2 :: v3 :: v4 :: v5 :: v6 :: v7 :: v8 :: v9 :: v10 :: v11 :: v12 :: v13 :: v14 :: v15 :: v16 :: v17 :: v18 :: v19 :: v20 :: v21 :: v22 :: v23 :: v24 :: v25 :: v26 :: v27 :: v28 :: v29 :: v30 :: v31 :: v32 :: v33 :: v34 :: v35 :: v36 :: v37 :: v38 :: v39 :: v40 :: v41 :: v42 :: .pointer (some ⟨gr,0,none⟩) :: .pointer (some ⟨gk,0,none⟩) :: .pointer (some ⟨ga,0,none⟩) :: v46 :: v47 :: v48 :: v49 :: v50 :: v51 :: v52 :: v53 :: v54 :: v55 :: v56 :: v57 :: v58 :: v59 :: v60 :: v61 :: v62 :: v63 :: v64 :: v65 :: v66 :: v67 :: v68 :: v69 :: v70 :: v71 :: v72 :: v73 :: v74 :: v75 :: v76 :: v77 :: v78 :: v79 :: v80 :: v81 :: v82 :: v83 :: v84 :: v85 :: v86 :: v87 :: v88 :: v89 :: v90 :: v91 :: v92 :: v93 :: v94 :: v95 :: v96 :: v97 :: v98 :: v99 :: v100 :: v101 :: v102 :: v103 :: v104 :: v105 :: v106 :: v107 :: v108 :: v109 :: v110 :: v111 :: v112 :: v113 :: v114 :: v115 :: v116 :: v117 :: v118 :: v119 :: v120 :: v121 :: v122 :: v123 :: v124 :: v125 :: v126 :: v127 :: v128 :: v129 :: v130 :: v131 :: v132 :: v133 :: v134 :: v135 :: v136 :: v137 :: v138 :: v139 :: v140 :: v141 :: v142 :: v143 :: v144 :: v145 :: v146 :: v147 :: v148 :: v149 :: v150 :: v151 :: v152 :: v153 :: v154 :: v155 :: v156 :: v157 :: v158 :: v159 :: v160 :: v161 :: v162 :: v163 :: v164 :: v165 :: v166 :: v167 :: v168 :: v169 :: v170 :: v171 :: v172 :: v173 :: v174 :: v175 :: v176 :: v177 :: v178 :: v179 :: v180 :: v181 :: v182 :: v183 :: v184 :: v185 :: v186 :: v187 :: v188 :: v189 :: v190 :: v191 :: v192 :: v193 :: v194 :: v195 :: v196 :: v197 :: v198 :: v199 :: v200 :: v201 :: v202 :: v203 :: v204 :: v205 :: v206 :: v207 :: v208 :: v209 :: v210 :: v211 :: v212 :: v213 :: v214 :: v215 :: v216 :: v217 :: v218 :: v219 :: v220 :: v221 :: v222 :: v223 :: v224 :: v225 :: v226 :: v227 :: v228 :: v229 :: v230 :: v231 :: v232 :: v233 :: v234 :: v235 :: v236 :: v237 :: v238 :: v239 :: v240 :: v241 :: v242 :: v243 :: v244 :: v245 :: v246 :: v247 :: v248 :: v249 :: v250 :: v251 :: v252 :: v253 :: v254 :: v255 :: v256 :: v257 :: v258 :: v259 :: v260 :: v261 :: v262 :: v263 :: v264 :: v265 :: v266 :: v267 :: v268 :: v269 :: v270 :: v271 :: v272 :: v273 :: v274 :: v275 :: v276 :: v277 :: v278 :: v279 :: v280 :: v281 :: v282 :: v283 :: v284 :: v285 :: v286 :: v287 :: v288 :: v289 :: v290 :: v291 :: v292 :: v293 :: v294 :: v295 :: v296 :: v297 :: v298 :: v299 :: v300 :: v301 :: v302 :: v303 :: v304 :: v305 :: v306 :: v307 :: v308 :: v309 :: v310 :: v311 :: v312 :: v313 :: v314 :: v315 :: v316 :: v317 :: v318 :: v319 :: v320 :: v321 :: v322 :: v323 :: v324 :: v325 :: v326 :: v327 :: v328 :: v329 :: v330 :: v331 :: v332 :: v333 :: v334 :: v335 :: v336 :: v337 :: v338 :: v339 :: v340 :: v341 :: v342 :: v343 :: v344 :: v345 :: v346 :: v347 :: v348 :: v349 :: v350 :: v351 :: v352 :: v353 :: v354 :: v355 :: v356 :: v357 :: v358 :: v359 :: v360 :: v361 :: v362 :: v363 :: v364 :: v365 :: v366 :: v367 :: v368 :: v369 :: v370 :: v371 :: v372 :: v373 :: v374 :: v375 :: v376 :: v377 :: v378 :: v379 :: v380 :: v381 :: v382 :: v383 :: v384 :: v385 :: v386 :: v387 :: v388 :: v389 :: v390 :: v391 :: v392 :: v393 :: v394 :: v395 :: v396 :: v397 :: v398 :: v399 :: v400 :: v401 :: v402 :: v403 :: v404 :: v405 :: v406 :: .bool t :: v408 :: v409 :: v410 :: v411 :: v412 :: v413 :: v414 :: v415 :: v416 :: v417 :: v418 :: v419 :: v420 :: v421 :: v422 :: v423 :: v424 :: v425 :: v426 :: v427 :: v428 :: v429 :: v430 :: v431 :: v432 :: v433 :: v434 :: v435 :: v436 :: v437 :: v438 :: v439 :: v440 :: v441 :: v442 :: v443 :: v444 :: v445 :: v446 :: v447 :: v448 :: v449 :: v450 :: v451 :: v452 :: v453 :: v454 :: v455 :: v456 :: v457 :: v458 :: v459 :: []),[]⟩ W:=by
  have hu30:=Try.underlying30
  have hu44:=Try.underlying44
  have hu28:=Try.underlying28
  have S:=amk hm
  have H1:=amk h1
  have H2:=amk h2
  have H3:=amk h3
  have R1:=amk r1;have I1:=amk i1
  have R2:=amk r2;have I2:=amk i2
  clear hm h1 h2 h3 r1 r2 i1 i2
  conv=>arg 2;whnf
  cases t with
  | false=>go_wp2;exact S.out
  | true =>
    obtain ⟨e1,e2,e3,e4⟩:=ht rfl
    have E1:=amk e1;have E2:=amk e2;have E3:=amk e3;have E4:=amk e4;clear e1 e2 e3 e4 ht
    obtain ⟨q0,q1,q2⟩:=bx3 S.out H1.out;obtain ⟨s0,s1,s2⟩:=bx3 S.out H3.out
    go_upto_region 45 with (go_at_call 27;refine Calls.mono (impl_DropClue.calls a b _ _ L1 L.length P D L true _ (Mm_r S.out R2.out) I2.out E1.out) ?_;rintro e wx ⟨v7,rfl,hs,hb⟩;obtain ⟨A7,c7,rfl⟩:=Kd.R_slice hs;have C7:=amk (Kd.R_reads' hs).2.1;have nS:=amk (Mm_row (Mm_box (Mm_below S.out hb) (pzB P D A7 L.length c7)) (Kd.C_alloc (Kd.R_reads' hs).2.2 (pzB P D A7 L.length c7)));clear S;have S:=nS;clear nS hs hb;clear q0 q1 q2 s0 s1 s2;skip)
    generalize wx.heap.size=gb at S ⊢
    have nS:=amk (Mm_below S.out (bd_ (Below.refl _ _)));clear S;have S:=nS;clear nS
    have p1:0≤(L.length:Int):=Int.natCast_nonneg _;have p2:(L.length:Int) < (L1.length:Int):=Int.ofNat_lt.mpr E3.out;replace p1:=eq_true p1;replace p2:=eq_true p2
    obtain ⟨ad,ea,x0,x1,x2⟩:=at_T44 (Mm_r S.out (.tail _ R2.out)) (L.length:Int) (by omega) (by have:=E3.out;omega)
    subst ea;rw [E4.out,Int.toNat_natCast] at x0 x1 x2
    have HCc:Aside0 (∀ W',Mm w ((gb,pzB P D A7 L.length c7) :: bs) ((A7,L) :: rs) W'→(W'.cell? ⟨gb,0,none⟩=some (.int .i64 P)∧W'.cell? ⟨gb,1,none⟩=some (.int .i64 D)∧W'.cell? ⟨gb,2,none⟩=some (.slice A7 L.length c7)∧W'.cell? ⟨gr,0,none⟩=some (.int .i64 P)∧W'.cell? ⟨gr,1,none⟩=some (.int .i64 D)∧W'.cell? ⟨gr,2,none⟩=some (.slice A L.length c)∧W'.cell? ⟨gk,0,none⟩=some (.int .i64 x)∧W'.cell? ⟨gk,1,none⟩=some (.int .i64 y)∧W'.cell? ⟨gk,2,none⟩=some (.int .i64 z)∧W'.cell? ⟨ga,0,none⟩=some (.int .i64 a)∧W'.cell? ⟨ga,1,none⟩=some (.int .i64 b)∧W'.cell? ⟨ga,2,none⟩=some (.slice (some ad) L1.length c1)∧W'.cell? (ad.add (L.length * 3))=some (.int .i64 x)∧W'.cell? ⟨(ad.add (L.length * 3)).block,(ad.add (L.length * 3)).off + 1,none⟩=some (.int .i64 y)∧W'.cell? ⟨(ad.add (L.length * 3)).block,(ad.add (L.length * 3)).off + 2,none⟩=some (.int .i64 z))):=by
      refine ⟨fun W' h=>?_⟩;have k1:=bx3 h (.head _);have k2:=bx3 h (.tail _ H1.out);have k3:=bx3 h (.tail _ H2.out);have k4:=bx3 h (.tail _ H3.out)
      obtain ⟨ad',ea',y0,y1,y2⟩:=at_T44 (Mm_r h (.tail _ R2.out)) (L.length:Int) (by omega) (by have:=E3.out;omega)
      cases ea';rw [E4.out,Int.toNat_natCast] at y0 y1 y2
      exact ⟨k1.1,k1.2.1,k1.2.2,k2.1,k2.2.1,k2.2.2,k3.1,k3.2.1,k3.2.2,k4.1,k4.2.1,k4.2.2,y0,y1,y2⟩
    clear x0 x1 x2
    refine start_ (n:=19) (S:=fun w'=>w'.cell? ⟨gb,0,none⟩=some (.int .i64 P)∧w'.cell? ⟨gb,1,none⟩=some (.int .i64 D)∧w'.cell? ⟨gb,2,none⟩=some (.slice A7 L.length c7)∧w'.cell? ⟨gr,0,none⟩=some (.int .i64 P)∧w'.cell? ⟨gr,1,none⟩=some (.int .i64 D)∧w'.cell? ⟨gr,2,none⟩=some (.slice A L.length c)∧w'.cell? ⟨gk,0,none⟩=some (.int .i64 x)∧w'.cell? ⟨gk,1,none⟩=some (.int .i64 y)∧w'.cell? ⟨gk,2,none⟩=some (.int .i64 z)∧w'.cell? ⟨ga,0,none⟩=some (.int .i64 a)∧w'.cell? ⟨ga,1,none⟩=some (.int .i64 b)∧w'.cell? ⟨ga,2,none⟩=some (.slice (some ad) L1.length c1)∧w'.cell? (ad.add (L.length * 3))=some (.int .i64 x)∧w'.cell? ⟨(ad.add (L.length * 3)).block,(ad.add (L.length * 3)).off + 1,none⟩=some (.int .i64 y)∧w'.cell? ⟨(ad.add (L.length * 3)).block,(ad.add (L.length * 3)).off + 2,none⟩=some (.int .i64 z)) (ds:=[]) (bA 19 0) (by kernel_rfl) rfl (by kernel_rfl) (HCc.out _ S.out) (fun hHeld=>?_);refine with_tabW laws_FnCodesHidden.tab45 laws_FnCodesHidden.bits45 (fun HT_ HW_=>?_)
    generalize World.drew _=W at S hHeld ⊢
    refine pU_ HT_ 0 (some 416) (bA 19 1) ?_ (hQ:=by intro c a w2 h;exact hQ c _ a.tmps a.defers w2 h)
    refine pU_ HT_ 1 (some 417) (bA 19 3) ?_ (hQ:=by intro c a w2 h;exact hQ c _ a.tmps a.defers w2 h)
    refine pU_ HT_ 2 (some 418) (bA 19 7) ?_ (hQ:=by intro c a w2 h;exact hQ c _ a.tmps a.defers w2 h)
    refine tK_ HT_ HW_ hHeld 3 (some 419) (bA 19 15) ?_ (hQ:=by intro c a w2 h;exact hQ c _ a.tmps a.defers w2 h)
    refine tK_ HT_ HW_ hHeld 4 (some 420) (bA 19 31) ?_ (hQ:=by intro c a w2 h;exact hQ c _ a.tmps a.defers w2 h)
    refine oN_ HT_ 5 (some 421) (bA 19 63) (fun K hK=>?_);refine gs_ Try.func8 #[.agg #[.int .i64 P, .int .i64 D, .slice A7 L.length c7], .agg #[.int .i64 P, .int .i64 D, .slice A L.length c]] ?_;refine Calls.mono (laws_ePuzzle.calls k P D _ _ L P D _ _ L true _ (Mm_r S.out (.head _)) C7.out (Mm_r S.out (.tail _ R1.out)) I1.out E2.out) ?_;rintro e wx ⟨rfl,hb⟩;refine ⟨_,rfl,?_⟩;have nS:=amk (Mm_below S.out hb);clear S;have S:=nS;clear nS hb;
    refine hK.out _ _ (HCc.out _ S.out) (fun hHeld=>?_);clear hK K;refine nN_ (some 421) ?_
    refine pU_ HT_ 6 (some 422) (bA 19 127) ?_ (hQ:=by intro c a w2 h;exact hQ c _ a.tmps a.defers w2 h)
    refine pU_ HT_ 7 (some 423) (bA 19 255) ?_ (hQ:=by intro c a w2 h;exact hQ c _ a.tmps a.defers w2 h)
    refine pU_ HT_ 8 (some 424) (bA 19 511) ?_ (hQ:=by intro c a w2 h;exact hQ c _ a.tmps a.defers w2 h)
    refine pU_ HT_ 9 (some 425) (bA 19 1023) ?_ (hQ:=by intro c a w2 h;exact hQ c _ a.tmps a.defers w2 h)
    refine tK_ HT_ HW_ hHeld 10 (some 426) (bA 19 2047) ?_ (hQ:=by intro c a w2 h;exact hQ c _ a.tmps a.defers w2 h)
    refine pU_ HT_ 11 (some 427) (bA 19 4095) ?_ (hQ:=by intro c a w2 h;exact hQ c _ a.tmps a.defers w2 h)
    refine tK_ HT_ HW_ hHeld 12 (some 428) (bA 19 8191) ?_ (hQ:=by intro c a w2 h;exact hQ c _ a.tmps a.defers w2 h)
    refine pU_ HT_ 13 (some 429) (bA 19 16383) ?_ (hQ:=by intro c a w2 h;exact hQ c _ a.tmps a.defers w2 h)
    refine pU_ HT_ 14 (some 430) (bA 19 32767) ?_ (hQ:=by intro c a w2 h;exact hQ c _ a.tmps a.defers w2 h)
    refine tK_ HT_ HW_ hHeld 15 (some 431) (bA 19 65535) ?_ (hQ:=by intro c a w2 h;exact hQ c _ a.tmps a.defers w2 h)
    refine tK_ HT_ HW_ hHeld 16 (some 432) (bA 19 131071) ?_ (hQ:=by intro c a w2 h;exact hQ c _ a.tmps a.defers w2 h)
    refine pU_ HT_ 17 (some 433) (bA 19 262143) ?_ (hQ:=by intro c a w2 h;exact hQ c _ a.tmps a.defers w2 h)
    refine pU_ HT_ 18 (some 434) (bA 19 524287) ?_ (hQ:=by intro c a w2 h;exact hQ c _ a.tmps a.defers w2 h)
    refine done_ (done_of HT_.out (by kernel_rfl)) ?_;clear hHeld
    go_wp2;exact ⟨S.out.1,fun b m=>S.out.2.1 b (.tail _ m),fun r m=>S.out.2.2 r (.tail _ m)⟩
/-! laws.FnCodesHidden, a part of its walk: printed by genkh.py. -/
def laws_FnCodesHidden.T48:Bool×List (List Nat×List Nat):=(true,[([],[]),([],[]),([1],[1]),([],[]),([2,3],[2,3]),([4],[4]),([0,5],[0,5]),([6],[6]),([7],[7]),([7],[7]),([],[]),([10,8,6,0,1,2,3,4,5,6,7,8,10],[8,10]),([9,11,0,1,2,3,4,5,6,7,8,9,10,11],[9])])
def laws_FnCodesHidden.B48:List Nat:=[0,0,2,0,14,30,63,127,255,255,0,1535,4095]
theorem laws_FnCodesHidden.tab48:rtab .any (opsOf Try.f3 48)=laws_FnCodesHidden.T48:=by kernel_rfl
theorem laws_FnCodesHidden.bits48:waitsOk laws_FnCodesHidden.T48.2 laws_FnCodesHidden.B48=true:=by kernel_rfl
set_option maxHeartbeats 16000000 in
set_option maxRecDepth 100000 in
theorem KHE {w:World} {v0 v1 v2 v3 v4 v5 v6 v7 v8 v9 v10 v11 v12 v13 v14 v15 v16 v17 v18 v19 v20 v21 v22 v23 v24 v25 v26 v27 v28 v29 v30 v31 v32 v33 v34 v35 v36 v37 v38 v39 v40 v41 v42 v43 v44 v45 v46 v47 v48 v52 v53 v54 v55 v56 v57 v58 v59 v60 v61 v62 v63 v64 v65 v66 v67 v68 v69 v70 v71 v72 v73 v74 v75 v76 v77 v78 v79 v80 v81 v82 v83 v84 v85 v86 v87 v88 v89 v90 v91 v92 v93 v94 v95 v96 v97 v98 v99 v100 v101 v102 v103 v104 v105 v106 v107 v108 v109 v110 v111 v112 v113 v114 v115 v116 v117 v118 v119 v120 v121 v122 v123 v124 v125 v126 v127 v128 v129 v130 v131 v132 v133 v134 v135 v136 v137 v138 v139 v140 v141 v142 v143 v144 v145 v146 v147 v148 v149 v150 v151 v152 v153 v154 v155 v156 v157 v158 v159 v160 v161 v162 v163 v164 v165 v166 v167 v168 v169 v170 v171 v172 v173 v174 v175 v176 v177 v178 v179 v180 v181 v182 v183 v184 v185 v186 v187 v188 v189 v190 v191 v192 v193 v194 v195 v196 v197 v198 v199 v200 v201 v202 v203 v204 v205 v206 v207 v208 v209 v210 v211 v212 v213 v214 v215 v216 v217 v218 v219 v220 v221 v222 v223 v224 v225 v226 v227 v228 v229 v230 v231 v232 v233 v234 v235 v236 v237 v238 v239 v240 v241 v242 v243 v244 v245 v246 v247 v248 v249 v250 v251 v252 v253 v254 v255 v256 v257 v258 v259 v260 v261 v262 v263 v264 v265 v266 v267 v268 v269 v270 v271 v272 v273 v274 v275 v276 v277 v278 v279 v280 v281 v282 v283 v284 v285 v286 v287 v288 v289 v290 v291 v292 v293 v294 v295 v296 v297 v298 v299 v300 v301 v302 v303 v304 v305 v306 v307 v308 v309 v310 v311 v312 v313 v314 v315 v316 v317 v318 v319 v320 v321 v322 v323 v324 v325 v326 v327 v328 v329 v330 v331 v332 v333 v334 v335 v336 v337 v338 v339 v340 v341 v342 v343 v344 v345 v346 v347 v348 v349 v350 v351 v352 v353 v354 v355 v356 v357 v358 v359 v360 v361 v362 v363 v364 v365 v366 v367 v368 v369 v370 v371 v372 v373 v374 v375 v376 v377 v378 v379 v380 v381 v382 v383 v384 v385 v386 v387 v388 v389 v390 v391 v392 v393 v394 v395 v396 v397 v398 v399 v400 v401 v402 v403 v404 v405 v406 v407 v408 v409 v410 v411 v412 v413 v414 v415 v416 v417 v418 v419 v420 v421 v422 v423 v424 v425 v426 v427 v428 v429 v430 v431 v432 v433 v434 v435 v436 v437 v438 v439 v440 v441 v442 v444 v445 v446 v447 v448 v449 v450 v451 v452 v453 v454 v455 v456 v457 v458 v459:Value} (K:Act→World→Prop) (Q:Exit→Act→World→Prop) (hQ : ∀ c t t' d w',Q (.panic c) ⟨t,d⟩ w'→Q (.panic c) ⟨t',d⟩ w')
    (k:Nat) (P D a b i x y z:Int) (L L2:List S44) (A A2:Option Addr) (c c2:Nat) (gs gd:Nat) (bs:List (Nat×Obj)) (rs:List (Option Addr×List S44)) (t:Bool) (W:World)
    (hm:Mm w bs rs W) (h1:(gs,pzB P D A L.length c)∈bs) (h2:(gd,pzB a b A2 L2.length c2)∈bs) (r1:(A,L)∈rs) (r2:(A2,L2)∈rs) (i1:L.length≤c) (i2:L2.length≤c2)
    (ht:t=true→0≤i∧i < L.length∧rd_T44 L i=⟨x,y,z⟩∧impl_AddClue.f a b L2 x y z=some (P,D,L,true)∧laws_ePuzzle.f k P D L P D L=some true)
    (hret : ∀ {u66 u67 u444 u445 u446 u447 u448 u449 u450 u451 u452 u453 u454 u455 u456 u457 u458 u459:Value} (W':World),Mm w bs rs W'→Q .ret ⟨List.toArray (v0 :: v1 :: v2 :: v3 :: .bool true :: v5 :: v6 :: v7 :: v8 :: v9 :: v10 :: v11 :: v12 :: v13 :: v14 :: v15 :: v16 :: v17 :: v18 :: v19 :: v20 :: v21 :: v22 :: v23 :: v24 :: v25 :: v26 :: v27 :: v28 :: v29 :: v30 :: v31 :: v32 :: v33 :: v34 :: v35 :: v36 :: v37 :: v38 :: v39 :: v40 :: v41 :: v42 :: v43 :: v44 :: v45 :: v46 :: v47 :: v48 :: .pointer (some ⟨gs,0,none⟩) :: .int .i64 i :: .pointer (some ⟨gd,0,none⟩) :: v52 :: v53 :: v54 :: v55 :: v56 :: v57 :: v58 :: v59 :: v60 :: v61 :: v62 :: v63 :: v64 :: v65 :: u66 :: u67 :: v68 :: v69 :: v70 :: v71 :: v72 :: v73 :: v74 :: v75 :: v76 :: v77 :: v78 :: v79 :: v80 :: v81 :: v82 :: v83 :: v84 :: v85 :: v86 :: v87 :: v88 :: v89 :: v90 :: v91 :: v92 :: v93 :: v94 :: v95 :: v96 :: v97 :: v98 :: v99 :: v100 :: v101 :: v102 :: v103 :: v104 :: v105 :: v106 :: v107 :: v108 :: v109 :: v110 :: v111 :: v112 :: v113 :: v114 :: v115 :: v116 :: v117 :: v118 :: v119 :: v120 :: v121 :: v122 :: v123 :: v124 :: v125 :: v126 :: v127 :: v128 :: v129 :: v130 :: v131 :: v132 :: v133 :: v134 :: v135 :: v136 :: v137 :: v138 :: v139 :: v140 :: v141 :: v142 :: v143 :: v144 :: v145 :: v146 :: v147 :: v148 :: v149 :: v150 :: v151 :: v152 :: v153 :: v154 :: v155 :: v156 :: v157 :: v158 :: v159 :: v160 :: v161 :: v162 :: v163 :: v164 :: v165 :: v166 :: v167 :: v168 :: v169 :: v170 :: v171 :: v172 :: v173 :: v174 :: v175 :: v176 :: v177 :: v178 :: v179 :: v180 :: v181 :: v182 :: v183 :: v184 :: v185 :: v186 :: v187 :: v188 :: v189 :: v190 :: v191 :: v192 :: v193 :: v194 :: v195 :: v196 :: v197 :: v198 :: v199 :: v200 :: v201 :: v202 :: v203 :: v204 :: v205 :: v206 :: v207 :: v208 :: v209 :: v210 :: v211 :: v212 :: v213 :: v214 :: v215 :: v216 :: v217 :: v218 :: v219 :: v220 :: v221 :: v222 :: v223 :: v224 :: v225 :: v226 :: v227 :: v228 :: v229 :: v230 :: v231 :: v232 :: v233 :: v234 :: v235 :: v236 :: v237 :: v238 :: v239 :: v240 :: v241 :: v242 :: v243 :: v244 :: v245 :: v246 :: v247 :: v248 :: v249 :: v250 :: v251 :: v252 :: v253 :: v254 :: v255 :: v256 :: v257 :: v258 :: v259 :: v260 :: v261 :: v262 :: v263 :: v264 :: v265 :: v266 :: v267 :: v268 :: v269 :: v270 :: v271 :: v272 :: v273 :: v274 :: v275 :: v276 :: v277 :: v278 :: v279 :: v280 :: v281 :: v282 :: v283 :: v284 :: v285 :: v286 :: v287 :: v288 :: v289 :: v290 :: v291 :: v292 :: v293 :: v294 :: v295 :: v296 :: v297 :: v298 :: v299 :: v300 :: v301 :: v302 :: v303 :: v304 :: v305 :: v306 :: v307 :: v308 :: v309 :: v310 :: v311 :: v312 :: v313 :: v314 :: v315 :: v316 :: v317 :: v318 :: v319 :: v320 :: v321 :: v322 :: v323 :: v324 :: v325 :: v326 :: v327 :: v328 :: v329 :: v330 :: v331 :: v332 :: v333 :: v334 :: v335 :: v336 :: v337 :: v338 :: v339 :: v340 :: v341 :: v342 :: v343 :: v344 :: v345 :: v346 :: v347 :: v348 :: v349 :: v350 :: v351 :: v352 :: v353 :: v354 :: v355 :: v356 :: v357 :: v358 :: v359 :: v360 :: v361 :: v362 :: v363 :: v364 :: v365 :: v366 :: v367 :: v368 :: v369 :: v370 :: v371 :: v372 :: v373 :: v374 :: v375 :: v376 :: v377 :: v378 :: v379 :: v380 :: v381 :: v382 :: v383 :: v384 :: v385 :: v386 :: v387 :: v388 :: v389 :: v390 :: v391 :: v392 :: v393 :: v394 :: v395 :: v396 :: v397 :: v398 :: v399 :: v400 :: v401 :: v402 :: v403 :: v404 :: v405 :: v406 :: v407 :: v408 :: v409 :: v410 :: v411 :: v412 :: v413 :: v414 :: v415 :: v416 :: v417 :: v418 :: v419 :: v420 :: v421 :: v422 :: v423 :: v424 :: v425 :: v426 :: v427 :: v428 :: v429 :: v430 :: v431 :: v432 :: v433 :: v434 :: v435 :: v436 :: v437 :: v438 :: v439 :: v440 :: v441 :: v442 :: .bool t :: u444 :: u445 :: u446 :: u447 :: u448 :: u449 :: u450 :: u451 :: u452 :: u453 :: u454 :: u455 :: u456 :: u457 :: u458 :: u459 :: []),[]⟩ W')
    (hrest : ∀ (W':World),Mm w bs rs W'→K ⟨List.toArray (v0 :: v1 :: v2 :: v3 :: v4 :: v5 :: v6 :: v7 :: v8 :: v9 :: v10 :: v11 :: v12 :: v13 :: v14 :: v15 :: v16 :: v17 :: v18 :: v19 :: v20 :: v21 :: v22 :: v23 :: v24 :: v25 :: v26 :: v27 :: v28 :: v29 :: v30 :: v31 :: v32 :: v33 :: v34 :: v35 :: v36 :: v37 :: v38 :: v39 :: v40 :: v41 :: v42 :: v43 :: v44 :: v45 :: v46 :: v47 :: v48 :: .pointer (some ⟨gs,0,none⟩) :: .int .i64 i :: .pointer (some ⟨gd,0,none⟩) :: v52 :: v53 :: v54 :: v55 :: v56 :: v57 :: v58 :: v59 :: v60 :: v61 :: v62 :: v63 :: v64 :: v65 :: v66 :: v67 :: v68 :: v69 :: v70 :: v71 :: v72 :: v73 :: v74 :: v75 :: v76 :: v77 :: v78 :: v79 :: v80 :: v81 :: v82 :: v83 :: v84 :: v85 :: v86 :: v87 :: v88 :: v89 :: v90 :: v91 :: v92 :: v93 :: v94 :: v95 :: v96 :: v97 :: v98 :: v99 :: v100 :: v101 :: v102 :: v103 :: v104 :: v105 :: v106 :: v107 :: v108 :: v109 :: v110 :: v111 :: v112 :: v113 :: v114 :: v115 :: v116 :: v117 :: v118 :: v119 :: v120 :: v121 :: v122 :: v123 :: v124 :: v125 :: v126 :: v127 :: v128 :: v129 :: v130 :: v131 :: v132 :: v133 :: v134 :: v135 :: v136 :: v137 :: v138 :: v139 :: v140 :: v141 :: v142 :: v143 :: v144 :: v145 :: v146 :: v147 :: v148 :: v149 :: v150 :: v151 :: v152 :: v153 :: v154 :: v155 :: v156 :: v157 :: v158 :: v159 :: v160 :: v161 :: v162 :: v163 :: v164 :: v165 :: v166 :: v167 :: v168 :: v169 :: v170 :: v171 :: v172 :: v173 :: v174 :: v175 :: v176 :: v177 :: v178 :: v179 :: v180 :: v181 :: v182 :: v183 :: v184 :: v185 :: v186 :: v187 :: v188 :: v189 :: v190 :: v191 :: v192 :: v193 :: v194 :: v195 :: v196 :: v197 :: v198 :: v199 :: v200 :: v201 :: v202 :: v203 :: v204 :: v205 :: v206 :: v207 :: v208 :: v209 :: v210 :: v211 :: v212 :: v213 :: v214 :: v215 :: v216 :: v217 :: v218 :: v219 :: v220 :: v221 :: v222 :: v223 :: v224 :: v225 :: v226 :: v227 :: v228 :: v229 :: v230 :: v231 :: v232 :: v233 :: v234 :: v235 :: v236 :: v237 :: v238 :: v239 :: v240 :: v241 :: v242 :: v243 :: v244 :: v245 :: v246 :: v247 :: v248 :: v249 :: v250 :: v251 :: v252 :: v253 :: v254 :: v255 :: v256 :: v257 :: v258 :: v259 :: v260 :: v261 :: v262 :: v263 :: v264 :: v265 :: v266 :: v267 :: v268 :: v269 :: v270 :: v271 :: v272 :: v273 :: v274 :: v275 :: v276 :: v277 :: v278 :: v279 :: v280 :: v281 :: v282 :: v283 :: v284 :: v285 :: v286 :: v287 :: v288 :: v289 :: v290 :: v291 :: v292 :: v293 :: v294 :: v295 :: v296 :: v297 :: v298 :: v299 :: v300 :: v301 :: v302 :: v303 :: v304 :: v305 :: v306 :: v307 :: v308 :: v309 :: v310 :: v311 :: v312 :: v313 :: v314 :: v315 :: v316 :: v317 :: v318 :: v319 :: v320 :: v321 :: v322 :: v323 :: v324 :: v325 :: v326 :: v327 :: v328 :: v329 :: v330 :: v331 :: v332 :: v333 :: v334 :: v335 :: v336 :: v337 :: v338 :: v339 :: v340 :: v341 :: v342 :: v343 :: v344 :: v345 :: v346 :: v347 :: v348 :: v349 :: v350 :: v351 :: v352 :: v353 :: v354 :: v355 :: v356 :: v357 :: v358 :: v359 :: v360 :: v361 :: v362 :: v363 :: v364 :: v365 :: v366 :: v367 :: v368 :: v369 :: v370 :: v371 :: v372 :: v373 :: v374 :: v375 :: v376 :: v377 :: v378 :: v379 :: v380 :: v381 :: v382 :: v383 :: v384 :: v385 :: v386 :: v387 :: v388 :: v389 :: v390 :: v391 :: v392 :: v393 :: v394 :: v395 :: v396 :: v397 :: v398 :: v399 :: v400 :: v401 :: v402 :: v403 :: v404 :: v405 :: v406 :: v407 :: v408 :: v409 :: v410 :: v411 :: v412 :: v413 :: v414 :: v415 :: v416 :: v417 :: v418 :: v419 :: v420 :: v421 :: v422 :: v423 :: v424 :: v425 :: v426 :: v427 :: v428 :: v429 :: v430 :: v431 :: v432 :: v433 :: v434 :: v435 :: v436 :: v437 :: v438 :: v439 :: v440 :: v441 :: v442 :: .bool t :: v444 :: v445 :: v446 :: v447 :: v448 :: v449 :: v450 :: v451 :: v452 :: v453 :: v454 :: v455 :: v456 :: v457 :: v458 :: v459 :: []),[]⟩ W') :
    Code.wp Try.prog (condH 443) (Exit.then K Q) ⟨List.toArray (v0 :: v1 :: v2 :: v3 :: v4 :: v5 :: v6 :: v7 :: v8 :: v9 :: v10 :: v11 :: v12 :: v13 :: v14 :: v15 :: v16 :: v17 :: v18 :: v19 :: v20 :: v21 :: v22 :: v23 :: v24 :: v25 :: v26 :: v27 :: v28 :: v29 :: v30 :: v31 :: v32 :: v33 :: v34 :: v35 :: v36 :: v37 :: v38 :: v39 :: v40 :: v41 :: v42 :: v43 :: v44 :: v45 :: v46 :: v47 :: v48 :: .pointer (some ⟨gs,0,none⟩) :: .int .i64 i :: .pointer (some ⟨gd,0,none⟩) :: v52 :: v53 :: v54 :: v55 :: v56 :: v57 :: v58 :: v59 :: v60 :: v61 :: v62 :: v63 :: v64 :: v65 :: v66 :: v67 :: v68 :: v69 :: v70 :: v71 :: v72 :: v73 :: v74 :: v75 :: v76 :: v77 :: v78 :: v79 :: v80 :: v81 :: v82 :: v83 :: v84 :: v85 :: v86 :: v87 :: v88 :: v89 :: v90 :: v91 :: v92 :: v93 :: v94 :: v95 :: v96 :: v97 :: v98 :: v99 :: v100 :: v101 :: v102 :: v103 :: v104 :: v105 :: v106 :: v107 :: v108 :: v109 :: v110 :: v111 :: v112 :: v113 :: v114 :: v115 :: v116 :: v117 :: v118 :: v119 :: v120 :: v121 :: v122 :: v123 :: v124 :: v125 :: v126 :: v127 :: v128 :: v129 :: v130 :: v131 :: v132 :: v133 :: v134 :: v135 :: v136 :: v137 :: v138 :: v139 :: v140 :: v141 :: v142 :: v143 :: v144 :: v145 :: v146 :: v147 :: v148 :: v149 :: v150 :: v151 :: v152 :: v153 :: v154 :: v155 :: v156 :: v157 :: v158 :: v159 :: v160 :: v161 :: v162 :: v163 :: v164 :: v165 :: v166 :: v167 :: v168 :: v169 :: v170 :: v171 :: v172 :: v173 :: v174 :: v175 :: v176 :: v177 :: v178 :: v179 :: v180 :: v181 :: v182 :: v183 :: v184 :: v185 :: v186 :: v187 :: v188 :: v189 :: v190 :: v191 :: v192 :: v193 :: v194 :: v195 :: v196 :: v197 :: v198 :: v199 :: v200 :: v201 :: v202 :: v203 :: v204 :: v205 :: v206 :: v207 :: v208 :: v209 :: v210 :: v211 :: v212 :: v213 :: v214 :: v215 :: v216 :: v217 :: v218 :: v219 :: v220 :: v221 :: v222 :: v223 :: v224 :: v225 :: v226 :: v227 :: v228 :: v229 :: v230 :: v231 :: v232 :: v233 :: v234 :: v235 :: v236 :: v237 :: v238 :: v239 :: v240 :: v241 :: v242 :: v243 :: v244 :: v245 :: v246 :: v247 :: v248 :: v249 :: v250 :: v251 :: v252 :: v253 :: v254 :: v255 :: v256 :: v257 :: v258 :: v259 :: v260 :: v261 :: v262 :: v263 :: v264 :: v265 :: v266 :: v267 :: v268 :: v269 :: v270 :: v271 :: v272 :: v273 :: v274 :: v275 :: v276 :: v277 :: v278 :: v279 :: v280 :: v281 :: v282 :: v283 :: v284 :: v285 :: v286 :: v287 :: v288 :: v289 :: v290 :: v291 :: v292 :: v293 :: v294 :: v295 :: v296 :: v297 :: v298 :: v299 :: v300 :: v301 :: v302 :: v303 :: v304 :: v305 :: v306 :: v307 :: v308 :: v309 :: v310 :: v311 :: v312 :: v313 :: v314 :: v315 :: v316 :: v317 :: v318 :: v319 :: v320 :: v321 :: v322 :: v323 :: v324 :: v325 :: v326 :: v327 :: v328 :: v329 :: v330 :: v331 :: v332 :: v333 :: v334 :: v335 :: v336 :: v337 :: v338 :: v339 :: v340 :: v341 :: v342 :: v343 :: v344 :: v345 :: v346 :: v347 :: v348 :: v349 :: v350 :: v351 :: v352 :: v353 :: v354 :: v355 :: v356 :: v357 :: v358 :: v359 :: v360 :: v361 :: v362 :: v363 :: v364 :: v365 :: v366 :: v367 :: v368 :: v369 :: v370 :: v371 :: v372 :: v373 :: v374 :: v375 :: v376 :: v377 :: v378 :: v379 :: v380 :: v381 :: v382 :: v383 :: v384 :: v385 :: v386 :: v387 :: v388 :: v389 :: v390 :: v391 :: v392 :: v393 :: v394 :: v395 :: v396 :: v397 :: v398 :: v399 :: v400 :: v401 :: v402 :: v403 :: v404 :: v405 :: v406 :: v407 :: v408 :: v409 :: v410 :: v411 :: v412 :: v413 :: v414 :: v415 :: v416 :: v417 :: v418 :: v419 :: v420 :: v421 :: v422 :: v423 :: v424 :: v425 :: v426 :: v427 :: v428 :: v429 :: v430 :: v431 :: v432 :: v433 :: v434 :: v435 :: v436 :: v437 :: v438 :: v439 :: v440 :: v441 :: v442 :: .bool t :: v444 :: v445 :: v446 :: v447 :: v448 :: v449 :: v450 :: v451 :: v452 :: v453 :: v454 :: v455 :: v456 :: v457 :: v458 :: v459 :: []),[]⟩ W:=by
  have hu30:=Try.underlying30
  have hu44:=Try.underlying44
  have hu28:=Try.underlying28
  have S:=amk hm
  have H1:=amk h1;have R1:=amk r1;have I1:=amk i1
  have H2:=amk h2;have R2:=amk r2;have I2:=amk i2
  clear hm h1 h2 r1 r2 i1 i2
  conv=>arg 2;whnf
  cases t with
  | false=>go_wp2;exact S.out
  | true =>
    obtain ⟨e1,e2,e3,e4,e5⟩:=ht rfl
    have E1:=amk e1;have E2:=amk e2;have E3:=amk e3;have E4:=amk e4;have E5:=amk e5;clear e1 e2 e3 e4 e5 ht
    go_upto_region 48 with (fail)
    have nS:=amk (Mm_below S.out (bd_ (Below.refl _ _)));clear S;have S:=nS;clear nS
    have p1:0≤i:=E1.out;have p2:i < (L.length:Int):=E2.out;replace p1:=eq_true p1;replace p2:=eq_true p2
    obtain ⟨ad,ea,x0,x1,x2⟩:=at_T44 (Mm_r S.out R1.out) i E1.out E2.out;subst ea;clear x0 x1 x2
    have HCc:Aside0 (∀ W',Mm w bs rs W'→(W'.cell? ⟨gs,0,none⟩=some (.int .i64 P)∧W'.cell? ⟨gs,1,none⟩=some (.int .i64 D)∧W'.cell? ⟨gs,2,none⟩=some (.slice (some ad) L.length c)∧W'.cell? ⟨gd,0,none⟩=some (.int .i64 a)∧W'.cell? ⟨gd,1,none⟩=some (.int .i64 b)∧W'.cell? ⟨gd,2,none⟩=some (.slice A2 L2.length c2)∧W'.cell? (ad.add (i.toNat * 3))=some (.int .i64 x)∧W'.cell? ⟨(ad.add (i.toNat * 3)).block,(ad.add (i.toNat * 3)).off + 1,none⟩=some (.int .i64 y)∧W'.cell? ⟨(ad.add (i.toNat * 3)).block,(ad.add (i.toNat * 3)).off + 2,none⟩=some (.int .i64 z))):=by
      refine ⟨fun W' h=>?_⟩;have k1:=bx3 h H1.out;have k2:=bx3 h H2.out
      obtain ⟨ad',ea',y0,y1,y2⟩:=at_T44 (Mm_r h R1.out) i E1.out E2.out
      cases ea';rw [E3.out] at y0 y1 y2
      exact ⟨k1.1,k1.2.1,k1.2.2,k2.1,k2.2.1,k2.2.2,y0,y1,y2⟩
    refine start_ (n:=13) (S:=fun w'=>w'.cell? ⟨gs,0,none⟩=some (.int .i64 P)∧w'.cell? ⟨gs,1,none⟩=some (.int .i64 D)∧w'.cell? ⟨gs,2,none⟩=some (.slice (some ad) L.length c)∧w'.cell? ⟨gd,0,none⟩=some (.int .i64 a)∧w'.cell? ⟨gd,1,none⟩=some (.int .i64 b)∧w'.cell? ⟨gd,2,none⟩=some (.slice A2 L2.length c2)∧w'.cell? (ad.add (i.toNat * 3))=some (.int .i64 x)∧w'.cell? ⟨(ad.add (i.toNat * 3)).block,(ad.add (i.toNat * 3)).off + 1,none⟩=some (.int .i64 y)∧w'.cell? ⟨(ad.add (i.toNat * 3)).block,(ad.add (i.toNat * 3)).off + 2,none⟩=some (.int .i64 z)) (ds:=[]) (bA 13 0) (by kernel_rfl) rfl (by kernel_rfl) (HCc.out _ S.out) (fun hHeld=>?_);refine with_tabW laws_FnCodesHidden.tab48 laws_FnCodesHidden.bits48 (fun HT_ HW_=>?_)
    generalize World.drew _=W at S hHeld ⊢
    refine tK_ HT_ HW_ hHeld 0 (some 445) (bA 13 1) ?_ (hQ:=by intro c a w2 h;exact hQ c _ a.tmps a.defers w2 h)
    refine pU_ HT_ 1 (some 446) (bA 13 3) ?_ (hQ:=by intro c a w2 h;exact hQ c _ a.tmps a.defers w2 h)
    refine tK_ HT_ HW_ hHeld 2 (some 447) (bA 13 7) ?_ (hQ:=by intro c a w2 h;exact hQ c _ a.tmps a.defers w2 h)
    refine pU_ HT_ 3 (some 448) (bA 13 15) ?_ (hQ:=by intro c a w2 h;exact hQ c _ a.tmps a.defers w2 h)
    refine pU_ HT_ 4 (some 449) (bA 13 31) ?_ (hQ:=by intro c a w2 h;exact hQ c _ a.tmps a.defers w2 h)
    refine tK_ HT_ HW_ hHeld 5 (some 450) (bA 13 63) ?_ (hQ:=by intro c a w2 h;exact hQ c _ a.tmps a.defers w2 h)
    refine join_ (σ:=Option Addr×Nat×Nat) 2 (bA 13 2047) (fun s_=> [(451, .tuple #[.agg #[.int .i64 P, .int .i64 D, .slice s_.1 L.length s_.2.1], .bool true]),(444, .tuple #[.agg #[.int .i64 P, .int .i64 D, .slice s_.1 L.length s_.2.1], .bool true]),(452, .agg #[.int .i64 P, .int .i64 D, .slice s_.1 L.length s_.2.1]),(453, .bool true),(66, .pointer (some ⟨s_.2.2,0,none⟩))]) (fun s_ w'=>(w'.cell? ⟨gs,0,none⟩=some (.int .i64 P)∧w'.cell? ⟨gs,1,none⟩=some (.int .i64 D)∧w'.cell? ⟨gs,2,none⟩=some (.slice (some ad) L.length c)∧w'.cell? ⟨gd,0,none⟩=some (.int .i64 a)∧w'.cell? ⟨gd,1,none⟩=some (.int .i64 b)∧w'.cell? ⟨gd,2,none⟩=some (.slice A2 L2.length c2)∧w'.cell? (ad.add (i.toNat * 3))=some (.int .i64 x)∧w'.cell? ⟨(ad.add (i.toNat * 3)).block,(ad.add (i.toNat * 3)).off + 1,none⟩=some (.int .i64 y)∧w'.cell? ⟨(ad.add (i.toNat * 3)).block,(ad.add (i.toNat * 3)).off + 2,none⟩=some (.int .i64 z))∧(Mw w bs rs w' s_.2.2)∧(Kd.R k44 44 w' 0 (fun _=>True) (.slice s_.1 L.length s_.2.1) L)∧(w'.heap[s_.2.2]?=some zPz)) ?_ ?_
    · rintro ⟨A7,c7,gP⟩ W ⟨h_held,h_S,h_RR,h_BP⟩
      (try dsimp only at h_held h_S h_RR h_BP)
      have hHeld:=h_held;have S:=amk h_S;have RR:=amk h_RR;have BP:=amk h_BP;clear h_held h_S h_RR h_BP
      refine norm_ (a':=?_) ?_ ?_;rotate_left
      · simp only [putAll,Act.put,List.setIfInBounds_toArray,List.set_cons_zero,List.set_cons_succ]
        rfl
      refine oN_ HT_ 11 none (bA 13 4095) (fun K hK=>?_);obtain ⟨z0,z1,z2,z3,z4,z5⟩:=cells3 BP.out;refine skip_ (w1:=?_) (by rfl) rfl ?_ ?_;rotate_left
      · go_simp;rfl
      have S2:=amk (Mm_cons (Mw_st3 S.out (.int .i64 P) (.int .i64 D) (.slice A7 L.length c7)) (three_set BP.out (.int .i64 P) (.int .i64 D) (.slice A7 L.length c7)) (Kd.R_reads' (R_pst RR.out BP.out (.int .i64 P) (.int .i64 D) (.slice A7 L.length c7))).2.2);have C7:=amk (Kd.R_reads' RR.out).2.1;have S3:=amk (Mw_st3 S.out (.int .i64 P) (.int .i64 D) (.slice A7 L.length c7));refine hK.out _ _ (HCc.out _ S3.out) (fun hHeld=>?_);clear hK K S3 S RR BP z0 z1 z2 z3 z4 z5
      refine pU_ HT_ 12 (some 67) (bA 13 8191) ?_ (hQ:=by intro c a w2 h;exact hQ c _ a.tmps a.defers w2 h)
      refine done_ (done_of HT_.out (by kernel_rfl)) ?_;(try dsimp only [st3] at S2);clear hHeld;generalize ((W.setCell ⟨gP,0,none⟩ (.int .i64 P)).setCell ⟨gP,1,none⟩ (.int .i64 D)).setCell ⟨gP,2,none⟩ (.slice A7 L.length c7)=W3 at S2 ⊢
      obtain ⟨q0,q1,q2⟩:=bx3 S2.out (.head _);obtain ⟨s0,s1,s2⟩:=bx3 S2.out (.tail _ H1.out)
      go_wp2_with (go_at_call 8;refine Calls.mono (laws_ePuzzle.calls k P D _ _ L P D _ _ L true _ (Mm_r S2.out (.head _)) C7.out (Mm_r S2.out (.tail _ R1.out)) I1.out E5.out) ?_;rintro e wx ⟨rfl,hb⟩;have nS:=amk (Mm_below S2.out hb);clear hb)
      exact ⟨nS.out.1,fun b m=>nS.out.2.1 b (.tail _ m),fun r m=>nS.out.2.2 r (.tail _ m)⟩
    intro hJ_6_10
    refine join_ (σ:=Option Addr×Nat) 3 (bA 13 1023) (fun s_=> [(451, .tuple #[.agg #[.int .i64 P, .int .i64 D, .slice s_.1 L.length s_.2], .bool true]),(444, .tuple #[.agg #[.int .i64 P, .int .i64 D, .slice s_.1 L.length s_.2], .bool true]),(452, .agg #[.int .i64 P, .int .i64 D, .slice s_.1 L.length s_.2]),(453, .bool true)]) (fun s_ w'=>(w'.cell? ⟨gs,0,none⟩=some (.int .i64 P)∧w'.cell? ⟨gs,1,none⟩=some (.int .i64 D)∧w'.cell? ⟨gs,2,none⟩=some (.slice (some ad) L.length c)∧w'.cell? ⟨gd,0,none⟩=some (.int .i64 a)∧w'.cell? ⟨gd,1,none⟩=some (.int .i64 b)∧w'.cell? ⟨gd,2,none⟩=some (.slice A2 L2.length c2)∧w'.cell? (ad.add (i.toNat * 3))=some (.int .i64 x)∧w'.cell? ⟨(ad.add (i.toNat * 3)).block,(ad.add (i.toNat * 3)).off + 1,none⟩=some (.int .i64 y)∧w'.cell? ⟨(ad.add (i.toNat * 3)).block,(ad.add (i.toNat * 3)).off + 2,none⟩=some (.int .i64 z))∧(Mm w bs rs w')∧(Kd.R k44 44 w' 0 (fun _=>True) (.slice s_.1 L.length s_.2) L)) ?_ ?_
    · rintro ⟨A7,c7⟩ W ⟨h_held,h_S,h_RR⟩
      (try dsimp only at h_held h_S h_RR)
      have hHeld:=h_held;have S:=amk h_S;have RR:=amk h_RR;clear h_held h_S h_RR
      refine norm_ (a':=?_) ?_ ?_;rotate_left
      · simp only [putAll,Act.put,List.setIfInBounds_toArray,List.set_cons_zero,List.set_cons_succ]
        rfl
      refine oN_ HT_ 10 (some 66) (bA 13 2047) (fun K hK=>?_)
      refine value_ (w1:=?_) (v:=?_) (by rfl) rfl ?_ ?_;rotate_left 2
      · go_simp
        constructor
        · rfl
        · rfl
      have nS:=amk (Mw_below (Mw_of S.out) ((Below.refl _ W).alloc (Nat.le_refl _) zPz));have HN:=amk (blk_new W zPz);clear S;have S:=nS;clear nS
      refine hK.out _ _ (HCc.out _ (Mw_mm S.out)) (fun hHeld=>?_);clear hK K;refine nN_ (some 66) ?_
      exact norm_ nJ_ (hJ_6_10 (A7,c7,W.heap.size) _ ⟨hHeld,S.out,Kd.R_alloc RR.out _,HN.out⟩)
    intro hJ_6
    refine join_ (σ:=Nat) 6 (bA 13 1087) (fun s_=> [(66, .pointer (some ⟨s_,0,none⟩))]) (fun s_ w'=>(w'.cell? ⟨gs,0,none⟩=some (.int .i64 P)∧w'.cell? ⟨gs,1,none⟩=some (.int .i64 D)∧w'.cell? ⟨gs,2,none⟩=some (.slice (some ad) L.length c)∧w'.cell? ⟨gd,0,none⟩=some (.int .i64 a)∧w'.cell? ⟨gd,1,none⟩=some (.int .i64 b)∧w'.cell? ⟨gd,2,none⟩=some (.slice A2 L2.length c2)∧w'.cell? (ad.add (i.toNat * 3))=some (.int .i64 x)∧w'.cell? ⟨(ad.add (i.toNat * 3)).block,(ad.add (i.toNat * 3)).off + 1,none⟩=some (.int .i64 y)∧w'.cell? ⟨(ad.add (i.toNat * 3)).block,(ad.add (i.toNat * 3)).off + 2,none⟩=some (.int .i64 z))∧(Mw w bs rs w' s_)∧(w'.heap[s_]?=some zPz)) ?_ ?_
    · rintro gP W ⟨h_held,h_S,h_BP⟩
      have hHeld:=h_held;have S:=amk h_S;have BP:=amk h_BP;clear h_held h_S h_BP
      refine norm_ (a':=?_) ?_ ?_;rotate_left
      · simp only [putAll,Act.put,List.setIfInBounds_toArray,List.set_cons_zero,List.set_cons_succ]
        rfl
      refine oN_ HT_ 6 (some 451) (bA 13 1151) (fun K hK=>?_)
      refine gs_ Try.func24 #[.agg #[.int .i64 a, .int .i64 b, .slice A2 L2.length c2], .agg #[.int .i64 x, .int .i64 y, .int .i64 z]] ?_;refine Calls.mono (impl_AddClue.calls a b _ _ L2 x y z P D L true _ (Mm_r (Mw_mm S.out) R2.out) I2.out E4.out) ?_;rintro e wx ⟨v7,rfl,hs,hb⟩;obtain ⟨A7,c7,rfl⟩:=Kd.R_slice hs;refine ⟨_,rfl,?_⟩
      have nS:=amk (Mw_below S.out hb);have RR:=amk (Kd.R_lower hs (Nat.zero_le _));have nB:=amk (blk_below BP.out hb);clear hs hb S;have S:=nS;clear nS
      refine hK.out _ _ (HCc.out _ (Mw_mm S.out)) (fun hHeld=>?_);clear hK K;refine nN_ (some 451) ?_
      refine pU_ HT_ 7 (some 444) (bA 13 1279) ?_ (hQ:=by intro c a w2 h;exact hQ c _ a.tmps a.defers w2 h)
      refine pU_ HT_ 8 (some 452) (bA 13 1535) ?_ (hQ:=by intro c a w2 h;exact hQ c _ a.tmps a.defers w2 h)
      refine pU_ HT_ 9 (some 453) (bA 13 2047) ?_ (hQ:=by intro c a w2 h;exact hQ c _ a.tmps a.defers w2 h)
      exact norm_ nJ_ (hJ_6_10 (A7,c7,gP) _ ⟨hHeld,S.out,RR.out,nB.out⟩)
    intro hJ_10
    refine two_ (i:=6) (j:=10) (Ni:=some 451) (Nj:=some 66) (bA 13 127) (bA 13 1087) rfl rfl rfl rfl (two_of HT_.out (by kernel_rfl)) (by decide) (by decide) (fun K hK=>?_) (fun K hK=>?_)
    · refine gs_ Try.func24 #[.agg #[.int .i64 a, .int .i64 b, .slice A2 L2.length c2], .agg #[.int .i64 x, .int .i64 y, .int .i64 z]] ?_;refine Calls.mono (impl_AddClue.calls a b _ _ L2 x y z P D L true _ (Mm_r S.out R2.out) I2.out E4.out) ?_;rintro e wx ⟨v7,rfl,hs,hb⟩;obtain ⟨A7,c7,rfl⟩:=Kd.R_slice hs;refine ⟨_,rfl,?_⟩
      have nS:=amk (Mm_below S.out hb);have RR:=amk (Kd.R_lower hs (Nat.zero_le _));clear hs hb S;have S:=nS;clear nS
      refine hK.out _ _ (HCc.out _ S.out) (fun hHeld=>?_);clear hK K;refine nN_ (some 451) ?_
      refine pU_ HT_ 7 (some 444) (bA 13 255) ?_ (hQ:=by intro c a w2 h;exact hQ c _ a.tmps a.defers w2 h)
      refine pU_ HT_ 8 (some 452) (bA 13 511) ?_ (hQ:=by intro c a w2 h;exact hQ c _ a.tmps a.defers w2 h)
      refine pU_ HT_ 9 (some 453) (bA 13 1023) ?_ (hQ:=by intro c a w2 h;exact hQ c _ a.tmps a.defers w2 h)
      exact norm_ nJ_ (hJ_6 (A7,c7) _ ⟨hHeld,S.out,RR.out⟩)
    · refine value_ (w1:=?_) (v:=?_) (by rfl) rfl ?_ ?_;rotate_left 2
      · go_simp
        constructor
        · rfl
        · rfl
      have nS:=amk (Mw_below (Mw_of S.out) ((Below.refl _ W).alloc (Nat.le_refl _) zPz));have HN:=amk (blk_new W zPz);clear S;have S:=nS;clear nS
      refine hK.out _ _ (HCc.out _ (Mw_mm S.out)) (fun hHeld=>?_);clear hK K;refine nN_ (some 66) ?_
      exact norm_ nJ_ (hJ_10 (W.heap.size) _ ⟨hHeld,S.out,HN.out⟩)
/-! laws.FnCodesHidden, a part of its walk: printed by genkh.py. -/
set_option maxHeartbeats 16000000 in
set_option maxRecDepth 100000 in
theorem KHF {w:World} {v0 v1 v2 v3 v4 v5 v6 v7 v8 v9 v10 v11 v12 v13 v14 v15 v16 v17 v18 v19 v20 v21 v22 v23 v24 v25 v26 v27 v28 v29 v30 v37 v38 v39 v40 v41 v42 v43 v44 v45 v46 v47 v48 v49 v50 v51 v52 v53 v54 v55 v56 v57 v58 v59 v60 v61 v62 v63 v64 v65 v66 v67 v68 v69 v70 v71 v72 v73 v74 v75 v76 v77 v78 v79 v80 v81 v82 v83 v84 v85 v86 v87 v88 v89 v90 v91 v92 v93 v94 v95 v96 v97 v98 v99 v100 v101 v102 v103 v104 v105 v106 v107 v108 v109 v110 v111 v112 v113 v114 v115 v116 v117 v118 v119 v120 v121 v122 v123 v124 v125 v126 v127 v128 v129 v130 v131 v132 v133 v134 v135 v136 v137 v138 v139 v140 v141 v142 v143 v144 v145 v146 v147 v148 v149 v150 v151 v152 v153 v154 v155 v156 v157 v158 v159 v160 v161 v162 v163 v164 v165 v166 v167 v168 v169 v170 v171 v172 v173 v174 v175 v176 v177 v178 v179 v180 v181 v182 v183 v184 v185 v186 v187 v188 v189 v190 v191 v192 v193 v194 v195 v196 v197 v198 v199 v200 v201 v202 v203 v204 v205 v206 v207 v208 v209 v210 v211 v212 v213 v214 v215 v216 v217 v218 v219 v220 v221 v222 v223 v224 v225 v226 v227 v228 v229 v230 v231 v232 v233 v234 v235 v236 v237 v238 v239 v240 v241 v242 v243 v244 v245 v246 v247 v248 v249 v250 v251 v252 v253 v254 v255 v256 v257 v258 v259 v260 v261 v262 v263 v264 v265 v266 v267 v268 v269 v270 v271 v272 v273 v274 v275 v276 v277 v278 v279 v280 v281 v282 v283 v284 v285 v286 v287 v288 v289 v290 v291 v292 v293 v294 v295 v296 v297 v298 v299 v300 v301 v302 v303 v304 v305 v306 v307 v308 v309 v310 v311 v312 v313 v314 v315 v316 v317 v318 v319 v320 v321 v322 v323 v324 v325 v326 v327 v328 v329 v330 v331 v332 v333 v334 v335 v336 v337 v338 v339 v340 v341 v342 v343 v344 v345 v346 v347 v348 v349 v350 v351 v352 v353 v354 v355 v356 v357 v358 v359 v360 v361 v362 v363 v364 v365 v366 v367 v368 v369 v370 v371 v372 v373 v374 v375 v376 v377 v378 v379 v380 v381 v382 v383 v384 v385 v386 v387 v388 v389 v390 v391 v392 v393 v394 v395 v396 v397 v398 v399 v400 v401 v402 v403 v404 v405 v406 v407 v408 v409 v410 v411 v412 v413 v414 v415 v416 v417 v418 v419 v420 v421 v422 v423 v424 v425 v426 v427 v428 v429 v430 v431 v432 v433 v434 v435 v436 v437 v438 v439 v440 v441 v442 v443 v444 v445 v446 v447 v448 v449 v450 v451 v452 v453 v454 v455 v456 v457 v458 v459:Value} (K:Act→World→Prop) (Q:Exit→Act→World→Prop) (hQ : ∀ c t t' d w',Q (.panic c) ⟨t,d⟩ w'→Q (.panic c) ⟨t',d⟩ w')
    (k:Nat) (a b:Int) (L2:List S44) (A2 A3:Option Addr) (c2 c3:Nat) (gh gw:Nat) (bs:List (Nat×Obj)) (rs:List (Option Addr×List S44)) (t sv th:Bool) (W:World)
    (hm:Mm w bs rs W) (h1:(gh,pzB a b A2 L2.length c2)∈bs) (h2:(gw,pzB a b A3 L2.length c3)∈bs) (r1:(A2,L2)∈rs) (r2:(A3,L2)∈rs) (i1:L2.length≤c2) (i2:L2.length≤c3) (e1:laws_ePuzzle.f k a b L2 a b L2=some true) (ht:t=(th && sv))
    (hrest : ∀ {u237 u238 u239 u240 u241 u242 u243 u244 u245 u246 u247 u248 u249 u250 u251 u252:Value} (W':World),Mm w bs rs W'→K ⟨List.toArray (v0 :: v1 :: v2 :: v3 :: v4 :: v5 :: v6 :: v7 :: v8 :: v9 :: v10 :: v11 :: v12 :: v13 :: v14 :: v15 :: v16 :: v17 :: v18 :: v19 :: v20 :: v21 :: v22 :: v23 :: v24 :: v25 :: v26 :: v27 :: v28 :: v29 :: v30 :: .pointer (some ⟨gh,0,none⟩) :: .bool t :: .pointer (some ⟨gw,0,none⟩) :: .bool t :: .bool sv :: .bool th :: v37 :: v38 :: v39 :: v40 :: v41 :: v42 :: v43 :: v44 :: v45 :: v46 :: v47 :: v48 :: v49 :: v50 :: v51 :: v52 :: v53 :: v54 :: v55 :: v56 :: v57 :: v58 :: v59 :: v60 :: v61 :: v62 :: v63 :: v64 :: v65 :: v66 :: v67 :: v68 :: v69 :: v70 :: v71 :: v72 :: v73 :: v74 :: v75 :: v76 :: v77 :: v78 :: v79 :: v80 :: v81 :: v82 :: v83 :: v84 :: v85 :: v86 :: v87 :: v88 :: v89 :: v90 :: v91 :: v92 :: v93 :: v94 :: v95 :: v96 :: v97 :: v98 :: v99 :: v100 :: v101 :: v102 :: v103 :: v104 :: v105 :: v106 :: v107 :: v108 :: v109 :: v110 :: v111 :: v112 :: v113 :: v114 :: v115 :: v116 :: v117 :: v118 :: v119 :: v120 :: v121 :: v122 :: v123 :: v124 :: v125 :: v126 :: v127 :: v128 :: v129 :: v130 :: v131 :: v132 :: v133 :: v134 :: v135 :: v136 :: v137 :: v138 :: v139 :: v140 :: v141 :: v142 :: v143 :: v144 :: v145 :: v146 :: v147 :: v148 :: v149 :: v150 :: v151 :: v152 :: v153 :: v154 :: v155 :: v156 :: v157 :: v158 :: v159 :: v160 :: v161 :: v162 :: v163 :: v164 :: v165 :: v166 :: v167 :: v168 :: v169 :: v170 :: v171 :: v172 :: v173 :: v174 :: v175 :: v176 :: v177 :: v178 :: v179 :: v180 :: v181 :: v182 :: v183 :: v184 :: v185 :: v186 :: v187 :: v188 :: v189 :: v190 :: v191 :: v192 :: v193 :: v194 :: v195 :: v196 :: v197 :: v198 :: v199 :: v200 :: v201 :: v202 :: v203 :: v204 :: v205 :: v206 :: v207 :: v208 :: v209 :: v210 :: v211 :: v212 :: v213 :: v214 :: v215 :: v216 :: v217 :: v218 :: v219 :: v220 :: v221 :: v222 :: v223 :: v224 :: v225 :: v226 :: v227 :: v228 :: v229 :: v230 :: v231 :: v232 :: v233 :: v234 :: v235 :: v236 :: u237 :: u238 :: u239 :: u240 :: u241 :: u242 :: u243 :: u244 :: u245 :: u246 :: u247 :: u248 :: u249 :: u250 :: u251 :: u252 :: .bool false :: v254 :: v255 :: v256 :: v257 :: v258 :: v259 :: v260 :: v261 :: v262 :: v263 :: v264 :: v265 :: v266 :: v267 :: v268 :: v269 :: v270 :: v271 :: v272 :: v273 :: v274 :: v275 :: v276 :: v277 :: v278 :: v279 :: v280 :: v281 :: v282 :: v283 :: v284 :: v285 :: v286 :: v287 :: v288 :: v289 :: v290 :: v291 :: v292 :: v293 :: v294 :: v295 :: v296 :: v297 :: v298 :: v299 :: v300 :: v301 :: v302 :: v303 :: v304 :: v305 :: v306 :: v307 :: v308 :: v309 :: v310 :: v311 :: v312 :: v313 :: v314 :: v315 :: v316 :: v317 :: v318 :: v319 :: v320 :: v321 :: v322 :: v323 :: v324 :: v325 :: v326 :: v327 :: v328 :: v329 :: v330 :: v331 :: v332 :: v333 :: v334 :: v335 :: v336 :: v337 :: v338 :: v339 :: v340 :: v341 :: v342 :: v343 :: v344 :: v345 :: v346 :: v347 :: v348 :: v349 :: v350 :: v351 :: v352 :: v353 :: v354 :: v355 :: v356 :: v357 :: v358 :: v359 :: v360 :: v361 :: v362 :: v363 :: v364 :: v365 :: v366 :: v367 :: v368 :: v369 :: v370 :: v371 :: v372 :: v373 :: v374 :: v375 :: v376 :: v377 :: v378 :: v379 :: v380 :: v381 :: v382 :: v383 :: v384 :: v385 :: v386 :: v387 :: v388 :: v389 :: v390 :: v391 :: v392 :: v393 :: v394 :: v395 :: v396 :: v397 :: v398 :: v399 :: v400 :: v401 :: v402 :: v403 :: v404 :: v405 :: v406 :: v407 :: v408 :: v409 :: v410 :: v411 :: v412 :: v413 :: v414 :: v415 :: v416 :: v417 :: v418 :: v419 :: v420 :: v421 :: v422 :: v423 :: v424 :: v425 :: v426 :: v427 :: v428 :: v429 :: v430 :: v431 :: v432 :: v433 :: v434 :: v435 :: v436 :: v437 :: v438 :: v439 :: v440 :: v441 :: v442 :: v443 :: v444 :: v445 :: v446 :: v447 :: v448 :: v449 :: v450 :: v451 :: v452 :: v453 :: v454 :: v455 :: v456 :: v457 :: v458 :: v459 :: []),[]⟩ W') :
    Code.wp Try.prog (regH 23) (Exit.then K Q) ⟨List.toArray (v0 :: v1 :: v2 :: v3 :: v4 :: v5 :: v6 :: v7 :: v8 :: v9 :: v10 :: v11 :: v12 :: v13 :: v14 :: v15 :: v16 :: v17 :: v18 :: v19 :: v20 :: v21 :: v22 :: v23 :: v24 :: v25 :: v26 :: v27 :: v28 :: v29 :: v30 :: .pointer (some ⟨gh,0,none⟩) :: .bool t :: .pointer (some ⟨gw,0,none⟩) :: .bool t :: .bool sv :: .bool th :: v37 :: v38 :: v39 :: v40 :: v41 :: v42 :: v43 :: v44 :: v45 :: v46 :: v47 :: v48 :: v49 :: v50 :: v51 :: v52 :: v53 :: v54 :: v55 :: v56 :: v57 :: v58 :: v59 :: v60 :: v61 :: v62 :: v63 :: v64 :: v65 :: v66 :: v67 :: v68 :: v69 :: v70 :: v71 :: v72 :: v73 :: v74 :: v75 :: v76 :: v77 :: v78 :: v79 :: v80 :: v81 :: v82 :: v83 :: v84 :: v85 :: v86 :: v87 :: v88 :: v89 :: v90 :: v91 :: v92 :: v93 :: v94 :: v95 :: v96 :: v97 :: v98 :: v99 :: v100 :: v101 :: v102 :: v103 :: v104 :: v105 :: v106 :: v107 :: v108 :: v109 :: v110 :: v111 :: v112 :: v113 :: v114 :: v115 :: v116 :: v117 :: v118 :: v119 :: v120 :: v121 :: v122 :: v123 :: v124 :: v125 :: v126 :: v127 :: v128 :: v129 :: v130 :: v131 :: v132 :: v133 :: v134 :: v135 :: v136 :: v137 :: v138 :: v139 :: v140 :: v141 :: v142 :: v143 :: v144 :: v145 :: v146 :: v147 :: v148 :: v149 :: v150 :: v151 :: v152 :: v153 :: v154 :: v155 :: v156 :: v157 :: v158 :: v159 :: v160 :: v161 :: v162 :: v163 :: v164 :: v165 :: v166 :: v167 :: v168 :: v169 :: v170 :: v171 :: v172 :: v173 :: v174 :: v175 :: v176 :: v177 :: v178 :: v179 :: v180 :: v181 :: v182 :: v183 :: v184 :: v185 :: v186 :: v187 :: v188 :: v189 :: v190 :: v191 :: v192 :: v193 :: v194 :: v195 :: v196 :: v197 :: v198 :: v199 :: v200 :: v201 :: v202 :: v203 :: v204 :: v205 :: v206 :: v207 :: v208 :: v209 :: v210 :: v211 :: v212 :: v213 :: v214 :: v215 :: v216 :: v217 :: v218 :: v219 :: v220 :: v221 :: v222 :: v223 :: v224 :: v225 :: v226 :: v227 :: v228 :: v229 :: v230 :: v231 :: v232 :: v233 :: v234 :: v235 :: v236 :: v237 :: v238 :: v239 :: v240 :: v241 :: v242 :: v243 :: v244 :: v245 :: v246 :: v247 :: v248 :: v249 :: v250 :: v251 :: v252 :: v253 :: v254 :: v255 :: v256 :: v257 :: v258 :: v259 :: v260 :: v261 :: v262 :: v263 :: v264 :: v265 :: v266 :: v267 :: v268 :: v269 :: v270 :: v271 :: v272 :: v273 :: v274 :: v275 :: v276 :: v277 :: v278 :: v279 :: v280 :: v281 :: v282 :: v283 :: v284 :: v285 :: v286 :: v287 :: v288 :: v289 :: v290 :: v291 :: v292 :: v293 :: v294 :: v295 :: v296 :: v297 :: v298 :: v299 :: v300 :: v301 :: v302 :: v303 :: v304 :: v305 :: v306 :: v307 :: v308 :: v309 :: v310 :: v311 :: v312 :: v313 :: v314 :: v315 :: v316 :: v317 :: v318 :: v319 :: v320 :: v321 :: v322 :: v323 :: v324 :: v325 :: v326 :: v327 :: v328 :: v329 :: v330 :: v331 :: v332 :: v333 :: v334 :: v335 :: v336 :: v337 :: v338 :: v339 :: v340 :: v341 :: v342 :: v343 :: v344 :: v345 :: v346 :: v347 :: v348 :: v349 :: v350 :: v351 :: v352 :: v353 :: v354 :: v355 :: v356 :: v357 :: v358 :: v359 :: v360 :: v361 :: v362 :: v363 :: v364 :: v365 :: v366 :: v367 :: v368 :: v369 :: v370 :: v371 :: v372 :: v373 :: v374 :: v375 :: v376 :: v377 :: v378 :: v379 :: v380 :: v381 :: v382 :: v383 :: v384 :: v385 :: v386 :: v387 :: v388 :: v389 :: v390 :: v391 :: v392 :: v393 :: v394 :: v395 :: v396 :: v397 :: v398 :: v399 :: v400 :: v401 :: v402 :: v403 :: v404 :: v405 :: v406 :: v407 :: v408 :: v409 :: v410 :: v411 :: v412 :: v413 :: v414 :: v415 :: v416 :: v417 :: v418 :: v419 :: v420 :: v421 :: v422 :: v423 :: v424 :: v425 :: v426 :: v427 :: v428 :: v429 :: v430 :: v431 :: v432 :: v433 :: v434 :: v435 :: v436 :: v437 :: v438 :: v439 :: v440 :: v441 :: v442 :: v443 :: v444 :: v445 :: v446 :: v447 :: v448 :: v449 :: v450 :: v451 :: v452 :: v453 :: v454 :: v455 :: v456 :: v457 :: v458 :: v459 :: []),[]⟩ W:=by
  have hu30:=Try.underlying30
  have S:=amk hm;have R1:=amk r1;have R2:=amk r2;have I1:=amk i1;have I2:=amk i2;have E1:=amk e1
  obtain ⟨q0,q1,q2⟩:=bx3 hm h1;obtain ⟨s0,s1,s2⟩:=bx3 hm h2;clear hm r1 r2 i1 i2 e1 h1 h2;subst ht
  have hbb : ∀ b:Bool,(b != b)=false:=fun b=>by cases b <;> rfl
  conv=>arg 2;whnf
  cases th with
  | false=>go_wp2_with (go_at_call 8;refine Calls.mono (laws_ePuzzle.calls k a b _ _ L2 a b _ _ L2 true _ (Mm_r S.out R1.out) I1.out (Mm_r S.out R2.out) I2.out E1.out) ?_;rintro e wx ⟨rfl,hb⟩;have nS:=amk (Mm_below S.out hb);clear hb);exact nS.out
  | true => cases sv with
    | false=>go_wp2_with (go_at_call 8;refine Calls.mono (laws_ePuzzle.calls k a b _ _ L2 a b _ _ L2 true _ (Mm_r S.out R1.out) I1.out (Mm_r S.out R2.out) I2.out E1.out) ?_;rintro e wx ⟨rfl,hb⟩;have nS:=amk (Mm_below S.out hb);clear hb);exact nS.out
    | true=>go_wp2_with (go_at_call 8;refine Calls.mono (laws_ePuzzle.calls k a b _ _ L2 a b _ _ L2 true _ (Mm_r S.out R1.out) I1.out (Mm_r S.out R2.out) I2.out E1.out) ?_;rintro e wx ⟨rfl,hb⟩;have nS:=amk (Mm_below S.out hb);clear hb);exact nS.out
set_option maxHeartbeats 16000000 in
set_option maxRecDepth 100000 in
theorem KHG {w:World} {v0 v1 v2 v3 v4 v5 v6 v7 v8 v9 v10 v11 v12 v13 v14 v15 v16 v17 v18 v19 v20 v21 v22 v23 v24 v25 v26 v27 v28 v29 v30 v31 v32 v33 v34 v35 v36 v37 v38 v39 v40 v41 v42 v43 v44 v45 v46 v47 v48 v51 v53 v54 v55 v56 v57 v58 v59 v60 v61 v62 v63 v64 v65 v66 v67 v68 v69 v70 v71 v72 v73 v74 v75 v76 v77 v78 v79 v80 v81 v82 v83 v84 v85 v86 v87 v88 v89 v90 v91 v92 v93 v94 v95 v96 v97 v98 v99 v100 v101 v102 v103 v104 v105 v106 v107 v108 v109 v110 v111 v112 v113 v114 v115 v116 v117 v118 v119 v120 v121 v122 v123 v124 v125 v126 v127 v128 v129 v130 v131 v132 v133 v134 v135 v136 v137 v138 v139 v140 v141 v142 v143 v144 v145 v146 v147 v148 v149 v150 v151 v152 v153 v154 v155 v156 v157 v158 v159 v160 v161 v162 v163 v164 v165 v166 v167 v168 v169 v170 v171 v172 v173 v174 v175 v176 v177 v178 v179 v180 v181 v182 v183 v184 v185 v186 v187 v188 v189 v190 v191 v192 v193 v194 v195 v196 v197 v198 v199 v200 v201 v202 v203 v204 v205 v206 v207 v208 v209 v210 v211 v212 v213 v214 v215 v216 v217 v218 v219 v220 v221 v222 v223 v224 v225 v226 v227 v228 v229 v230 v231 v232 v233 v234 v235 v236 v237 v238 v239 v240 v241 v242 v243 v244 v245 v246 v247 v248 v249 v250 v251 v252 v253 v254 v255 v256 v257 v258 v259 v260 v261 v262 v263 v264 v265 v266 v267 v268 v269 v270 v271 v272 v273 v274 v275 v276 v277 v278 v279 v280 v281 v282 v283 v284 v285 v286 v287 v288 v289 v290 v291 v292 v293 v294 v295 v296 v297 v298 v299 v300 v301 v302 v303 v304 v305 v306 v307 v308 v309 v310 v311 v312 v313 v314 v315 v316 v317 v318 v319 v320 v321 v322 v323 v324 v325 v326 v327 v328 v329 v330 v331 v332 v333 v334 v335 v336 v337 v338 v339 v340 v341 v342 v343 v344 v345 v346 v347 v348 v349 v350 v351 v352 v353 v354 v355 v356 v357 v358 v359 v360 v361 v362 v363 v364 v365 v366 v367 v368 v369 v370 v371 v372 v373 v374 v375 v376 v377 v378 v379 v380 v381 v382 v383 v384 v385 v386 v387 v388 v389 v390 v391 v392 v393 v394 v395 v396 v397 v398 v399 v400 v401 v402 v403 v404 v405 v406 v407 v408 v409 v410 v411 v412 v413 v414 v415 v416 v417 v418 v419 v420 v421 v422 v423 v424 v425 v426 v427 v428 v429 v430 v431 v432 v433 v434 v435 v436 v437 v438 v439 v440 v441 v442 v443 v444 v445 v446 v447 v448 v449 v450 v451 v452 v453 v454 v455 v456 v457 v458 v459:Value} (K:Act→World→Prop) (Q:Exit→Act→World→Prop) (hQ : ∀ c t t' d w',Q (.panic c) ⟨t,d⟩ w'→Q (.panic c) ⟨t',d⟩ w')
    (P D i:Int) (L:List S44) (A:Option Addr) (c:Nat) (gs:Nat) (bs:List (Nat×Obj)) (rs:List (Option Addr×List S44)) (t tb:Bool) (W:World)
    (hm:Mm w bs rs W) (h1:(gs,pzB P D A L.length c)∈bs) (hL:L.length≤20) (htb:tb=(t && (i == (L.length:Int) - 1)))
    (hrest : ∀ {u435 u436 u437 u438 u439 u440 u441 u442:Value} (W':World),Mm w bs rs W'→K ⟨List.toArray (v0 :: v1 :: v2 :: v3 :: v4 :: v5 :: v6 :: v7 :: v8 :: v9 :: v10 :: v11 :: v12 :: v13 :: v14 :: v15 :: v16 :: v17 :: v18 :: v19 :: v20 :: v21 :: v22 :: v23 :: v24 :: v25 :: v26 :: v27 :: v28 :: v29 :: v30 :: v31 :: v32 :: v33 :: v34 :: v35 :: v36 :: v37 :: v38 :: v39 :: v40 :: v41 :: v42 :: v43 :: v44 :: v45 :: v46 :: v47 :: v48 :: .pointer (some ⟨gs,0,none⟩) :: .int .i64 i :: v51 :: .bool t :: v53 :: v54 :: v55 :: v56 :: v57 :: v58 :: v59 :: v60 :: v61 :: v62 :: v63 :: v64 :: v65 :: v66 :: v67 :: v68 :: v69 :: v70 :: v71 :: v72 :: v73 :: v74 :: v75 :: v76 :: v77 :: v78 :: v79 :: v80 :: v81 :: v82 :: v83 :: v84 :: v85 :: v86 :: v87 :: v88 :: v89 :: v90 :: v91 :: v92 :: v93 :: v94 :: v95 :: v96 :: v97 :: v98 :: v99 :: v100 :: v101 :: v102 :: v103 :: v104 :: v105 :: v106 :: v107 :: v108 :: v109 :: v110 :: v111 :: v112 :: v113 :: v114 :: v115 :: v116 :: v117 :: v118 :: v119 :: v120 :: v121 :: v122 :: v123 :: v124 :: v125 :: v126 :: v127 :: v128 :: v129 :: v130 :: v131 :: v132 :: v133 :: v134 :: v135 :: v136 :: v137 :: v138 :: v139 :: v140 :: v141 :: v142 :: v143 :: v144 :: v145 :: v146 :: v147 :: v148 :: v149 :: v150 :: v151 :: v152 :: v153 :: v154 :: v155 :: v156 :: v157 :: v158 :: v159 :: v160 :: v161 :: v162 :: v163 :: v164 :: v165 :: v166 :: v167 :: v168 :: v169 :: v170 :: v171 :: v172 :: v173 :: v174 :: v175 :: v176 :: v177 :: v178 :: v179 :: v180 :: v181 :: v182 :: v183 :: v184 :: v185 :: v186 :: v187 :: v188 :: v189 :: v190 :: v191 :: v192 :: v193 :: v194 :: v195 :: v196 :: v197 :: v198 :: v199 :: v200 :: v201 :: v202 :: v203 :: v204 :: v205 :: v206 :: v207 :: v208 :: v209 :: v210 :: v211 :: v212 :: v213 :: v214 :: v215 :: v216 :: v217 :: v218 :: v219 :: v220 :: v221 :: v222 :: v223 :: v224 :: v225 :: v226 :: v227 :: v228 :: v229 :: v230 :: v231 :: v232 :: v233 :: v234 :: v235 :: v236 :: v237 :: v238 :: v239 :: v240 :: v241 :: v242 :: v243 :: v244 :: v245 :: v246 :: v247 :: v248 :: v249 :: v250 :: v251 :: v252 :: v253 :: v254 :: v255 :: v256 :: v257 :: v258 :: v259 :: v260 :: v261 :: v262 :: v263 :: v264 :: v265 :: v266 :: v267 :: v268 :: v269 :: v270 :: v271 :: v272 :: v273 :: v274 :: v275 :: v276 :: v277 :: v278 :: v279 :: v280 :: v281 :: v282 :: v283 :: v284 :: v285 :: v286 :: v287 :: v288 :: v289 :: v290 :: v291 :: v292 :: v293 :: v294 :: v295 :: v296 :: v297 :: v298 :: v299 :: v300 :: v301 :: v302 :: v303 :: v304 :: v305 :: v306 :: v307 :: v308 :: v309 :: v310 :: v311 :: v312 :: v313 :: v314 :: v315 :: v316 :: v317 :: v318 :: v319 :: v320 :: v321 :: v322 :: v323 :: v324 :: v325 :: v326 :: v327 :: v328 :: v329 :: v330 :: v331 :: v332 :: v333 :: v334 :: v335 :: v336 :: v337 :: v338 :: v339 :: v340 :: v341 :: v342 :: v343 :: v344 :: v345 :: v346 :: v347 :: v348 :: v349 :: v350 :: v351 :: v352 :: v353 :: v354 :: v355 :: v356 :: v357 :: v358 :: v359 :: v360 :: v361 :: v362 :: v363 :: v364 :: v365 :: v366 :: v367 :: v368 :: v369 :: v370 :: v371 :: v372 :: v373 :: v374 :: v375 :: v376 :: v377 :: v378 :: v379 :: v380 :: v381 :: v382 :: v383 :: v384 :: v385 :: v386 :: v387 :: v388 :: v389 :: v390 :: v391 :: v392 :: v393 :: v394 :: v395 :: v396 :: v397 :: v398 :: v399 :: v400 :: v401 :: v402 :: v403 :: v404 :: v405 :: v406 :: v407 :: v408 :: v409 :: v410 :: v411 :: v412 :: v413 :: v414 :: v415 :: v416 :: v417 :: v418 :: v419 :: v420 :: v421 :: v422 :: v423 :: v424 :: v425 :: v426 :: v427 :: v428 :: v429 :: v430 :: v431 :: v432 :: v433 :: v434 :: u435 :: u436 :: u437 :: u438 :: u439 :: u440 :: u441 :: u442 :: .bool tb :: v444 :: v445 :: v446 :: v447 :: v448 :: v449 :: v450 :: v451 :: v452 :: v453 :: v454 :: v455 :: v456 :: v457 :: v458 :: v459 :: []),[]⟩ W') :
    Code.wp Try.prog (regH 47) (Exit.then K Q) ⟨List.toArray (v0 :: v1 :: v2 :: v3 :: v4 :: v5 :: v6 :: v7 :: v8 :: v9 :: v10 :: v11 :: v12 :: v13 :: v14 :: v15 :: v16 :: v17 :: v18 :: v19 :: v20 :: v21 :: v22 :: v23 :: v24 :: v25 :: v26 :: v27 :: v28 :: v29 :: v30 :: v31 :: v32 :: v33 :: v34 :: v35 :: v36 :: v37 :: v38 :: v39 :: v40 :: v41 :: v42 :: v43 :: v44 :: v45 :: v46 :: v47 :: v48 :: .pointer (some ⟨gs,0,none⟩) :: .int .i64 i :: v51 :: .bool t :: v53 :: v54 :: v55 :: v56 :: v57 :: v58 :: v59 :: v60 :: v61 :: v62 :: v63 :: v64 :: v65 :: v66 :: v67 :: v68 :: v69 :: v70 :: v71 :: v72 :: v73 :: v74 :: v75 :: v76 :: v77 :: v78 :: v79 :: v80 :: v81 :: v82 :: v83 :: v84 :: v85 :: v86 :: v87 :: v88 :: v89 :: v90 :: v91 :: v92 :: v93 :: v94 :: v95 :: v96 :: v97 :: v98 :: v99 :: v100 :: v101 :: v102 :: v103 :: v104 :: v105 :: v106 :: v107 :: v108 :: v109 :: v110 :: v111 :: v112 :: v113 :: v114 :: v115 :: v116 :: v117 :: v118 :: v119 :: v120 :: v121 :: v122 :: v123 :: v124 :: v125 :: v126 :: v127 :: v128 :: v129 :: v130 :: v131 :: v132 :: v133 :: v134 :: v135 :: v136 :: v137 :: v138 :: v139 :: v140 :: v141 :: v142 :: v143 :: v144 :: v145 :: v146 :: v147 :: v148 :: v149 :: v150 :: v151 :: v152 :: v153 :: v154 :: v155 :: v156 :: v157 :: v158 :: v159 :: v160 :: v161 :: v162 :: v163 :: v164 :: v165 :: v166 :: v167 :: v168 :: v169 :: v170 :: v171 :: v172 :: v173 :: v174 :: v175 :: v176 :: v177 :: v178 :: v179 :: v180 :: v181 :: v182 :: v183 :: v184 :: v185 :: v186 :: v187 :: v188 :: v189 :: v190 :: v191 :: v192 :: v193 :: v194 :: v195 :: v196 :: v197 :: v198 :: v199 :: v200 :: v201 :: v202 :: v203 :: v204 :: v205 :: v206 :: v207 :: v208 :: v209 :: v210 :: v211 :: v212 :: v213 :: v214 :: v215 :: v216 :: v217 :: v218 :: v219 :: v220 :: v221 :: v222 :: v223 :: v224 :: v225 :: v226 :: v227 :: v228 :: v229 :: v230 :: v231 :: v232 :: v233 :: v234 :: v235 :: v236 :: v237 :: v238 :: v239 :: v240 :: v241 :: v242 :: v243 :: v244 :: v245 :: v246 :: v247 :: v248 :: v249 :: v250 :: v251 :: v252 :: v253 :: v254 :: v255 :: v256 :: v257 :: v258 :: v259 :: v260 :: v261 :: v262 :: v263 :: v264 :: v265 :: v266 :: v267 :: v268 :: v269 :: v270 :: v271 :: v272 :: v273 :: v274 :: v275 :: v276 :: v277 :: v278 :: v279 :: v280 :: v281 :: v282 :: v283 :: v284 :: v285 :: v286 :: v287 :: v288 :: v289 :: v290 :: v291 :: v292 :: v293 :: v294 :: v295 :: v296 :: v297 :: v298 :: v299 :: v300 :: v301 :: v302 :: v303 :: v304 :: v305 :: v306 :: v307 :: v308 :: v309 :: v310 :: v311 :: v312 :: v313 :: v314 :: v315 :: v316 :: v317 :: v318 :: v319 :: v320 :: v321 :: v322 :: v323 :: v324 :: v325 :: v326 :: v327 :: v328 :: v329 :: v330 :: v331 :: v332 :: v333 :: v334 :: v335 :: v336 :: v337 :: v338 :: v339 :: v340 :: v341 :: v342 :: v343 :: v344 :: v345 :: v346 :: v347 :: v348 :: v349 :: v350 :: v351 :: v352 :: v353 :: v354 :: v355 :: v356 :: v357 :: v358 :: v359 :: v360 :: v361 :: v362 :: v363 :: v364 :: v365 :: v366 :: v367 :: v368 :: v369 :: v370 :: v371 :: v372 :: v373 :: v374 :: v375 :: v376 :: v377 :: v378 :: v379 :: v380 :: v381 :: v382 :: v383 :: v384 :: v385 :: v386 :: v387 :: v388 :: v389 :: v390 :: v391 :: v392 :: v393 :: v394 :: v395 :: v396 :: v397 :: v398 :: v399 :: v400 :: v401 :: v402 :: v403 :: v404 :: v405 :: v406 :: v407 :: v408 :: v409 :: v410 :: v411 :: v412 :: v413 :: v414 :: v415 :: v416 :: v417 :: v418 :: v419 :: v420 :: v421 :: v422 :: v423 :: v424 :: v425 :: v426 :: v427 :: v428 :: v429 :: v430 :: v431 :: v432 :: v433 :: v434 :: v435 :: v436 :: v437 :: v438 :: v439 :: v440 :: v441 :: v442 :: v443 :: v444 :: v445 :: v446 :: v447 :: v448 :: v449 :: v450 :: v451 :: v452 :: v453 :: v454 :: v455 :: v456 :: v457 :: v458 :: v459 :: []),[]⟩ W:=by
  have hu30:=Try.underlying30
  have hu28:=Try.underlying28
  have S:=amk hm;obtain ⟨q0,q1,q2⟩:=bx3 hm h1;have hw:wrap64 ((L.length:Int) - 1)=(L.length:Int) - 1:=w64 (by omega) (by omega);clear hm h1 hL;subst htb
  conv=>arg 2;whnf
  cases t with
  | false=>go_wp2;exact S.out
  | true =>
    have hg:(true && (i == (L.length:Int) - 1))=(i == (L.length:Int) - 1):=rfl
    go_wp2;exact S.out
/-! laws.FnCodesHidden: the whole walk; each callee's value is told: printed by genkh.py. -/
set_option maxHeartbeats 16000000 in
set_option maxRecDepth 100000 in
theorem laws_FnCodesHidden.walk (lA lB:List Int) (xA xB:Option Addr) (yA yB:Nat) (w:World) (hsA:BytesV lA) (hsB:BytesV lB) (hrA:Kd.C (Kd.int .u8) w xA lA.length lA) (hcA:lA.length≤yA) (hrB:Kd.C (Kd.int .u8) w xB lB.length lB) (hcB:lB.length≤yB) (hbig:laws_big.f lA lB=some false) (fA:laws_FnCodesHidden.FA) (fB:laws_FnCodesHidden.FB) (fC:laws_FnCodesHidden.FC) (fD:laws_FnCodesHidden.FD) (fE:laws_FnCodesHidden.FE) (fF:laws_FnCodesHidden.FF) :
    Calls Try.prog 3 #[.slice xA lA.length yA, .slice xB lB.length yB] w fun e w'=>e = .returned (.bool true)∧Below w.heap.size w w':=by
  have hu25:=Try.underlying25
  have hu30:=Try.underlying30
  have hu44:=Try.underlying44
  have hu28:=Try.underlying28
  have HsA:=amk hsA
  have HsB:=amk hsB
  have HrA:=amk hrA
  have HcA:=amk hcA
  have HrB:=amk hrB
  have HcB:=amk hcB
  have Hbig:=amk hbig
  have FA:=amk fA
  have FB:=amk fB
  have FC:=amk fC
  have FD:=amk fD
  have FE:=amk fE
  have FF:=amk fF
  clear hsA hsB hrA hcA hrB hcB hbig fA fB fC fD fE fF
  go_enter Try.func3,Try.ntmps3
  go_wp2_with (go_at_call 4;refine Calls.mono (laws_big.calls xA yA lA xB yB lB false _ HrA.out HcA.out HrB.out HcB.out Hbig.out) ?_;rintro e w0 ⟨rfl,hb⟩;have S:=amk (Mm_nil hb.below);clear hb)
  go_wp2_with (go_at_call 5;refine Calls.mono (spec_DrawMakePuzzle.calls xA yA lA _ HsA.out (Kd.C_below HrA.out S.out.1)) ?_;rintro e wd ⟨p,d,s,x,y,rfl,hb⟩;have nS:=amk (Mm_box (Mm_below S.out hb) (lkB p d));clear S;have S:=nS;clear nS;obtain ⟨k,P,D,L,t,e1,e2,e3,e4⟩:=FA.out p d x y s;have E1:=amk e1;have E2:=amk e2;have E3:=amk e3;have E4:=amk e4;clear e1 e2 e3 e4;clear hb;obtain ⟨q0,q1⟩:=bx2 S.out (.head _))
  go_wp2_with (go_at_call 6;refine Calls.mono (impl_MakePuzzle.calls k p d s x y P D L t _ E1.out) ?_;rintro e w1 ⟨v,rfl,hs,hb⟩;obtain ⟨A1,c1,rfl⟩:=Kd.R_slice hs;have IA1:=amk (Kd.R_reads' hs).2.1;have nS:=amk (Mm_row (Mm_box (Mm_below S.out hb) (pzB P D A1 L.length c1)) (Kd.C_alloc (Kd.R_reads' hs).2.2 (pzB P D A1 L.length c1)));clear S;have S:=nS;clear nS;clear hs hb;clear q0 q1;obtain ⟨q0,q1⟩:=bx2 S.out (.tail _ (.head _)))
  go_wp2_with (go_at_call 7;refine Calls.mono (spec_MakePuzzle.calls k p d s x y P D L t _ E2.out) ?_;rintro e w2 ⟨v,rfl,hs,hb⟩;obtain ⟨A2,c2,rfl⟩:=Kd.R_slice hs;have IA2:=amk (Kd.R_reads' hs).2.1;have nS:=amk (Mm_row (Mm_box (Mm_below S.out hb) (pzB P D A2 L.length c2)) (Kd.C_alloc (Kd.R_reads' hs).2.2 (pzB P D A2 L.length c2)));clear S;have S:=nS;clear nS;clear hs hb;clear q0 q1;obtain ⟨q0,q1,q2⟩:=bx3 S.out (.tail _ (.head _));obtain ⟨s0,s1,s2⟩:=bx3 S.out (.head _))
  have hbb : ∀ b:Bool,(b != b)=false:=fun b=>by cases b <;> rfl
  go_upto_if 103 with (go_at_call 8;refine Calls.mono (laws_ePuzzle.calls k P D _ _ L P D _ _ L true _ (Mm_r S.out (.tail _ (.head _))) IA1.out (Mm_r S.out (.head _)) IA2.out E3.out) ?_;rintro e wx ⟨rfl,hb⟩;have nS:=amk (Mm_below S.out hb);clear S;have S:=nS;clear nS;clear hb;clear q0 q1 q2 s0 s1 s2)
  refine KHA _ _ (fun _ _ _ _ _ h=>h) k p d x P D s L A1 c1 _ _ _ _ t _ S.out (.tail _ (.tail _ (.head _))) (.tail _ (.head _)) (.tail _ (.head _)) IA1.out E4.out (fun {u13 u14 u15 u16 u17 u18 u19 u20 u21 u22 u23 u24 u25 u26 u27 u28 u29 u104 u105 u106 u107 u108 u109 u110 u111 u112 u113 u114 u115 u116 u117 u118 u119 u120 u121 u122 u123 u124 u125 u126 u127 u128 u129 u130 u131 u132 u133 u134 u135 u136 u137 u138 u139 u140 u141 u142 u143 u144 u145 u146 u147 u148 u149 u150 u151 u152 u153 u154 u155 u156 u157 u158 u159 u160 u161 u162 u163 u164 u165 u166 u167 u168 u169 u170 u171 u172 u173 u174 u175 u176 u177 u178 u179 u180 u181 u182 u183 u184 u185 u186 u187 u188 u189 u190 u191 u192 u193 u194 u195 u196 u197 u198 u199 u200 u201 u202 u203 u204 u205 u206 u207 u208 u209 u210 u211 u212 u213 u214 u215 u216 u217 u218 u219} W1 s1=>?_)
  clear S;have S:=amk (Mm_nil s1.1);clear s1 E1 E2 E3 E4 IA1 IA2
  go_wp2_with (go_at_call 17;refine Calls.mono (spec_DrawHarderPuzzle.calls xB yB lB _ HsB.out (Kd.C_below HrB.out S.out.1)) ?_;rintro e wd ⟨P,D,A3,c3,L,rfl,hc,hr,hL,hb⟩;have IA3:=amk hc;have nS:=amk (Mm_row (Mm_box (Mm_below S.out hb) (pzB P D A3 L.length c3)) (Kd.C_alloc hr (pzB P D A3 L.length c3)));clear S;have S:=nS;clear nS;obtain ⟨k,a,b,M,tq,sv,th,e1,e2,e3,e4,e5,e6⟩:=FB.out P D L hL;have E1:=amk e1;have E2:=amk e2;have E3:=amk e3;have E4:=amk e4;have E5:=amk e5;have E6:=amk e6;clear e1 e2 e3 e4 e5 e6;clear hb hc hr hL;obtain ⟨q0,q1,q2⟩:=bx3 S.out (.head _))
  go_wp2_with (go_at_call 18;refine Calls.mono (impl_HarderPuzzle.calls k P D _ _ L a b M tq _ (Mm_r S.out (.head _)) IA3.out E1.out) ?_;rintro e w3 ⟨v,rfl,hs,hb⟩;obtain ⟨A4,c4,rfl⟩:=Kd.R_slice hs;have IA4:=amk (Kd.R_reads' hs).2.1;have nS:=amk (Mm_row (Mm_box (Mm_below S.out hb) (pzB a b A4 M.length c4)) (Kd.C_alloc (Kd.R_reads' hs).2.2 (pzB a b A4 M.length c4)));clear S;have S:=nS;clear nS;clear hs hb;clear q0 q1 q2;obtain ⟨q0,q1,q2⟩:=bx3 S.out (.tail _ (.head _)))
  go_wp2_with (go_at_call 19;refine Calls.mono (spec_HarderPuzzle.calls k P D _ _ L a b M tq _ (Mm_r S.out (.tail _ (.head _))) IA3.out E2.out) ?_;rintro e w4 ⟨v,rfl,hs,hb⟩;obtain ⟨A5,c5,rfl⟩:=Kd.R_slice hs;have IA5:=amk (Kd.R_reads' hs).2.1;have nS:=amk (Mm_row (Mm_box (Mm_below S.out hb) (pzB a b A5 M.length c5)) (Kd.C_alloc (Kd.R_reads' hs).2.2 (pzB a b A5 M.length c5)));clear S;have S:=nS;clear nS;clear hs hb;clear q0 q1 q2;obtain ⟨q0,q1,q2⟩:=bx3 S.out (.tail _ (.tail _ (.head _))))
  go_upto_region 23 with (go_at_call 20;refine Calls.mono (impl_IsSolved.calls k P D _ _ L sv th _ (Mm_r S.out (.tail _ (.tail _ (.head _)))) IA3.out E4.out) ?_;rintro e wx ⟨rfl,hb⟩;have nS:=amk (Mm_below S.out hb);clear S;have S:=nS;clear nS;clear hb;clear q0 q1 q2)
  refine KHF _ _ (fun _ _ _ _ _ h=>h) k a b M A4 A5 c4 c5 _ _ _ _ tq sv th _ S.out (.tail _ (.head _)) (.head _) (.tail _ (.head _)) (.head _) IA4.out IA5.out E3.out E5.out (fun {u237 u238 u239 u240 u241 u242 u243 u244 u245 u246 u247 u248 u249 u250 u251 u252} W2 s1=>?_)
  clear S;have S:=amk s1;clear s1
  go_upto_if 254 with (fail)
  refine KHB _ _ (fun _ _ _ _ _ h=>h) k P D a b L M A3 A4 c3 c4 _ _ _ _ tq _ S.out (.tail _ (.tail _ (.head _))) (.tail _ (.head _)) (.tail _ (.tail _ (.head _))) IA3.out (.tail _ (.head _)) IA4.out E6.out (fun {u37 u38 u39 u40 u41 u42 u255 u256 u257 u258 u259 u260 u261 u262 u263 u264 u265 u266 u267 u268 u269 u270 u271 u272 u273 u274 u275 u276 u277 u278 u279 u280 u281 u282 u283 u284 u285 u286 u287 u288 u289 u290 u291 u292 u293 u294 u295 u296 u297 u298 u299} W3 s1=>?_)
  clear S;have S:=amk (Mm_nil s1.1);clear s1 E1 E2 E3 E4 E5 E6 IA3 IA4 IA5
  go_wp2_with (go_at_call 23;refine Calls.mono (spec_DrawAddClue.calls xB yB lB _ HsB.out (Kd.C_below HrB.out S.out.1)) ?_;rintro e wd ⟨P,D,A1,c1,L,x,y,z,rfl,hc,hr,hL,hb⟩;have IA1:=amk hc;have nS:=amk (Mm_row (Mm_two (Mm_below S.out hb) (pzB P D A1 L.length c1) (clB x y z)) (Kd.C_alloc (Kd.C_alloc hr (pzB P D A1 L.length c1)) (clB x y z)));clear S;have S:=nS;clear nS;obtain ⟨kr,a,b,M,tr,e1,e2,e3,e4⟩:=FC.out P D x y z L hL;have GE1:=amk e1;have GE2:=amk e2;have GE3:=amk e3;have GE4:=amk e4;clear e1 e2 e3 e4 hb hc hr hL;obtain ⟨q0,q1,q2⟩:=bx3 S.out (.tail _ (.head _));obtain ⟨s0,s1,s2⟩:=bx3 S.out (.head _))
  go_wp2_with (go_at_call 24;refine Calls.mono (impl_AddClue.calls P D _ _ L x y z a b M tr _ (Mm_r S.out (.head _)) IA1.out GE1.out) ?_;rintro e w5 ⟨v,rfl,hs,hb⟩;obtain ⟨A2,c2,rfl⟩:=Kd.R_slice hs;have IA2:=amk (Kd.R_reads' hs).2.1;have nS:=amk (Mm_row (Mm_box (Mm_below S.out hb) (pzB a b A2 M.length c2)) (Kd.C_alloc (Kd.R_reads' hs).2.2 (pzB a b A2 M.length c2)));clear S;have S:=nS;clear nS;clear hs hb;clear q0 q1 q2 s0 s1 s2;obtain ⟨q0,q1,q2⟩:=bx3 S.out (.tail _ (.tail _ (.head _)));obtain ⟨s0,s1,s2⟩:=bx3 S.out (.tail _ (.head _)))
  go_wp2_with (go_at_call 25;refine Calls.mono (spec_AddClue.calls kr P D _ _ L x y z a b M tr _ (Mm_r S.out (.tail _ (.head _))) IA1.out GE2.out) ?_;rintro e w6 ⟨v,rfl,hs,hb⟩;obtain ⟨A3,c3,rfl⟩:=Kd.R_slice hs;have IA3:=amk (Kd.R_reads' hs).2.1;have nS:=amk (Mm_row (Mm_box (Mm_below S.out hb) (pzB a b A3 M.length c3)) (Kd.C_alloc (Kd.R_reads' hs).2.2 (pzB a b A3 M.length c3)));clear S;have S:=nS;clear nS;clear hs hb;clear q0 q1 q2 s0 s1 s2)
  go_wp2_with (go_at_call 26;refine Calls.mono (spec_DrawDropClue.calls xB yB lB _ HsB.out (Kd.C_below HrB.out S.out.1)) ?_;rintro e wd2 ⟨Ps,Ds,A4,c4,Ls,is,rfl,hc,hr,hL,hb⟩;have IA4:=amk hc;have LA4:=amk hL;have nS:=amk (Mm_row (Mm_box (Mm_below S.out hb) (pzB Ps Ds A4 Ls.length c4)) (Kd.C_alloc hr (pzB Ps Ds A4 Ls.length c4)));clear S;have S:=nS;clear nS;obtain ⟨ks,a2,b2,xs,ys,zs,Ms,ts,e1,e2,e3,e4⟩:=FD.out Ps Ds is Ls hL;have HE1:=amk e1;have HE2:=amk e2;have HE3:=amk e3;have HE4:=amk e4;clear e1 e2 e3 e4 hb hc hr hL;obtain ⟨q0,q1,q2⟩:=bx3 S.out (.head _))
  go_wp2_with (go_at_call 27;refine Calls.mono (impl_DropClue.calls Ps Ds _ _ Ls is a2 b2 Ms ts _ (Mm_r S.out (.head _)) IA4.out HE1.out) ?_;rintro e w7 ⟨v,rfl,hs,hb⟩;obtain ⟨A5,c5,rfl⟩:=Kd.R_slice hs;have IA5:=amk (Kd.R_reads' hs).2.1;have nS:=amk (Mm_row (Mm_box (Mm_below S.out hb) (pzB a2 b2 A5 Ms.length c5)) (Kd.C_alloc (Kd.R_reads' hs).2.2 (pzB a2 b2 A5 Ms.length c5)));clear S;have S:=nS;clear nS;clear hs hb;clear q0 q1 q2;obtain ⟨q0,q1,q2⟩:=bx3 S.out (.tail _ (.head _)))
  go_wp2_with (go_at_call 28;refine Calls.mono (spec_DropClue.calls ks Ps Ds _ _ Ls is a2 b2 Ms ts _ (Mm_r S.out (.tail _ (.head _))) IA4.out HE2.out) ?_;rintro e w8 ⟨v,rfl,hs,hb⟩;obtain ⟨A6,c6,rfl⟩:=Kd.R_slice hs;have IA6:=amk (Kd.R_reads' hs).2.1;have nS:=amk (Mm_row (Mm_box (Mm_below S.out hb) (pzB a2 b2 A6 Ms.length c6)) (Kd.C_alloc (Kd.R_reads' hs).2.2 (pzB a2 b2 A6 Ms.length c6)));clear S;have S:=nS;clear nS;clear hs hb;clear q0 q1 q2)
  go_wp2_with (go_at_call 29;refine Calls.mono (spec_DrawDoesFit.calls xB yB lB _ HsB.out (Kd.C_below HrB.out S.out.1)) ?_;rintro e wd3 ⟨pm,dm,xm,ym,zm,sm,rfl,hb⟩;have nS:=amk (Mm_two (Mm_below S.out hb) (lkB pm dm) (clB xm ym zm));clear S;have S:=nS;clear nS;obtain ⟨km,ft,tm,e1,e2,e3⟩:=FE.out pm dm xm ym zm sm;have JE1:=amk e1;have JE2:=amk e2;have JE3:=amk e3;clear e1 e2 e3 hb;obtain ⟨q0,q1⟩:=bx2 S.out (.tail _ (.head _));obtain ⟨s0,s1,s2⟩:=bx3 S.out (.head _))
  go_wp2_with (go_at_call 12;refine Calls.mono (impl_DoesFit.calls km pm dm xm ym zm sm ft tm _ JE1.out) ?_;rintro e wx ⟨rfl,hb⟩;have nS:=amk (Mm_below S.out hb);clear S;have S:=nS;clear nS;clear hb;clear q0 q1 s0 s1 s2;obtain ⟨q0,q1⟩:=bx2 S.out (.tail _ (.head _));obtain ⟨s0,s1,s2⟩:=bx3 S.out (.head _))
  go_wp2_with (go_at_call 30;refine Calls.mono (spec_DoesFit.calls km pm dm xm ym zm sm ft tm _ JE2.out) ?_;rintro e wx ⟨rfl,hb⟩;have nS:=amk (Mm_below S.out hb);clear S;have S:=nS;clear nS;clear hb;clear q0 q1 s0 s1 s2)
  go_upto_region 41 with (go_at_call 31;refine Calls.mono (spec_DrawIsClue.calls xB yB lB _ HsB.out (Kd.C_below HrB.out S.out.1)) ?_;rintro e wd4 ⟨pn,dn,xn,yn,zn,rfl,hb⟩;have nS:=amk (Mm_two (Mm_below S.out hb) (lkB pn dn) (clB xn yn zn));clear S;have S:=nS;clear nS;obtain ⟨kn,ic,e1,e2⟩:=FF.out pn dn xn yn zn;have KE1:=amk e1;have KE2:=amk e2;clear e1 e2 hb)
  refine KHC _ _ (fun _ _ _ _ _ h=>h) kr ks kn km a b a2 b2 pm dm xm ym zm pn dn xn yn zn M Ms A2 A3 A5 A6 c2 c3 c5 c6 _ _ _ _ _ _ _ _ _ _ tr ts tm ft ic _ S.out (.tail _ (.tail _ (.tail _ (.tail _ (.tail _ (.tail _ (.tail _ (.tail _ (.head _))))))))) (.tail _ (.tail _ (.tail _ (.tail _ (.tail _ (.tail _ (.tail _ (.head _)))))))) (.tail _ (.tail _ (.tail _ (.tail _ (.tail _ (.head _)))))) (.tail _ (.tail _ (.tail _ (.tail _ (.head _))))) (.tail _ (.tail _ (.tail _ (.head _)))) (.tail _ (.tail _ (.head _))) (.tail _ (.head _)) (.head _) (.tail _ (.tail _ (.tail _ (.tail _ (.head _))))) (.tail _ (.tail _ (.tail _ (.head _)))) (.tail _ (.head _)) (.head _) IA2.out IA3.out IA5.out IA6.out GE3.out HE3.out KE1.out KE2.out JE3.out (fun {u359 u360 u361 u362 u363 u364 u365 u366 u367 u368 u369 u370 u371 u372 u373 u374 u375 u376 u377 u378 u379 u380 u381 u382 u383 u384 u385 u386 u387 u388 u389 u390 u391 u392 u393 u394 u395 u396 u397 u398 u399 u400 u401 u402 u403 u404 u405} W4 s1=>?_)
  clear S;have S:=amk s1;clear s1
  go_upto_if 407 with (fail)
  refine KHD _ _ (fun _ _ _ _ _ h=>h) kr P D a b x y z L M A1 A2 c1 c2 _ _ _ _ _ tr _ S.out (.tail _ (.tail _ (.tail _ (.tail _ (.tail _ (.tail _ (.tail _ (.tail _ (.tail _ (.tail _ (.head _))))))))))) (.tail _ (.tail _ (.tail _ (.tail _ (.tail _ (.tail _ (.tail _ (.tail _ (.tail _ (.head _)))))))))) (.tail _ (.tail _ (.tail _ (.tail _ (.tail _ (.tail _ (.tail _ (.tail _ (.head _))))))))) (.tail _ (.tail _ (.tail _ (.tail _ (.tail _ (.head _)))))) (.tail _ (.tail _ (.tail _ (.tail _ (.head _))))) IA1.out IA2.out GE4.out (fun {u64 u65 u408 u409 u410 u411 u412 u413 u414 u415 u416 u417 u418 u419 u420 u421 u422 u423 u424 u425 u426 u427 u428 u429 u430 u431 u432 u433 u434} W5 s1=>?_)
  clear S;have S:=amk s1;clear s1
  go_upto_region 47 with (fail)
  refine KHG _ _ (fun _ _ _ _ _ h=>h) Ps Ds is Ls A4 c4 _ _ _ ts (ts && (is == (Ls.length:Int) - 1)) _ S.out (.tail _ (.tail _ (.tail _ (.tail _ (.tail _ (.tail _ (.head _))))))) LA4.out rfl (fun {u435 u436 u437 u438 u439 u440 u441 u442} W6 s1=>?_)
  clear S;have S:=amk s1;clear s1
  go_upto_if 443 with (fail)
  refine KHE _ _ (by exact fun _ _ _ _ _ h=>h) ks Ps Ds a2 b2 is xs ys zs Ls Ms A4 A5 c4 c5 _ _ _ _ _ _ S.out (.tail _ (.tail _ (.tail _ (.tail _ (.tail _ (.tail _ (.head _))))))) (.tail _ (.tail _ (.tail _ (.tail _ (.tail _ (.head _)))))) (.tail _ (.tail _ (.head _))) (.tail _ (.head _)) IA4.out IA5.out HE4.out (fun {u66 u67 u444 u445 u446 u447 u448 u449 u450 u451 u452 u453 u454 u455 u456 u457 u458 u459} W7 s1=>?_) (fun W7 s1=>?_)
  · go_ret;exact ⟨rfl,s1.1⟩
  · go_wp2;go_ret;exact ⟨rfl,s1.1⟩
section
/-! What a readable argument holds, told by kinds: the bridge from a statement's reading to the print's words. -/
open Go.WideShapes in
def Opens {α:Type} (P:Program) (t:TypeId) (d:Kd α) (V:α→Prop):Prop:=
  ∀ (H : Type) (enc : TypeId × Value → H) (w : World) (base : Nat) (spare : Nat → Bool) (held : Bool) (fuel : Nat) (cs : List Value) (x : DataW H × List MemPlace),
    DataW.trod enc P w base spare held fuel t cs=some x→∃ a:α,d.K w a cs∧V a
def ListV {α:Type} (V:α→Prop) (l:List α):Prop:=l.length≤9223372036854775807∧∀ x∈l,V x
def U8V (x:Int):Prop:=0≤x∧x < 256
theorem opens_u8 {P:Program} {t:TypeId} (ht:P.underlying t=some (.int .u8)):Opens P t (Kd.int .u8) U8V:=by
  intro H enc w base spare held fuel cs x h
  obtain ⟨n,rfl,_,hw⟩:=DataW.trod_int ht h
  refine ⟨n,rfl,?_⟩
  have hb:(IntKind.u8.min≤n∧n≤IntKind.u8.max):=by simpa [Lit.wf] using hw
  have e1:IntKind.u8.min=0:=rfl
  have e2:IntKind.u8.max=255:=rfl
  rw [e1,e2] at hb
  unfold U8V
  omega
theorem cells_list {w:World} {base:Nat} {a:Addr} {n:Nat} {cs:List Value} (h:w.cells? base a n=some cs):cs.length=n∧∀ i u,cs[i]?=some u→w.cell? (a.add i)=some u:=by
  unfold World.cells? at h
  split at h
  · have hl:=mapM_some_length h
    refine ⟨by simpa using hl,fun i u hu=>?_⟩
    have hi:i < n:=by
      have:=(List.getElem?_eq_some_iff.1 hu).1
      rw [hl] at this;simpa using this
    have:=mapM_some_get h i i (by simp [hi])
    rw [hu] at this
    exact this
  · cases h
theorem opens_slice {α:Type} {P:Program} {t e:TypeId} {d:Kd α} {V:α→Prop} (ht:P.underlying t=some (.slice e)) (hd:Opens P e d V) (hsz:P.cellsOf e=d.sz):Opens P t (Kd.slice e d) (ListV V):=by
  intro H enc w base spare held fuel cs x h
  rcases Go.Deep.open_slice ht h with ⟨rfl,_⟩ | ⟨a,len,cap,m,n,D,Pl,rfl,_,hl,hm,hmm,_,hel⟩
  · exact ⟨[],⟨none,0,rfl,Nat.le_refl _,⟨rfl,by simp,fun h0=>absurd h0 (by simp)⟩⟩,⟨by simp,fun x hx=>by simp at hx⟩⟩
  · have hle:len≤m:=by rw [hmm];split <;> omega
    have each : ∀ i:Nat,∃ a':Option α,i < len→∃ z cs',a'=some z∧V z∧d.K w z cs'∧∀ j u,cs'[j]?=some u→w.cell? (a.add (i * d.sz + j))=some u:=by
      intro i
      by_cases hi:i < len
      · obtain ⟨cs',h1,h2⟩:=hel i (by omega)
        obtain ⟨z,hK,hV⟩:=hd H enc w base spare held n cs' _ h2
        refine ⟨some z,fun _=>⟨z,cs',rfl,hV,hK,fun j u hu=>?_⟩⟩
        obtain ⟨_,hc⟩:=cells_list h1
        have:=hc j u hu
        rw [Go.Deep.add_add,hsz] at this
        exact this
      · exact ⟨none,fun h0=>absurd h0 hi⟩
    have ⟨f,hf⟩:=Classical.axiomOfChoice each
    have hz : ∀ i,i < len→∃ z,f i=some z∧V z∧∃ cs',d.K w z cs'∧∀ j u,cs'[j]?=some u→w.cell? (a.add (i * d.sz + j))=some u:=by
      intro i hi
      obtain ⟨z,cs',h1,h2,h3,h4⟩:=hf i hi
      exact ⟨z,h1,h2,cs',h3,h4⟩
    have hlist : ∃ l:List α,l.length=len∧∀ i,i < len→f i=l[i]?:=by
      clear hf each hel hmm hle
      have : ∀ n,n≤len→∃ l:List α,l.length=n∧∀ i,i < n→f i=l[i]?:=by
        intro n
        induction n with
        | zero=>intro _;exact ⟨[],rfl,fun i hi=>by omega⟩
        | succ n ih =>
          intro hn
          obtain ⟨l,hl1,hl2⟩:=ih (by omega)
          obtain ⟨z,h1,_⟩:=hz n (by omega)
          refine ⟨l ++ [z],by simp [hl1],fun i hi=>?_⟩
          by_cases e:i < n
          · rw [List.getElem?_append_left (by omega)];exact hl2 i e
          · obtain rfl:i=n:=by omega
            rw [h1,←hl1];simp
      exact this len (Nat.le_refl _)
    obtain ⟨l,hlen,hget⟩:=hlist
    have hV : ∀ x∈l,V x:=by
      intro x hx
      obtain ⟨i,hi,rfl⟩:=List.getElem_of_mem hx
      obtain ⟨z,h1,h2,_⟩:=hz i (by omega)
      have h3:=hget i (by omega)
      rw [h1,List.getElem?_eq_getElem hi] at h3
      injection h3 with h3
      rw [←h3];exact h2
    unfold maxLen at hm
    subst hlen
    refine ⟨l,⟨some a,cap,rfl,hl,⟨rfl,by omega,fun _=>⟨a,rfl,fun j p hp=>?_⟩⟩⟩,⟨by omega,hV⟩⟩
    have hj:j < l.length:=(List.getElem?_eq_some_iff.1 hp).1
    obtain ⟨z,h1,_,cs',h3,h4⟩:=hz j hj
    have h5:=hget j hj
    rw [h1,hp] at h5
    injection h5 with h5
    subst h5
    exact ⟨cs',d.K_len h3,h3,h4⟩
section
variable {H:Type} {enc:TypeId×Value→H} {P:Program} {w:World} {base:Nat} {spare:Nat→Bool} {held:Bool} {r:Reach} {b0:Nat} {t:TypeId} {v:Value} {x:DataW H} {p:List MemPlace}
theorem arg_slice {α:Type} {d:Kd α} {e:TypeId} {V:List α→Prop} (ho:Opens P t (Kd.slice e d) V) (ht:P.underlying t=some (.slice e)) (hv:Value.okWide P w r b0 t v) (h:DataW.Trod enc P w base spare held t v x p) :
    ∃ A l c,v = .slice A (List.length l) c∧l.length≤c∧d.C w A l.length l∧V l:=by
  obtain ⟨a,len,cap,rfl⟩:=WideShapes.okWide_slice ht hv
  obtain ⟨fuel,hf⟩:=h
  obtain ⟨l,⟨A,c,hc,hl,hC⟩,hV⟩:=ho H enc w base spare held fuel _ _ hf
  simp only [Value.cells,List.cons.injEq,and_true] at hc
  injection hc with e1 e2 e3
  subst e1 e2 e3
  exact ⟨_,l,_,rfl,hl,hC,hV⟩
theorem arg_lt (h:DataW.Trod enc P w base spare held t v x p) : ∀ y∈p,y.block < w.heap.size:=by
  obtain ⟨m,hm⟩:=h
  exact DataW.trod_lt m _ _ _ hm
end
end
/-! Facts that hold from some number of rounds on. -/
def Evt (P:Nat→Prop):Prop:= ∃ K,∀ k,K≤k→P k
theorem Evt.and {P Q:Nat→Prop} (h:Evt P) (g:Evt Q):Evt fun k=>P k∧Q k:=by
  obtain ⟨a,h⟩:=h
  obtain ⟨b,g⟩:=g
  exact ⟨a + b,fun k hk=>⟨h k (by omega),g k (by omega)⟩⟩
/-! spec's puzzles: what they come to. -/
theorem spec_pzGood.lev (w d:Int) (hl:lockB w d=true) (l:List S44) (hn:l.length≤9223372036854775807) : ∀ (j:Nat) (i:Int),0≤i→i≤l.length→(l.length:Int) - i=j →
    Ev (fun k=>spec_pzGood.l0 k l (l.length:Int) i w d l) ((l.drop i.toNat).all fun c=>clueB w d c.f0 c.f1 c.f2):=by
  intro j
  induction j with
  | zero =>
    intro i h0 hi hj
    refine Ev.step (fun k=>rfl) (Ev.no (by omega) (Ev.id ?_))
    rw [List.drop_eq_nil_of_le (by omega)];rfl
  | succ j ih =>
    intro i h0 hi hj
    have hlt:i.toNat < l.length:=by omega
    refine Ev.step (fun k=>rfl) (Ev.yes (by omega) (Ev.yes h0 (Ev.yes (by omega) ?_)))
    refine Ev.bind (spec_pzClue.ev w d _ _ _ hl) ?_
    rw [List.drop_eq_getElem_cons hlt,List.all_cons,←rd_clue hlt]
    cases clueB w d (rd_T44 l i).f0 (rd_T44 l i).f1 (rd_T44 l i).f2 with
    | false=>exact Ev.no (by simp) (Ev.id (by simp))
    | true =>
      refine Ev.yes rfl ?_
      rw [w64 (x:=i + 1) (by omega) (by omega),Bool.true_and,←toNat_succ h0]
      exact ih (i + 1) (by omega) (by omega) (by omega)
theorem spec_pzGood.ev (w d:Int) (l:List S44) (hn:l.length≤9223372036854775807):Ev (fun k=>spec_pzGood.f k w d l) (puzzleB w d l):=by
  unfold spec_pzGood.f puzzleB
  refine Ev.bind (spec_pzLock.ev w d) ?_
  cases h:smallB w d 125 with
  | false =>
    refine Ev.no (by simp) (Ev.step (fun k=>rfl) ?_)
    simp only [spec_pzGood.j0]
    exact Ev.id (by simp)
  | true =>
    refine Ev.yes rfl (Ev.step (fun k=>rfl) ?_)
    simp only [spec_pzGood.j0]
    by_cases h6:l.length≤6
    · refine Ev.no (by simp;omega) ?_
      have:=spec_pzGood.lev w d (smallB_lock h) l hn l.length 0 (by omega) (by omega) (by omega)
      simpa [h6] using this
    · exact Ev.yes (by simp;omega) (Ev.id (by simp [h6]))
/-! What AddClue comes to, over numbers and lists alone. -/
def addB (w d:Int) (l:List S44) (a b c:Int):Bool:=puzzleB w d l && (clueB w d a b c && !((l.length:Int) == 6))
def addR (w d:Int) (l:List S44) (a b c:Int):Int×Int×List S44×Bool:=if addB w d l a b c=true then (w,d,l ++ [⟨a,b,c⟩],true) else (0,0,[],false)
theorem puzzleB_snoc {w d:Int} {l:List S44} (h:puzzleB w d l=true) (x:S44):puzzleB w d (l ++ [x])=(clueB w d x.f0 x.f1 x.f2 && !((l.length:Int) == 6)):=by
  obtain ⟨h1,h2,h3⟩:=puzzleB_parts h
  unfold puzzleB at h ⊢
  rw [Bool.and_eq_true,Bool.and_eq_true] at h
  obtain ⟨⟨s1,s2⟩,s3⟩:=h
  rw [s1,List.all_append,s3,Bool.true_and,Bool.true_and,List.length_append]
  by_cases e:(l.length:Int)=6
  · rw [decide_eq_false (by simp;omega),show ((l.length:Int) == 6)=true from beq_iff_eq.mpr e]
    simp
  · rw [decide_eq_true (by simp;omega),show ((l.length:Int) == 6)=false from beq_eq_false_iff_ne.mpr e]
    simp
theorem spec_AddClue.ev (w d:Int) (l:List S44) (a b c:Int) (hn:l.length≤1048576):Ev (fun k=>spec_AddClue.f k w d l a b c) (addR w d l a b c):=by
  unfold spec_AddClue.f addR addB
  refine Ev.bind (spec_pzGood.ev w d l (by omega)) ?_
  cases h:puzzleB w d l with
  | false=>exact Ev.no (by simp) (Ev.id (by simp))
  | true =>
    obtain ⟨h1,h2,h3⟩:=puzzleB_parts h
    refine Ev.yes rfl (Ev.bind (spec_pzClue.ev w d a b c h1) ?_)
    cases h4:clueB w d a b c with
    | false=>exact Ev.no (by simp) (Ev.id (by simp))
    | true =>
      refine Ev.yes rfl ?_
      by_cases e:(l.length:Int)=6
      · exact Ev.yes e (Ev.id (by simp [e]))
      · refine Ev.no e ?_
        simp only [Option.bind_some,List.nil_append,List.length_nil,List.length_cons]
        exact Ev.yes (by omega) (Ev.yes (by omega) (Ev.id (by rw [if_pos];simp;omega)))
theorem impl_AddClue.is (w d:Int) (l:List S44) (a b c:Int) (hn:l.length≤1048576):impl_AddClue.f w d l a b c=some (addR w d l a b c):=by
  unfold impl_AddClue.f addR addB impl_IsPuzzle.f
  rw [slices_Clone_impl_Clue_impl_Clue.is (by omega)]
  simp only [Option.bind_some,List.length_cons,List.length_nil]
  rw [if_pos (by omega)]
  cases h:puzzleB w d l with
  | false=>rw [if_neg (by simp),if_neg (by simp)]
  | true =>
    rw [if_pos rfl,puzzleB_snoc h,Bool.true_and]
    cases e:(clueB w d a b c && !((l.length:Int) == 6)) with
    | true=>rw [if_pos rfl,if_pos rfl]
    | false=>rw [if_neg (by simp),if_neg (by simp)]
/-! What DoesFit comes to, over numbers and lists alone. -/
def doesV (w d a b c:Int) (s:ByteArray):Bool×Bool:=if (smallB w d 125 && clueB w d a b c && codeT w d s)=true then (fitV w d (a,b,c) s,true) else (false,false)
theorem spec_DoesFit.ev (w d a b c:Int) (s:ByteArray):Ev (fun k=>spec_DoesFit.f k w d a b c s) (doesV w d a b c s):=by
  unfold spec_DoesFit.f doesV
  refine Ev.bind (spec_pzLock.ev w d) ?_
  cases h:smallB w d 125 with
  | false=>exact Ev.no (by simp) (Ev.id (by simp))
  | true =>
    have hl:=smallB_lock h
    refine Ev.yes rfl (Ev.bind (spec_whCode.ev hl s) ?_)
    cases h2:codeT w d s with
    | false=>exact Ev.no (by simp) (Ev.id (by simp))
    | true =>
      refine Ev.yes rfl (Ev.bind (spec_pzClue.ev w d a b c hl) ?_)
      cases h3:clueB w d a b c with
      | false=>exact Ev.no (by simp) (Ev.id (by simp))
      | true=>exact Ev.yes rfl (Ev.bind (spec_pzFits.ev hl (codeT_iff.mp h2) h3) (Ev.id (by simp)))
theorem impl_DoesFit.ev (w d a b c:Int) (s:ByteArray):Ev (fun k=>impl_DoesFit.f k w d a b c s) (doesV w d a b c s):=by
  unfold impl_DoesFit.f doesV
  refine Ev.bind (impl_IsClue.ev w d a b c) ?_
  cases h:smallB w d 125 with
  | false=>exact Ev.no (by simp) (Ev.id (by simp))
  | true =>
    have hl:=smallB_lock h
    cases h3:clueB w d a b c with
    | false=>exact Ev.no (by simp) (Ev.id (by simp))
    | true =>
      refine Ev.yes rfl (Ev.bind (impl_has.one hl s) ?_)
      cases h2:codeT w d s with
      | false=>exact Ev.no (by simp) (Ev.id (by simp))
      | true =>
        refine Ev.yes rfl (Ev.bind (impl_Lock_fit.ev hl (codeT_iff.mp h2) [⟨a,b,c⟩] (fun x hx=>by rw [List.mem_singleton.mp hx];exact h3)) (Ev.id ?_))
        simp [fitA]
/-! Clues without one: spec's and impl's. -/
theorem spec_pzWithout.is (l:List S44) (a:Int) (hn:l.length≤1048576) (h0:0≤a) (h1:a < l.length):spec_pzWithout.f l a=some (l.eraseIdx a.toNat):=by
  unfold spec_pzWithout.f
  simp only [Option.bind_some,w64 (x:=a + 1) (by omega) (by omega),List.nil_append,List.length_nil]
  have e1:(List.take a.toNat l).length≤l.length:=by rw [List.length_take];omega
  have e2:(List.drop (a + 1).toNat l).length≤l.length:=by rw [List.length_drop];omega
  rw [if_pos h0,if_pos (by omega),if_pos (by omega),if_pos (by omega),if_pos (by omega),if_pos (by omega)]
  rw [List.eraseIdx_eq_take_drop_succ,toNat_succ h0]
theorem spec_DropClue.ev (w d:Int) (l:List S44) (a:Int) (hn:l.length≤1048576) :
    Ev (fun k=>spec_DropClue.f k w d l a) (if puzzleB w d l=true∧0≤a∧a < l.length then (w,d,l.eraseIdx a.toNat,true) else (0,0,[],false)):=by
  unfold spec_DropClue.f
  refine Ev.bind (spec_pzGood.ev w d l (by omega)) ?_
  cases h:puzzleB w d l with
  | false=>exact Ev.no (by simp) (Ev.id (by simp))
  | true =>
    refine Ev.yes rfl ?_
    simp only [spec_l1In.is,Option.bind_some,w64 (x:=(l.length:Int) - 1) (by omega) (by omega)]
    by_cases h1:0≤a∧a < l.length
    · refine Ev.yes (by simp;omega) ?_
      rw [spec_pzWithout.is l a hn h1.1 h1.2,if_pos ⟨by simp,h1⟩]
      exact Ev.now _
    · refine Ev.no (by simp;omega) ?_
      rw [if_neg (fun h=>h1 h.2)]
      exact Ev.now _
theorem impl_DropClue.is (w d:Int) (l:List S44) (a:Int) (hn:l.length≤1048576) :
    impl_DropClue.f w d l a=some (if puzzleB w d l=true∧0≤a∧a < l.length then (w,d,l.eraseIdx a.toNat,true) else (0,0,[],false)):=by
  unfold impl_DropClue.f impl_IsPuzzle.f
  simp only [Option.bind_some,impl_within.is,w64 (x:=(l.length:Int) - 1) (by omega) (by omega)]
  cases h:puzzleB w d l with
  | false=>rw [if_neg (by simp),if_neg (by simp)]
  | true =>
    rw [if_pos rfl]
    by_cases h1:0≤a∧a < l.length
    · rw [if_pos (by simp;omega),impl_but.is (by omega) h1.1 h1.2,if_pos ⟨by simp,h1⟩]
      rfl
    · rw [if_neg (by simp;omega),if_neg (fun h=>h1 h.2)]
/-! The laws' comparison of puzzles: what it comes to at two that are alike. -/
theorem laws_ePuzzle.ev (p d:Int) (l:List S44) (hn:l.length≤1000000):Ev (fun k=>laws_ePuzzle.f k p d l p d l) true:=by
  have h0 : ∀ (m i:Nat),i + m=l.length→Ev (fun k=>laws_ePuzzle.l0 k (l.length:Int) (i:Nat) p d l p d l) true:=by
    intro m
    induction m with
    | zero=>intro i hi;exact Ev.step (fun k=>rfl) (Ev.no (by omega) (Ev.now _))
    | succ m ih =>
      intro i hi
      refine Ev.step (fun k=>rfl) (Ev.yes (by omega) (Ev.yes (by omega) (Ev.yes (by omega) (Ev.yes (by omega) (Ev.no (by simp) ?_)))))
      rw [show wrap64 ((i:Int) + 1)=((i + 1:Nat):Int) from w64 (by omega) (by omega)]
      exact ih (i + 1) (by omega)
  unfold laws_ePuzzle.f
  refine Ev.no (by simp) ?_
  rw [show ((l.length:Int) != (l.length:Int))=false by simp]
  exact Ev.step (fun k=>(by rw [laws_ePuzzle.j0,if_neg (by simp)]:laws_ePuzzle.j0 (k + 1) false p d l p d l=laws_ePuzzle.l0 k (l.length:Int) 0 p d l p d l)) (h0 l.length 0 (by omega))
/-! The laws' comparisons of texts: what they come to. -/
theorem laws_eTexts.ev (l:List ByteArray) (hn:l.length≤1000000):Ev (fun k=>laws_eTexts.f k l l) true:=by
  have : ∀ (m i:Nat),i + m=l.length→Ev (fun k=>laws_eTexts.l0 k l l (l.length:Int) (i:Nat)) true:=by
    intro m
    induction m with
    | zero=>intro i hi;exact Ev.step (fun k=>rfl) (Ev.no (by omega) (Ev.now _))
    | succ m ih =>
      intro i hi
      refine Ev.step (fun k=>rfl) (Ev.yes (by omega) (Ev.yes (by omega) (Ev.yes (by omega) (Ev.yes (by omega) (Ev.yes rfl ?_)))))
      rw [show wrap64 ((i:Int) + 1)=((i + 1:Nat):Int) from w64 (by omega) (by omega)]
      exact ih (i + 1) (by omega)
  unfold laws_eTexts.f
  exact Ev.yes rfl (this l.length 0 (by omega))
theorem laws_eText.ev (l:List ByteArray) (hn:l.length≤1000000) (s:ByteArray):Ev (fun k=>laws_eText.f k l s) (l.any fun x=>decide (x.toList=s.toList)):=by
  have : ∀ (m i:Nat),i + m=l.length→Ev (fun k=>laws_eText.l0 k s l (l.length:Int) (i:Nat)) ((l.drop i).any fun x=>decide (x.toList=s.toList)):=by
    intro m
    induction m with
    | zero =>
      intro i hi
      refine Ev.step (fun k=>rfl) (Ev.no (by omega) (Ev.id ?_))
      rw [List.drop_eq_nil_of_le (by omega)];rfl
    | succ m ih =>
      intro i hi
      have hlt:i < l.length:=by omega
      rw [List.drop_eq_getElem_cons hlt,List.any_cons]
      refine Ev.step (fun k=>rfl) (Ev.yes (by omega) (Ev.yes (by omega) (Ev.yes (by omega) ?_)))
      rw [rd_str hlt]
      by_cases h:l[i].toList=s.toList
      · exact Ev.yes h (Ev.id (by rw [decide_eq_true h];rfl))
      · refine Ev.no h ?_
        rw [show wrap64 ((i:Int) + 1)=((i + 1:Nat):Int) from w64 (by omega) (by omega),decide_eq_false h,Bool.false_or]
        exact ih (i + 1) (by omega)
  unfold laws_eText.f
  have:=this l.length 0 (by omega)
  rw [List.drop_zero] at this
  exact this
/-! What HarderPuzzle comes to, over numbers and lists alone. -/
def hardV (w d:Int):Nat→List S44→Nat→List S44
  | 0,l,_=>l
  | m + 1,l,i=>if (solA w d (l.eraseIdx i) (d ^ w.toNat).toNat).length=1 then hardV w d m (l.eraseIdx i) i else hardV w d m l (i + 1)
theorem hardV_len (w d:Int) : ∀ (m:Nat) (l:List S44) (i:Nat),(hardV w d m l i).length≤l.length
  | 0,l,_=>Nat.le_refl _
  | m + 1, l, i => by
    unfold hardV
    by_cases e:(solA w d (l.eraseIdx i) (d ^ w.toNat).toNat).length=1
    · rw [if_pos e];exact Nat.le_trans (hardV_len w d m _ i) (List.length_eraseIdx_le l i)
    · rw [if_neg e];exact hardV_len w d m l (i + 1)
theorem eraseH_ok {w d:Int} {l:List S44} (h : ∀ c∈l,clueB w d c.f0 c.f1 c.f2=true) (i:Nat) : ∀ c∈l.eraseIdx i,clueB w d c.f0 c.f1 c.f2=true:=fun c hc=>h c (List.mem_of_mem_eraseIdx hc)
theorem spec_pzWithout.oneH {l:List S44} {i:Nat} (h6:l.length≤6) (hi:i < l.length):spec_pzWithout.f l (i:Nat)=some (l.eraseIdx i):=by
  unfold spec_pzWithout.f
  have hw:wrap64 ((i:Int) + 1)=((i + 1:Nat):Int):=w64 (by omega) (by omega)
  simp only [Option.bind_some,hw,Int.toNat_natCast,List.nil_append]
  rw [if_pos (by omega),if_pos (by omega),if_pos (by simp;omega),if_pos (by omega),if_pos (by omega),if_pos (by simp;omega),List.eraseIdx_eq_take_drop_succ]
theorem spec_pzSolved.ev {w d:Int} (hl:lockB w d=true) (l:List S44) (hln:l.length≤6) (h : ∀ c∈l,clueB w d c.f0 c.f1 c.f2=true):Ev (fun k=>spec_pzSolved.f k w d l) (((solA w d l (d ^ w.toNat).toNat).length:Int) == 1):=by
  unfold spec_pzSolved.f
  exact Ev.bind (spec_pzAll.ev hl l hln h) (Ev.now _)
theorem spec_HarderPuzzle.lev {w d:Int} (hl:lockB w d=true) (p:List S44) : ∀ (m:Nat) (l:List S44) (i:Nat),i + m=l.length→l.length≤6→(∀ c∈l,clueB w d c.f0 c.f1 c.f2=true)→Ev (fun k=>spec_HarderPuzzle.l0 k l (i:Nat) w d p) (w,d,hardV w d m l i,true):=by
  intro m
  induction m with
  | zero=>intro l i hi h6 h;exact Ev.step (fun k=>rfl) (Ev.no (by omega) (Ev.now _))
  | succ m ih =>
    intro l i hi h6 h
    have he:(l.eraseIdx i).length + 1=l.length:=by rw [List.length_eraseIdx_of_lt (by omega)];omega
    refine Ev.step (fun k=>rfl) (Ev.yes (by omega) (Ev.bindc (spec_pzWithout.oneH h6 (by omega)) (Ev.bind (spec_pzSolved.ev hl _ (by omega) (eraseH_ok h i)) ?_)))
    unfold hardV
    by_cases e:(solA w d (l.eraseIdx i) (d ^ w.toNat).toNat).length=1
    · rw [if_pos e]
      exact Ev.yes (by simp [e]) (ih _ i (by omega) (by omega) (eraseH_ok h i))
    · rw [if_neg e,show wrap64 ((i:Int) + 1)=((i + 1:Nat):Int) from w64 (by omega) (by omega)]
      exact Ev.no (by simp;omega) (ih l (i + 1) (by omega) h6 h)
theorem impl_HarderPuzzle.lev {w d:Int} (hl:lockB w d=true) (p:List S44) : ∀ (m:Nat) (l:List S44) (i:Nat),i + m=l.length→l.length≤6→(∀ c∈l,clueB w d c.f0 c.f1 c.f2=true)→Ev (fun k=>impl_HarderPuzzle.l0 k l (i:Nat) w d p) (w,d,hardV w d m l i,true):=by
  intro m
  induction m with
  | zero=>intro l i hi h6 h;exact Ev.step (fun k=>rfl) (Ev.no (by omega) (Ev.now _))
  | succ m ih =>
    intro l i hi h6 h
    have he:(l.eraseIdx i).length + 1=l.length:=by rw [List.length_eraseIdx_of_lt (by omega)];omega
    have hb:impl_but.f l (i:Nat)=some (l.eraseIdx i):=by
      unfold impl_but.f
      rw [if_pos ⟨by omega,by omega,by omega⟩,Int.toNat_natCast]
    refine Ev.step (fun k=>rfl) (Ev.yes (by omega) (Ev.bindc hb (Ev.bind (impl_Lock_solutions.ev hl _ (eraseH_ok h i)) ?_)))
    unfold hardV
    by_cases e:(solA w d (l.eraseIdx i) (d ^ w.toNat).toNat).length=1
    · rw [if_pos e]
      exact Ev.yes (by omega) (ih _ i (by omega) (by omega) (eraseH_ok h i))
    · rw [if_neg e,show wrap64 ((i:Int) + 1)=((i + 1:Nat):Int) from w64 (by omega) (by omega)]
      exact Ev.no (by omega) (ih l (i + 1) (by omega) h6 h)
def hardR (w d:Int) (l:List S44):Int×Int×List S44×Bool:=
  if puzzleB w d l=true∧(solA w d l (d ^ w.toNat).toNat).length=1 then (w,d,hardV w d l.length l 0,true) else (0,0,[],false)
theorem hardR_len (w d:Int) (l:List S44):(hardR w d l).2.2.1.length≤6:=by
  unfold hardR
  by_cases e:puzzleB w d l=true∧(solA w d l (d ^ w.toNat).toNat).length=1
  · rw [if_pos e]
    obtain ⟨_,h2,_⟩:=puzzleB_parts e.1
    exact Nat.le_trans (hardV_len w d _ l 0) h2
  · rw [if_neg e];exact Nat.zero_le _
theorem hardR_yes {w d:Int} {l:List S44} (h:puzzleB w d l=true) (e:(solA w d l (d ^ w.toNat).toNat).length=1):hardR w d l=(w,d,hardV w d l.length l 0,true):=by unfold hardR;exact if_pos ⟨h,e⟩
theorem hardR_no {w d:Int} {l:List S44} (h : ¬ (puzzleB w d l=true∧(solA w d l (d ^ w.toNat).toNat).length=1)):hardR w d l=(0,0,[],false):=by unfold hardR;exact if_neg h
theorem spec_HarderPuzzle.ev (w d:Int) (l:List S44) (hn:l.length≤9223372036854775807):Ev (fun k=>spec_HarderPuzzle.f k w d l) (hardR w d l):=by
  unfold spec_HarderPuzzle.f
  refine Ev.bind (spec_pzGood.ev w d l hn) ?_
  cases h:puzzleB w d l with
  | true =>
    obtain ⟨h1,h2,h3⟩:=puzzleB_parts h
    refine Ev.yes rfl (Ev.bind (spec_pzSolved.ev h1 l h2 h3) (Ev.step (fun k=>rfl) ?_))
    simp only [spec_HarderPuzzle.j0]
    by_cases e:(solA w d l (d ^ w.toNat).toNat).length=1
    · rw [hardR_yes h e]
      refine Ev.no (by simp [e]) ?_
      simp only [Option.bind_some,List.nil_append]
      exact Ev.yes (by simp;omega) (spec_HarderPuzzle.lev h1 l l.length l 0 (by omega) h2 h3)
    · rw [hardR_no (fun hh=>e hh.2)]
      exact Ev.yes (by simp;omega) (Ev.now _)
  | false =>
    rw [hardR_no (fun hh=>by rw [h] at hh;cases hh.1)]
    refine Ev.no (by simp) (Ev.step (fun k=>rfl) ?_)
    simp only [spec_HarderPuzzle.j0]
    exact Ev.yes trivial (Ev.now _)
theorem impl_IsSolved.evH (w d:Int) (l:List S44):Ev (fun k=>impl_IsSolved.f k w d l) (if puzzleB w d l=true then (((solA w d l (d ^ w.toNat).toNat).length:Int) == 1,true) else (false,false)):=by
  unfold impl_IsSolved.f
  refine Ev.bind (impl_Solutions.ev w d l) (Ev.id ?_)
  cases h:puzzleB w d l <;> simp
theorem impl_HarderPuzzle.ev (w d:Int) (l:List S44):Ev (fun k=>impl_HarderPuzzle.f k w d l) (hardR w d l):=by
  unfold impl_HarderPuzzle.f
  refine Ev.bind (impl_IsSolved.evH w d l) ?_
  cases h:puzzleB w d l with
  | true =>
    obtain ⟨h1,h2,h3⟩:=puzzleB_parts h
    by_cases e:(solA w d l (d ^ w.toNat).toNat).length=1
    · rw [hardR_yes h e]
      refine Ev.yes (by simp [e]) (Ev.bindc (slices_Clone_impl_Clue_impl_Clue.is (by omega)) ?_)
      exact impl_HarderPuzzle.lev h1 l l.length l 0 (by omega) h2 h3
    · rw [hardR_no (fun hh=>e hh.2)]
      exact Ev.no (by simp;omega) (Ev.now _)
  | false =>
    rw [hardR_no (fun hh=>by rw [h] at hh;cases hh.1)]
    exact Ev.no (by simp) (Ev.now _)
/-! What NeedlessClues comes to, over numbers and lists alone. -/
def needL (w d:Int) (l:List S44):Nat→List Int
  | 0=> []
  | i + 1=>needL w d l i ++ if (solA w d (l.eraseIdx i) (d ^ w.toNat).toNat).length=(solA w d l (d ^ w.toNat).toNat).length then [((i:Nat):Int)] else []
theorem needL_len (w d:Int) (l:List S44) : ∀ n,(needL w d l n).length≤n
  | 0=>by simp [needL]
  | n + 1 => by
    have:=needL_len w d l n
    simp only [needL,List.length_append]
    split <;> simp <;> omega
theorem erase_ok {w d:Int} {l:List S44} (h : ∀ c∈l,clueB w d c.f0 c.f1 c.f2=true) (i:Nat) : ∀ c∈l.eraseIdx i,clueB w d c.f0 c.f1 c.f2=true:=fun c hc=>h c (List.mem_of_mem_eraseIdx hc)
theorem impl_but.one {l:List S44} {i:Nat} (h6:l.length≤6) (hi:i < l.length):impl_but.f l (i:Nat)=some (l.eraseIdx i):=by
  unfold impl_but.f
  rw [if_pos ⟨by omega,by omega,by omega⟩,Int.toNat_natCast]
theorem impl_NeedlessClues.lev {w d:Int} (hl:lockB w d=true) (l:List S44) (h6:l.length≤6) (h : ∀ c∈l,clueB w d c.f0 c.f1 c.f2=true) : ∀ (m i:Nat),i + m=l.length→Ev (fun k=>impl_NeedlessClues.l0 k (solA w d l (d ^ w.toNat).toNat) (needL w d l i) (l.length:Int) (i:Nat) w d l) (needL w d l l.length,true):=by
  intro m
  induction m with
  | zero =>
    intro i hi
    refine Ev.step (fun k=>rfl) (Ev.no (by omega) (Ev.id ?_))
    rw [show i=l.length by omega]
  | succ m ih =>
    intro i hi
    have hx:=needL_len w d l i
    refine Ev.step (fun k=>rfl) (Ev.yes (by omega) (Ev.bindc (impl_but.one h6 (by omega)) (Ev.bind (impl_Lock_solutions.ev hl _ (erase_ok h i)) ?_)))
    rw [show wrap64 ((i:Int) + 1)=((i + 1:Nat):Int) from w64 (by omega) (by omega)]
    have hh:=ih (i + 1) (by omega)
    rw [needL] at hh
    by_cases e:(solA w d (l.eraseIdx i) (d ^ w.toNat).toNat).length=(solA w d l (d ^ w.toNat).toNat).length
    · rw [if_pos e] at hh;exact Ev.yes (by omega) (Ev.yes (by omega) hh)
    · rw [if_neg e,List.append_nil] at hh;exact Ev.no (by omega) hh
def needR (w d:Int) (l:List S44):List Int×Bool:=if puzzleB w d l=true then (needL w d l l.length,true) else ([],false)
theorem impl_NeedlessClues.ev (w d:Int) (l:List S44):Ev (fun k=>impl_NeedlessClues.f k w d l) (needR w d l):=by
  unfold impl_NeedlessClues.f needR
  refine Ev.bind (impl_Solutions.ev w d l) ?_
  cases h:puzzleB w d l with
  | true =>
    obtain ⟨h1,h2,h3⟩:=puzzleB_parts h
    rw [if_pos rfl,if_pos rfl]
    exact Ev.yes rfl (impl_NeedlessClues.lev h1 l h2 h3 l.length 0 (by omega))
  | false =>
    rw [if_neg (by simp),if_neg (by simp)]
    exact Ev.no (by simp) (Ev.now _)
/-! What Solutions comes to, over numbers and lists alone. -/
def solR (w d:Int) (l:List S44):List ByteArray×Bool:=if puzzleB w d l=true then (solA w d l (d ^ w.toNat).toNat,true) else ([],false)
theorem solR_len (w d:Int) (l:List S44):(solR w d l).1.length≤1000:=by
  unfold solR
  cases h:puzzleB w d l with
  | true =>
    have h2:smallB w d 125=true:=by unfold puzzleB at h;rw [Bool.and_eq_true,Bool.and_eq_true] at h;exact h.1.1
    have:=(smallB_iff.mp h2).2
    have:=solA_len w d l (d ^ w.toNat).toNat
    rw [if_pos rfl];show (solA w d l (d ^ w.toNat).toNat).length≤_;omega
  | false=>simp
theorem impl_Solutions.evR (w d:Int) (l:List S44):Ev (fun k=>impl_Solutions.f k w d l) (solR w d l):=impl_Solutions.ev w d l
/-! What a harder puzzle is: solved by the same code, and no clue of it is needless. -/
theorem fitA_sub {w d:Int} {l m:List S44} (h:m.Sublist l) {s:ByteArray} (hf:fitA w d l s=true):fitA w d m s=true:=by
  unfold fitA at hf ⊢
  rw [List.all_eq_true] at hf ⊢
  exact fun c hc=>hf c (h.subset hc)
theorem solA_sub {w d:Int} {l m:List S44} (h:m.Sublist l) : ∀ n,(solA w d l n).Sublist (solA w d m n)
  | 0=>List.Sublist.refl _
  | n + 1 => by
    unfold solA
    refine List.Sublist.append (solA_sub h n) ?_
    by_cases e:fitA w d l (codeB w d (n:Nat))=true
    · rw [if_pos e,if_pos (fitA_sub h e)];exact List.Sublist.refl _
    · rw [if_neg e];exact List.nil_sublist _
theorem erase_erase {α:Type} : ∀ (l:List α) (i j:Nat),j < i→((l.eraseIdx i).eraseIdx j).Sublist (l.eraseIdx j)
  | [],_,_,_=>by simp
  | x :: xs,0,j,h=>absurd h (Nat.not_lt_zero _)
  | x :: xs,i + 1,0,_=>by simpa using List.eraseIdx_sublist xs i
  | x :: xs,i + 1,j + 1,h=>by simpa using erase_erase xs i j (by omega)
theorem hardV_is {w d:Int} : ∀ (m:Nat) (l:List S44) (i:Nat),i + m=l.length→(solA w d l (d ^ w.toNat).toNat).length=1→(∀ j,j < i→(solA w d (l.eraseIdx j) (d ^ w.toNat).toNat).length≠1) →
    solA w d (hardV w d m l i) (d ^ w.toNat).toNat=solA w d l (d ^ w.toNat).toNat∧∀ j,j < (hardV w d m l i).length→(solA w d ((hardV w d m l i).eraseIdx j) (d ^ w.toNat).toNat).length≠1
  | 0,l,i,hi,h1,hj=>⟨rfl,fun j h=>hj j (by unfold hardV at h;omega)⟩
  | m + 1, l, i, hi, h1, hj => by
    have he:(l.eraseIdx i).length + 1=l.length:=by rw [List.length_eraseIdx_of_lt (by omega)];omega
    unfold hardV
    by_cases e:(solA w d (l.eraseIdx i) (d ^ w.toNat).toNat).length=1
    · rw [if_pos e]
      obtain ⟨g1,g2⟩:=hardV_is m (l.eraseIdx i) i (by omega) e (fun j h=>by
        have a:=(solA_sub (w:=w) (d:=d) (erase_erase l i j h) (d ^ w.toNat).toNat).length_le
        have b:=(solA_sub (w:=w) (d:=d) (List.eraseIdx_sublist l j) (d ^ w.toNat).toNat).length_le
        have c:=hj j h
        omega)
      refine ⟨g1.trans ?_,g2⟩
      exact ((solA_sub (List.eraseIdx_sublist l i) _).eq_of_length (by rw [e,h1])).symm
    · rw [if_neg e]
      exact hardV_is m l (i + 1) (by omega) h1 (fun j h=>by
        by_cases hji:j=i
        · subst hji;exact e
        · exact hj j (by omega))
theorem needL_none {w d:Int} {l:List S44} : ∀ n,(∀ j,j < n→(solA w d (l.eraseIdx j) (d ^ w.toNat).toNat).length≠(solA w d l (d ^ w.toNat).toNat).length)→needL w d l n=[]
  | 0,_=>rfl
  | n + 1, h => by
    unfold needL
    rw [needL_none n (fun j hj=>h j (by omega)),if_neg (h n (by omega))]
    rfl
theorem hardV_clues {w d:Int} {P:S44→Prop} : ∀ (m:Nat) (l:List S44) (i:Nat),(∀ c∈l,P c)→∀ c∈hardV w d m l i,P c
  | 0,l,i,h=>h
  | m + 1, l, i, h => by
    unfold hardV
    split
    · exact hardV_clues m _ i (fun c hc=>h c (List.mem_of_mem_eraseIdx hc))
    · exact hardV_clues m l (i + 1) h
/-- All that is asked of it. -/
theorem hardV_all {w d:Int} {l:List S44} (hp:puzzleB w d l=true) (h1:(solA w d l (d ^ w.toNat).toNat).length=1):puzzleB w d (hardV w d l.length l 0)=true∧solR w d (hardV w d l.length l 0)=solR w d l∧needR w d (hardV w d l.length l 0)=([],true)∧(hardV w d l.length l 0).length≤l.length:=by
  obtain ⟨g1,g2⟩:=hardV_is (w:=w) (d:=d) l.length l 0 (by omega) h1 (fun j h=>absurd h (Nat.not_lt_zero _))
  have hlen:=hardV_len w d l.length l 0
  have hq:puzzleB w d (hardV w d l.length l 0)=true:=by
    unfold puzzleB at hp ⊢
    simp only [Bool.and_eq_true,decide_eq_true_eq,List.all_eq_true] at hp ⊢
    exact ⟨⟨hp.1.1,by omega⟩,hardV_clues l.length l 0 hp.2⟩
  refine ⟨hq,?_,?_,hlen⟩
  · unfold solR;rw [if_pos hq,if_pos hp,g1]
  · unfold needR
    rw [if_pos hq,needL_none _ (fun j hj=>by rw [g1,h1];exact g2 j hj)]
/-! spec's IsClue. -/
theorem spec_IsClue.ev (w d a b c:Int):Ev (fun k=>spec_IsClue.f k w d a b c) (smallB w d 125 && clueB w d a b c):=by
  unfold spec_IsClue.f
  refine Ev.bind (spec_pzLock.ev w d) ?_
  cases h:smallB w d 125 with
  | true=>exact Ev.yes rfl (Ev.bind (spec_pzClue.ev w d a b c (smallB_lock h)) (Ev.id (by simp)))
  | false=>exact Ev.no (by simp) (Ev.id (by simp))
/-! What IsSolved comes to, over numbers and lists alone. -/
theorem impl_IsSolved.ev (w d:Int) (l:List S44):Ev (fun k=>impl_IsSolved.f k w d l) (if puzzleB w d l=true then (((solA w d l (d ^ w.toNat).toNat).length:Int) == 1,true) else (false,false)):=by
  unfold impl_IsSolved.f
  refine Ev.bind (impl_Solutions.ev w d l) (Ev.id ?_)
  cases h:puzzleB w d l <;> simp
/-! Breadth first search over codes, as values. -/
def numV (d:Int) (s:ByteArray):Int:=numF d 0 (dg s)
theorem numF_range {d:Int} (hd:2≤d) (hd2:d≤10) : ∀ (D:List Int) (acc:Int),(∀ x∈D,0≤x∧x < d)→0≤acc→(acc + 1) * d ^ D.length≤1000000→0≤numF d acc D∧numF d acc D < (acc + 1) * d ^ D.length
  | [], acc, _, h0, h1 => by
    simp only [numF,List.length_nil,Int.pow_zero,Int.mul_one] at h1 ⊢
    omega
  | x :: D, acc, hD, h0, h1 => by
    have hx:=hD x List.mem_cons_self
    have hp:1≤d ^ D.length:=(by have h9:0 < d ^ D.length:=Int.pow_pos (by omega);omega)
    have e:(acc + 1) * d ^ (x :: D).length=((acc + 1) * d) * d ^ D.length:=by
      rw [List.length_cons,Int.pow_succ,Int.mul_comm (d ^ D.length) d,Int.mul_assoc]
    have hle:(acc + 1) * d≤((acc + 1) * d) * d ^ D.length:=by
      have:=Int.mul_le_mul_of_nonneg_left hp (show 0≤(acc + 1) * d from Int.mul_nonneg (by omega) (by omega))
      rwa [Int.mul_one] at this
    rw [e] at h1 ⊢
    have hb:(acc + 1) * d≤1000000:=Int.le_trans hle h1
    have hb2:(acc + 1) * d=acc * d + d:=by rw [Int.add_mul,Int.one_mul]
    have hn:0≤acc * d:=Int.mul_nonneg h0 (by omega)
    have hs:acc * d + x + 1≤(acc + 1) * d:=by omega
    have hm:(acc * d + x + 1) * d ^ D.length≤((acc + 1) * d) * d ^ D.length:=Int.mul_le_mul_of_nonneg_right hs (by omega)
    unfold numF
    rw [w64 (x:=acc * d) (by omega) (by omega),w64 (x:=acc * d + x) (by omega) (by omega)]
    have:=numF_range hd hd2 D (acc * d + x) (fun y hy=>hD y (List.mem_cons_of_mem _ hy)) (by omega) (Int.le_trans hm h1)
    exact ⟨this.1,Int.lt_of_lt_of_le this.2 hm⟩
theorem numV_range {w d:Int} (hl:lockB w d=true) {s:ByteArray} (hs:codeS w d s):0≤numV d s∧numV d s < d ^ w.toNat:=by
  obtain ⟨w1,w2,d1,d2⟩:=lockB_iff.mp hl
  have hcb:=count_bound hl
  have:=numF_range d1 d2 (dg s) 0 (fun x hx=>by
    obtain ⟨i,hi,rfl⟩:=List.getElem_of_mem hx
    have hi2:i < s.size:=by rw [dg_length] at hi;exact hi
    have h1:=dg_at hi2
    rw [rd_at (by simpa using hi)] at h1
    simp only [Int.toNat_natCast] at h1
    have:=hs.2 i hi2
    omega) (Int.le_refl 0) (by rw [dg_length,hs.1];omega)
  rw [dg_length,hs.1] at this
  unfold numV
  omega
/-! Declarations moved out of LFnExactParsePins. -/
theorem textB_bytes {r:List Int} (h : ∀ x∈r,0≤x∧x < 10):(textB r).data.toList=r.map (fun x=>UInt8.ofNat (48 + x.toNat)):=by
  unfold textB strOfNums
  rw [List.toList_toArray,List.map_map]
  refine List.map_congr_left (fun x hx=>?_)
  have hx2:=h x hx
  have e:wrap64 (48 + x) % 256=48 + x:=by rw [w64 (by omega) (by omega)];omega
  show UInt8.ofNat (wrap64 (48 + x) % 256).toNat=_
  rw [e]
  congr 1
  omega
/-! The digits of a text, and the text of digits. -/
def dgK (s:ByteArray):List Int:=(List.range s.size).map fun i=>bt s (i:Nat) - 48
theorem dgK_len (s:ByteArray):(dgK s).length=s.size:=by unfold dgK;simp
theorem dgK_at {s:ByteArray} {i:Nat} (h:i < (dgK s).length):(dgK s)[i]=bt s (i:Nat) - 48:=by simp only [dgK,List.getElem_map,List.getElem_range]
/-- A text of digits is the text of its digits. -/
theorem text_dgK {s:ByteArray} (h : ∀ i < s.size,48≤bt s (i:Nat)∧bt s (i:Nat)≤57):textB (dgK s)=s:=by
  have hd : ∀ d∈dgK s,0≤d∧d < 10:=by
    intro d hd
    obtain ⟨j,hj,rfl⟩:=List.getElem_of_mem hd
    rw [dgK_at]
    have:=h j (by rw [←dgK_len];exact hj)
    omega
  apply ByteArray.ext
  apply Array.toList_inj.mp
  rw [textB_bytes hd]
  apply List.ext_getElem
  · rw [List.length_map,dgK_len];rfl
  · intro i h1 h2
    have hi:i < s.size:=by rw [List.length_map,dgK_len] at h1;exact h1
    have hb:=h i hi
    have e:=bt_nat hi
    rw [List.getElem_map,dgK_at]
    apply UInt8.toNat_inj.mp
    have hn:(s.data.toList[i]'h2).toNat=(s[i]'hi).toNat:=rfl
    rw [hn,UInt8.toNat_ofNat']
    omega
/-! A code is the code of its number. -/
def numP (d:Int):Int→List Int→Int
  | acc,[]=> acc
  | acc,x :: xs=>numP d (acc * d + x) xs
theorem numP_snoc (d:Int) : ∀ (D:List Int) (acc x:Int),numP d acc (D ++ [x])=numP d acc D * d + x
  | [],_,_=>rfl
  | y :: D,acc,x=>numP_snoc d D (acc * d + y) x
theorem numF_numP {d:Int} (hd:2≤d) (hd2:d≤10) : ∀ (D:List Int) (acc:Int),(∀ x∈D,0≤x∧x < d)→0≤acc→(acc + 1) * d ^ D.length≤1000000→numF d acc D=numP d acc D
  | [],acc,_,_,_=>rfl
  | x :: D, acc, hD, h0, h1 => by
    have hx:=hD x List.mem_cons_self
    have hp:1≤d ^ D.length:=(by have h9:0 < d ^ D.length:=Int.pow_pos (by omega);omega)
    have e:(acc + 1) * d ^ (x :: D).length=((acc + 1) * d) * d ^ D.length:=by
      rw [List.length_cons,Int.pow_succ,Int.mul_comm (d ^ D.length) d,Int.mul_assoc]
    have hle:(acc + 1) * d≤((acc + 1) * d) * d ^ D.length:=by
      have:=Int.mul_le_mul_of_nonneg_left hp (show 0≤(acc + 1) * d from Int.mul_nonneg (by omega) (by omega))
      rwa [Int.mul_one] at this
    rw [e] at h1
    have hb:(acc + 1) * d≤1000000:=Int.le_trans hle h1
    have hb2:(acc + 1) * d=acc * d + d:=by rw [Int.add_mul,Int.one_mul]
    have hn:0≤acc * d:=Int.mul_nonneg h0 (by omega)
    have hs:acc * d + x + 1≤(acc + 1) * d:=by omega
    have hm:(acc * d + x + 1) * d ^ D.length≤((acc + 1) * d) * d ^ D.length:=Int.mul_le_mul_of_nonneg_right hs (by omega)
    unfold numF numP
    rw [w64 (x:=acc * d) (by omega) (by omega),w64 (x:=acc * d + x) (by omega) (by omega)]
    exact numF_numP hd hd2 D (acc * d + x) (fun y hy=>hD y (List.mem_cons_of_mem _ hy)) (by omega) (Int.le_trans hm h1)
theorem digs_numP {d:Int} (hd:2≤d) : ∀ (m:Nat) (D:List Int),D.length=m→(∀ x∈D,0≤x∧x < d)→digs d m (numP d 0 D)=D
  | 0,D,hl,_=>by rw [List.length_eq_zero_iff.mp hl];rfl
  | m + 1, D, hl, h => by
    have hne:D≠[]:=by intro hc;rw [hc] at hl;simp at hl
    obtain ⟨E,x,rfl⟩ : ∃ E x,D=E ++ [x]:=⟨D.dropLast,D.getLast hne,(List.dropLast_concat_getLast hne).symm⟩
    have hx:=h x (by simp)
    unfold digs
    rw [numP_snoc,show (numP d 0 E * d + x) / d=numP d 0 E by rw [Int.add_comm,Int.add_mul_ediv_right _ _ (by omega),Int.ediv_eq_zero_of_lt hx.1 hx.2,Int.zero_add],show (numP d 0 E * d + x) % d=x by rw [Int.add_comm,Int.add_mul_emod_self_right];exact Int.emod_eq_of_lt hx.1 hx.2]
    rw [digs_numP hd m E (by simpa using hl) (fun y hy=>h y (by simp [hy]))]
theorem dg_range {w d:Int} {s:ByteArray} (hs:codeS w d s) : ∀ x∈dg s,0≤x∧x < d:=by
  intro x hx
  obtain ⟨i,hi,rfl⟩:=List.getElem_of_mem hx
  have hi2:i < s.size:=by rw [dg_length] at hi;exact hi
  have h1:=dg_at hi2
  rw [rd_at (by simpa using hi)] at h1
  simp only [Int.toNat_natCast] at h1
  have:=hs.2 i hi2
  rw [h1]
  omega
theorem textB_dg {w d:Int} (hl:lockB w d=true) {s:ByteArray} (hs:codeS w d s):textB (dg s)=s:=by
  obtain ⟨w1,w2,d1,d2⟩:=lockB_iff.mp hl
  exact text_dgK (fun i hi=>by have:=hs.2 i hi;omega)
theorem codeB_num {w d:Int} (hl:lockB w d=true) {s:ByteArray} (hs:codeS w d s):codeB w d (numV d s)=s:=by
  obtain ⟨w1,w2,d1,d2⟩:=lockB_iff.mp hl
  have hcb:=count_bound hl
  have hlen:(dg s).length=w.toNat:=by rw [dg_length];exact hs.1
  have hr:=dg_range hs
  unfold codeB numV
  rw [numF_numP d1 d2 (dg s) 0 hr (by omega) (by rw [hlen];omega),digs_numP d1 w.toNat (dg s) hlen hr]
  exact textB_dg hl hs
/-! A made puzzle: its clues are ones, and its code fits them. -/
theorem sumF_range : ∀ (D:List Int) (acc:Int),(∀ x∈D,0≤x∧x < 10)→0≤acc→acc + 10 * D.length≤1000→0≤sumF acc D∧sumF acc D≤acc + 9 * D.length
  | [],acc,_,h0,h1=>by simp only [sumF,List.length_nil];omega
  | x :: D, acc, h, h0, h1 => by
    have hx:=h x List.mem_cons_self
    rw [List.length_cons] at h1 ⊢
    unfold sumF
    rw [w64 (by omega) (by omega)]
    have:=sumF_range D (acc + x) (fun y hy=>h y (List.mem_cons_of_mem _ hy)) (by omega) (by omega)
    omega
theorem tmod_range {x m:Int} (h0:0≤x) (hm:0 < m):0≤Int.tmod x m∧Int.tmod x m < m:=⟨Int.tmod_nonneg m h0,Int.tmod_lt_of_pos x hm⟩
theorem turnV_rngM {d x y:Int} (hd:2≤d) (hd2:d≤10) (hx : -1000≤x∧x≤1000) (hy : -1000≤y∧y≤1000):0≤turnV d x y∧turnV d x y < d:=by
  unfold turnV
  have h1 : -d < Int.tmod (y - x) d∧Int.tmod (y - x) d < d:=by
    have a:=Int.tmod_lt_of_pos (y - x) (show 0 < d by omega)
    have b : -d < Int.tmod (y - x) d:=Int.lt_tmod_of_pos (y - x) (show 0 < d by omega)
    exact ⟨b,a⟩
  rw [w64 (x:=y - x) (by omega) (by omega),w64 (by omega) (by omega)]
  exact tmod_range (by omega) (by omega)
theorem nearV_rngM {d x y:Int} (hd:2≤d) (hd2:d≤10) (hx : -1000≤x∧x≤1000) (hy : -1000≤y∧y≤1000):0≤nearV d x y∧nearV d x y < d:=by
  unfold nearV
  have h1:=turnV_rngM hd hd2 hx hy
  rw [w64 (by omega) (by omega)]
  have h2:=tmod_range (x:=d - turnV d x y) (m:=d) (by omega) (by omega)
  unfold lst
  split <;> omega
theorem bt_byte (s:ByteArray) (i:Int):0≤bt s i∧bt s i≤255:=by
  unfold bt
  split
  · have:=UInt8.toNat_lt (s[i.toNat])
    omega
  · omega
theorem distF_range {d:Int} (hd:2≤d) (hd2:d≤10) (s t:ByteArray) : ∀ n:Nat,n≤6→0≤distF d s t n∧distF d s t n≤9 * n
  | 0,_=>by simp [distF]
  | n + 1, h => by
    have h1:=distF_range hd hd2 s t n (by omega)
    have h2:=nearV_rngM (x:=bt s (n:Nat)) (y:=bt t (n:Nat)) hd hd2 (by have:=bt_byte s (n:Nat);omega) (by have:=bt_byte t (n:Nat);omega)
    unfold distF
    rw [w64 (by omega) (by omega)]
    omega
theorem told_clue {w d:Int} (hl:lockB w d=true) {s:ByteArray} (hs:codeS w d s) {a b:Int} (h:(a=0∧0≤b∧b≤w - 1)∨(a=1∧b=0)∨(a=2∧0≤b∧b≤d ^ w.toNat - 1)∨(a=3∧0≤b∧b≤d ^ w.toNat - 1)∨(a=4∧2≤b∧b≤9)) :
    clueB w d (toldC w d s a b).1 (toldC w d s a b).2.1 (toldC w d s a b).2.2=true∧fitV w d (toldC w d s a b) s=true:=by
  obtain ⟨w1,w2,d1,d2⟩:=lockB_iff.mp hl
  have hlen:(dg s).length=w.toNat:=by rw [dg_length];exact hs.1
  have hr:=dg_range hs
  have hn:=numV_range hl hs
  unfold numV at hn
  unfold toldC
  rcases h with ⟨rfl,h0,h1⟩ | ⟨rfl,rfl⟩ | ⟨rfl,h0,h1⟩ | ⟨rfl,h0,h1⟩ | ⟨rfl,h0,h1⟩
  · have hb:=hs.2 b.toNat (by have:=hs.1;omega)
    rw [show ((b.toNat:Nat):Int)=b by omega] at hb
    rw [if_neg (by omega)]
    refine ⟨?_,by simp [fitV]⟩
    simp only [clueB,valV]
    simp
    omega
  · have hq:=sumF_range (dg s) 0 (fun x hx=>by have:=hr x hx;omega) (by omega) (by omega)
    rw [if_pos rfl]
    refine ⟨?_,by simp [fitV]⟩
    simp only [clueB,valV]
    simp
    omega
  · have hq:=plN_range (codeB w d b) s w.toNat
    rw [if_neg (by omega)]
    refine ⟨?_,by simp [fitV]⟩
    simp only [clueB,valV]
    simp
    omega
  · have hq:=distF_range d1 d2 (codeB w d b) s w.toNat (by omega)
    rw [if_neg (by omega)]
    refine ⟨?_,by simp [fitV]⟩
    simp only [clueB,valV]
    simp
    omega
  · have hq:=tmod_range (x:=numF d 0 (dg s)) (m:=b) hn.1 (by omega)
    rw [if_neg (by omega)]
    refine ⟨?_,by simp [fitV]⟩
    simp only [clueB,valV]
    simp
    omega
theorem mkV_all {w d:Int} (hl:lockB w d=true) {s:ByteArray} (hs:codeS w d s) : ∀ (m:Nat) (z:Int) (cs:List S44),(∀ c∈cs,clueB w d c.f0 c.f1 c.f2=true∧fitV w d (c.f0,c.f1,c.f2) s=true)→∀ c∈mkV w d s m z cs,clueB w d c.f0 c.f1 c.f2=true∧fitV w d (c.f0,c.f1,c.f2) s=true
  | 0,_,cs,h=>h
  | m + 1, z, cs, h => by
    obtain ⟨w1,w2,d1,d2⟩:=lockB_iff.mp hl
    have hk:=mkA_ok (w:=w) w1 (count_bound hl).1 z
    have ht:=told_clue hl hs (a:=nxV z % 5) (b:=mkA w (d ^ w.toNat) (nxV z % 5) (mkZ z)) (by omega)
    unfold mkV
    refine mkV_all hl hs m _ _ (fun c hc=>?_)
    rcases List.mem_append.mp hc with hc | hc
    · exact h c hc
    · rw [List.mem_singleton.mp hc];exact ht
theorem solA_has {w d:Int} {l:List S44} {s:ByteArray} {k:Nat} (hk:codeB w d (k:Nat)=s) (hf:fitA w d l s=true) : ∀ n,k < n→s∈solA w d l n
  | 0,h=>absurd h (Nat.not_lt_zero _)
  | n + 1, h => by
    unfold solA
    by_cases hkn:k=n
    · subst hkn
      rw [hk,if_pos hf]
      simp
    · exact List.mem_append_left _ (solA_has hk hf n (by omega))
/-- All that is asked of a made puzzle. -/
theorem made_all {w d:Int} (h1:smallB w d 125=true) {s:ByteArray} (hs:codeS w d s) {n:Int} (hn:0≤n∧n≤6) (z:Int) :
    puzzleB w d (mkV w d s n.toNat z [])=true∧((mkV w d s n.toNat z []).length:Int)=n∧((solA w d (mkV w d s n.toNat z []) (d ^ w.toNat).toNat).any fun x=>decide (x.toList=s.toList))=true:=by
  have hl:=smallB_lock h1
  have hc:=mkV_all hl hs n.toNat z [] (fun c hc=>by cases hc)
  have hlen:(mkV w d s n.toNat z []).length=n.toNat:=by rw [mkV_len];simp
  have hnum:=numV_range hl hs
  have hcode:=codeB_num hl hs
  refine ⟨?_,by omega,?_⟩
  · unfold puzzleB
    simp only [Bool.and_eq_true,decide_eq_true_eq,List.all_eq_true]
    exact ⟨⟨h1,by omega⟩,fun c hm=>(hc c hm).1⟩
  · rw [List.any_eq_true]
    refine ⟨s,solA_has (k:=(numV d s).toNat) (by rw [show (((numV d s).toNat:Nat):Int)=numV d s by omega];exact hcode) ?_ _ (by omega),by simp⟩
    unfold fitA
    rw [List.all_eq_true]
    exact fun c hm=>(hc c hm).2
/-- The clues that go with a distance, with a hint and with a number. -/
theorem clue_far {w d:Int} (h1:smallB w d 125=true) {s:ByteArray} (hs:codeS w d s):doesV w d 3 0 (distF d (codeB w d 0) s w.toNat) s=(true,true):=by
  have hl:=smallB_lock h1
  obtain ⟨w1,w2,d1,d2⟩:=lockB_iff.mp hl
  have hq:=distF_range d1 d2 (codeB w d 0) s w.toNat (by omega)
  have hc:=(count_bound hl).1
  unfold doesV
  rw [if_pos (by simp only [Bool.and_eq_true];exact ⟨⟨h1,by simp [clueB];omega⟩,codeT_code.mpr hs⟩)]
  simp [fitV,valV]
theorem clue_hint {w d:Int} (h1:smallB w d 125=true) {s:ByteArray} (hs:codeS w d s):doesV w d 2 0 (plN (codeB w d 0) s w.toNat) s=(true,true):=by
  have hl:=smallB_lock h1
  obtain ⟨w1,w2,d1,d2⟩:=lockB_iff.mp hl
  have hq:=plN_range (codeB w d 0) s w.toNat
  have hc:=(count_bound hl).1
  unfold doesV
  rw [if_pos (by simp only [Bool.and_eq_true];exact ⟨⟨h1,by simp [clueB];omega⟩,codeT_code.mpr hs⟩)]
  simp [fitV,valV]
theorem clue_num {w d:Int} (h1:smallB w d 125=true) {s:ByteArray} (hs:codeS w d s):doesV w d 4 7 (Int.tmod (numF d 0 (dg s)) 7) s=(true,true):=by
  have hl:=smallB_lock h1
  have hn:=numV_range hl hs
  unfold numV at hn
  have hq:=tmod_range (x:=numF d 0 (dg s)) (m:=7) hn.1 (by omega)
  unfold doesV
  rw [if_pos (by simp only [Bool.and_eq_true];exact ⟨⟨h1,by simp [clueB];omega⟩,codeT_code.mpr hs⟩)]
  simp [fitV,valV]
/-! What the callees of the law FnCodesHidden come to, told at once. -/
theorem hid_A:laws_FnCodesHidden.FA:=by
  intro p d x y s
  have I1:=impl_MakePuzzle.ev p d s x y
  have I2:=spec_MakePuzzle.ev p d s x y
  have hlen:=makeR_len p d s x y
  by_cases h:smallB p d 125=true∧codeT p d s=true∧winB x 0 6=true∧winB y 0 9999=true
  · have e:makeR p d s x y=(p,d,mkV p d s x.toNat y [],true):=by unfold makeR;exact if_pos h
    rw [e] at I1 I2 hlen
    have hs:codeS p d s:=codeT_code.mp h.2.1
    have hw:0≤x∧x≤6:=of_decide_eq_true (show decide (0≤x∧x≤6)=true from h.2.2.1)
    have hl:=smallB_lock h.1
    obtain ⟨m1,m2,m3⟩:=made_all h.1 hs hw y
    have hz:codeS p d (codeB p d 0):=codeB_code hl
    have h1000:smallB p d 1000=true:=by have:=smallB_iff.mp h.1;exact smallB_iff.mpr ⟨this.1,by have:=this.2;omega⟩
    have e4:solR p d (mkV p d s x.toNat y [])=(solA p d (mkV p d s x.toNat y []) (d ^ p.toNat).toNat,true):=by unfold solR;exact if_pos m1
    have I4:=impl_Solutions.evR p d (mkV p d s x.toNat y [])
    have hsl:=solR_len p d (mkV p d s x.toNat y [])
    rw [e4] at I4 hsl
    have I5:=impl_FewestTurns.ev hl hz hs
    have I6:=impl_DoesFit.ev p d 3 0 (distF d (codeB p d 0) s p.toNat) s
    rw [clue_far h.1 hs] at I6
    have I7:=impl_HintOf.ev h1000 hz hs
    have I8:=impl_DoesFit.ev p d 2 0 (plN (codeB p d 0) s p.toNat) s
    rw [clue_hint h.1 hs] at I8
    rw [hz.1] at I7
    have I9:=impl_NumberOfCode.ev hl hs
    have I10:=impl_DoesFit.ev p d 4 7 (Int.tmod (numF d 0 (dg s)) 7) s
    rw [clue_num h.1 hs] at I10
    have I11:=laws_eText.ev (solA p d (mkV p d s x.toNat y []) (d ^ p.toNat).toNat) (by simp only at hsl;omega) s
    rw [m3] at I11
    obtain ⟨k,hk⟩:=Evt.and I1 (Evt.and I2 (Evt.and (laws_ePuzzle.ev p d (mkV p d s x.toNat y []) (by simp only at hlen;omega)) (Evt.and I4 (Evt.and I5 (Evt.and I6 (Evt.and I7 (Evt.and I8 (Evt.and I9 (Evt.and I10 I11)))))))))
    obtain ⟨g1,g2,g3,g4,g5,g6,g7,g8,g9,g10,g11⟩:=hk k (Nat.le_refl _)
    refine ⟨k,p,d,_,true,g1,g2,g3,fun _=>⟨_,codeB p d 0,_,_,_,_,g4,?_,g5,g6,g7,g8,g9,g10,?_,m2,g11⟩⟩
    · rw [impl_ZeroCode.is,if_pos hl]
    · exact congrArg some m1
  · have e:makeR p d s x y=(0,0,[],false):=by unfold makeR;exact if_neg h
    rw [e] at I1 I2
    obtain ⟨k,hk⟩:=Evt.and I1 (Evt.and I2 (laws_ePuzzle.ev 0 0 [] (by simp)))
    obtain ⟨g1,g2,g3⟩:=hk k (Nat.le_refl _)
    exact ⟨k,0,0,[],false,g1,g2,g3,fun h=>absurd h (by simp)⟩
theorem hid_B:laws_FnCodesHidden.FB:=by
  intro P D L hL
  have I1:=impl_HarderPuzzle.ev P D L
  have I2:=spec_HarderPuzzle.ev P D L (by omega)
  have I4:=impl_IsSolved.ev P D L
  have hlen:=hardR_len P D L
  by_cases h:puzzleB P D L=true∧(solA P D L (D ^ P.toNat).toNat).length=1
  · obtain ⟨m1,m2,m3,m4⟩:=hardV_all h.1 h.2
    have e:=hardR_yes h.1 h.2
    rw [e] at I1 I2 hlen
    have e4:solR P D L=(solA P D L (D ^ P.toNat).toNat,true):=by unfold solR;exact if_pos h.1
    rw [e4] at m2
    have J1:=impl_Solutions.evR P D L
    have J2:=impl_Solutions.evR P D (hardV P D L.length L 0)
    have hsl:=solR_len P D L
    rw [e4] at J1 hsl
    rw [m2] at J2
    have J3:=impl_NeedlessClues.ev P D (hardV P D L.length L 0)
    rw [m3] at J3
    rw [if_pos h.1,show (((solA P D L (D ^ P.toNat).toNat).length:Int) == 1)=true by rw [h.2];rfl] at I4
    obtain ⟨k,hk⟩:=Evt.and I1 (Evt.and I2 (Evt.and (laws_ePuzzle.ev P D (hardV P D L.length L 0) (by simp only at hlen;omega)) (Evt.and I4 (Evt.and J1 (Evt.and J2 (Evt.and J3 (laws_eTexts.ev (solA P D L (D ^ P.toNat).toNat) (by simp only at hsl;omega))))))))
    obtain ⟨g1,g2,g3,g4,g5,g6,g7,g8⟩:=hk k (Nat.le_refl _)
    exact ⟨k,P,D,_,true,true,true,g1,g2,g3,g4,rfl,fun _=>⟨_,g5,g6,g7,m4,g8⟩⟩
  · rw [hardR_no h] at I1 I2
    obtain ⟨sv,th,I4',ht⟩ : ∃ sv th,Ev (fun k=>impl_IsSolved.f k P D L) (sv,th)∧false=(th && sv):=by
      by_cases hp:puzzleB P D L=true
      · rw [if_pos hp] at I4
        refine ⟨_,_,I4,?_⟩
        rw [Bool.true_and]
        exact (beq_eq_false_iff_ne.mpr (fun hh=>h ⟨hp,by omega⟩)).symm
      · rw [if_neg hp] at I4
        exact ⟨_,_,I4,rfl⟩
    obtain ⟨k,hk⟩:=Evt.and I1 (Evt.and I2 (Evt.and (laws_ePuzzle.ev 0 0 [] (by simp)) I4'))
    obtain ⟨g1,g2,g3,g4⟩:=hk k (Nat.le_refl _)
    exact ⟨k,0,0,[],false,sv,th,g1,g2,g3,g4,ht,fun h=>absurd h (by simp)⟩
theorem hid_C:laws_FnCodesHidden.FC:=by
  intro P D x y z L hL
  have I1:=impl_AddClue.is P D L x y z (by omega)
  have I2:=spec_AddClue.ev P D L x y z (by omega)
  by_cases h:addB P D L x y z=true
  · have e:addR P D L x y z=(P,D,L ++ [⟨x,y,z⟩],true):=by unfold addR;exact if_pos h
    rw [e] at I1 I2
    have hlen:(L ++ [(⟨x,y,z⟩:S44)]).length=L.length + 1:=by simp
    unfold addB at h
    rw [Bool.and_eq_true] at h
    have hp:puzzleB P D (L ++ [(⟨x,y,z⟩:S44)])=true:=by rw [puzzleB_snoc h.1];exact h.2
    have I3:=impl_DropClue.is P D (L ++ [(⟨x,y,z⟩:S44)]) L.length (by omega)
    rw [if_pos ⟨hp,by omega,by omega⟩,show ((L ++ [(⟨x,y,z⟩:S44)]).eraseIdx (L.length:Int).toNat)=L by rw [Int.toNat_natCast,List.eraseIdx_append_of_length_le (Nat.le_refl _),Nat.sub_self];simp] at I3
    obtain ⟨k,hk⟩:=Evt.and I2 (Evt.and (laws_ePuzzle.ev P D (L ++ [(⟨x,y,z⟩:S44)]) (by omega)) (laws_ePuzzle.ev P D L (by omega)))
    obtain ⟨g1,g2,g3⟩:=hk k (Nat.le_refl _)
    refine ⟨k,P,D,_,true,I1,g1,g2,fun _=>⟨I3,g3,by omega,?_⟩⟩
    rw [rd_clue (by omega)]
    simp
  · have e:addR P D L x y z=(0,0,[],false):=by unfold addR;exact if_neg h
    rw [e] at I1 I2
    obtain ⟨k,hk⟩:=Evt.and I2 (laws_ePuzzle.ev 0 0 [] (by simp))
    obtain ⟨g1,g2⟩:=hk k (Nat.le_refl _)
    exact ⟨k,0,0,[],false,I1,g1,g2,fun h=>absurd h (by simp)⟩
theorem hid_D:laws_FnCodesHidden.FD:=by
  intro P D i L hL
  have I1:=impl_DropClue.is P D L i (by omega)
  have I2:=spec_DropClue.ev P D L i (by omega)
  by_cases h:puzzleB P D L=true∧0≤i∧i < L.length
  · rw [if_pos h] at I1 I2
    have hlen:(L.eraseIdx i.toNat).length + 1=L.length:=by rw [List.length_eraseIdx_of_lt (by omega)];omega
    obtain ⟨k,hk⟩:=Evt.and I2 (Evt.and (laws_ePuzzle.ev P D (L.eraseIdx i.toNat) (by omega)) (laws_ePuzzle.ev P D L (by omega)))
    obtain ⟨g1,g2,g3⟩:=hk k (Nat.le_refl _)
    refine ⟨k,P,D,(rd_T44 L i).f0,(rd_T44 L i).f1,(rd_T44 L i).f2,_,true,I1,g1,g2,fun hi=>?_⟩
    rw [Bool.true_and,beq_iff_eq] at hi
    refine ⟨h.2.1,h.2.2,rfl,?_,g3⟩
    rw [impl_AddClue.is P D _ _ _ _ (by omega)]
    have hq:puzzleB P D (L.eraseIdx i.toNat)=true:=by
      have hp:=h.1
      unfold puzzleB at hp ⊢
      simp only [Bool.and_eq_true,decide_eq_true_eq,List.all_eq_true] at hp ⊢
      exact ⟨⟨hp.1.1,by omega⟩,fun c hc=>hp.2 c (List.mem_of_mem_eraseIdx hc)⟩
    have hback:L.eraseIdx i.toNat ++ [rd_T44 L i]=L:=by
      rw [rd_clue (by omega),List.eraseIdx_eq_take_drop_succ,List.drop_eq_nil_of_le (by omega),List.append_nil]
      have hc:=List.take_concat_get (l:=L) (i:=i.toNat) (by omega)
      rw [List.concat_eq_append,List.take_of_length_le (i:=i.toNat + 1) (by omega)] at hc
      exact hc
    have hs:=puzzleB_snoc hq (rd_T44 L i)
    rw [hback,h.1] at hs
    unfold addR addB
    rw [hq,Bool.true_and,←hs,if_pos rfl,show (⟨(rd_T44 L i).f0,(rd_T44 L i).f1,(rd_T44 L i).f2⟩:S44)=rd_T44 L i from rfl,hback]
  · rw [if_neg h] at I1 I2
    obtain ⟨k,hk⟩:=Evt.and I2 (laws_ePuzzle.ev 0 0 [] (by simp))
    obtain ⟨g1,g2⟩:=hk k (Nat.le_refl _)
    exact ⟨k,0,0,0,0,0,[],false,I1,g1,g2,fun h=>absurd h (by simp)⟩
theorem hid_E:laws_FnCodesHidden.FE:=by
  intro p d x y z s
  have I1:=impl_DoesFit.ev p d x y z s
  have I2:=spec_DoesFit.ev p d x y z s
  by_cases h:(smallB p d 125 && clueB p d x y z && codeT p d s)=true
  · have e:doesV p d x y z s=(fitV p d (x,y,z) s,true):=by unfold doesV;exact if_pos h
    rw [e] at I1 I2
    have I3:=impl_IsClue.ev p d x y z
    rw [Bool.and_eq_true] at h
    rw [h.1] at I3
    obtain ⟨k,hk⟩:=Evt.and I1 (Evt.and I2 I3)
    obtain ⟨g1,g2,g3⟩:=hk k (Nat.le_refl _)
    exact ⟨k,_,_,g1,g2,fun _=>g3⟩
  · have e:doesV p d x y z s=(false,false):=by unfold doesV;exact if_neg h
    rw [e] at I1 I2
    obtain ⟨k,hk⟩:=Evt.and I1 I2
    obtain ⟨g1,g2⟩:=hk k (Nat.le_refl _)
    exact ⟨k,_,_,g1,g2,fun h=>absurd h (by simp)⟩
theorem hid_F:laws_FnCodesHidden.FF:=by
  intro p d x y z
  obtain ⟨k,hk⟩:=Evt.and (impl_IsClue.ev p d x y z) (spec_IsClue.ev p d x y z)
  obtain ⟨g1,g2⟩:=hk k (Nat.le_refl _)
  exact ⟨k,_,g1,g2⟩
/-! The law FnCodesHidden: the facts of what is drawn, told at once. -/
noncomputable def laws_FnCodesHidden.f (l0 l1:List Int):Option Bool:=by
  classical
  exact if (∀ x∈l0,U8V x)∧(∀ x∈l1,U8V x) then some true else none
theorem big_len {l m:List Int} (h:laws_big.f l m=some false):l.length≤1048576∧m.length≤1048576:=by
  unfold laws_big.f at h
  split at h
  · exact absurd h (by simp)
  · rename_i h1
    have h2:decide ((m.length:Int) > wrap64 (1048576 - (l.length:Int)))=false:=Option.some.inj h
    have h3:=of_decide_eq_false h2
    rw [w64 (by omega) (by omega)] at h3
    omega
set_option maxRecDepth 100000 in
theorem laws_FnCodesHidden.walkBig (lA lB:List Int) (xA xB:Option Addr) (yA yB:Nat) (w:World) (hrA:Kd.C (Kd.int .u8) w xA lA.length lA) (hcA:lA.length≤yA) (hrB:Kd.C (Kd.int .u8) w xB lB.length lB) (hcB:lB.length≤yB) (hbig:laws_big.f lA lB=some true) :
    Calls Try.prog 3 #[.slice xA lA.length yA, .slice xB lB.length yB] w fun e w'=>e = .returned (.bool true)∧Below w.heap.size w w':=by
  have HrA:=amk hrA;have HcA:=amk hcA;have HrB:=amk hrB;have HcB:=amk hcB;have Hbig:=amk hbig
  clear hrA hcA hrB hcB hbig
  go_enter Try.func3,Try.ntmps3
  go_wp2_with (go_at_call 4;refine Calls.mono (laws_big.calls xA yA lA xB yB lB true _ HrA.out HcA.out HrB.out HcB.out Hbig.out) ?_;rintro e wx ⟨rfl,⟨nd,rfl⟩⟩)
  go_ret
  exact ⟨rfl,by repeat (first | exact Below.refl _ _ | apply bn_ | apply bd_)⟩
theorem laws_FnCodesHidden.calls (A0:Option Addr) (c0:Nat) (l0:List Int) (A1:Option Addr) (c1:Nat) (l1:List Int) (r:Bool) (w:World) (hr0:Kd.C (Kd.int .u8) w A0 l0.length l0) (hc0:l0.length≤c0) (hr1:Kd.C (Kd.int .u8) w A1 l1.length l1) (hc1:l1.length≤c1) (h:laws_FnCodesHidden.f l0 l1=some r) :
    Calls Try.prog 3 #[.slice A0 l0.length c0, .slice A1 l1.length c1] w fun e w'=>e = .returned (.bool r)∧Below w.heap.size w w':=by
  unfold laws_FnCodesHidden.f at h
  split at h
  · rename_i hv
    obtain rfl:=Option.some.inj h
    obtain ⟨b,hb⟩ : ∃ b,laws_big.f l0 l1=some b:=by unfold laws_big.f;split <;> exact ⟨_,rfl⟩
    cases b with
    | true=>exact laws_FnCodesHidden.walkBig l0 l1 A0 A1 c0 c1 w hr0 hc0 hr1 hc1 hb
    | false =>
      obtain ⟨h0,h1⟩:=big_len hb
      exact laws_FnCodesHidden.walk l0 l1 A0 A1 c0 c1 w ⟨hv.1,by omega⟩ ⟨hv.2,by omega⟩ hr0 hc0 hr1 hc1 hb hid_A hid_B hid_C hid_D hid_E hid_F
  · exact absurd h (by simp)
theorem pure_FnCodesHidden (l:List Int) (hl:ListV U8V l) (m:List Int) (hm:ListV U8V m):laws_FnCodesHidden.f l m=some true:=by
  unfold laws_FnCodesHidden.f
  rw [if_pos ⟨hl.2,hm.2⟩]
theorem opens_t5:Opens Try.prog 5 (Kd.int .u8) U8V:=opens_u8 Try.underlying5
theorem opens_t22:Opens Try.prog 22 (Kd.slice 5 (Kd.int .u8)) (ListV U8V):=opens_slice Try.underlying22 opens_t5 (by kernel_rfl)
end Go.Proofs.Ytggfbkekamomiaa.P