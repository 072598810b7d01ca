import Derived.Test.YtcbeihidnodceaaKFnKeysOpenA0
import Derived.Test.YtcbeihidnodceaaKFnKeysOpenA1
import Derived.Test.YtcbeihidnodceaaKFnKeysOpenA2
import Derived.ProofKit
import Derived.Lib.SmallJoins
import Derived.Deep.Slices
namespace Go.Proofs.Ytcbeihidnodceaa.P
open Go.RowKit Go.Proofs.YtcbeihidnodceaaW.PrintWords Go.Proofs.YtcbeihidnodceaaW.PrintLast Go.Proofs.YtcbeihidnodceaaW.PrintMore
attribute [local go_sem] max2_int min2_int max_two min_two max_three min_three max_four min_four
set_option linter.unusedVariables false
set_option linter.unusedSimpArgs false
/-! laws.FnKeysOpenOfAll, a part of its walk. -/
set_option maxHeartbeats 16000000 in
set_option maxRecDepth 100000 in
theorem KPA {w : World} {v1000 v1001 v1002 v1003 v10 v1 v1023 v28 v29 v30 v2 v31 v32 v33 v34 v35 v36 v37 v38 v39 v40 v41 v42 v43 v44 v45 v46 v47 v48 v49 v50 v51 v52 v1050 v54 v55 v1053 v57 v58 v59 v8 v9 v60 v61 v62 v63 v64 v65 v66 v67 v1067 v1068 v1069 v1070 v1071 v1072 v1073 v1074 v76 v77 v78 v79 v80 v81 v82 v83 v84 v85 v86 v87 v88 v89 v90 v91 v92 v93 v94 v95 v96 v97 v98 v99 v100 v101 v102 v103 v104 v105 v106 v107 v108 v109 v110 v111 v112 v113 v114 v115 v116 v117 v118 v119 v120 v121 v122 v123 v124 v125 v126 v127 v128 v129 v130 v131 v132 v133 v134 v135 v136 v137 v138 v139 v140 v141 v142 v143 v144 v145 v146 v147 v148 v149 v150 v151 v152 v153 v154 v155 v156 v157 v158 v159 v160 v161 v162 v163 v164 v165 v166 v167 v168 v169 v170 v171 v172 v173 v174 v175 v176 v177 v178 v179 v180 v181 v182 v183 v184 v185 v186 v187 v188 v189 v190 v191 v192 v193 v194 v195 v196 v197 v198 v199 v200 v201 v202 v203 v204 v205 v206 v207 v208 v209 v210 v211 v212 v213 v214 v215 v216 v217 v218 v219 v220 v221 v222 v223 v224 v225 v226 v227 v228 v229 v230 v231 v232 v1232 v1233 v233 v234 v235 v236 v237 v238 v239 v240 v241 v242 v243 v244 v245 v246 v247 v248 v249 v250 v251 v252 v253 v254 v255 v256 v257 v258 v259 v260 v261 v262 v263 v264 v265 v266 v267 v268 v269 v270 v271 v272 v273 v274 v275 v276 v277 v278 v279 v280 v281 v282 v283 v284 v285 v286 v287 v288 v289 v290 v291 v292 v293 v294 v295 v296 v297 v298 v299 v300 v301 v302 v303 v304 v305 v306 v307 v308 v309 v310 v311 v312 v313 v314 v315 v316 v317 v318 v319 v320 v321 v322 v323 v324 v325 v326 v327 v328 v329 v330 v331 v332 v333 v334 v335 v336 v337 v338 v339 v340 v341 v342 v343 v344 v345 v346 v347 v348 v349 v350 v351 v352 v353 v354 v355 v356 v357 v358 v359 v360 v361 v362 v363 v364 v365 v366 v367 v368 v369 v370 v371 v372 v373 v374 v375 v376 v377 v378 v379 v380 v381 v382 v383 v384 v385 v386 v387 v388 v389 v390 v391 v392 v393 v394 v395 v396 v397 v398 v399 v400 v401 v402 v403 v404 v405 v406 v407 v408 v409 v410 v1412 v1413 v1414 v1415 v1416 v411 v412 v413 v414 v415 v416 v417 v418 v419 v420 v421 v422 v423 v424 v425 v426 v427 v428 v429 v430 v431 v432 v433 v434 v435 v436 v437 v438 v439 v440 v441 v442 v443 v444 v445 v446 v447 v448 v449 v450 v451 v452 v453 v454 v455 v456 v457 v458 v459 : Value} (K : Act → World → Prop) (Q : Exit → Act → World → Prop) (hQ : ∀ c t t' d w', Q (.panic c) ⟨t, d⟩ w' → Q (.panic c) ⟨t', d⟩ w')
    (k : Nat) (n0 : Int) (L0 : List (List Int)) (A0 A7 A8 : Option Addr) (c0 c7 c8 : Nat) (g0 : Nat) (W : World) (o is V ok five : Bool) (ct : Int) (all : List ByteArray) (hok : ok = (V && is)) (h5 : five = (V && decide (ct ≤ 200)))
    (hr0 : Kd.C (Kd.slice 3 (Kd.int .i64)) w A0 L0.length L0) (hc0 : L0.length ≤ c0) (e9 : laws_eTexts.f k all all = some true) (e10 : impl_ArePins.f n0 L0 = some V) (e11 : spec_ArePins.f k n0 L0 = some V)
    (s : KP w g0 (bxK n0 A0 L0.length c0) W) (r7 : Kd.C Kd.string W A7 all.length all) (i7 : all.length ≤ c7) (r8 : Kd.C Kd.string W A8 all.length all) (i8 : all.length ≤ c8)
    (hrest : ∀ {u120 u121 u122 u123 u124 u125 u126 u127 u128 u129 u130 u131 u132 u133 u134 u135 u136 u137 u138 u139 u140 u141 u142 u143 u144 u145 u146 u147 u148 u149 u150 u151 u152 u153 u154 u155 u156 u157 u158 u159 u160 u161 u162 u163 u164 u165 u166 u167 u168 u169 u170 u171 u172 u173 u174 u175 u176 u177 u178 u179 u180 u181 u182 u183 u184 u185 u186 u187 u188 u189 u190 u191 u192 : Value} (W' : World), KP w g0 (bxK n0 A0 L0.length c0) W' → Kd.C Kd.string W' A7 all.length all → K ⟨List.toArray (v1000 :: v1001 :: v1002 :: v1003 :: v10 :: .pointer (some ⟨g0, 0, none⟩) :: v1 :: .bool o :: .bool ok :: .bool o :: .bool ok :: .bool is :: .bool V :: .bool is :: .bool V :: .int .i64 ct :: .bool V :: .int .i64 ct :: .bool V :: .slice A7 all.length c7 :: .bool five :: .slice A8 all.length c8 :: .bool five :: v1023 :: v28 :: v29 :: v30 :: v2 :: v31 :: v32 :: v33 :: v34 :: v35 :: v36 :: v37 :: v38 :: v39 :: v40 :: v41 :: v42 :: v43 :: v44 :: v45 :: v46 :: v47 :: v48 :: v49 :: v50 :: v51 :: v52 :: v1050 :: v54 :: v55 :: v1053 :: v57 :: v58 :: v59 :: v8 :: v9 :: v60 :: v61 :: v62 :: v63 :: v64 :: v65 :: v66 :: v67 :: v1067 :: v1068 :: v1069 :: v1070 :: v1071 :: v1072 :: v1073 :: v1074 :: v76 :: v77 :: v78 :: v79 :: v80 :: v81 :: v82 :: v83 :: v84 :: v85 :: v86 :: v87 :: v88 :: v89 :: v90 :: v91 :: v92 :: v93 :: v94 :: v95 :: v96 :: v97 :: v98 :: v99 :: v100 :: v101 :: v102 :: v103 :: v104 :: v105 :: v106 :: v107 :: v108 :: v109 :: v110 :: v111 :: v112 :: v113 :: v114 :: v115 :: v116 :: v117 :: v118 :: v119 :: u120 :: u121 :: u122 :: u123 :: u124 :: u125 :: u126 :: u127 :: u128 :: u129 :: u130 :: u131 :: u132 :: u133 :: u134 :: u135 :: u136 :: u137 :: u138 :: u139 :: u140 :: u141 :: u142 :: u143 :: u144 :: u145 :: u146 :: u147 :: u148 :: u149 :: u150 :: u151 :: u152 :: u153 :: u154 :: u155 :: u156 :: u157 :: u158 :: u159 :: u160 :: u161 :: u162 :: u163 :: u164 :: u165 :: u166 :: u167 :: u168 :: u169 :: u170 :: u171 :: u172 :: u173 :: u174 :: u175 :: u176 :: u177 :: u178 :: u179 :: u180 :: u181 :: u182 :: u183 :: u184 :: u185 :: u186 :: u187 :: u188 :: u189 :: u190 :: u191 :: u192 :: .bool false :: v194 :: v195 :: v196 :: v197 :: v198 :: v199 :: v200 :: v201 :: v202 :: v203 :: v204 :: v205 :: v206 :: v207 :: v208 :: v209 :: v210 :: v211 :: v212 :: v213 :: v214 :: v215 :: v216 :: v217 :: v218 :: v219 :: v220 :: v221 :: v222 :: v223 :: v224 :: v225 :: v226 :: v227 :: v228 :: v229 :: v230 :: v231 :: v232 :: v1232 :: v1233 :: v233 :: v234 :: v235 :: v236 :: v237 :: v238 :: v239 :: v240 :: v241 :: v242 :: v243 :: v244 :: v245 :: v246 :: v247 :: v248 :: v249 :: v250 :: v251 :: v252 :: v253 :: v254 :: v255 :: v256 :: v257 :: v258 :: v259 :: v260 :: v261 :: v262 :: v263 :: v264 :: v265 :: v266 :: v267 :: v268 :: v269 :: v270 :: v271 :: v272 :: v273 :: v274 :: v275 :: v276 :: v277 :: v278 :: v279 :: v280 :: v281 :: v282 :: v283 :: v284 :: v285 :: v286 :: v287 :: v288 :: v289 :: v290 :: v291 :: v292 :: v293 :: v294 :: v295 :: v296 :: v297 :: v298 :: v299 :: v300 :: v301 :: v302 :: v303 :: v304 :: v305 :: v306 :: v307 :: v308 :: v309 :: v310 :: v311 :: v312 :: v313 :: v314 :: v315 :: v316 :: v317 :: v318 :: v319 :: v320 :: v321 :: v322 :: v323 :: v324 :: v325 :: v326 :: v327 :: v328 :: v329 :: v330 :: v331 :: v332 :: v333 :: v334 :: v335 :: v336 :: v337 :: v338 :: v339 :: v340 :: v341 :: v342 :: v343 :: v344 :: v345 :: v346 :: v347 :: v348 :: v349 :: v350 :: v351 :: v352 :: v353 :: v354 :: v355 :: v356 :: v357 :: v358 :: v359 :: v360 :: v361 :: v362 :: v363 :: v364 :: v365 :: v366 :: v367 :: v368 :: v369 :: v370 :: v371 :: v372 :: v373 :: v374 :: v375 :: v376 :: v377 :: v378 :: v379 :: v380 :: v381 :: v382 :: v383 :: v384 :: v385 :: v386 :: v387 :: v388 :: v389 :: v390 :: v391 :: v392 :: v393 :: v394 :: v395 :: v396 :: v397 :: v398 :: v399 :: v400 :: v401 :: v402 :: v403 :: v404 :: v405 :: v406 :: v407 :: v408 :: v409 :: v410 :: v1412 :: v1413 :: v1414 :: v1415 :: v1416 :: v411 :: v412 :: v413 :: v414 :: v415 :: v416 :: v417 :: v418 :: v419 :: v420 :: v421 :: v422 :: v423 :: v424 :: v425 :: v426 :: v427 :: v428 :: v429 :: v430 :: v431 :: v432 :: v433 :: v434 :: v435 :: v436 :: v437 :: v438 :: v439 :: v440 :: v441 :: v442 :: v443 :: v444 :: v445 :: v446 :: v447 :: v448 :: v449 :: v450 :: v451 :: v452 :: v453 :: v454 :: v455 :: v456 :: v457 :: v458 :: v459 :: []), []⟩ W') :
    Code.wp Try.prog (regP 12) (Exit.then K Q) ⟨List.toArray (v1000 :: v1001 :: v1002 :: v1003 :: v10 :: .pointer (some ⟨g0, 0, none⟩) :: v1 :: .bool o :: .bool ok :: .bool o :: .bool ok :: .bool is :: .bool V :: .bool is :: .bool V :: .int .i64 ct :: .bool V :: .int .i64 ct :: .bool V :: .slice A7 all.length c7 :: .bool five :: .slice A8 all.length c8 :: .bool five :: v1023 :: v28 :: v29 :: v30 :: v2 :: v31 :: v32 :: v33 :: v34 :: v35 :: v36 :: v37 :: v38 :: v39 :: v40 :: v41 :: v42 :: v43 :: v44 :: v45 :: v46 :: v47 :: v48 :: v49 :: v50 :: v51 :: v52 :: v1050 :: v54 :: v55 :: v1053 :: v57 :: v58 :: v59 :: v8 :: v9 :: v60 :: v61 :: v62 :: v63 :: v64 :: v65 :: v66 :: v67 :: v1067 :: v1068 :: v1069 :: v1070 :: v1071 :: v1072 :: v1073 :: v1074 :: v76 :: v77 :: v78 :: v79 :: v80 :: v81 :: v82 :: v83 :: v84 :: v85 :: v86 :: v87 :: v88 :: v89 :: v90 :: v91 :: v92 :: v93 :: v94 :: v95 :: v96 :: v97 :: v98 :: v99 :: v100 :: v101 :: v102 :: v103 :: v104 :: v105 :: v106 :: v107 :: v108 :: v109 :: v110 :: v111 :: v112 :: v113 :: v114 :: v115 :: v116 :: v117 :: v118 :: v119 :: v120 :: v121 :: v122 :: v123 :: v124 :: v125 :: v126 :: v127 :: v128 :: v129 :: v130 :: v131 :: v132 :: v133 :: v134 :: v135 :: v136 :: v137 :: v138 :: v139 :: v140 :: v141 :: v142 :: v143 :: v144 :: v145 :: v146 :: v147 :: v148 :: v149 :: v150 :: v151 :: v152 :: v153 :: v154 :: v155 :: v156 :: v157 :: v158 :: v159 :: v160 :: v161 :: v162 :: v163 :: v164 :: v165 :: v166 :: v167 :: v168 :: v169 :: v170 :: v171 :: v172 :: v173 :: v174 :: v175 :: v176 :: v177 :: v178 :: v179 :: v180 :: v181 :: v182 :: v183 :: v184 :: v185 :: v186 :: v187 :: v188 :: v189 :: v190 :: v191 :: v192 :: v193 :: v194 :: v195 :: v196 :: v197 :: v198 :: v199 :: v200 :: v201 :: v202 :: v203 :: v204 :: v205 :: v206 :: v207 :: v208 :: v209 :: v210 :: v211 :: v212 :: v213 :: v214 :: v215 :: v216 :: v217 :: v218 :: v219 :: v220 :: v221 :: v222 :: v223 :: v224 :: v225 :: v226 :: v227 :: v228 :: v229 :: v230 :: v231 :: v232 :: v1232 :: v1233 :: v233 :: v234 :: v235 :: v236 :: v237 :: v238 :: v239 :: v240 :: v241 :: v242 :: v243 :: v244 :: v245 :: v246 :: v247 :: v248 :: v249 :: v250 :: v251 :: v252 :: v253 :: v254 :: v255 :: v256 :: v257 :: v258 :: v259 :: v260 :: v261 :: v262 :: v263 :: v264 :: v265 :: v266 :: v267 :: v268 :: v269 :: v270 :: v271 :: v272 :: v273 :: v274 :: v275 :: v276 :: v277 :: v278 :: v279 :: v280 :: v281 :: v282 :: v283 :: v284 :: v285 :: v286 :: v287 :: v288 :: v289 :: v290 :: v291 :: v292 :: v293 :: v294 :: v295 :: v296 :: v297 :: v298 :: v299 :: v300 :: v301 :: v302 :: v303 :: v304 :: v305 :: v306 :: v307 :: v308 :: v309 :: v310 :: v311 :: v312 :: v313 :: v314 :: v315 :: v316 :: v317 :: v318 :: v319 :: v320 :: v321 :: v322 :: v323 :: v324 :: v325 :: v326 :: v327 :: v328 :: v329 :: v330 :: v331 :: v332 :: v333 :: v334 :: v335 :: v336 :: v337 :: v338 :: v339 :: v340 :: v341 :: v342 :: v343 :: v344 :: v345 :: v346 :: v347 :: v348 :: v349 :: v350 :: v351 :: v352 :: v353 :: v354 :: v355 :: v356 :: v357 :: v358 :: v359 :: v360 :: v361 :: v362 :: v363 :: v364 :: v365 :: v366 :: v367 :: v368 :: v369 :: v370 :: v371 :: v372 :: v373 :: v374 :: v375 :: v376 :: v377 :: v378 :: v379 :: v380 :: v381 :: v382 :: v383 :: v384 :: v385 :: v386 :: v387 :: v388 :: v389 :: v390 :: v391 :: v392 :: v393 :: v394 :: v395 :: v396 :: v397 :: v398 :: v399 :: v400 :: v401 :: v402 :: v403 :: v404 :: v405 :: v406 :: v407 :: v408 :: v409 :: v410 :: v1412 :: v1413 :: v1414 :: v1415 :: v1416 :: v411 :: v412 :: v413 :: v414 :: v415 :: v416 :: v417 :: v418 :: v419 :: v420 :: v421 :: v422 :: v423 :: v424 :: v425 :: v426 :: v427 :: v428 :: v429 :: v430 :: v431 :: v432 :: v433 :: v434 :: v435 :: v436 :: v437 :: v438 :: v439 :: v440 :: v441 :: v442 :: v443 :: v444 :: v445 :: v446 :: v447 :: v448 :: v449 :: v450 :: v451 :: v452 :: v453 :: v454 :: v455 :: v456 :: v457 :: v458 :: v459 :: []), []⟩ W := by
  have hu24 := Try.underlying24
  have E9 := amk e9
  have E10 := amk e10
  have E11 := amk e11
  have Hr0 := amk hr0
  have Hc0 := amk hc0
  have R7 := amk (Kd.C_below r7 (bd_ (Below.refl _ _))); have R8 := amk (Kd.C_below r8 (bd_ (Below.refl _ _))); have C7 := amk i7; have C8 := amk i8; have S0 := amk (KP_below s (bd_ (Below.refl _ _)))
  clear e9 e10 e11 hr0 hc0 r7 r8 i7 i8 s
  have hbb : ∀ b : Bool, (b != b) = false := fun b => by cases b <;> rfl
  have hii : ∀ x : Int, (x != x) = false := fun x => by simp
  subst hok h5
  conv => arg 2; whnf
  refine start_ (n := 74) (S := fun w' => w'.cell? ⟨g0, 0, none⟩ = some (.int .i64 n0) ∧ w'.cell? ⟨g0, 1, none⟩ = some (.slice A0 L0.length c0)) (ds := []) (lpK 0) (by kernel_rfl) rfl (by kernel_rfl) ⟨(blk_cell S0.out.2 0).trans rfl, (blk_cell S0.out.2 1).trans rfl⟩ (fun hHeld => ?_); refine with_tabW laws_FnKeysOpen.tab11 laws_FnKeysOpen.bits11 (fun HT_ HW_ => ?_)
  generalize W.drew = W at S0 R7 R8 hHeld ⊢
  cases V
  case false =>
    have hv1 : (false && is) = false := rfl
    have hv2 : (false && decide (ct ≤ 200)) = false := rfl
    refine pure_ (i := 0) (N := some 119) (v := ?_) (a' := ?_) (lpK 1) rfl rfl (any_of HT_.out (by kernel_rfl)) (fun c a w2 h => hQ c _ a.tmps a.defers w2 h) (Or.inl ⟨by rfl, ?_⟩) ?_ ?_; rotate_left; (intro w'; go_simp; with_reducible rfl); rotate_left
    · simp only [Act.put, List.setIfInBounds_toArray, List.set_cons_zero, List.set_cons_succ, i64_w, i32_w]; rfl
    refine pure_ (i := 1) (N := some 120) (v := ?_) (a' := ?_) (lpK 2) rfl rfl (any_of HT_.out (by kernel_rfl)) (fun c a w2 h => hQ c _ a.tmps a.defers w2 h) (Or.inl ⟨by rfl, ?_⟩) ?_ ?_; rotate_left; (intro w'; go_simp; with_reducible rfl); rotate_left
    · simp only [Act.put, List.setIfInBounds_toArray, List.set_cons_zero, List.set_cons_succ, i64_w, i32_w]; rfl
    refine pure_ (i := 2) (N := some 121) (v := ?_) (a' := ?_) (lpK 3) rfl rfl (any_of HT_.out (by kernel_rfl)) (fun c a w2 h => hQ c _ a.tmps a.defers w2 h) (Or.inl ⟨by rfl, ?_⟩) ?_ ?_; rotate_left; (intro w'; go_simp; with_reducible rfl); rotate_left
    · simp only [Act.put, List.setIfInBounds_toArray, List.set_cons_zero, List.set_cons_succ, i64_w, i32_w]; rfl
    refine pure_ (i := 3) (N := some 122) (v := ?_) (a' := ?_) (lpK 4) rfl rfl (any_of HT_.out (by kernel_rfl)) (fun c a w2 h => hQ c _ a.tmps a.defers w2 h) (Or.inl ⟨by rfl, ?_⟩) ?_ ?_; rotate_left; (intro w'; go_simp; with_reducible rfl); rotate_left
    · simp only [Act.put, List.setIfInBounds_toArray, List.set_cons_zero, List.set_cons_succ, i64_w, i32_w]; rfl
    refine pure_ (i := 4) (N := some 123) (v := ?_) (a' := ?_) (lpK 5) rfl rfl (any_of HT_.out (by kernel_rfl)) (fun c a w2 h => hQ c _ a.tmps a.defers w2 h) (Or.inl ⟨by rfl, ?_⟩) ?_ ?_; rotate_left; (intro w'; go_simp; with_reducible rfl); rotate_left
    · simp only [Act.put, List.setIfInBounds_toArray, List.set_cons_zero, List.set_cons_succ, i64_w, i32_w]; rfl
    refine pure_ (i := 5) (N := some 124) (v := ?_) (a' := ?_) (lpK 6) rfl rfl (any_of HT_.out (by kernel_rfl)) (fun c a w2 h => hQ c _ a.tmps a.defers w2 h) (Or.inl ⟨by rfl, ?_⟩) ?_ ?_; rotate_left; (intro w'; go_simp; with_reducible rfl); rotate_left
    · simp only [Act.put, List.setIfInBounds_toArray, List.set_cons_zero, List.set_cons_succ, i64_w, i32_w]; rfl
    refine pure_ (i := 6) (N := some 125) (v := ?_) (a' := ?_) (lpK 7) rfl rfl (any_of HT_.out (by kernel_rfl)) (fun c a w2 h => hQ c _ a.tmps a.defers w2 h) (Or.inl ⟨by rfl, ?_⟩) ?_ ?_; rotate_left; (intro w'; go_simp; with_reducible rfl); rotate_left
    · simp only [Act.put, List.setIfInBounds_toArray, List.set_cons_zero, List.set_cons_succ, i64_w, i32_w]; rfl
    refine pure_ (i := 7) (N := some 126) (v := ?_) (a' := ?_) (lpK 8) rfl rfl (any_of HT_.out (by kernel_rfl)) (fun c a w2 h => hQ c _ a.tmps a.defers w2 h) (Or.inl ⟨by rfl, ?_⟩) ?_ ?_; rotate_left; (intro w'; go_simp; with_reducible rfl); rotate_left
    · simp only [Act.put, List.setIfInBounds_toArray, List.set_cons_zero, List.set_cons_succ, i64_w, i32_w]; rfl
    refine pure_ (i := 8) (N := some 127) (v := ?_) (a' := ?_) (lpK 9) rfl rfl (any_of HT_.out (by kernel_rfl)) (fun c a w2 h => hQ c _ a.tmps a.defers w2 h) (Or.inl ⟨by rfl, ?_⟩) ?_ ?_; rotate_left; (intro w'; go_simp; with_reducible rfl); rotate_left
    · simp only [Act.put, List.setIfInBounds_toArray, List.set_cons_zero, List.set_cons_succ, i64_w, i32_w]; rfl
    refine pure_ (i := 9) (N := some 128) (v := ?_) (a' := ?_) (lpK 10) rfl rfl (any_of HT_.out (by kernel_rfl)) (fun c a w2 h => hQ c _ a.tmps a.defers w2 h) (Or.inl ⟨by rfl, ?_⟩) ?_ ?_; rotate_left; (intro w'; go_simp; with_reducible rfl); rotate_left
    · simp only [Act.put, List.setIfInBounds_toArray, List.set_cons_zero, List.set_cons_succ, i64_w, i32_w]; rfl
    refine pure_ (i := 10) (N := some 129) (v := ?_) (a' := ?_) (lpK 11) rfl rfl (any_of HT_.out (by kernel_rfl)) (fun c a w2 h => hQ c _ a.tmps a.defers w2 h) (Or.inl ⟨by rfl, ?_⟩) ?_ ?_; rotate_left; (intro w'; go_simp; with_reducible rfl); rotate_left
    · simp only [Act.put, List.setIfInBounds_toArray, List.set_cons_zero, List.set_cons_succ, i64_w, i32_w]; rfl
    refine pure_ (i := 11) (N := some 130) (v := ?_) (a' := ?_) (lpK 12) rfl rfl (any_of HT_.out (by kernel_rfl)) (fun c a w2 h => hQ c _ a.tmps a.defers w2 h) (Or.inl ⟨by rfl, ?_⟩) ?_ ?_; rotate_left; (intro w'; go_simp; with_reducible rfl); rotate_left
    · simp only [Act.put, List.setIfInBounds_toArray, List.set_cons_zero, List.set_cons_succ, i64_w, i32_w]; rfl
    refine pure_ (i := 12) (N := some 131) (v := ?_) (a' := ?_) (lpK 13) rfl rfl (any_of HT_.out (by kernel_rfl)) (fun c a w2 h => hQ c _ a.tmps a.defers w2 h) (Or.inl ⟨by rfl, ?_⟩) ?_ ?_; rotate_left; (intro w'; go_simp; with_reducible rfl); rotate_left
    · simp only [Act.put, List.setIfInBounds_toArray, List.set_cons_zero, List.set_cons_succ, i64_w, i32_w]; rfl
    refine pure_ (i := 13) (N := some 132) (v := ?_) (a' := ?_) (lpK 14) rfl rfl (any_of HT_.out (by kernel_rfl)) (fun c a w2 h => hQ c _ a.tmps a.defers w2 h) (Or.inl ⟨by rfl, ?_⟩) ?_ ?_; rotate_left; (intro w'; go_simp; with_reducible rfl); rotate_left
    · simp only [Act.put, List.setIfInBounds_toArray, List.set_cons_zero, List.set_cons_succ, i64_w, i32_w]; rfl
    refine pure_ (i := 14) (N := some 133) (v := ?_) (a' := ?_) (lpK 15) rfl rfl (any_of HT_.out (by kernel_rfl)) (fun c a w2 h => hQ c _ a.tmps a.defers w2 h) (Or.inl ⟨by rfl, ?_⟩) ?_ ?_; rotate_left; (intro w'; go_simp; with_reducible rfl); rotate_left
    · simp only [Act.put, List.setIfInBounds_toArray, List.set_cons_zero, List.set_cons_succ, i64_w, i32_w]; rfl
    refine pure_ (i := 15) (N := some 134) (v := ?_) (a' := ?_) (lpK 16) rfl rfl (any_of HT_.out (by kernel_rfl)) (fun c a w2 h => hQ c _ a.tmps a.defers w2 h) (Or.inl ⟨by rfl, ?_⟩) ?_ ?_; rotate_left; (intro w'; go_simp; with_reducible rfl); rotate_left
    · simp only [Act.put, List.setIfInBounds_toArray, List.set_cons_zero, List.set_cons_succ, i64_w, i32_w]; rfl
    refine pure_ (i := 16) (N := some 135) (v := ?_) (a' := ?_) (lpK 17) rfl rfl (any_of HT_.out (by kernel_rfl)) (fun c a w2 h => hQ c _ a.tmps a.defers w2 h) (Or.inl ⟨by rfl, ?_⟩) ?_ ?_; rotate_left; (intro w'; go_simp; with_reducible rfl); rotate_left
    · simp only [Act.put, List.setIfInBounds_toArray, List.set_cons_zero, List.set_cons_succ, i64_w, i32_w]; rfl
    refine pure_ (i := 17) (N := some 136) (v := ?_) (a' := ?_) (lpK 18) rfl rfl (any_of HT_.out (by kernel_rfl)) (fun c a w2 h => hQ c _ a.tmps a.defers w2 h) (Or.inl ⟨by rfl, ?_⟩) ?_ ?_; rotate_left; (intro w'; go_simp; with_reducible rfl); rotate_left
    · simp only [Act.put, List.setIfInBounds_toArray, List.set_cons_zero, List.set_cons_succ, i64_w, i32_w]; rfl
    refine pure_ (i := 18) (N := some 137) (v := ?_) (a' := ?_) (lpK 19) rfl rfl (any_of HT_.out (by kernel_rfl)) (fun c a w2 h => hQ c _ a.tmps a.defers w2 h) (Or.inl ⟨by rfl, ?_⟩) ?_ ?_; rotate_left; (intro w'; go_simp; with_reducible rfl); rotate_left
    · simp only [Act.put, List.setIfInBounds_toArray, List.set_cons_zero, List.set_cons_succ, i64_w, i32_w]; rfl
    refine pure_ (i := 19) (N := some 138) (v := ?_) (a' := ?_) (lpK 20) rfl rfl (any_of HT_.out (by kernel_rfl)) (fun c a w2 h => hQ c _ a.tmps a.defers w2 h) (Or.inl ⟨by rfl, ?_⟩) ?_ ?_; rotate_left; (intro w'; go_simp; with_reducible rfl); rotate_left
    · simp only [Act.put, List.setIfInBounds_toArray, List.set_cons_zero, List.set_cons_succ, i64_w, i32_w]; rfl
    refine pure_ (i := 20) (N := some 139) (v := ?_) (a' := ?_) (lpK 21) rfl rfl (any_of HT_.out (by kernel_rfl)) (fun c a w2 h => hQ c _ a.tmps a.defers w2 h) (Or.inl ⟨by rfl, ?_⟩) ?_ ?_; rotate_left; (intro w'; go_simp; with_reducible rfl); rotate_left
    · simp only [Act.put, List.setIfInBounds_toArray, List.set_cons_zero, List.set_cons_succ, i64_w, i32_w]; rfl
    refine pure_ (i := 21) (N := some 140) (v := ?_) (a' := ?_) (lpK 22) rfl rfl (any_of HT_.out (by kernel_rfl)) (fun c a w2 h => hQ c _ a.tmps a.defers w2 h) (Or.inl ⟨by rfl, ?_⟩) ?_ ?_; rotate_left; (intro w'; go_simp; with_reducible rfl); rotate_left
    · simp only [Act.put, List.setIfInBounds_toArray, List.set_cons_zero, List.set_cons_succ, i64_w, i32_w]; rfl
    refine pure_ (i := 22) (N := some 141) (v := ?_) (a' := ?_) (lpK 23) rfl rfl (any_of HT_.out (by kernel_rfl)) (fun c a w2 h => hQ c _ a.tmps a.defers w2 h) (Or.inl ⟨by rfl, ?_⟩) ?_ ?_; rotate_left; (intro w'; go_simp; with_reducible rfl); rotate_left
    · simp only [Act.put, List.setIfInBounds_toArray, List.set_cons_zero, List.set_cons_succ, i64_w, i32_w]; rfl
    refine pure_ (i := 23) (N := some 142) (v := ?_) (a' := ?_) (lpK 24) rfl rfl (any_of HT_.out (by kernel_rfl)) (fun c a w2 h => hQ c _ a.tmps a.defers w2 h) (Or.inl ⟨by rfl, ?_⟩) ?_ ?_; rotate_left; (intro w'; go_simp; with_reducible rfl); rotate_left
    · simp only [Act.put, List.setIfInBounds_toArray, List.set_cons_zero, List.set_cons_succ, i64_w, i32_w]; rfl
    refine pure_ (i := 24) (N := some 143) (v := ?_) (a' := ?_) (lpK 25) rfl rfl (any_of HT_.out (by kernel_rfl)) (fun c a w2 h => hQ c _ a.tmps a.defers w2 h) (Or.inl ⟨by rfl, ?_⟩) ?_ ?_; rotate_left; (intro w'; go_simp; with_reducible rfl); rotate_left
    · simp only [Act.put, List.setIfInBounds_toArray, List.set_cons_zero, List.set_cons_succ, i64_w, i32_w]; rfl
    refine pure_ (i := 25) (N := some 144) (v := ?_) (a' := ?_) (lpK 26) rfl rfl (any_of HT_.out (by kernel_rfl)) (fun c a w2 h => hQ c _ a.tmps a.defers w2 h) (Or.inl ⟨by rfl, ?_⟩) ?_ ?_; rotate_left; (intro w'; go_simp; with_reducible rfl); rotate_left
    · simp only [Act.put, List.setIfInBounds_toArray, List.set_cons_zero, List.set_cons_succ, i64_w, i32_w]; rfl
    refine pure_ (i := 26) (N := some 145) (v := ?_) (a' := ?_) (lpK 27) rfl rfl (any_of HT_.out (by kernel_rfl)) (fun c a w2 h => hQ c _ a.tmps a.defers w2 h) (Or.inl ⟨by rfl, ?_⟩) ?_ ?_; rotate_left; (intro w'; go_simp; with_reducible rfl); rotate_left
    · simp only [Act.put, List.setIfInBounds_toArray, List.set_cons_zero, List.set_cons_succ, i64_w, i32_w]; rfl
    refine pure_ (i := 27) (N := some 146) (v := ?_) (a' := ?_) (lpK 28) rfl rfl (any_of HT_.out (by kernel_rfl)) (fun c a w2 h => hQ c _ a.tmps a.defers w2 h) (Or.inl ⟨by rfl, ?_⟩) ?_ ?_; rotate_left; (intro w'; go_simp; with_reducible rfl); rotate_left
    · simp only [Act.put, List.setIfInBounds_toArray, List.set_cons_zero, List.set_cons_succ, i64_w, i32_w]; rfl
    refine pure_ (i := 28) (N := some 147) (v := ?_) (a' := ?_) (lpK 29) rfl rfl (any_of HT_.out (by kernel_rfl)) (fun c a w2 h => hQ c _ a.tmps a.defers w2 h) (Or.inl ⟨by rfl, ?_⟩) ?_ ?_; rotate_left; (intro w'; go_simp; with_reducible rfl); rotate_left
    · simp only [Act.put, List.setIfInBounds_toArray, List.set_cons_zero, List.set_cons_succ, i64_w, i32_w]; rfl
    refine pure_ (i := 29) (N := some 148) (v := ?_) (a' := ?_) (lpK 30) rfl rfl (any_of HT_.out (by kernel_rfl)) (fun c a w2 h => hQ c _ a.tmps a.defers w2 h) (Or.inl ⟨by rfl, ?_⟩) ?_ ?_; rotate_left; (intro w'; go_simp; with_reducible rfl); rotate_left
    · simp only [Act.put, List.setIfInBounds_toArray, List.set_cons_zero, List.set_cons_succ, i64_w, i32_w]; rfl
    refine pure_ (i := 30) (N := some 149) (v := ?_) (a' := ?_) (lpK 31) rfl rfl (any_of HT_.out (by kernel_rfl)) (fun c a w2 h => hQ c _ a.tmps a.defers w2 h) (Or.inl ⟨by rfl, ?_⟩) ?_ ?_; rotate_left; (intro w'; go_simp; with_reducible rfl); rotate_left
    · simp only [Act.put, List.setIfInBounds_toArray, List.set_cons_zero, List.set_cons_succ, i64_w, i32_w]; rfl
    refine pure_ (i := 31) (N := some 150) (v := ?_) (a' := ?_) (lpK 32) rfl rfl (any_of HT_.out (by kernel_rfl)) (fun c a w2 h => hQ c _ a.tmps a.defers w2 h) (Or.inl ⟨by rfl, ?_⟩) ?_ ?_; rotate_left; (intro w'; go_simp; with_reducible rfl); rotate_left
    · simp only [Act.put, List.setIfInBounds_toArray, List.set_cons_zero, List.set_cons_succ, i64_w, i32_w]; rfl
    refine pure_ (i := 32) (N := some 151) (v := ?_) (a' := ?_) (lpK 33) rfl rfl (any_of HT_.out (by kernel_rfl)) (fun c a w2 h => hQ c _ a.tmps a.defers w2 h) (Or.inl ⟨by rfl, ?_⟩) ?_ ?_; rotate_left; (intro w'; go_simp; with_reducible rfl); rotate_left
    · simp only [Act.put, List.setIfInBounds_toArray, List.set_cons_zero, List.set_cons_succ, i64_w, i32_w]; rfl
    refine pure_ (i := 33) (N := some 152) (v := ?_) (a' := ?_) (lpK 34) rfl rfl (any_of HT_.out (by kernel_rfl)) (fun c a w2 h => hQ c _ a.tmps a.defers w2 h) (Or.inl ⟨by rfl, ?_⟩) ?_ ?_; rotate_left; (intro w'; go_simp; with_reducible rfl); rotate_left
    · simp only [Act.put, List.setIfInBounds_toArray, List.set_cons_zero, List.set_cons_succ, i64_w, i32_w]; rfl
    refine pure_ (i := 34) (N := some 153) (v := ?_) (a' := ?_) (lpK 35) rfl rfl (any_of HT_.out (by kernel_rfl)) (fun c a w2 h => hQ c _ a.tmps a.defers w2 h) (Or.inl ⟨by rfl, ?_⟩) ?_ ?_; rotate_left; (intro w'; go_simp; with_reducible rfl); rotate_left
    · simp only [Act.put, List.setIfInBounds_toArray, List.set_cons_zero, List.set_cons_succ, i64_w, i32_w]; rfl
    refine pure_ (i := 35) (N := some 154) (v := ?_) (a' := ?_) (lpK 36) rfl rfl (any_of HT_.out (by kernel_rfl)) (fun c a w2 h => hQ c _ a.tmps a.defers w2 h) (Or.inl ⟨by rfl, ?_⟩) ?_ ?_; rotate_left; (intro w'; go_simp; with_reducible rfl); rotate_left
    · simp only [Act.put, List.setIfInBounds_toArray, List.set_cons_zero, List.set_cons_succ, i64_w, i32_w]; rfl
    refine one_ (i := 36) (N := some 155) (lpK 37) rfl rfl (one_of HT_.out (by kernel_rfl)) (by decide) (fun K hK => ?_)
    refine goes_ Try.func13 (by kernel_rfl) rfl #[.slice A7 all.length c7, .slice A8 all.length c8] (by rfl) rfl rfl (by (try simp only [List.map_toArray, List.map_cons, List.map_nil]); first | done | rfl | (simp only [List.length_drop, List.length_take]; rfl)) ?_
    refine Calls.mono (laws_eTexts.calls k _ _ all _ _ all true _ R7.out C7.out R8.out C8.out E9.out) ?_
    rintro e wx ⟨rfl, ⟨nd, rfl⟩⟩
    have n1 := amk (KP_below S0.out (by exact bn_ (Below.refl _ _) nd)); have n2 := amk (Kd.C_below R7.out (by exact bn_ (Below.refl _ _) nd)); clear S0 R7 R8; have S0 := n1; have R7 := n2; clear n1 n2
    refine ⟨_, rfl, ?_⟩
    refine hK.out _ _ ⟨(blk_cell S0.out.2 0).trans rfl, (blk_cell S0.out.2 1).trans rfl⟩ (fun hHeld => ?_)
    clear hK K; refine norm_ (a' := ?_) ?_ ?_; rotate_left
    · show Act.put _ (some 155) _ = _; simp only [Act.put, List.setIfInBounds_toArray, List.set_cons_zero, List.set_cons_succ, i64_w, i32_w]; rfl
    refine pure_ (i := 37) (N := some 156) (v := ?_) (a' := ?_) (lpK 38) rfl rfl (any_of HT_.out (by kernel_rfl)) (fun c a w2 h => hQ c _ a.tmps a.defers w2 h) (Or.inl ⟨by rfl, ?_⟩) ?_ ?_; rotate_left; (intro w'; go_simp; with_reducible rfl); rotate_left
    · simp only [Act.put, List.setIfInBounds_toArray, List.set_cons_zero, List.set_cons_succ, i64_w, i32_w]; rfl
    refine pure_ (i := 38) (N := some 157) (v := ?_) (a' := ?_) (lpK 39) rfl rfl (any_of HT_.out (by kernel_rfl)) (fun c a w2 h => hQ c _ a.tmps a.defers w2 h) (Or.inl ⟨by rfl, ?_⟩) ?_ ?_; rotate_left; (intro w'; go_simp; with_reducible rfl); rotate_left
    · simp only [Act.put, List.setIfInBounds_toArray, List.set_cons_zero, List.set_cons_succ, i64_w, i32_w]; rfl
    refine pure_ (i := 39) (N := some 158) (v := ?_) (a' := ?_) (lpK 40) rfl rfl (any_of HT_.out (by kernel_rfl)) (fun c a w2 h => hQ c _ a.tmps a.defers w2 h) (Or.inl ⟨by rfl, ?_⟩) ?_ ?_; rotate_left; (intro w'; go_simp; with_reducible rfl); rotate_left
    · simp only [Act.put, List.setIfInBounds_toArray, List.set_cons_zero, List.set_cons_succ, i64_w, i32_w]; rfl
    refine pure_ (i := 40) (N := some 159) (v := ?_) (a' := ?_) (lpK 41) rfl rfl (any_of HT_.out (by kernel_rfl)) (fun c a w2 h => hQ c _ a.tmps a.defers w2 h) (Or.inl ⟨by rfl, ?_⟩) ?_ ?_; rotate_left; (intro w'; go_simp; with_reducible rfl); rotate_left
    · simp only [Act.put, List.setIfInBounds_toArray, List.set_cons_zero, List.set_cons_succ, i64_w, i32_w]; rfl
    refine take_ (i := 41) (N := some 160) (v := ?_) (a' := ?_) (lpK 42) rfl rfl (take_ofW HT_.out HW_.out (by kernel_rfl)) (fun c a w2 h => hQ c _ a.tmps a.defers w2 h) (Or.inl ⟨by rfl, ?_⟩) hHeld ?_ ?_; rotate_left; (rintro w' ⟨s0, s1⟩; go_simp; with_reducible rfl); rotate_left
    · simp only [Act.put, List.setIfInBounds_toArray, List.set_cons_zero, List.set_cons_succ, i64_w, i32_w]; rfl
    refine one_ (i := 42) (N := some 161) (lpK 43) rfl rfl (one_of HT_.out (by kernel_rfl)) (by decide) (fun K hK => ?_)
    refine goes_ Try.func14 (by kernel_rfl) rfl #[.agg #[.int .i64 n0, .slice A0 L0.length c0]] (by rfl) rfl rfl (by (try simp only [List.map_toArray, List.map_cons, List.map_nil]); first | done | rfl | (simp only [List.length_drop, List.length_take]; rfl)) ?_
    refine Calls.mono (impl_ArePins.calls n0 _ _ L0 false _ (Kd.C_below Hr0.out S0.out.1) Hc0.out E10.out) ?_
    rintro e wx ⟨rfl, hb⟩
    have n1 := amk (KP_below S0.out hb); have n2 := amk (Kd.C_below R7.out hb); clear S0 R7 hb; have S0 := n1; have R7 := n2; clear n1 n2
    refine ⟨_, rfl, ?_⟩
    refine hK.out _ _ ⟨(blk_cell S0.out.2 0).trans rfl, (blk_cell S0.out.2 1).trans rfl⟩ (fun hHeld => ?_)
    clear hK K; refine norm_ (a' := ?_) ?_ ?_; rotate_left
    · show Act.put _ (some 161) _ = _; simp only [Act.put, List.setIfInBounds_toArray, List.set_cons_zero, List.set_cons_succ, i64_w, i32_w]; rfl
    refine pure_ (i := 43) (N := some 162) (v := ?_) (a' := ?_) (lpK 44) rfl rfl (any_of HT_.out (by kernel_rfl)) (fun c a w2 h => hQ c _ a.tmps a.defers w2 h) (Or.inl ⟨by rfl, ?_⟩) ?_ ?_; rotate_left; (intro w'; go_simp; with_reducible rfl); rotate_left
    · simp only [Act.put, List.setIfInBounds_toArray, List.set_cons_zero, List.set_cons_succ, i64_w, i32_w]; rfl
    refine pure_ (i := 44) (N := some 163) (v := ?_) (a' := ?_) (lpK 45) rfl rfl (any_of HT_.out (by kernel_rfl)) (fun c a w2 h => hQ c _ a.tmps a.defers w2 h) (Or.inl ⟨by rfl, ?_⟩) ?_ ?_; rotate_left; (intro w'; go_simp; with_reducible rfl); rotate_left
    · simp only [Act.put, List.setIfInBounds_toArray, List.set_cons_zero, List.set_cons_succ, i64_w, i32_w]; rfl
    refine pure_ (i := 45) (N := some 164) (v := ?_) (a' := ?_) (lpK 46) rfl rfl (any_of HT_.out (by kernel_rfl)) (fun c a w2 h => hQ c _ a.tmps a.defers w2 h) (Or.inl ⟨by rfl, ?_⟩) ?_ ?_; rotate_left; (intro w'; go_simp; with_reducible rfl); rotate_left
    · simp only [Act.put, List.setIfInBounds_toArray, List.set_cons_zero, List.set_cons_succ, i64_w, i32_w]; rfl
    refine take_ (i := 46) (N := some 165) (v := ?_) (a' := ?_) (lpK 47) rfl rfl (take_ofW HT_.out HW_.out (by kernel_rfl)) (fun c a w2 h => hQ c _ a.tmps a.defers w2 h) (Or.inl ⟨by rfl, ?_⟩) hHeld ?_ ?_; rotate_left; (rintro w' ⟨s0, s1⟩; go_simp; with_reducible rfl); rotate_left
    · simp only [Act.put, List.setIfInBounds_toArray, List.set_cons_zero, List.set_cons_succ, i64_w, i32_w]; rfl
    refine take_ (i := 48) (N := some 167) (v := ?_) (a' := ?_) ((lpK 47).setIfInBounds 48 true) rfl rfl (take_ofW HT_.out HW_.out (by kernel_rfl)) (fun c a w2 h => hQ c _ a.tmps a.defers w2 h) (Or.inl ⟨by rfl, ?_⟩) hHeld ?_ ?_; rotate_left; (rintro w' ⟨s0, s1⟩; go_simp; with_reducible rfl); rotate_left
    · simp only [Act.put, List.setIfInBounds_toArray, List.set_cons_zero, List.set_cons_succ, i64_w, i32_w]; rfl
    refine one_ (i := 47) (N := some 166) (lpK 49) rfl rfl (one_of HT_.out (by kernel_rfl)) (by decide) (fun K hK => ?_)
    refine goes_ Try.func14 (by kernel_rfl) rfl #[.agg #[.int .i64 n0, .slice A0 L0.length c0]] (by rfl) rfl rfl (by (try simp only [List.map_toArray, List.map_cons, List.map_nil]); first | done | rfl | (simp only [List.length_drop, List.length_take]; rfl)) ?_
    refine Calls.mono (impl_ArePins.calls n0 _ _ L0 false _ (Kd.C_below Hr0.out S0.out.1) Hc0.out E10.out) ?_
    rintro e wx ⟨rfl, hb⟩
    have n1 := amk (KP_below S0.out hb); have n2 := amk (Kd.C_below R7.out hb); clear S0 R7 hb; have S0 := n1; have R7 := n2; clear n1 n2
    refine ⟨_, rfl, ?_⟩
    refine hK.out _ _ ⟨(blk_cell S0.out.2 0).trans rfl, (blk_cell S0.out.2 1).trans rfl⟩ (fun hHeld => ?_)
    clear hK K; refine norm_ (a' := ?_) ?_ ?_; rotate_left
    · show Act.put _ (some 166) _ = _; simp only [Act.put, List.setIfInBounds_toArray, List.set_cons_zero, List.set_cons_succ, i64_w, i32_w]; rfl
    refine one_ (i := 49) (N := some 168) (lpK 50) rfl rfl (one_of HT_.out (by kernel_rfl)) (by decide) (fun K hK => ?_)
    refine goes_ Try.func15 (by kernel_rfl) rfl #[.agg #[.int .i64 n0, .slice A0 L0.length c0]] (by rfl) rfl rfl (by (try simp only [List.map_toArray, List.map_cons, List.map_nil]); first | done | rfl | (simp only [List.length_drop, List.length_take]; rfl)) ?_
    refine Calls.mono (spec_ArePins.calls k n0 _ _ L0 false _ (Kd.C_below Hr0.out S0.out.1) Hc0.out E11.out) ?_
    rintro e wx ⟨rfl, hb⟩
    have n1 := amk (KP_below S0.out hb); have n2 := amk (Kd.C_below R7.out hb); clear S0 R7 hb; have S0 := n1; have R7 := n2; clear n1 n2
    refine ⟨_, rfl, ?_⟩
    refine hK.out _ _ ⟨(blk_cell S0.out.2 0).trans rfl, (blk_cell S0.out.2 1).trans rfl⟩ (fun hHeld => ?_)
    clear hK K; refine norm_ (a' := ?_) ?_ ?_; rotate_left
    · show Act.put _ (some 168) _ = _; simp only [Act.put, List.setIfInBounds_toArray, List.set_cons_zero, List.set_cons_succ, i64_w, i32_w]; rfl
    refine pure_ (i := 50) (N := some 169) (v := ?_) (a' := ?_) (lpK 51) rfl rfl (any_of HT_.out (by kernel_rfl)) (fun c a w2 h => hQ c _ a.tmps a.defers w2 h) (Or.inl ⟨by rfl, ?_⟩) ?_ ?_; rotate_left; (intro w'; go_simp; with_reducible rfl); rotate_left
    · simp only [Act.put, List.setIfInBounds_toArray, List.set_cons_zero, List.set_cons_succ, i64_w, i32_w]; rfl
    refine pure_ (i := 51) (N := some 170) (v := ?_) (a' := ?_) (lpK 52) rfl rfl (any_of HT_.out (by kernel_rfl)) (fun c a w2 h => hQ c _ a.tmps a.defers w2 h) (Or.inl ⟨by rfl, ?_⟩) ?_ ?_; rotate_left; (intro w'; go_simp; with_reducible rfl); rotate_left
    · simp only [Act.put, List.setIfInBounds_toArray, List.set_cons_zero, List.set_cons_succ, i64_w, i32_w]; rfl
    refine pure_ (i := 52) (N := some 171) (v := ?_) (a' := ?_) (lpK 53) rfl rfl (any_of HT_.out (by kernel_rfl)) (fun c a w2 h => hQ c _ a.tmps a.defers w2 h) (Or.inl ⟨by rfl, ?_⟩) ?_ ?_; rotate_left; (intro w'; go_simp; with_reducible rfl); rotate_left
    · simp only [Act.put, List.setIfInBounds_toArray, List.set_cons_zero, List.set_cons_succ, i64_w, i32_w]; rfl
    refine pure_ (i := 53) (N := some 172) (v := ?_) (a' := ?_) (lpK 54) rfl rfl (any_of HT_.out (by kernel_rfl)) (fun c a w2 h => hQ c _ a.tmps a.defers w2 h) (Or.inl ⟨by rfl, ?_⟩) ?_ ?_; rotate_left; (intro w'; go_simp; with_reducible rfl); rotate_left
    · simp only [Act.put, List.setIfInBounds_toArray, List.set_cons_zero, List.set_cons_succ, i64_w, i32_w]; rfl
    refine pure_ (i := 54) (N := some 173) (v := ?_) (a' := ?_) (lpK 55) rfl rfl (any_of HT_.out (by kernel_rfl)) (fun c a w2 h => hQ c _ a.tmps a.defers w2 h) (Or.inl ⟨by rfl, ?_⟩) ?_ ?_; rotate_left; (intro w'; go_simp; with_reducible rfl); rotate_left
    · simp only [Act.put, List.setIfInBounds_toArray, List.set_cons_zero, List.set_cons_succ, i64_w, i32_w]; rfl
    refine pure_ (i := 55) (N := some 174) (v := ?_) (a' := ?_) (lpK 56) rfl rfl (any_of HT_.out (by kernel_rfl)) (fun c a w2 h => hQ c _ a.tmps a.defers w2 h) (Or.inl ⟨by rfl, ?_⟩) ?_ ?_; rotate_left; (intro w'; go_simp; with_reducible rfl); rotate_left
    · simp only [Act.put, List.setIfInBounds_toArray, List.set_cons_zero, List.set_cons_succ, i64_w, i32_w]; rfl
    refine pure_ (i := 56) (N := some 175) (v := ?_) (a' := ?_) (lpK 57) rfl rfl (any_of HT_.out (by kernel_rfl)) (fun c a w2 h => hQ c _ a.tmps a.defers w2 h) (Or.inl ⟨by rfl, ?_⟩) ?_ ?_; rotate_left; (intro w'; go_simp; with_reducible rfl); rotate_left
    · simp only [Act.put, List.setIfInBounds_toArray, List.set_cons_zero, List.set_cons_succ, i64_w, i32_w]; rfl
    refine pure_ (i := 57) (N := some 176) (v := ?_) (a' := ?_) (lpK 58) rfl rfl (any_of HT_.out (by kernel_rfl)) (fun c a w2 h => hQ c _ a.tmps a.defers w2 h) (Or.inl ⟨by rfl, ?_⟩) ?_ ?_; rotate_left; (intro w'; go_simp; with_reducible rfl); rotate_left
    · simp only [Act.put, List.setIfInBounds_toArray, List.set_cons_zero, List.set_cons_succ, i64_w, i32_w]; rfl
    refine pure_ (i := 58) (N := some 177) (v := ?_) (a' := ?_) (lpK 59) rfl rfl (any_of HT_.out (by kernel_rfl)) (fun c a w2 h => hQ c _ a.tmps a.defers w2 h) (Or.inl ⟨by rfl, ?_⟩) ?_ ?_; rotate_left; (intro w'; go_simp; with_reducible rfl); rotate_left
    · simp only [Act.put, List.setIfInBounds_toArray, List.set_cons_zero, List.set_cons_succ, i64_w, i32_w]; rfl
    refine pure_ (i := 59) (N := some 178) (v := ?_) (a' := ?_) (lpK 60) rfl rfl (any_of HT_.out (by kernel_rfl)) (fun c a w2 h => hQ c _ a.tmps a.defers w2 h) (Or.inl ⟨by rfl, ?_⟩) ?_ ?_; rotate_left; (intro w'; go_simp; with_reducible rfl); rotate_left
    · simp only [Act.put, List.setIfInBounds_toArray, List.set_cons_zero, List.set_cons_succ, i64_w, i32_w]; rfl
    refine pure_ (i := 60) (N := some 179) (v := ?_) (a' := ?_) (lpK 61) rfl rfl (any_of HT_.out (by kernel_rfl)) (fun c a w2 h => hQ c _ a.tmps a.defers w2 h) (Or.inl ⟨by rfl, ?_⟩) ?_ ?_; rotate_left; (intro w'; go_simp; with_reducible rfl); rotate_left
    · simp only [Act.put, List.setIfInBounds_toArray, List.set_cons_zero, List.set_cons_succ, i64_w, i32_w]; rfl
    first | (refine pure_ (i := 61) (N := some 180) (v := ?_) (a' := ?_) (lpK 62) rfl rfl (any_of HT_.out (by kernel_rfl)) (fun c a w2 h => hQ c _ a.tmps a.defers w2 h) (Or.inl ⟨by rfl, ?_⟩) ?_ ?_; rotate_left; (intro w'; go_simp; with_reducible rfl); rotate_left) | (refine pure_ (i := 61) (N := some 180) (v := undef) (a' := ?_) (lpK 62) rfl rfl (any_of HT_.out (by kernel_rfl)) (fun c a w2 h => hQ c _ a.tmps a.defers w2 h) (Or.inr ⟨by rfl, rfl⟩) ?_ ?_; rotate_left)
    · simp only [Act.put, List.setIfInBounds_toArray, List.set_cons_zero, List.set_cons_succ, i64_w, i32_w]; rfl
    refine pure_ (i := 62) (N := some 181) (v := ?_) (a' := ?_) (lpK 63) rfl rfl (any_of HT_.out (by kernel_rfl)) (fun c a w2 h => hQ c _ a.tmps a.defers w2 h) (Or.inl ⟨by rfl, ?_⟩) ?_ ?_; rotate_left; (intro w'; go_simp; with_reducible rfl); rotate_left
    · simp only [Act.put, List.setIfInBounds_toArray, List.set_cons_zero, List.set_cons_succ, i64_w, i32_w]; rfl
    refine pure_ (i := 63) (N := some 182) (v := ?_) (a' := ?_) (lpK 64) rfl rfl (any_of HT_.out (by kernel_rfl)) (fun c a w2 h => hQ c _ a.tmps a.defers w2 h) (Or.inl ⟨by rfl, ?_⟩) ?_ ?_; rotate_left; (intro w'; go_simp; with_reducible rfl); rotate_left
    · simp only [Act.put, List.setIfInBounds_toArray, List.set_cons_zero, List.set_cons_succ, i64_w, i32_w]; rfl
    refine pure_ (i := 64) (N := some 183) (v := ?_) (a' := ?_) (lpK 65) rfl rfl (any_of HT_.out (by kernel_rfl)) (fun c a w2 h => hQ c _ a.tmps a.defers w2 h) (Or.inl ⟨by rfl, ?_⟩) ?_ ?_; rotate_left; (intro w'; go_simp; with_reducible rfl); rotate_left
    · simp only [Act.put, List.setIfInBounds_toArray, List.set_cons_zero, List.set_cons_succ, i64_w, i32_w]; rfl
    refine pure_ (i := 65) (N := some 184) (v := ?_) (a' := ?_) (lpK 66) rfl rfl (any_of HT_.out (by kernel_rfl)) (fun c a w2 h => hQ c _ a.tmps a.defers w2 h) (Or.inl ⟨by rfl, ?_⟩) ?_ ?_; rotate_left; (intro w'; go_simp; with_reducible rfl); rotate_left
    · simp only [Act.put, List.setIfInBounds_toArray, List.set_cons_zero, List.set_cons_succ, i64_w, i32_w]; rfl
    refine pure_ (i := 66) (N := some 185) (v := ?_) (a' := ?_) (lpK 67) rfl rfl (any_of HT_.out (by kernel_rfl)) (fun c a w2 h => hQ c _ a.tmps a.defers w2 h) (Or.inl ⟨by rfl, ?_⟩) ?_ ?_; rotate_left; (intro w'; go_simp; with_reducible rfl); rotate_left
    · simp only [Act.put, List.setIfInBounds_toArray, List.set_cons_zero, List.set_cons_succ, i64_w, i32_w]; rfl
    refine pure_ (i := 67) (N := some 186) (v := ?_) (a' := ?_) (lpK 68) rfl rfl (any_of HT_.out (by kernel_rfl)) (fun c a w2 h => hQ c _ a.tmps a.defers w2 h) (Or.inl ⟨by rfl, ?_⟩) ?_ ?_; rotate_left; (intro w'; go_simp; with_reducible rfl); rotate_left
    · simp only [Act.put, List.setIfInBounds_toArray, List.set_cons_zero, List.set_cons_succ, i64_w, i32_w]; rfl
    refine pure_ (i := 68) (N := some 187) (v := ?_) (a' := ?_) (lpK 69) rfl rfl (any_of HT_.out (by kernel_rfl)) (fun c a w2 h => hQ c _ a.tmps a.defers w2 h) (Or.inl ⟨by rfl, ?_⟩) ?_ ?_; rotate_left; (intro w'; go_simp; with_reducible rfl); rotate_left
    · simp only [Act.put, List.setIfInBounds_toArray, List.set_cons_zero, List.set_cons_succ, i64_w, i32_w]; rfl
    first | (refine pure_ (i := 69) (N := some 188) (v := ?_) (a' := ?_) (lpK 70) rfl rfl (any_of HT_.out (by kernel_rfl)) (fun c a w2 h => hQ c _ a.tmps a.defers w2 h) (Or.inl ⟨by rfl, ?_⟩) ?_ ?_; rotate_left; (intro w'; go_simp; with_reducible rfl); rotate_left) | (refine pure_ (i := 69) (N := some 188) (v := undef) (a' := ?_) (lpK 70) rfl rfl (any_of HT_.out (by kernel_rfl)) (fun c a w2 h => hQ c _ a.tmps a.defers w2 h) (Or.inr ⟨by rfl, rfl⟩) ?_ ?_; rotate_left)
    · simp only [Act.put, List.setIfInBounds_toArray, List.set_cons_zero, List.set_cons_succ, i64_w, i32_w]; rfl
    first | (refine pure_ (i := 70) (N := some 189) (v := ?_) (a' := ?_) (lpK 71) rfl rfl (any_of HT_.out (by kernel_rfl)) (fun c a w2 h => hQ c _ a.tmps a.defers w2 h) (Or.inl ⟨by rfl, ?_⟩) ?_ ?_; rotate_left; (intro w'; go_simp; with_reducible rfl); rotate_left) | (refine pure_ (i := 70) (N := some 189) (v := undef) (a' := ?_) (lpK 71) rfl rfl (any_of HT_.out (by kernel_rfl)) (fun c a w2 h => hQ c _ a.tmps a.defers w2 h) (Or.inr ⟨by rfl, rfl⟩) ?_ ?_; rotate_left)
    · simp only [Act.put, List.setIfInBounds_toArray, List.set_cons_zero, List.set_cons_succ, i64_w, i32_w]; rfl
    refine pure_ (i := 71) (N := some 190) (v := ?_) (a' := ?_) (lpK 72) rfl rfl (any_of HT_.out (by kernel_rfl)) (fun c a w2 h => hQ c _ a.tmps a.defers w2 h) (Or.inl ⟨by rfl, ?_⟩) ?_ ?_; rotate_left; (intro w'; go_simp; with_reducible rfl); rotate_left
    · simp only [Act.put, List.setIfInBounds_toArray, List.set_cons_zero, List.set_cons_succ, i64_w, i32_w]; rfl
    refine pure_ (i := 72) (N := some 191) (v := ?_) (a' := ?_) (lpK 73) rfl rfl (any_of HT_.out (by kernel_rfl)) (fun c a w2 h => hQ c _ a.tmps a.defers w2 h) (Or.inl ⟨by rfl, ?_⟩) ?_ ?_; rotate_left; (intro w'; go_simp; with_reducible rfl); rotate_left
    · simp only [Act.put, List.setIfInBounds_toArray, List.set_cons_zero, List.set_cons_succ, i64_w, i32_w]; rfl
    refine pure_ (i := 73) (N := some 192) (v := ?_) (a' := ?_) (lpK 74) rfl rfl (any_of HT_.out (by kernel_rfl)) (fun c a w2 h => hQ c _ a.tmps a.defers w2 h) (Or.inl ⟨by rfl, ?_⟩) ?_ ?_; rotate_left; (intro w'; go_simp; with_reducible rfl); rotate_left
    · simp only [Act.put, List.setIfInBounds_toArray, List.set_cons_zero, List.set_cons_succ, i64_w, i32_w]; rfl
    refine done_ (done_of HT_.out (by kernel_rfl)) ?_
    exact hrest _ S0.out R7.out
  case true =>
    have hv1 : (true && is) = is := rfl
    have hv2 : (true && decide (ct ≤ 200)) = decide (ct ≤ 200) := rfl
    refine pure_ (i := 0) (N := some 119) (v := ?_) (a' := ?_) (lpK 1) rfl rfl (any_of HT_.out (by kernel_rfl)) (fun c a w2 h => hQ c _ a.tmps a.defers w2 h) (Or.inl ⟨by rfl, ?_⟩) ?_ ?_; rotate_left; (intro w'; go_simp; with_reducible rfl); rotate_left
    · simp only [Act.put, List.setIfInBounds_toArray, List.set_cons_zero, List.set_cons_succ, i64_w, i32_w]; rfl
    refine pure_ (i := 1) (N := some 120) (v := ?_) (a' := ?_) (lpK 2) rfl rfl (any_of HT_.out (by kernel_rfl)) (fun c a w2 h => hQ c _ a.tmps a.defers w2 h) (Or.inl ⟨by rfl, ?_⟩) ?_ ?_; rotate_left; (intro w'; go_simp; with_reducible rfl); rotate_left
    · simp only [Act.put, List.setIfInBounds_toArray, List.set_cons_zero, List.set_cons_succ, i64_w, i32_w]; rfl
    refine pure_ (i := 2) (N := some 121) (v := ?_) (a' := ?_) (lpK 3) rfl rfl (any_of HT_.out (by kernel_rfl)) (fun c a w2 h => hQ c _ a.tmps a.defers w2 h) (Or.inl ⟨by rfl, ?_⟩) ?_ ?_; rotate_left; (intro w'; go_simp; with_reducible rfl); rotate_left
    · simp only [Act.put, List.setIfInBounds_toArray, List.set_cons_zero, List.set_cons_succ, i64_w, i32_w]; rfl
    refine pure_ (i := 3) (N := some 122) (v := ?_) (a' := ?_) (lpK 4) rfl rfl (any_of HT_.out (by kernel_rfl)) (fun c a w2 h => hQ c _ a.tmps a.defers w2 h) (Or.inl ⟨by rfl, ?_⟩) ?_ ?_; rotate_left; (intro w'; go_simp; with_reducible rfl); rotate_left
    · simp only [Act.put, List.setIfInBounds_toArray, List.set_cons_zero, List.set_cons_succ, i64_w, i32_w]; rfl
    refine pure_ (i := 4) (N := some 123) (v := ?_) (a' := ?_) (lpK 5) rfl rfl (any_of HT_.out (by kernel_rfl)) (fun c a w2 h => hQ c _ a.tmps a.defers w2 h) (Or.inl ⟨by rfl, ?_⟩) ?_ ?_; rotate_left; (intro w'; go_simp; with_reducible rfl); rotate_left
    · simp only [Act.put, List.setIfInBounds_toArray, List.set_cons_zero, List.set_cons_succ, i64_w, i32_w]; rfl
    refine pure_ (i := 5) (N := some 124) (v := ?_) (a' := ?_) (lpK 6) rfl rfl (any_of HT_.out (by kernel_rfl)) (fun c a w2 h => hQ c _ a.tmps a.defers w2 h) (Or.inl ⟨by rfl, ?_⟩) ?_ ?_; rotate_left; (intro w'; go_simp; with_reducible rfl); rotate_left
    · simp only [Act.put, List.setIfInBounds_toArray, List.set_cons_zero, List.set_cons_succ, i64_w, i32_w]; rfl
    refine pure_ (i := 6) (N := some 125) (v := ?_) (a' := ?_) (lpK 7) rfl rfl (any_of HT_.out (by kernel_rfl)) (fun c a w2 h => hQ c _ a.tmps a.defers w2 h) (Or.inl ⟨by rfl, ?_⟩) ?_ ?_; rotate_left; (intro w'; go_simp; with_reducible rfl); rotate_left
    · simp only [Act.put, List.setIfInBounds_toArray, List.set_cons_zero, List.set_cons_succ, i64_w, i32_w]; rfl
    refine pure_ (i := 7) (N := some 126) (v := ?_) (a' := ?_) (lpK 8) rfl rfl (any_of HT_.out (by kernel_rfl)) (fun c a w2 h => hQ c _ a.tmps a.defers w2 h) (Or.inl ⟨by rfl, ?_⟩) ?_ ?_; rotate_left; (intro w'; go_simp; with_reducible rfl); rotate_left
    · simp only [Act.put, List.setIfInBounds_toArray, List.set_cons_zero, List.set_cons_succ, i64_w, i32_w]; rfl
    refine pure_ (i := 8) (N := some 127) (v := ?_) (a' := ?_) (lpK 9) rfl rfl (any_of HT_.out (by kernel_rfl)) (fun c a w2 h => hQ c _ a.tmps a.defers w2 h) (Or.inl ⟨by rfl, ?_⟩) ?_ ?_; rotate_left; (intro w'; go_simp; with_reducible rfl); rotate_left
    · simp only [Act.put, List.setIfInBounds_toArray, List.set_cons_zero, List.set_cons_succ, i64_w, i32_w]; rfl
    refine pure_ (i := 9) (N := some 128) (v := ?_) (a' := ?_) (lpK 10) rfl rfl (any_of HT_.out (by kernel_rfl)) (fun c a w2 h => hQ c _ a.tmps a.defers w2 h) (Or.inl ⟨by rfl, ?_⟩) ?_ ?_; rotate_left; (intro w'; go_simp; with_reducible rfl); rotate_left
    · simp only [Act.put, List.setIfInBounds_toArray, List.set_cons_zero, List.set_cons_succ, i64_w, i32_w]; rfl
    refine pure_ (i := 10) (N := some 129) (v := ?_) (a' := ?_) (lpK 11) rfl rfl (any_of HT_.out (by kernel_rfl)) (fun c a w2 h => hQ c _ a.tmps a.defers w2 h) (Or.inl ⟨by rfl, ?_⟩) ?_ ?_; rotate_left; (intro w'; go_simp; with_reducible rfl); rotate_left
    · simp only [Act.put, List.setIfInBounds_toArray, List.set_cons_zero, List.set_cons_succ, i64_w, i32_w]; rfl
    refine pure_ (i := 11) (N := some 130) (v := ?_) (a' := ?_) (lpK 12) rfl rfl (any_of HT_.out (by kernel_rfl)) (fun c a w2 h => hQ c _ a.tmps a.defers w2 h) (Or.inl ⟨by rfl, ?_⟩) ?_ ?_; rotate_left; (intro w'; go_simp; with_reducible rfl); rotate_left
    · simp only [Act.put, List.setIfInBounds_toArray, List.set_cons_zero, List.set_cons_succ, i64_w, i32_w]; rfl
    refine pure_ (i := 12) (N := some 131) (v := ?_) (a' := ?_) (lpK 13) rfl rfl (any_of HT_.out (by kernel_rfl)) (fun c a w2 h => hQ c _ a.tmps a.defers w2 h) (Or.inl ⟨by rfl, ?_⟩) ?_ ?_; rotate_left; (intro w'; go_simp; with_reducible rfl); rotate_left
    · simp only [Act.put, List.setIfInBounds_toArray, List.set_cons_zero, List.set_cons_succ, i64_w, i32_w]; rfl
    refine pure_ (i := 13) (N := some 132) (v := ?_) (a' := ?_) (lpK 14) rfl rfl (any_of HT_.out (by kernel_rfl)) (fun c a w2 h => hQ c _ a.tmps a.defers w2 h) (Or.inl ⟨by rfl, ?_⟩) ?_ ?_; rotate_left; (intro w'; go_simp; with_reducible rfl); rotate_left
    · simp only [Act.put, List.setIfInBounds_toArray, List.set_cons_zero, List.set_cons_succ, i64_w, i32_w]; rfl
    refine pure_ (i := 14) (N := some 133) (v := ?_) (a' := ?_) (lpK 15) rfl rfl (any_of HT_.out (by kernel_rfl)) (fun c a w2 h => hQ c _ a.tmps a.defers w2 h) (Or.inl ⟨by rfl, ?_⟩) ?_ ?_; rotate_left; (intro w'; go_simp; with_reducible rfl); rotate_left
    · simp only [Act.put, List.setIfInBounds_toArray, List.set_cons_zero, List.set_cons_succ, i64_w, i32_w]; rfl
    refine pure_ (i := 15) (N := some 134) (v := ?_) (a' := ?_) (lpK 16) rfl rfl (any_of HT_.out (by kernel_rfl)) (fun c a w2 h => hQ c _ a.tmps a.defers w2 h) (Or.inl ⟨by rfl, ?_⟩) ?_ ?_; rotate_left; (intro w'; go_simp; with_reducible rfl); rotate_left
    · simp only [Act.put, List.setIfInBounds_toArray, List.set_cons_zero, List.set_cons_succ, i64_w, i32_w]; rfl
    refine pure_ (i := 16) (N := some 135) (v := ?_) (a' := ?_) (lpK 17) rfl rfl (any_of HT_.out (by kernel_rfl)) (fun c a w2 h => hQ c _ a.tmps a.defers w2 h) (Or.inl ⟨by rfl, ?_⟩) ?_ ?_; rotate_left; (intro w'; go_simp; with_reducible rfl); rotate_left
    · simp only [Act.put, List.setIfInBounds_toArray, List.set_cons_zero, List.set_cons_succ, i64_w, i32_w]; rfl
    refine pure_ (i := 17) (N := some 136) (v := ?_) (a' := ?_) (lpK 18) rfl rfl (any_of HT_.out (by kernel_rfl)) (fun c a w2 h => hQ c _ a.tmps a.defers w2 h) (Or.inl ⟨by rfl, ?_⟩) ?_ ?_; rotate_left; (intro w'; go_simp; with_reducible rfl); rotate_left
    · simp only [Act.put, List.setIfInBounds_toArray, List.set_cons_zero, List.set_cons_succ, i64_w, i32_w]; rfl
    refine pure_ (i := 18) (N := some 137) (v := ?_) (a' := ?_) (lpK 19) rfl rfl (any_of HT_.out (by kernel_rfl)) (fun c a w2 h => hQ c _ a.tmps a.defers w2 h) (Or.inl ⟨by rfl, ?_⟩) ?_ ?_; rotate_left; (intro w'; go_simp; with_reducible rfl); rotate_left
    · simp only [Act.put, List.setIfInBounds_toArray, List.set_cons_zero, List.set_cons_succ, i64_w, i32_w]; rfl
    refine pure_ (i := 19) (N := some 138) (v := ?_) (a' := ?_) (lpK 20) rfl rfl (any_of HT_.out (by kernel_rfl)) (fun c a w2 h => hQ c _ a.tmps a.defers w2 h) (Or.inl ⟨by rfl, ?_⟩) ?_ ?_; rotate_left; (intro w'; go_simp; with_reducible rfl); rotate_left
    · simp only [Act.put, List.setIfInBounds_toArray, List.set_cons_zero, List.set_cons_succ, i64_w, i32_w]; rfl
    refine pure_ (i := 20) (N := some 139) (v := ?_) (a' := ?_) (lpK 21) rfl rfl (any_of HT_.out (by kernel_rfl)) (fun c a w2 h => hQ c _ a.tmps a.defers w2 h) (Or.inl ⟨by rfl, ?_⟩) ?_ ?_; rotate_left; (intro w'; go_simp; with_reducible rfl); rotate_left
    · simp only [Act.put, List.setIfInBounds_toArray, List.set_cons_zero, List.set_cons_succ, i64_w, i32_w]; rfl
    refine pure_ (i := 21) (N := some 140) (v := ?_) (a' := ?_) (lpK 22) rfl rfl (any_of HT_.out (by kernel_rfl)) (fun c a w2 h => hQ c _ a.tmps a.defers w2 h) (Or.inl ⟨by rfl, ?_⟩) ?_ ?_; rotate_left; (intro w'; go_simp; with_reducible rfl); rotate_left
    · simp only [Act.put, List.setIfInBounds_toArray, List.set_cons_zero, List.set_cons_succ, i64_w, i32_w]; rfl
    refine pure_ (i := 22) (N := some 141) (v := ?_) (a' := ?_) (lpK 23) rfl rfl (any_of HT_.out (by kernel_rfl)) (fun c a w2 h => hQ c _ a.tmps a.defers w2 h) (Or.inl ⟨by rfl, ?_⟩) ?_ ?_; rotate_left; (intro w'; go_simp; with_reducible rfl); rotate_left
    · simp only [Act.put, List.setIfInBounds_toArray, List.set_cons_zero, List.set_cons_succ, i64_w, i32_w]; rfl
    refine pure_ (i := 23) (N := some 142) (v := ?_) (a' := ?_) (lpK 24) rfl rfl (any_of HT_.out (by kernel_rfl)) (fun c a w2 h => hQ c _ a.tmps a.defers w2 h) (Or.inl ⟨by rfl, ?_⟩) ?_ ?_; rotate_left; (intro w'; go_simp; with_reducible rfl); rotate_left
    · simp only [Act.put, List.setIfInBounds_toArray, List.set_cons_zero, List.set_cons_succ, i64_w, i32_w]; rfl
    refine pure_ (i := 24) (N := some 143) (v := ?_) (a' := ?_) (lpK 25) rfl rfl (any_of HT_.out (by kernel_rfl)) (fun c a w2 h => hQ c _ a.tmps a.defers w2 h) (Or.inl ⟨by rfl, ?_⟩) ?_ ?_; rotate_left; (intro w'; go_simp; with_reducible rfl); rotate_left
    · simp only [Act.put, List.setIfInBounds_toArray, List.set_cons_zero, List.set_cons_succ, i64_w, i32_w]; rfl
    refine pure_ (i := 25) (N := some 144) (v := ?_) (a' := ?_) (lpK 26) rfl rfl (any_of HT_.out (by kernel_rfl)) (fun c a w2 h => hQ c _ a.tmps a.defers w2 h) (Or.inl ⟨by rfl, ?_⟩) ?_ ?_; rotate_left; (intro w'; go_simp; with_reducible rfl); rotate_left
    · simp only [Act.put, List.setIfInBounds_toArray, List.set_cons_zero, List.set_cons_succ, i64_w, i32_w]; rfl
    refine pure_ (i := 26) (N := some 145) (v := ?_) (a' := ?_) (lpK 27) rfl rfl (any_of HT_.out (by kernel_rfl)) (fun c a w2 h => hQ c _ a.tmps a.defers w2 h) (Or.inl ⟨by rfl, ?_⟩) ?_ ?_; rotate_left; (intro w'; go_simp; with_reducible rfl); rotate_left
    · simp only [Act.put, List.setIfInBounds_toArray, List.set_cons_zero, List.set_cons_succ, i64_w, i32_w]; rfl
    refine pure_ (i := 27) (N := some 146) (v := ?_) (a' := ?_) (lpK 28) rfl rfl (any_of HT_.out (by kernel_rfl)) (fun c a w2 h => hQ c _ a.tmps a.defers w2 h) (Or.inl ⟨by rfl, ?_⟩) ?_ ?_; rotate_left; (intro w'; go_simp; with_reducible rfl); rotate_left
    · simp only [Act.put, List.setIfInBounds_toArray, List.set_cons_zero, List.set_cons_succ, i64_w, i32_w]; rfl
    refine pure_ (i := 28) (N := some 147) (v := ?_) (a' := ?_) (lpK 29) rfl rfl (any_of HT_.out (by kernel_rfl)) (fun c a w2 h => hQ c _ a.tmps a.defers w2 h) (Or.inl ⟨by rfl, ?_⟩) ?_ ?_; rotate_left; (intro w'; go_simp; with_reducible rfl); rotate_left
    · simp only [Act.put, List.setIfInBounds_toArray, List.set_cons_zero, List.set_cons_succ, i64_w, i32_w]; rfl
    refine pure_ (i := 29) (N := some 148) (v := ?_) (a' := ?_) (lpK 30) rfl rfl (any_of HT_.out (by kernel_rfl)) (fun c a w2 h => hQ c _ a.tmps a.defers w2 h) (Or.inl ⟨by rfl, ?_⟩) ?_ ?_; rotate_left; (intro w'; go_simp; with_reducible rfl); rotate_left
    · simp only [Act.put, List.setIfInBounds_toArray, List.set_cons_zero, List.set_cons_succ, i64_w, i32_w]; rfl
    refine pure_ (i := 30) (N := some 149) (v := ?_) (a' := ?_) (lpK 31) rfl rfl (any_of HT_.out (by kernel_rfl)) (fun c a w2 h => hQ c _ a.tmps a.defers w2 h) (Or.inl ⟨by rfl, ?_⟩) ?_ ?_; rotate_left; (intro w'; go_simp; with_reducible rfl); rotate_left
    · simp only [Act.put, List.setIfInBounds_toArray, List.set_cons_zero, List.set_cons_succ, i64_w, i32_w]; rfl
    refine pure_ (i := 31) (N := some 150) (v := ?_) (a' := ?_) (lpK 32) rfl rfl (any_of HT_.out (by kernel_rfl)) (fun c a w2 h => hQ c _ a.tmps a.defers w2 h) (Or.inl ⟨by rfl, ?_⟩) ?_ ?_; rotate_left; (intro w'; go_simp; with_reducible rfl); rotate_left
    · simp only [Act.put, List.setIfInBounds_toArray, List.set_cons_zero, List.set_cons_succ, i64_w, i32_w]; rfl
    refine pure_ (i := 32) (N := some 151) (v := ?_) (a' := ?_) (lpK 33) rfl rfl (any_of HT_.out (by kernel_rfl)) (fun c a w2 h => hQ c _ a.tmps a.defers w2 h) (Or.inl ⟨by rfl, ?_⟩) ?_ ?_; rotate_left; (intro w'; go_simp; with_reducible rfl); rotate_left
    · simp only [Act.put, List.setIfInBounds_toArray, List.set_cons_zero, List.set_cons_succ, i64_w, i32_w]; rfl
    refine pure_ (i := 33) (N := some 152) (v := ?_) (a' := ?_) (lpK 34) rfl rfl (any_of HT_.out (by kernel_rfl)) (fun c a w2 h => hQ c _ a.tmps a.defers w2 h) (Or.inl ⟨by rfl, ?_⟩) ?_ ?_; rotate_left; (intro w'; go_simp; with_reducible rfl); rotate_left
    · simp only [Act.put, List.setIfInBounds_toArray, List.set_cons_zero, List.set_cons_succ, i64_w, i32_w]; rfl
    refine pure_ (i := 34) (N := some 153) (v := ?_) (a' := ?_) (lpK 35) rfl rfl (any_of HT_.out (by kernel_rfl)) (fun c a w2 h => hQ c _ a.tmps a.defers w2 h) (Or.inl ⟨by rfl, ?_⟩) ?_ ?_; rotate_left; (intro w'; go_simp; with_reducible rfl); rotate_left
    · simp only [Act.put, List.setIfInBounds_toArray, List.set_cons_zero, List.set_cons_succ, i64_w, i32_w]; rfl
    refine pure_ (i := 35) (N := some 154) (v := ?_) (a' := ?_) (lpK 36) rfl rfl (any_of HT_.out (by kernel_rfl)) (fun c a w2 h => hQ c _ a.tmps a.defers w2 h) (Or.inl ⟨by rfl, ?_⟩) ?_ ?_; rotate_left; (intro w'; go_simp; with_reducible rfl); rotate_left
    · simp only [Act.put, List.setIfInBounds_toArray, List.set_cons_zero, List.set_cons_succ, i64_w, i32_w]; rfl
    refine one_ (i := 36) (N := some 155) (lpK 37) rfl rfl (one_of HT_.out (by kernel_rfl)) (by decide) (fun K hK => ?_)
    refine goes_ Try.func13 (by kernel_rfl) rfl #[.slice A7 all.length c7, .slice A8 all.length c8] (by rfl) rfl rfl (by (try simp only [List.map_toArray, List.map_cons, List.map_nil]); first | done | rfl | (simp only [List.length_drop, List.length_take]; rfl)) ?_
    refine Calls.mono (laws_eTexts.calls k _ _ all _ _ all true _ R7.out C7.out R8.out C8.out E9.out) ?_
    rintro e wx ⟨rfl, ⟨nd, rfl⟩⟩
    have n1 := amk (KP_below S0.out (by exact bn_ (Below.refl _ _) nd)); have n2 := amk (Kd.C_below R7.out (by exact bn_ (Below.refl _ _) nd)); clear S0 R7 R8; have S0 := n1; have R7 := n2; clear n1 n2
    refine ⟨_, rfl, ?_⟩
    refine hK.out _ _ ⟨(blk_cell S0.out.2 0).trans rfl, (blk_cell S0.out.2 1).trans rfl⟩ (fun hHeld => ?_)
    clear hK K; refine norm_ (a' := ?_) ?_ ?_; rotate_left
    · show Act.put _ (some 155) _ = _; simp only [Act.put, List.setIfInBounds_toArray, List.set_cons_zero, List.set_cons_succ, i64_w, i32_w]; rfl
    refine pure_ (i := 37) (N := some 156) (v := ?_) (a' := ?_) (lpK 38) rfl rfl (any_of HT_.out (by kernel_rfl)) (fun c a w2 h => hQ c _ a.tmps a.defers w2 h) (Or.inl ⟨by rfl, ?_⟩) ?_ ?_; rotate_left; (intro w'; go_simp; with_reducible rfl); rotate_left
    · simp only [Act.put, List.setIfInBounds_toArray, List.set_cons_zero, List.set_cons_succ, i64_w, i32_w]; rfl
    refine pure_ (i := 38) (N := some 157) (v := ?_) (a' := ?_) (lpK 39) rfl rfl (any_of HT_.out (by kernel_rfl)) (fun c a w2 h => hQ c _ a.tmps a.defers w2 h) (Or.inl ⟨by rfl, ?_⟩) ?_ ?_; rotate_left; (intro w'; go_simp; with_reducible rfl); rotate_left
    · simp only [Act.put, List.setIfInBounds_toArray, List.set_cons_zero, List.set_cons_succ, i64_w, i32_w]; rfl
    refine pure_ (i := 39) (N := some 158) (v := ?_) (a' := ?_) (lpK 40) rfl rfl (any_of HT_.out (by kernel_rfl)) (fun c a w2 h => hQ c _ a.tmps a.defers w2 h) (Or.inl ⟨by rfl, ?_⟩) ?_ ?_; rotate_left; (intro w'; go_simp; with_reducible rfl); rotate_left
    · simp only [Act.put, List.setIfInBounds_toArray, List.set_cons_zero, List.set_cons_succ, i64_w, i32_w]; rfl
    refine pure_ (i := 40) (N := some 159) (v := ?_) (a' := ?_) (lpK 41) rfl rfl (any_of HT_.out (by kernel_rfl)) (fun c a w2 h => hQ c _ a.tmps a.defers w2 h) (Or.inl ⟨by rfl, ?_⟩) ?_ ?_; rotate_left; (intro w'; go_simp; with_reducible rfl); rotate_left
    · simp only [Act.put, List.setIfInBounds_toArray, List.set_cons_zero, List.set_cons_succ, i64_w, i32_w]; rfl
    refine take_ (i := 41) (N := some 160) (v := ?_) (a' := ?_) (lpK 42) rfl rfl (take_ofW HT_.out HW_.out (by kernel_rfl)) (fun c a w2 h => hQ c _ a.tmps a.defers w2 h) (Or.inl ⟨by rfl, ?_⟩) hHeld ?_ ?_; rotate_left; (rintro w' ⟨s0, s1⟩; go_simp; with_reducible rfl); rotate_left
    · simp only [Act.put, List.setIfInBounds_toArray, List.set_cons_zero, List.set_cons_succ, i64_w, i32_w]; rfl
    refine one_ (i := 42) (N := some 161) (lpK 43) rfl rfl (one_of HT_.out (by kernel_rfl)) (by decide) (fun K hK => ?_)
    refine goes_ Try.func14 (by kernel_rfl) rfl #[.agg #[.int .i64 n0, .slice A0 L0.length c0]] (by rfl) rfl rfl (by (try simp only [List.map_toArray, List.map_cons, List.map_nil]); first | done | rfl | (simp only [List.length_drop, List.length_take]; rfl)) ?_
    refine Calls.mono (impl_ArePins.calls n0 _ _ L0 true _ (Kd.C_below Hr0.out S0.out.1) Hc0.out E10.out) ?_
    rintro e wx ⟨rfl, hb⟩
    have n1 := amk (KP_below S0.out hb); have n2 := amk (Kd.C_below R7.out hb); clear S0 R7 hb; have S0 := n1; have R7 := n2; clear n1 n2
    refine ⟨_, rfl, ?_⟩
    refine hK.out _ _ ⟨(blk_cell S0.out.2 0).trans rfl, (blk_cell S0.out.2 1).trans rfl⟩ (fun hHeld => ?_)
    clear hK K; refine norm_ (a' := ?_) ?_ ?_; rotate_left
    · show Act.put _ (some 161) _ = _; simp only [Act.put, List.setIfInBounds_toArray, List.set_cons_zero, List.set_cons_succ, i64_w, i32_w]; rfl
    refine pure_ (i := 43) (N := some 162) (v := ?_) (a' := ?_) (lpK 44) rfl rfl (any_of HT_.out (by kernel_rfl)) (fun c a w2 h => hQ c _ a.tmps a.defers w2 h) (Or.inl ⟨by rfl, ?_⟩) ?_ ?_; rotate_left; (intro w'; go_simp; with_reducible rfl); rotate_left
    · simp only [Act.put, List.setIfInBounds_toArray, List.set_cons_zero, List.set_cons_succ, i64_w, i32_w]; rfl
    refine pure_ (i := 44) (N := some 163) (v := ?_) (a' := ?_) (lpK 45) rfl rfl (any_of HT_.out (by kernel_rfl)) (fun c a w2 h => hQ c _ a.tmps a.defers w2 h) (Or.inl ⟨by rfl, ?_⟩) ?_ ?_; rotate_left; (intro w'; go_simp; with_reducible rfl); rotate_left
    · simp only [Act.put, List.setIfInBounds_toArray, List.set_cons_zero, List.set_cons_succ, i64_w, i32_w]; rfl
    refine pure_ (i := 45) (N := some 164) (v := ?_) (a' := ?_) (lpK 46) rfl rfl (any_of HT_.out (by kernel_rfl)) (fun c a w2 h => hQ c _ a.tmps a.defers w2 h) (Or.inl ⟨by rfl, ?_⟩) ?_ ?_; rotate_left; (intro w'; go_simp; with_reducible rfl); rotate_left
    · simp only [Act.put, List.setIfInBounds_toArray, List.set_cons_zero, List.set_cons_succ, i64_w, i32_w]; rfl
    refine take_ (i := 46) (N := some 165) (v := ?_) (a' := ?_) (lpK 47) rfl rfl (take_ofW HT_.out HW_.out (by kernel_rfl)) (fun c a w2 h => hQ c _ a.tmps a.defers w2 h) (Or.inl ⟨by rfl, ?_⟩) hHeld ?_ ?_; rotate_left; (rintro w' ⟨s0, s1⟩; go_simp; with_reducible rfl); rotate_left
    · simp only [Act.put, List.setIfInBounds_toArray, List.set_cons_zero, List.set_cons_succ, i64_w, i32_w]; rfl
    refine take_ (i := 48) (N := some 167) (v := ?_) (a' := ?_) ((lpK 47).setIfInBounds 48 true) rfl rfl (take_ofW HT_.out HW_.out (by kernel_rfl)) (fun c a w2 h => hQ c _ a.tmps a.defers w2 h) (Or.inl ⟨by rfl, ?_⟩) hHeld ?_ ?_; rotate_left; (rintro w' ⟨s0, s1⟩; go_simp; with_reducible rfl); rotate_left
    · simp only [Act.put, List.setIfInBounds_toArray, List.set_cons_zero, List.set_cons_succ, i64_w, i32_w]; rfl
    refine one_ (i := 47) (N := some 166) (lpK 49) rfl rfl (one_of HT_.out (by kernel_rfl)) (by decide) (fun K hK => ?_)
    refine goes_ Try.func14 (by kernel_rfl) rfl #[.agg #[.int .i64 n0, .slice A0 L0.length c0]] (by rfl) rfl rfl (by (try simp only [List.map_toArray, List.map_cons, List.map_nil]); first | done | rfl | (simp only [List.length_drop, List.length_take]; rfl)) ?_
    refine Calls.mono (impl_ArePins.calls n0 _ _ L0 true _ (Kd.C_below Hr0.out S0.out.1) Hc0.out E10.out) ?_
    rintro e wx ⟨rfl, hb⟩
    have n1 := amk (KP_below S0.out hb); have n2 := amk (Kd.C_below R7.out hb); clear S0 R7 hb; have S0 := n1; have R7 := n2; clear n1 n2
    refine ⟨_, rfl, ?_⟩
    refine hK.out _ _ ⟨(blk_cell S0.out.2 0).trans rfl, (blk_cell S0.out.2 1).trans rfl⟩ (fun hHeld => ?_)
    clear hK K; refine norm_ (a' := ?_) ?_ ?_; rotate_left
    · show Act.put _ (some 166) _ = _; simp only [Act.put, List.setIfInBounds_toArray, List.set_cons_zero, List.set_cons_succ, i64_w, i32_w]; rfl
    refine one_ (i := 49) (N := some 168) (lpK 50) rfl rfl (one_of HT_.out (by kernel_rfl)) (by decide) (fun K hK => ?_)
    refine goes_ Try.func15 (by kernel_rfl) rfl #[.agg #[.int .i64 n0, .slice A0 L0.length c0]] (by rfl) rfl rfl (by (try simp only [List.map_toArray, List.map_cons, List.map_nil]); first | done | rfl | (simp only [List.length_drop, List.length_take]; rfl)) ?_
    refine Calls.mono (spec_ArePins.calls k n0 _ _ L0 true _ (Kd.C_below Hr0.out S0.out.1) Hc0.out E11.out) ?_
    rintro e wx ⟨rfl, hb⟩
    have n1 := amk (KP_below S0.out hb); have n2 := amk (Kd.C_below R7.out hb); clear S0 R7 hb; have S0 := n1; have R7 := n2; clear n1 n2
    refine ⟨_, rfl, ?_⟩
    refine hK.out _ _ ⟨(blk_cell S0.out.2 0).trans rfl, (blk_cell S0.out.2 1).trans rfl⟩ (fun hHeld => ?_)
    clear hK K; refine norm_ (a' := ?_) ?_ ?_; rotate_left
    · show Act.put _ (some 168) _ = _; simp only [Act.put, List.setIfInBounds_toArray, List.set_cons_zero, List.set_cons_succ, i64_w, i32_w]; rfl
    refine pure_ (i := 50) (N := some 169) (v := ?_) (a' := ?_) (lpK 51) rfl rfl (any_of HT_.out (by kernel_rfl)) (fun c a w2 h => hQ c _ a.tmps a.defers w2 h) (Or.inl ⟨by rfl, ?_⟩) ?_ ?_; rotate_left; (intro w'; go_simp; with_reducible rfl); rotate_left
    · simp only [Act.put, List.setIfInBounds_toArray, List.set_cons_zero, List.set_cons_succ, i64_w, i32_w]; rfl
    refine pure_ (i := 51) (N := some 170) (v := ?_) (a' := ?_) (lpK 52) rfl rfl (any_of HT_.out (by kernel_rfl)) (fun c a w2 h => hQ c _ a.tmps a.defers w2 h) (Or.inl ⟨by rfl, ?_⟩) ?_ ?_; rotate_left; (intro w'; go_simp; with_reducible rfl); rotate_left
    · simp only [Act.put, List.setIfInBounds_toArray, List.set_cons_zero, List.set_cons_succ, i64_w, i32_w]; rfl
    refine pure_ (i := 52) (N := some 171) (v := ?_) (a' := ?_) (lpK 53) rfl rfl (any_of HT_.out (by kernel_rfl)) (fun c a w2 h => hQ c _ a.tmps a.defers w2 h) (Or.inl ⟨by rfl, ?_⟩) ?_ ?_; rotate_left; (intro w'; go_simp; with_reducible rfl); rotate_left
    · simp only [Act.put, List.setIfInBounds_toArray, List.set_cons_zero, List.set_cons_succ, i64_w, i32_w]; rfl
    refine pure_ (i := 53) (N := some 172) (v := ?_) (a' := ?_) (lpK 54) rfl rfl (any_of HT_.out (by kernel_rfl)) (fun c a w2 h => hQ c _ a.tmps a.defers w2 h) (Or.inl ⟨by rfl, ?_⟩) ?_ ?_; rotate_left; (intro w'; go_simp; with_reducible rfl); rotate_left
    · simp only [Act.put, List.setIfInBounds_toArray, List.set_cons_zero, List.set_cons_succ, i64_w, i32_w]; rfl
    refine pure_ (i := 54) (N := some 173) (v := ?_) (a' := ?_) (lpK 55) rfl rfl (any_of HT_.out (by kernel_rfl)) (fun c a w2 h => hQ c _ a.tmps a.defers w2 h) (Or.inl ⟨by rfl, ?_⟩) ?_ ?_; rotate_left; (intro w'; go_simp; with_reducible rfl); rotate_left
    · simp only [Act.put, List.setIfInBounds_toArray, List.set_cons_zero, List.set_cons_succ, i64_w, i32_w]; rfl
    refine pure_ (i := 55) (N := some 174) (v := ?_) (a' := ?_) (lpK 56) rfl rfl (any_of HT_.out (by kernel_rfl)) (fun c a w2 h => hQ c _ a.tmps a.defers w2 h) (Or.inl ⟨by rfl, ?_⟩) ?_ ?_; rotate_left; (intro w'; go_simp; with_reducible rfl); rotate_left
    · simp only [Act.put, List.setIfInBounds_toArray, List.set_cons_zero, List.set_cons_succ, i64_w, i32_w]; rfl
    refine pure_ (i := 56) (N := some 175) (v := ?_) (a' := ?_) (lpK 57) rfl rfl (any_of HT_.out (by kernel_rfl)) (fun c a w2 h => hQ c _ a.tmps a.defers w2 h) (Or.inl ⟨by rfl, ?_⟩) ?_ ?_; rotate_left; (intro w'; go_simp; with_reducible rfl); rotate_left
    · simp only [Act.put, List.setIfInBounds_toArray, List.set_cons_zero, List.set_cons_succ, i64_w, i32_w]; rfl
    refine pure_ (i := 57) (N := some 176) (v := ?_) (a' := ?_) (lpK 58) rfl rfl (any_of HT_.out (by kernel_rfl)) (fun c a w2 h => hQ c _ a.tmps a.defers w2 h) (Or.inl ⟨by rfl, ?_⟩) ?_ ?_; rotate_left; (intro w'; go_simp; with_reducible rfl); rotate_left
    · simp only [Act.put, List.setIfInBounds_toArray, List.set_cons_zero, List.set_cons_succ, i64_w, i32_w]; rfl
    refine pure_ (i := 58) (N := some 177) (v := ?_) (a' := ?_) (lpK 59) rfl rfl (any_of HT_.out (by kernel_rfl)) (fun c a w2 h => hQ c _ a.tmps a.defers w2 h) (Or.inl ⟨by rfl, ?_⟩) ?_ ?_; rotate_left; (intro w'; go_simp; with_reducible rfl); rotate_left
    · simp only [Act.put, List.setIfInBounds_toArray, List.set_cons_zero, List.set_cons_succ, i64_w, i32_w]; rfl
    refine pure_ (i := 59) (N := some 178) (v := ?_) (a' := ?_) (lpK 60) rfl rfl (any_of HT_.out (by kernel_rfl)) (fun c a w2 h => hQ c _ a.tmps a.defers w2 h) (Or.inl ⟨by rfl, ?_⟩) ?_ ?_; rotate_left; (intro w'; go_simp; with_reducible rfl); rotate_left
    · simp only [Act.put, List.setIfInBounds_toArray, List.set_cons_zero, List.set_cons_succ, i64_w, i32_w]; rfl
    refine pure_ (i := 60) (N := some 179) (v := ?_) (a' := ?_) (lpK 61) rfl rfl (any_of HT_.out (by kernel_rfl)) (fun c a w2 h => hQ c _ a.tmps a.defers w2 h) (Or.inl ⟨by rfl, ?_⟩) ?_ ?_; rotate_left; (intro w'; go_simp; with_reducible rfl); rotate_left
    · simp only [Act.put, List.setIfInBounds_toArray, List.set_cons_zero, List.set_cons_succ, i64_w, i32_w]; rfl
    first | (refine pure_ (i := 61) (N := some 180) (v := ?_) (a' := ?_) (lpK 62) rfl rfl (any_of HT_.out (by kernel_rfl)) (fun c a w2 h => hQ c _ a.tmps a.defers w2 h) (Or.inl ⟨by rfl, ?_⟩) ?_ ?_; rotate_left; (intro w'; go_simp; with_reducible rfl); rotate_left) | (refine pure_ (i := 61) (N := some 180) (v := undef) (a' := ?_) (lpK 62) rfl rfl (any_of HT_.out (by kernel_rfl)) (fun c a w2 h => hQ c _ a.tmps a.defers w2 h) (Or.inr ⟨by rfl, rfl⟩) ?_ ?_; rotate_left)
    · simp only [Act.put, List.setIfInBounds_toArray, List.set_cons_zero, List.set_cons_succ, i64_w, i32_w]; rfl
    refine pure_ (i := 62) (N := some 181) (v := ?_) (a' := ?_) (lpK 63) rfl rfl (any_of HT_.out (by kernel_rfl)) (fun c a w2 h => hQ c _ a.tmps a.defers w2 h) (Or.inl ⟨by rfl, ?_⟩) ?_ ?_; rotate_left; (intro w'; go_simp; with_reducible rfl); rotate_left
    · simp only [Act.put, List.setIfInBounds_toArray, List.set_cons_zero, List.set_cons_succ, i64_w, i32_w]; rfl
    refine pure_ (i := 63) (N := some 182) (v := ?_) (a' := ?_) (lpK 64) rfl rfl (any_of HT_.out (by kernel_rfl)) (fun c a w2 h => hQ c _ a.tmps a.defers w2 h) (Or.inl ⟨by rfl, ?_⟩) ?_ ?_; rotate_left; (intro w'; go_simp; with_reducible rfl); rotate_left
    · simp only [Act.put, List.setIfInBounds_toArray, List.set_cons_zero, List.set_cons_succ, i64_w, i32_w]; rfl
    refine pure_ (i := 64) (N := some 183) (v := ?_) (a' := ?_) (lpK 65) rfl rfl (any_of HT_.out (by kernel_rfl)) (fun c a w2 h => hQ c _ a.tmps a.defers w2 h) (Or.inl ⟨by rfl, ?_⟩) ?_ ?_; rotate_left; (intro w'; go_simp; with_reducible rfl); rotate_left
    · simp only [Act.put, List.setIfInBounds_toArray, List.set_cons_zero, List.set_cons_succ, i64_w, i32_w]; rfl
    refine pure_ (i := 65) (N := some 184) (v := ?_) (a' := ?_) (lpK 66) rfl rfl (any_of HT_.out (by kernel_rfl)) (fun c a w2 h => hQ c _ a.tmps a.defers w2 h) (Or.inl ⟨by rfl, ?_⟩) ?_ ?_; rotate_left; (intro w'; go_simp; with_reducible rfl); rotate_left
    · simp only [Act.put, List.setIfInBounds_toArray, List.set_cons_zero, List.set_cons_succ, i64_w, i32_w]; rfl
    refine pure_ (i := 66) (N := some 185) (v := ?_) (a' := ?_) (lpK 67) rfl rfl (any_of HT_.out (by kernel_rfl)) (fun c a w2 h => hQ c _ a.tmps a.defers w2 h) (Or.inl ⟨by rfl, ?_⟩) ?_ ?_; rotate_left; (intro w'; go_simp; with_reducible rfl); rotate_left
    · simp only [Act.put, List.setIfInBounds_toArray, List.set_cons_zero, List.set_cons_succ, i64_w, i32_w]; rfl
    refine pure_ (i := 67) (N := some 186) (v := ?_) (a' := ?_) (lpK 68) rfl rfl (any_of HT_.out (by kernel_rfl)) (fun c a w2 h => hQ c _ a.tmps a.defers w2 h) (Or.inl ⟨by rfl, ?_⟩) ?_ ?_; rotate_left; (intro w'; go_simp; with_reducible rfl); rotate_left
    · simp only [Act.put, List.setIfInBounds_toArray, List.set_cons_zero, List.set_cons_succ, i64_w, i32_w]; rfl
    refine pure_ (i := 68) (N := some 187) (v := ?_) (a' := ?_) (lpK 69) rfl rfl (any_of HT_.out (by kernel_rfl)) (fun c a w2 h => hQ c _ a.tmps a.defers w2 h) (Or.inl ⟨by rfl, ?_⟩) ?_ ?_; rotate_left; (intro w'; go_simp; with_reducible rfl); rotate_left
    · simp only [Act.put, List.setIfInBounds_toArray, List.set_cons_zero, List.set_cons_succ, i64_w, i32_w]; rfl
    first | (refine pure_ (i := 69) (N := some 188) (v := ?_) (a' := ?_) (lpK 70) rfl rfl (any_of HT_.out (by kernel_rfl)) (fun c a w2 h => hQ c _ a.tmps a.defers w2 h) (Or.inl ⟨by rfl, ?_⟩) ?_ ?_; rotate_left; (intro w'; go_simp; with_reducible rfl); rotate_left) | (refine pure_ (i := 69) (N := some 188) (v := undef) (a' := ?_) (lpK 70) rfl rfl (any_of HT_.out (by kernel_rfl)) (fun c a w2 h => hQ c _ a.tmps a.defers w2 h) (Or.inr ⟨by rfl, rfl⟩) ?_ ?_; rotate_left)
    · simp only [Act.put, List.setIfInBounds_toArray, List.set_cons_zero, List.set_cons_succ, i64_w, i32_w]; rfl
    first | (refine pure_ (i := 70) (N := some 189) (v := ?_) (a' := ?_) (lpK 71) rfl rfl (any_of HT_.out (by kernel_rfl)) (fun c a w2 h => hQ c _ a.tmps a.defers w2 h) (Or.inl ⟨by rfl, ?_⟩) ?_ ?_; rotate_left; (intro w'; go_simp; with_reducible rfl); rotate_left) | (refine pure_ (i := 70) (N := some 189) (v := undef) (a' := ?_) (lpK 71) rfl rfl (any_of HT_.out (by kernel_rfl)) (fun c a w2 h => hQ c _ a.tmps a.defers w2 h) (Or.inr ⟨by rfl, rfl⟩) ?_ ?_; rotate_left)
    · simp only [Act.put, List.setIfInBounds_toArray, List.set_cons_zero, List.set_cons_succ, i64_w, i32_w]; rfl
    refine pure_ (i := 71) (N := some 190) (v := ?_) (a' := ?_) (lpK 72) rfl rfl (any_of HT_.out (by kernel_rfl)) (fun c a w2 h => hQ c _ a.tmps a.defers w2 h) (Or.inl ⟨by rfl, ?_⟩) ?_ ?_; rotate_left; (intro w'; go_simp; with_reducible rfl); rotate_left
    · simp only [Act.put, List.setIfInBounds_toArray, List.set_cons_zero, List.set_cons_succ, i64_w, i32_w]; rfl
    refine pure_ (i := 72) (N := some 191) (v := ?_) (a' := ?_) (lpK 73) rfl rfl (any_of HT_.out (by kernel_rfl)) (fun c a w2 h => hQ c _ a.tmps a.defers w2 h) (Or.inl ⟨by rfl, ?_⟩) ?_ ?_; rotate_left; (intro w'; go_simp; with_reducible rfl); rotate_left
    · simp only [Act.put, List.setIfInBounds_toArray, List.set_cons_zero, List.set_cons_succ, i64_w, i32_w]; rfl
    refine pure_ (i := 73) (N := some 192) (v := ?_) (a' := ?_) (lpK 74) rfl rfl (any_of HT_.out (by kernel_rfl)) (fun c a w2 h => hQ c _ a.tmps a.defers w2 h) (Or.inl ⟨by rfl, ?_⟩) ?_ ?_; rotate_left; (intro w'; go_simp; with_reducible rfl); rotate_left
    · simp only [Act.put, List.setIfInBounds_toArray, List.set_cons_zero, List.set_cons_succ, i64_w, i32_w]; rfl
    refine done_ (done_of HT_.out (by kernel_rfl)) ?_
    exact hrest _ S0.out R7.out
/-! laws.FnKeysOpenOfAll, a part of its walk. -/
set_option maxHeartbeats 16000000 in
set_option maxRecDepth 100000 in
theorem KPB {w : World} {v1000 v1001 v1002 v1003 v10 v13 v14 v15 v16 v17 v18 v20 v21 v22 v25 v26 v1023 v28 v29 v30 v2 v31 v32 v33 v34 v35 v36 v37 v38 v39 v40 v41 v42 v43 v44 v45 v46 v47 v48 v49 v50 v51 v52 v1050 v54 v55 v1053 v57 v58 v59 v8 v9 v60 v61 v62 v63 v64 v65 v66 v67 v1067 v1068 v1069 v1070 v1071 v1072 v1073 v1074 v76 v77 v78 v79 v80 v81 v82 v83 v84 v85 v86 v87 v88 v89 v90 v91 v92 v93 v94 v95 v96 v97 v98 v99 v100 v101 v102 v103 v104 v105 v106 v107 v108 v109 v110 v111 v112 v113 v114 v115 v116 v117 v118 v119 v120 v121 v122 v123 v124 v125 v126 v127 v128 v129 v130 v131 v132 v133 v134 v135 v136 v137 v138 v139 v140 v141 v142 v143 v144 v145 v146 v147 v148 v149 v150 v151 v152 v153 v154 v155 v156 v157 v158 v159 v160 v161 v162 v163 v164 v165 v166 v167 v168 v169 v170 v171 v172 v173 v174 v175 v176 v177 v178 v179 v180 v181 v182 v183 v184 v185 v186 v187 v188 v189 v190 v191 v192 v193 v195 v196 v197 v198 v199 v200 v201 v202 v203 v204 v205 v206 v207 v208 v209 v210 v211 v212 v213 v214 v215 v216 v217 v218 v219 v220 v221 v222 v223 v224 v225 v226 v227 v228 v229 v230 v231 v232 v1232 v1233 v233 v234 v235 v236 v237 v238 v239 v240 v241 v242 v243 v244 v245 v246 v247 v248 v249 v250 v251 v252 v253 v254 v255 v256 v257 v258 v259 v260 v261 v262 v263 v264 v265 v266 v267 v268 v269 v270 v271 v272 v273 v274 v275 v276 v277 v278 v279 v280 v281 v282 v283 v284 v285 v286 v287 v288 v289 v290 v291 v292 v293 v294 v295 v296 v297 v298 v299 v300 v301 v302 v303 v304 v305 v306 v307 v308 v309 v310 v311 v312 v313 v314 v315 v316 v317 v318 v319 v320 v321 v322 v323 v324 v325 v326 v327 v328 v329 v330 v331 v332 v333 v334 v335 v336 v337 v338 v339 v340 v341 v342 v343 v344 v345 v346 v347 v348 v349 v350 v351 v352 v353 v354 v355 v356 v357 v358 v359 v360 v361 v362 v363 v364 v365 v366 v367 v368 v369 v370 v371 v372 v373 v374 v375 v376 v377 v378 v379 v380 v381 v382 v383 v384 v385 v386 v387 v388 v389 v390 v391 v392 v393 v394 v395 v396 v397 v398 v399 v400 v401 v402 v403 v404 v405 v406 v407 v408 v409 v410 v1412 v1413 v1414 v1415 v1416 v411 v412 v413 v414 v415 v416 v417 v418 v419 v420 v421 v422 v423 v424 v425 v426 v427 v428 v429 v430 v431 v432 v433 v434 v435 v436 v437 v438 v439 v440 v441 v442 v443 v444 v445 v446 v447 v448 v449 v450 v451 v452 v453 v454 v455 v456 v457 v458 v459 : Value} (K : Act → World → Prop) (Q : Exit → Act → World → Prop) (hQ : ∀ c t t' d w', Q (.panic c) ⟨t, d⟩ w' → Q (.panic c) ⟨t', d⟩ w')
    (k : Nat) (n0 : Int) (L0 : List (List Int)) (a1 : ByteArray) (A0 A7 : Option Addr) (c0 c7 : Nat) (g0 : Nat) (W : World) (o is V ok five : Bool) (ct : Int) (all : List ByteArray) (hok : ok = (V && is)) (h5 : five = (V && decide (ct ≤ 200)))
    (hr0 : Kd.C (Kd.slice 3 (Kd.int .i64)) w A0 L0.length L0) (hc0 : L0.length ≤ c0)
    (e12 : V = true → ct ≤ 200 → (all.length : Int) = ct ∧ laws_eSorted.f k all = some true ∧ (is = true → laws_eText.f k all a1 = some o) ∧ all.length ≤ 200 ∧ ∀ (i : Nat) (hi : i < all.length), impl_DoesOpen.f k n0 L0 all[i] = some (true, true))
    (s : KP w g0 (bxK n0 A0 L0.length c0) W) (r7 : Kd.C Kd.string W A7 all.length all) (i7 : all.length ≤ c7)
    (hrest : ∀ {u10 u28 u29 u30 u195 u196 u197 u198 u199 u200 u201 u202 u203 u204 u205 u206 u207 u208 u209 u210 u211 u212 u213 u214 u215 u216 u217 u218 u219 u220 u221 u222 u223 u224 u225 u226 u227 u228 u229 u230 u231 u232 : Value} (W' : World), KP w g0 (bxK n0 A0 L0.length c0) W' → K ⟨List.toArray (v1000 :: v1001 :: v1002 :: v1003 :: u10 :: .pointer (some ⟨g0, 0, none⟩) :: .string a1 :: .bool o :: .bool ok :: v13 :: v14 :: v15 :: v16 :: v17 :: v18 :: .int .i64 ct :: v20 :: v21 :: v22 :: .slice A7 all.length c7 :: .bool five :: v25 :: v26 :: v1023 :: u28 :: u29 :: u30 :: v2 :: v31 :: v32 :: v33 :: v34 :: v35 :: v36 :: v37 :: v38 :: v39 :: v40 :: v41 :: v42 :: v43 :: v44 :: v45 :: v46 :: v47 :: v48 :: v49 :: v50 :: v51 :: v52 :: v1050 :: v54 :: v55 :: v1053 :: v57 :: v58 :: v59 :: v8 :: v9 :: v60 :: v61 :: v62 :: v63 :: v64 :: v65 :: v66 :: v67 :: v1067 :: v1068 :: v1069 :: v1070 :: v1071 :: v1072 :: v1073 :: v1074 :: v76 :: v77 :: v78 :: v79 :: v80 :: v81 :: v82 :: v83 :: v84 :: v85 :: v86 :: v87 :: v88 :: v89 :: v90 :: v91 :: v92 :: v93 :: v94 :: v95 :: v96 :: v97 :: v98 :: v99 :: v100 :: v101 :: v102 :: v103 :: v104 :: v105 :: v106 :: v107 :: v108 :: v109 :: v110 :: v111 :: v112 :: v113 :: v114 :: v115 :: v116 :: v117 :: v118 :: v119 :: v120 :: v121 :: v122 :: v123 :: v124 :: v125 :: v126 :: v127 :: v128 :: v129 :: v130 :: v131 :: v132 :: v133 :: v134 :: v135 :: v136 :: v137 :: v138 :: v139 :: v140 :: v141 :: v142 :: v143 :: v144 :: v145 :: v146 :: v147 :: v148 :: v149 :: v150 :: v151 :: v152 :: v153 :: v154 :: v155 :: v156 :: v157 :: v158 :: v159 :: v160 :: v161 :: v162 :: v163 :: v164 :: v165 :: v166 :: v167 :: v168 :: v169 :: v170 :: v171 :: v172 :: v173 :: v174 :: v175 :: v176 :: v177 :: v178 :: v179 :: v180 :: v181 :: v182 :: v183 :: v184 :: v185 :: v186 :: v187 :: v188 :: v189 :: v190 :: v191 :: v192 :: v193 :: .bool five :: u195 :: u196 :: u197 :: u198 :: u199 :: u200 :: u201 :: u202 :: u203 :: u204 :: u205 :: u206 :: u207 :: u208 :: u209 :: u210 :: u211 :: u212 :: u213 :: u214 :: u215 :: u216 :: u217 :: u218 :: u219 :: u220 :: u221 :: u222 :: u223 :: u224 :: u225 :: u226 :: u227 :: u228 :: u229 :: u230 :: u231 :: u232 :: v1232 :: v1233 :: v233 :: v234 :: v235 :: v236 :: v237 :: v238 :: v239 :: v240 :: v241 :: v242 :: v243 :: v244 :: v245 :: v246 :: v247 :: v248 :: v249 :: v250 :: v251 :: v252 :: v253 :: v254 :: v255 :: v256 :: v257 :: v258 :: v259 :: v260 :: v261 :: v262 :: v263 :: v264 :: v265 :: v266 :: v267 :: v268 :: v269 :: v270 :: v271 :: v272 :: v273 :: v274 :: v275 :: v276 :: v277 :: v278 :: v279 :: v280 :: v281 :: v282 :: v283 :: v284 :: v285 :: v286 :: v287 :: v288 :: v289 :: v290 :: v291 :: v292 :: v293 :: v294 :: v295 :: v296 :: v297 :: v298 :: v299 :: v300 :: v301 :: v302 :: v303 :: v304 :: v305 :: v306 :: v307 :: v308 :: v309 :: v310 :: v311 :: v312 :: v313 :: v314 :: v315 :: v316 :: v317 :: v318 :: v319 :: v320 :: v321 :: v322 :: v323 :: v324 :: v325 :: v326 :: v327 :: v328 :: v329 :: v330 :: v331 :: v332 :: v333 :: v334 :: v335 :: v336 :: v337 :: v338 :: v339 :: v340 :: v341 :: v342 :: v343 :: v344 :: v345 :: v346 :: v347 :: v348 :: v349 :: v350 :: v351 :: v352 :: v353 :: v354 :: v355 :: v356 :: v357 :: v358 :: v359 :: v360 :: v361 :: v362 :: v363 :: v364 :: v365 :: v366 :: v367 :: v368 :: v369 :: v370 :: v371 :: v372 :: v373 :: v374 :: v375 :: v376 :: v377 :: v378 :: v379 :: v380 :: v381 :: v382 :: v383 :: v384 :: v385 :: v386 :: v387 :: v388 :: v389 :: v390 :: v391 :: v392 :: v393 :: v394 :: v395 :: v396 :: v397 :: v398 :: v399 :: v400 :: v401 :: v402 :: v403 :: v404 :: v405 :: v406 :: v407 :: v408 :: v409 :: v410 :: v1412 :: v1413 :: v1414 :: v1415 :: v1416 :: v411 :: v412 :: v413 :: v414 :: v415 :: v416 :: v417 :: v418 :: v419 :: v420 :: v421 :: v422 :: v423 :: v424 :: v425 :: v426 :: v427 :: v428 :: v429 :: v430 :: v431 :: v432 :: v433 :: v434 :: v435 :: v436 :: v437 :: v438 :: v439 :: v440 :: v441 :: v442 :: v443 :: v444 :: v445 :: v446 :: v447 :: v448 :: v449 :: v450 :: v451 :: v452 :: v453 :: v454 :: v455 :: v456 :: v457 :: v458 :: v459 :: []), []⟩ W') :
    Code.wp Try.prog (condP 193) (Exit.then K Q) ⟨List.toArray (v1000 :: v1001 :: v1002 :: v1003 :: v10 :: .pointer (some ⟨g0, 0, none⟩) :: .string a1 :: .bool o :: .bool ok :: v13 :: v14 :: v15 :: v16 :: v17 :: v18 :: .int .i64 ct :: v20 :: v21 :: v22 :: .slice A7 all.length c7 :: .bool five :: v25 :: v26 :: v1023 :: v28 :: v29 :: v30 :: v2 :: v31 :: v32 :: v33 :: v34 :: v35 :: v36 :: v37 :: v38 :: v39 :: v40 :: v41 :: v42 :: v43 :: v44 :: v45 :: v46 :: v47 :: v48 :: v49 :: v50 :: v51 :: v52 :: v1050 :: v54 :: v55 :: v1053 :: v57 :: v58 :: v59 :: v8 :: v9 :: v60 :: v61 :: v62 :: v63 :: v64 :: v65 :: v66 :: v67 :: v1067 :: v1068 :: v1069 :: v1070 :: v1071 :: v1072 :: v1073 :: v1074 :: v76 :: v77 :: v78 :: v79 :: v80 :: v81 :: v82 :: v83 :: v84 :: v85 :: v86 :: v87 :: v88 :: v89 :: v90 :: v91 :: v92 :: v93 :: v94 :: v95 :: v96 :: v97 :: v98 :: v99 :: v100 :: v101 :: v102 :: v103 :: v104 :: v105 :: v106 :: v107 :: v108 :: v109 :: v110 :: v111 :: v112 :: v113 :: v114 :: v115 :: v116 :: v117 :: v118 :: v119 :: v120 :: v121 :: v122 :: v123 :: v124 :: v125 :: v126 :: v127 :: v128 :: v129 :: v130 :: v131 :: v132 :: v133 :: v134 :: v135 :: v136 :: v137 :: v138 :: v139 :: v140 :: v141 :: v142 :: v143 :: v144 :: v145 :: v146 :: v147 :: v148 :: v149 :: v150 :: v151 :: v152 :: v153 :: v154 :: v155 :: v156 :: v157 :: v158 :: v159 :: v160 :: v161 :: v162 :: v163 :: v164 :: v165 :: v166 :: v167 :: v168 :: v169 :: v170 :: v171 :: v172 :: v173 :: v174 :: v175 :: v176 :: v177 :: v178 :: v179 :: v180 :: v181 :: v182 :: v183 :: v184 :: v185 :: v186 :: v187 :: v188 :: v189 :: v190 :: v191 :: v192 :: v193 :: .bool five :: v195 :: v196 :: v197 :: v198 :: v199 :: v200 :: v201 :: v202 :: v203 :: v204 :: v205 :: v206 :: v207 :: v208 :: v209 :: v210 :: v211 :: v212 :: v213 :: v214 :: v215 :: v216 :: v217 :: v218 :: v219 :: v220 :: v221 :: v222 :: v223 :: v224 :: v225 :: v226 :: v227 :: v228 :: v229 :: v230 :: v231 :: v232 :: v1232 :: v1233 :: v233 :: v234 :: v235 :: v236 :: v237 :: v238 :: v239 :: v240 :: v241 :: v242 :: v243 :: v244 :: v245 :: v246 :: v247 :: v248 :: v249 :: v250 :: v251 :: v252 :: v253 :: v254 :: v255 :: v256 :: v257 :: v258 :: v259 :: v260 :: v261 :: v262 :: v263 :: v264 :: v265 :: v266 :: v267 :: v268 :: v269 :: v270 :: v271 :: v272 :: v273 :: v274 :: v275 :: v276 :: v277 :: v278 :: v279 :: v280 :: v281 :: v282 :: v283 :: v284 :: v285 :: v286 :: v287 :: v288 :: v289 :: v290 :: v291 :: v292 :: v293 :: v294 :: v295 :: v296 :: v297 :: v298 :: v299 :: v300 :: v301 :: v302 :: v303 :: v304 :: v305 :: v306 :: v307 :: v308 :: v309 :: v310 :: v311 :: v312 :: v313 :: v314 :: v315 :: v316 :: v317 :: v318 :: v319 :: v320 :: v321 :: v322 :: v323 :: v324 :: v325 :: v326 :: v327 :: v328 :: v329 :: v330 :: v331 :: v332 :: v333 :: v334 :: v335 :: v336 :: v337 :: v338 :: v339 :: v340 :: v341 :: v342 :: v343 :: v344 :: v345 :: v346 :: v347 :: v348 :: v349 :: v350 :: v351 :: v352 :: v353 :: v354 :: v355 :: v356 :: v357 :: v358 :: v359 :: v360 :: v361 :: v362 :: v363 :: v364 :: v365 :: v366 :: v367 :: v368 :: v369 :: v370 :: v371 :: v372 :: v373 :: v374 :: v375 :: v376 :: v377 :: v378 :: v379 :: v380 :: v381 :: v382 :: v383 :: v384 :: v385 :: v386 :: v387 :: v388 :: v389 :: v390 :: v391 :: v392 :: v393 :: v394 :: v395 :: v396 :: v397 :: v398 :: v399 :: v400 :: v401 :: v402 :: v403 :: v404 :: v405 :: v406 :: v407 :: v408 :: v409 :: v410 :: v1412 :: v1413 :: v1414 :: v1415 :: v1416 :: v411 :: v412 :: v413 :: v414 :: v415 :: v416 :: v417 :: v418 :: v419 :: v420 :: v421 :: v422 :: v423 :: v424 :: v425 :: v426 :: v427 :: v428 :: v429 :: v430 :: v431 :: v432 :: v433 :: v434 :: v435 :: v436 :: v437 :: v438 :: v439 :: v440 :: v441 :: v442 :: v443 :: v444 :: v445 :: v446 :: v447 :: v448 :: v449 :: v450 :: v451 :: v452 :: v453 :: v454 :: v455 :: v456 :: v457 :: v458 :: v459 :: []), []⟩ W := by
  have hu24 := Try.underlying24
  have hu30 := Try.underlying30
  have Hr0 := amk hr0
  have Hc0 := amk hc0
  have E12 := amk e12
  have S0 := amk s; have R7 := amk r7; have C7 := amk i7; have H5 := amk h5; have HOK := amk hok; clear hr0 hc0 e12 s r7 i7 h5 hok
  conv => arg 2; whnf
  have hbb : ∀ b : Bool, (b != b) = false := fun b => by cases b <;> rfl
  go_cut [] from 466 (fun wc => Aside0 (KP w g0 (bxK n0 A0 L0.length c0) wc))
  case first =>
    cases five with
    | false => go_wp2; go_meet; (case rel => exact S0)
    | true =>
      have hV := H5.out.symm
      rw [Bool.and_eq_true, decide_eq_true_eq] at hV
      obtain ⟨hV1, hV2⟩ := hV
      obtain ⟨b1, b2, b3, b4, b5⟩ := E12.out hV1 hV2
      have hok2 : ok = is := by rw [HOK.out, hV1]; rfl
      have cl1 : ((all.length : Int) != ct) = false := by rw [b1]; simp
      have B2 := amk b2; have B4 := amk b4; have B5 := amk b5
      have b7 : ok = true → laws_eText.f k all a1 = some o := fun h => b3 (hok2 ▸ h)
      have B7 := amk b7; clear b1 b2 b3 b4 b5 b7 hV1 hV2 hok2
      go_upto_region 15 with (fail)
      go_cut [212] from 466 (fun v213 wc => v213 = .bool false ∧ Aside0 (KP w g0 (bxK n0 A0 L0.length c0) wc) ∧ Aside0 (Kd.C Kd.string wc A7 all.length all))
      case first =>
        cases ok with
        | false => go_wp2_with (go_at_call 16; refine Calls.mono (laws_eSorted.calls k _ _ all true _ R7.out C7.out B2.out) ?_; rintro e wx ⟨rfl, ⟨nd, rfl⟩⟩); go_meet; (case rel => exact ⟨rfl, ⟨KP_below S0.out (by exact bn_ (Below.refl _ _) _)⟩, ⟨Kd.C_below R7.out (by exact bn_ (Below.refl _ _) _)⟩⟩)
        | true =>
          have B6 := amk (B7.out rfl)
          go_wp2_with (go_at_call 16; refine Calls.mono (laws_eSorted.calls k _ _ all true _ R7.out C7.out B2.out) ?_; rintro e wx ⟨rfl, ⟨nd, rfl⟩⟩)
          go_wp2_with (go_at_call 17; refine Calls.mono (laws_eText.calls k _ _ all a1 o _ (Kd.C_below R7.out (by exact bn_ (Below.refl _ _) _)) C7.out B6.out) ?_; rintro e wx ⟨rfl, ⟨nd2, rfl⟩⟩)
          go_meet
          case rel => exact ⟨rfl, ⟨KP_below S0.out (by exact bn_ (Below.refl _ _) _)⟩, ⟨Kd.C_below R7.out (by exact bn_ (Below.refl _ _) _)⟩⟩
      case rest =>
        obtain ⟨rfl, S0, R7⟩ := hcut
        go_wp2
        go_loopg [215] all.length (fun gg v216 W => ∃ i : Nat, v216 = .int .i64 (i : Int) ∧ Aside0 (i ≤ all.length ∧ all.length ≤ i + gg) ∧ Aside0 (KP w g0 (bxK n0 A0 L0.length c0) W) ∧ Aside0 (Kd.C Kd.string W A7 all.length all))
        case atStart => exact ⟨0, rfl, ⟨⟨Nat.zero_le _, Nat.le_of_eq (Nat.zero_add _).symm⟩⟩, S0, R7⟩
        case round =>
          clear S0 R7
          obtain ⟨i, rfl, HI, S0, R7⟩ := hrel
          by_cases hi : i < all.length
          · have p1 : 0 ≤ (i : Int) := Int.natCast_nonneg i
            have p2 : (i : Int) < (all.length : Int) := Int.ofNat_lt.mpr hi
            have G1 := amk (B5.out i hi)
            obtain ⟨ad, e0, hx0⟩ := Kd.at_string R7.out (i : Int) p1 p2
            rw [rd_str hi, Int.toNat_natCast] at hx0
            cases e0
            have d1 : decide ((i : Int) < (all.length : Int)) = true := decide_eq_true p2
            have hw1 : wrap64 ((i : Int) + 1) = ((i + 1 : Nat) : Int) := wr_leK hi (Nat.le_trans B4.out (by decide))
            have HL := amk hi
            replace p1 := eq_true p1; replace p2 := eq_true p2
            obtain ⟨q0, q1, _, _, _⟩ := two_cells S0.out.2
            go_wp2_with (go_at_call 5; refine Calls.mono (impl_DoesOpen.calls k n0 _ _ L0 _ true true _ (Kd.C_below Hr0.out S0.out.1) Hc0.out G1.out) ?_; rintro e wx ⟨rfl, hb⟩; have n1 := amk (KP_below S0.out hb); have n2 := amk (Kd.C_below R7.out hb); clear S0 R7 hb q0 q1; have S0 := n1; have R7 := n2; clear n1 n2)
            go_roundg (all.length - (i + 1))
            case measure => exact ms1 HL.out HI.out
            case rel => exact ⟨i + 1, by rw [← hw1], ⟨ms2 HL.out⟩, S0, R7⟩
          · have d1 : decide ((i : Int) < (all.length : Int)) = false := decide_eq_false (fun h => hi (Int.ofNat_lt.mp h))
            go_wp2
            go_meet
            case rel => exact S0
  case rest =>
    exact hrest _ hcut.out
/-! laws.FnKeysOpenOfAll, a part of its walk. -/
set_option maxHeartbeats 16000000 in
set_option maxRecDepth 100000 in
theorem KPC {w : World} {v1000 v1001 v1002 v1003 v10 v5 v1 v11 v12 v13 v14 v15 v16 v17 v18 v19 v20 v21 v22 v23 v24 v25 v26 v1023 v28 v29 v30 v2 v47 v48 v49 v50 v51 v52 v1050 v54 v55 v1053 v57 v58 v59 v8 v9 v60 v61 v62 v63 v64 v65 v66 v67 v1067 v1068 v1069 v1070 v1071 v1072 v1073 v1074 v76 v77 v78 v79 v80 v81 v82 v83 v84 v85 v86 v87 v88 v89 v90 v91 v92 v93 v94 v95 v96 v97 v98 v99 v100 v101 v102 v103 v104 v105 v106 v107 v108 v109 v110 v111 v112 v113 v114 v115 v116 v117 v118 v119 v120 v121 v122 v123 v124 v125 v126 v127 v128 v129 v130 v131 v132 v133 v134 v135 v136 v137 v138 v139 v140 v141 v142 v143 v144 v145 v146 v147 v148 v149 v150 v151 v152 v153 v154 v155 v156 v157 v158 v159 v160 v161 v162 v163 v164 v165 v166 v167 v168 v169 v170 v171 v172 v173 v174 v175 v176 v177 v178 v179 v180 v181 v182 v183 v184 v185 v186 v187 v188 v189 v190 v191 v192 v193 v194 v195 v196 v197 v198 v199 v200 v201 v202 v203 v204 v205 v206 v207 v208 v209 v210 v211 v212 v213 v214 v215 v216 v217 v218 v219 v220 v221 v222 v223 v224 v225 v226 v227 v228 v229 v230 v231 v232 v1232 v1233 v233 v234 v235 v236 v237 v238 v239 v240 v241 v242 v243 v244 v245 v246 v247 v248 v249 v250 v251 v252 v253 v254 v255 v256 v257 v258 v259 v260 v261 v262 v263 v264 v265 v266 v267 v268 v269 v270 v271 v272 v273 v274 v275 v276 v277 v278 v279 v280 v281 v282 v283 v284 v285 v286 v287 v288 v289 v290 v291 v292 v293 v294 v295 v296 v297 v298 v299 v300 v301 v302 v303 v304 v305 v306 v307 v308 v309 v310 v311 v312 v313 v314 v315 v316 v317 v318 v319 v320 v321 v322 v323 v324 v325 v326 v327 v328 v329 v330 v331 v332 v333 v334 v335 v336 v337 v338 v339 v340 v341 v342 v343 v344 v345 v346 v347 v348 v349 v350 v351 v352 v353 v354 v355 v356 v357 v358 v359 v360 v361 v362 v363 v364 v365 v366 v367 v368 v369 v370 v371 v372 v373 v374 v375 v376 v377 v378 v379 v380 v381 v382 v383 v384 v385 v386 v387 v388 v389 v390 v391 v392 v393 v394 v395 v396 v397 v398 v399 v400 v401 v402 v403 v404 v405 v406 v407 v408 v409 v410 v1412 v1413 v1414 v1415 v1416 v411 v412 v413 v414 v415 v416 v417 v418 v419 v420 v421 v422 v423 v424 v425 v426 v427 v428 v429 v430 v431 v432 v433 v434 v435 v436 v437 v438 v439 v440 v441 v442 v443 v444 v445 v446 v447 v448 v449 v450 v451 v452 v453 v454 v455 v456 v457 v458 v459 : Value} (K : Act → World → Prop) (Q : Exit → Act → World → Prop) (hQ : ∀ c t t' d w', Q (.panic c) ⟨t, d⟩ w' → Q (.panic c) ⟨t', d⟩ w')
    (k : Nat) (A10 A11 A12 A13 : Option Addr) (c10 c11 c12 c13 gm gt : Nat) (g0 : Nat) (b0 : Obj) (W : World) (sv nine : Bool) (both gh mn : Int) (sh : List ByteArray) (M : List (List Int)) (hsv : sv = (nine && decide (both ≤ 200)))
    (f9 : laws_eTexts.f k sh sh = some true) (f10 : laws_ePins.f k mn M mn M = some true)
    (s : KP w g0 b0 W) (r10 : Kd.C Kd.string W A10 sh.length sh) (i10 : sh.length ≤ c10) (r11 : Kd.C Kd.string W A11 sh.length sh) (i11 : sh.length ≤ c11) (r12 : Kd.C (Kd.slice 3 (Kd.int .i64)) W A12 M.length M) (i12 : M.length ≤ c12) (r13 : Kd.C (Kd.slice 3 (Kd.int .i64)) W A13 M.length M) (i13 : M.length ≤ c13) (b12 : W.heap[gm]? = some (bxK mn A12 M.length c12)) (b13 : W.heap[gt]? = some (bxK mn A13 M.length c13))
    (hrest : ∀ {u273 u274 u275 u276 u277 u278 u279 u280 u281 u282 u283 u284 u285 u286 u287 u288 u289 u290 u291 u292 u293 u294 u295 u296 u297 u298 u299 u300 u301 u302 u303 u304 u305 u306 u307 u308 u309 u310 u311 u312 u313 u314 u315 u316 u317 u318 u319 u320 u321 u322 u323 u324 u325 u326 u327 u328 u329 u330 : Value} (W' : World), KP w g0 b0 W' → Kd.C (Kd.slice 3 (Kd.int .i64)) W' A12 M.length M → W'.heap[gm]? = some (bxK mn A12 M.length c12) → K ⟨List.toArray (v1000 :: v1001 :: v1002 :: v1003 :: v10 :: v5 :: v1 :: v11 :: v12 :: v13 :: v14 :: v15 :: v16 :: v17 :: v18 :: v19 :: v20 :: v21 :: v22 :: v23 :: v24 :: v25 :: v26 :: v1023 :: v28 :: v29 :: v30 :: v2 :: .slice A10 sh.length c10 :: .bool sv :: .slice A11 sh.length c11 :: .bool sv :: .int .i64 both :: .bool nine :: .int .i64 both :: .bool nine :: .int .i64 gh :: .bool nine :: .int .i64 gh :: .bool nine :: .pointer (some ⟨gm, 0, none⟩) :: .bool nine :: .pointer (some ⟨gt, 0, none⟩) :: .bool nine :: v47 :: v48 :: v49 :: v50 :: v51 :: v52 :: v1050 :: v54 :: v55 :: v1053 :: v57 :: v58 :: v59 :: v8 :: v9 :: v60 :: v61 :: v62 :: v63 :: v64 :: v65 :: v66 :: v67 :: v1067 :: v1068 :: v1069 :: v1070 :: v1071 :: v1072 :: v1073 :: v1074 :: v76 :: v77 :: v78 :: v79 :: v80 :: v81 :: v82 :: v83 :: v84 :: v85 :: v86 :: v87 :: v88 :: v89 :: v90 :: v91 :: v92 :: v93 :: v94 :: v95 :: v96 :: v97 :: v98 :: v99 :: v100 :: v101 :: v102 :: v103 :: v104 :: v105 :: v106 :: v107 :: v108 :: v109 :: v110 :: v111 :: v112 :: v113 :: v114 :: v115 :: v116 :: v117 :: v118 :: v119 :: v120 :: v121 :: v122 :: v123 :: v124 :: v125 :: v126 :: v127 :: v128 :: v129 :: v130 :: v131 :: v132 :: v133 :: v134 :: v135 :: v136 :: v137 :: v138 :: v139 :: v140 :: v141 :: v142 :: v143 :: v144 :: v145 :: v146 :: v147 :: v148 :: v149 :: v150 :: v151 :: v152 :: v153 :: v154 :: v155 :: v156 :: v157 :: v158 :: v159 :: v160 :: v161 :: v162 :: v163 :: v164 :: v165 :: v166 :: v167 :: v168 :: v169 :: v170 :: v171 :: v172 :: v173 :: v174 :: v175 :: v176 :: v177 :: v178 :: v179 :: v180 :: v181 :: v182 :: v183 :: v184 :: v185 :: v186 :: v187 :: v188 :: v189 :: v190 :: v191 :: v192 :: v193 :: v194 :: v195 :: v196 :: v197 :: v198 :: v199 :: v200 :: v201 :: v202 :: v203 :: v204 :: v205 :: v206 :: v207 :: v208 :: v209 :: v210 :: v211 :: v212 :: v213 :: v214 :: v215 :: v216 :: v217 :: v218 :: v219 :: v220 :: v221 :: v222 :: v223 :: v224 :: v225 :: v226 :: v227 :: v228 :: v229 :: v230 :: v231 :: v232 :: v1232 :: v1233 :: v233 :: v234 :: v235 :: v236 :: v237 :: v238 :: v239 :: v240 :: v241 :: v242 :: v243 :: v244 :: v245 :: v246 :: v247 :: v248 :: v249 :: v250 :: v251 :: v252 :: v253 :: v254 :: v255 :: v256 :: v257 :: v258 :: v259 :: v260 :: v261 :: v262 :: v263 :: v264 :: v265 :: v266 :: v267 :: v268 :: v269 :: v270 :: v271 :: v272 :: u273 :: u274 :: u275 :: u276 :: u277 :: u278 :: u279 :: u280 :: u281 :: u282 :: u283 :: u284 :: u285 :: u286 :: u287 :: u288 :: u289 :: u290 :: u291 :: u292 :: u293 :: u294 :: u295 :: u296 :: u297 :: u298 :: u299 :: u300 :: u301 :: u302 :: u303 :: u304 :: u305 :: u306 :: u307 :: u308 :: u309 :: u310 :: u311 :: u312 :: u313 :: u314 :: u315 :: u316 :: u317 :: u318 :: u319 :: u320 :: u321 :: u322 :: u323 :: u324 :: u325 :: u326 :: u327 :: u328 :: u329 :: u330 :: .bool false :: v332 :: v333 :: v334 :: v335 :: v336 :: v337 :: v338 :: v339 :: v340 :: v341 :: v342 :: v343 :: v344 :: v345 :: v346 :: v347 :: v348 :: v349 :: v350 :: v351 :: v352 :: v353 :: v354 :: v355 :: v356 :: v357 :: v358 :: v359 :: v360 :: v361 :: v362 :: v363 :: v364 :: v365 :: v366 :: v367 :: v368 :: v369 :: v370 :: v371 :: v372 :: v373 :: v374 :: v375 :: v376 :: v377 :: v378 :: v379 :: v380 :: v381 :: v382 :: v383 :: v384 :: v385 :: v386 :: v387 :: v388 :: v389 :: v390 :: v391 :: v392 :: v393 :: v394 :: v395 :: v396 :: v397 :: v398 :: v399 :: v400 :: v401 :: v402 :: v403 :: v404 :: v405 :: v406 :: v407 :: v408 :: v409 :: v410 :: v1412 :: v1413 :: v1414 :: v1415 :: v1416 :: v411 :: v412 :: v413 :: v414 :: v415 :: v416 :: v417 :: v418 :: v419 :: v420 :: v421 :: v422 :: v423 :: v424 :: v425 :: v426 :: v427 :: v428 :: v429 :: v430 :: v431 :: v432 :: v433 :: v434 :: v435 :: v436 :: v437 :: v438 :: v439 :: v440 :: v441 :: v442 :: v443 :: v444 :: v445 :: v446 :: v447 :: v448 :: v449 :: v450 :: v451 :: v452 :: v453 :: v454 :: v455 :: v456 :: v457 :: v458 :: v459 :: []), []⟩ W') :
    Code.wp Try.prog (regP 33) (Exit.then K Q) ⟨List.toArray (v1000 :: v1001 :: v1002 :: v1003 :: v10 :: v5 :: v1 :: v11 :: v12 :: v13 :: v14 :: v15 :: v16 :: v17 :: v18 :: v19 :: v20 :: v21 :: v22 :: v23 :: v24 :: v25 :: v26 :: v1023 :: v28 :: v29 :: v30 :: v2 :: .slice A10 sh.length c10 :: .bool sv :: .slice A11 sh.length c11 :: .bool sv :: .int .i64 both :: .bool nine :: .int .i64 both :: .bool nine :: .int .i64 gh :: .bool nine :: .int .i64 gh :: .bool nine :: .pointer (some ⟨gm, 0, none⟩) :: .bool nine :: .pointer (some ⟨gt, 0, none⟩) :: .bool nine :: v47 :: v48 :: v49 :: v50 :: v51 :: v52 :: v1050 :: v54 :: v55 :: v1053 :: v57 :: v58 :: v59 :: v8 :: v9 :: v60 :: v61 :: v62 :: v63 :: v64 :: v65 :: v66 :: v67 :: v1067 :: v1068 :: v1069 :: v1070 :: v1071 :: v1072 :: v1073 :: v1074 :: v76 :: v77 :: v78 :: v79 :: v80 :: v81 :: v82 :: v83 :: v84 :: v85 :: v86 :: v87 :: v88 :: v89 :: v90 :: v91 :: v92 :: v93 :: v94 :: v95 :: v96 :: v97 :: v98 :: v99 :: v100 :: v101 :: v102 :: v103 :: v104 :: v105 :: v106 :: v107 :: v108 :: v109 :: v110 :: v111 :: v112 :: v113 :: v114 :: v115 :: v116 :: v117 :: v118 :: v119 :: v120 :: v121 :: v122 :: v123 :: v124 :: v125 :: v126 :: v127 :: v128 :: v129 :: v130 :: v131 :: v132 :: v133 :: v134 :: v135 :: v136 :: v137 :: v138 :: v139 :: v140 :: v141 :: v142 :: v143 :: v144 :: v145 :: v146 :: v147 :: v148 :: v149 :: v150 :: v151 :: v152 :: v153 :: v154 :: v155 :: v156 :: v157 :: v158 :: v159 :: v160 :: v161 :: v162 :: v163 :: v164 :: v165 :: v166 :: v167 :: v168 :: v169 :: v170 :: v171 :: v172 :: v173 :: v174 :: v175 :: v176 :: v177 :: v178 :: v179 :: v180 :: v181 :: v182 :: v183 :: v184 :: v185 :: v186 :: v187 :: v188 :: v189 :: v190 :: v191 :: v192 :: v193 :: v194 :: v195 :: v196 :: v197 :: v198 :: v199 :: v200 :: v201 :: v202 :: v203 :: v204 :: v205 :: v206 :: v207 :: v208 :: v209 :: v210 :: v211 :: v212 :: v213 :: v214 :: v215 :: v216 :: v217 :: v218 :: v219 :: v220 :: v221 :: v222 :: v223 :: v224 :: v225 :: v226 :: v227 :: v228 :: v229 :: v230 :: v231 :: v232 :: v1232 :: v1233 :: v233 :: v234 :: v235 :: v236 :: v237 :: v238 :: v239 :: v240 :: v241 :: v242 :: v243 :: v244 :: v245 :: v246 :: v247 :: v248 :: v249 :: v250 :: v251 :: v252 :: v253 :: v254 :: v255 :: v256 :: v257 :: v258 :: v259 :: v260 :: v261 :: v262 :: v263 :: v264 :: v265 :: v266 :: v267 :: v268 :: v269 :: v270 :: v271 :: v272 :: v273 :: v274 :: v275 :: v276 :: v277 :: v278 :: v279 :: v280 :: v281 :: v282 :: v283 :: v284 :: v285 :: v286 :: v287 :: v288 :: v289 :: v290 :: v291 :: v292 :: v293 :: v294 :: v295 :: v296 :: v297 :: v298 :: v299 :: v300 :: v301 :: v302 :: v303 :: v304 :: v305 :: v306 :: v307 :: v308 :: v309 :: v310 :: v311 :: v312 :: v313 :: v314 :: v315 :: v316 :: v317 :: v318 :: v319 :: v320 :: v321 :: v322 :: v323 :: v324 :: v325 :: v326 :: v327 :: v328 :: v329 :: v330 :: v331 :: v332 :: v333 :: v334 :: v335 :: v336 :: v337 :: v338 :: v339 :: v340 :: v341 :: v342 :: v343 :: v344 :: v345 :: v346 :: v347 :: v348 :: v349 :: v350 :: v351 :: v352 :: v353 :: v354 :: v355 :: v356 :: v357 :: v358 :: v359 :: v360 :: v361 :: v362 :: v363 :: v364 :: v365 :: v366 :: v367 :: v368 :: v369 :: v370 :: v371 :: v372 :: v373 :: v374 :: v375 :: v376 :: v377 :: v378 :: v379 :: v380 :: v381 :: v382 :: v383 :: v384 :: v385 :: v386 :: v387 :: v388 :: v389 :: v390 :: v391 :: v392 :: v393 :: v394 :: v395 :: v396 :: v397 :: v398 :: v399 :: v400 :: v401 :: v402 :: v403 :: v404 :: v405 :: v406 :: v407 :: v408 :: v409 :: v410 :: v1412 :: v1413 :: v1414 :: v1415 :: v1416 :: v411 :: v412 :: v413 :: v414 :: v415 :: v416 :: v417 :: v418 :: v419 :: v420 :: v421 :: v422 :: v423 :: v424 :: v425 :: v426 :: v427 :: v428 :: v429 :: v430 :: v431 :: v432 :: v433 :: v434 :: v435 :: v436 :: v437 :: v438 :: v439 :: v440 :: v441 :: v442 :: v443 :: v444 :: v445 :: v446 :: v447 :: v448 :: v449 :: v450 :: v451 :: v452 :: v453 :: v454 :: v455 :: v456 :: v457 :: v458 :: v459 :: []), []⟩ W := by
  have hu24 := Try.underlying24
  have hu30 := Try.underlying30
  have hu22 := Try.underlying22
  have F9 := amk f9; have F10 := amk f10; have S0 := amk s; have R10 := amk r10; have C10 := amk i10; have R11 := amk r11; have C11 := amk i11; have R12 := amk r12; have C12 := amk i12; have R13 := amk r13; have C13 := amk i13; have B12 := amk b12; have B13 := amk b13
  clear f9 f10 s r10 i10 r11 i11 r12 i12 r13 i13 b12 b13
  have hbb : ∀ b : Bool, (b != b) = false := fun b => by cases b <;> rfl
  subst hsv
  conv => arg 2; whnf
  go_cut [332] from 466 (fun v331 wc => v331 = .bool false ∧ Aside0 (KP w g0 b0 wc) ∧ Aside0 (Kd.C (Kd.slice 3 (Kd.int .i64)) wc A12 M.length M) ∧ Aside0 (wc.heap[gm]? = some (bxK mn A12 M.length c12)))
  case first =>
    have hii : ∀ x : Int, (x != x) = false := fun x => by simp
    obtain ⟨m0, m1, _, _, _⟩ := two_cells B12.out
    obtain ⟨t0, t1, _, _, _⟩ := two_cells B13.out
    cases nine with
    | false =>
      have hv2 : (false && decide (both ≤ 200)) = false := rfl
      go_wp2_with (go_at_call 13; refine Calls.mono (laws_eTexts.calls k _ _ sh _ _ sh true _ R10.out C10.out R11.out C11.out F9.out) ?_; rintro e wx ⟨rfl, ⟨nd, rfl⟩⟩)
      go_wp2_with (go_at_call 26; refine Calls.mono (laws_ePins.calls k mn _ _ M mn _ _ M true _ (Kd.C_below R12.out (by exact bn_ (Below.refl _ _) _)) C12.out (Kd.C_below R13.out (by exact bn_ (Below.refl _ _) _)) C13.out F10.out) ?_; rintro e wx ⟨rfl, hb⟩; have HBX := amk ((bn_ (Below.refl _ _) nd).trans hb); clear hb)
      go_meet
      case rel => exact ⟨rfl, ⟨KP_below S0.out HBX.out⟩, ⟨Kd.C_below R12.out HBX.out⟩, ⟨blk_below B12.out HBX.out⟩⟩
    | true =>
      have hv2 : (true && decide (both ≤ 200)) = decide (both ≤ 200) := rfl
      go_wp2_with (go_at_call 13; refine Calls.mono (laws_eTexts.calls k _ _ sh _ _ sh true _ R10.out C10.out R11.out C11.out F9.out) ?_; rintro e wx ⟨rfl, ⟨nd, rfl⟩⟩)
      go_wp2_with (go_at_call 26; refine Calls.mono (laws_ePins.calls k mn _ _ M mn _ _ M true _ (Kd.C_below R12.out (by exact bn_ (Below.refl _ _) _)) C12.out (Kd.C_below R13.out (by exact bn_ (Below.refl _ _) _)) C13.out F10.out) ?_; rintro e wx ⟨rfl, hb⟩; have HBX := amk ((bn_ (Below.refl _ _) nd).trans hb); clear hb)
      go_meet
      case rel => exact ⟨rfl, ⟨KP_below S0.out HBX.out⟩, ⟨Kd.C_below R12.out HBX.out⟩, ⟨blk_below B12.out HBX.out⟩⟩
  case rest =>
    obtain ⟨rfl, S0, R12, B12⟩ := hcut
    exact hrest _ S0.out R12.out B12.out
/-! laws.FnKeysOpenOfAll, a part of its walk. -/
set_option maxHeartbeats 16000000 in
set_option maxRecDepth 100000 in
theorem KPD {w : World} {v1000 v1001 v1002 v1003 v10 v5 v1 v11 v12 v13 v14 v15 v16 v17 v18 v19 v20 v21 v22 v23 v24 v25 v26 v1023 v28 v29 v30 v31 v32 v33 v34 v36 v37 v38 v40 v41 v42 v44 v45 v46 v47 v48 v49 v50 v51 v52 v1050 v54 v55 v1053 v57 v58 v59 v8 v9 v60 v61 v62 v63 v64 v65 v66 v67 v1067 v1068 v1069 v1070 v1071 v1072 v1073 v1074 v76 v77 v78 v79 v80 v81 v82 v83 v84 v85 v86 v87 v88 v89 v90 v91 v92 v93 v94 v95 v96 v97 v98 v99 v100 v101 v102 v103 v104 v105 v106 v107 v108 v109 v110 v111 v112 v113 v114 v115 v116 v117 v118 v119 v120 v121 v122 v123 v124 v125 v126 v127 v128 v129 v130 v131 v132 v133 v134 v135 v136 v137 v138 v139 v140 v141 v142 v143 v144 v145 v146 v147 v148 v149 v150 v151 v152 v153 v154 v155 v156 v157 v158 v159 v160 v161 v162 v163 v164 v165 v166 v167 v168 v169 v170 v171 v172 v173 v174 v175 v176 v177 v178 v179 v180 v181 v182 v183 v184 v185 v186 v187 v188 v189 v190 v191 v192 v193 v194 v195 v196 v197 v198 v199 v200 v201 v202 v203 v204 v205 v206 v207 v208 v209 v210 v211 v212 v213 v214 v215 v216 v217 v218 v219 v220 v221 v222 v223 v224 v225 v226 v227 v228 v229 v230 v231 v232 v1232 v1233 v233 v234 v235 v236 v237 v238 v239 v240 v241 v242 v243 v244 v245 v246 v247 v248 v249 v250 v251 v252 v253 v254 v255 v256 v257 v258 v259 v260 v261 v262 v263 v264 v265 v266 v267 v268 v269 v270 v271 v272 v273 v274 v275 v276 v277 v278 v279 v280 v281 v282 v283 v284 v285 v286 v287 v288 v289 v290 v291 v292 v293 v294 v295 v296 v297 v298 v299 v300 v301 v302 v303 v304 v305 v306 v307 v308 v309 v310 v311 v312 v313 v314 v315 v316 v317 v318 v319 v320 v321 v322 v323 v324 v325 v326 v327 v328 v329 v330 v331 v333 v334 v335 v336 v337 v338 v339 v340 v341 v342 v343 v344 v345 v346 v347 v348 v349 v350 v351 v352 v353 v354 v355 v356 v357 v358 v359 v360 v361 v362 v363 v364 v365 v366 v367 v368 v369 v370 v371 v372 v373 v374 v375 v376 v377 v378 v379 v380 v381 v382 v383 v384 v385 v386 v387 v388 v389 v390 v391 v392 v393 v394 v395 v396 v397 v398 v399 v400 v401 v402 v403 v404 v405 v406 v407 v408 v409 v410 v1412 v1413 v1414 v1415 v1416 v411 v412 v413 v414 v415 v416 v417 v418 v419 v420 v421 v422 v423 v424 v425 v426 v427 v428 v429 v430 v431 v432 v433 v434 v435 v436 v437 v438 v439 v440 v441 v442 v443 v444 v445 v446 v447 v448 v449 v450 v451 v452 v453 v454 v455 v456 v457 v458 v459 : Value} (K : Act → World → Prop) (Q : Exit → Act → World → Prop) (hQ : ∀ c t t' d w', Q (.panic c) ⟨t, d⟩ w' → Q (.panic c) ⟨t', d⟩ w')
    (k : Nat) (A2 A12 : Option Addr) (c2 c12 gm : Nat) (g0 : Nat) (b0 : Obj) (W : World) (nine : Bool) (both gh mn kc : Int) (M : List (List Int)) (l2 : List S24) (ev : List ByteArray) (op : Nat → Nat → Bool) (N : Nat → Nat → Int) (Z H : Nat → Int)
    (hr2 : Kd.C k24 w A2 l2.length l2) (hl : l2.length ≤ 10000)
    (g1 : nine = true → impl_CountKeys.f k mn M = some (kc, true) ∧ impl_ArePins.f mn M = some true ∧ 0 ≤ gh ∧ gh < kc ∧ both ≤ kc) (g2 : nine = true → kc ≤ 200 → impl_AllKeys.f k mn M = some (ev, true) ∧ ev.length ≤ 200 ∧ Z ev.length = gh ∧ H ev.length = both ∧ ∀ (i : Nat) (hi : i < ev.length) (j : Nat) (hj : j < l2.length), impl_DoesOpen.f k l2[j].f0 l2[j].f1 ev[i] = some (op i j, true))
    (hN0 : ∀ i, N i 0 = 0) (hNs : ∀ i j, N i (j + 1) = if op i j then N i j + 1 else N i j) (hZ0 : Z 0 = 0) (hZs : ∀ i, Z (i + 1) = if N i l2.length = 0 then Z i + 1 else Z i) (hH0 : H 0 = 0) (hHs : ∀ i, H (i + 1) = if N i l2.length = (l2.length : Int) then H i + 1 else H i) (hNb : ∀ i j, 0 ≤ N i j ∧ N i j ≤ j) (hZb : ∀ i, 0 ≤ Z i ∧ Z i ≤ i) (hHb : ∀ i, 0 ≤ H i ∧ H i ≤ i)
    (s : KP w g0 b0 W) (r12 : Kd.C (Kd.slice 3 (Kd.int .i64)) W A12 M.length M) (i12 : M.length ≤ c12) (b12 : W.heap[gm]? = some (bxK mn A12 M.length c12))
    (hrest : ∀ {u10 u47 u48 u49 u50 u51 u52 u54 u55 u57 u58 u59 u333 u334 u335 u336 u337 u338 u339 u340 u341 u342 u343 u344 u345 u346 u347 u348 u349 u350 u351 u352 u353 u354 u355 u356 u357 u358 u359 u360 u361 u362 u363 u364 u365 u366 u367 u368 u369 u370 u371 u372 u373 u374 u375 u376 u377 u378 u379 u380 u381 u382 u383 u384 u385 u386 u387 u388 u389 u390 u391 u392 u393 u394 u395 u396 u397 u398 u399 u400 u401 u402 u403 u404 u405 u406 u407 u408 u409 u410 : Value} (W' : World), KP w g0 b0 W' → K ⟨List.toArray (v1000 :: v1001 :: v1002 :: v1003 :: u10 :: v5 :: v1 :: v11 :: v12 :: v13 :: v14 :: v15 :: v16 :: v17 :: v18 :: v19 :: v20 :: v21 :: v22 :: v23 :: v24 :: v25 :: v26 :: v1023 :: v28 :: v29 :: v30 :: .slice A2 l2.length c2 :: v31 :: v32 :: v33 :: v34 :: .int .i64 both :: v36 :: v37 :: v38 :: .int .i64 gh :: v40 :: v41 :: v42 :: .pointer (some ⟨gm, 0, none⟩) :: v44 :: v45 :: v46 :: u47 :: u48 :: u49 :: u50 :: u51 :: u52 :: v1050 :: u54 :: u55 :: v1053 :: u57 :: u58 :: u59 :: v8 :: v9 :: v60 :: v61 :: v62 :: v63 :: v64 :: v65 :: v66 :: v67 :: v1067 :: v1068 :: v1069 :: v1070 :: v1071 :: v1072 :: v1073 :: v1074 :: v76 :: v77 :: v78 :: v79 :: v80 :: v81 :: v82 :: v83 :: v84 :: v85 :: v86 :: v87 :: v88 :: v89 :: v90 :: v91 :: v92 :: v93 :: v94 :: v95 :: v96 :: v97 :: v98 :: v99 :: v100 :: v101 :: v102 :: v103 :: v104 :: v105 :: v106 :: v107 :: v108 :: v109 :: v110 :: v111 :: v112 :: v113 :: v114 :: v115 :: v116 :: v117 :: v118 :: v119 :: v120 :: v121 :: v122 :: v123 :: v124 :: v125 :: v126 :: v127 :: v128 :: v129 :: v130 :: v131 :: v132 :: v133 :: v134 :: v135 :: v136 :: v137 :: v138 :: v139 :: v140 :: v141 :: v142 :: v143 :: v144 :: v145 :: v146 :: v147 :: v148 :: v149 :: v150 :: v151 :: v152 :: v153 :: v154 :: v155 :: v156 :: v157 :: v158 :: v159 :: v160 :: v161 :: v162 :: v163 :: v164 :: v165 :: v166 :: v167 :: v168 :: v169 :: v170 :: v171 :: v172 :: v173 :: v174 :: v175 :: v176 :: v177 :: v178 :: v179 :: v180 :: v181 :: v182 :: v183 :: v184 :: v185 :: v186 :: v187 :: v188 :: v189 :: v190 :: v191 :: v192 :: v193 :: v194 :: v195 :: v196 :: v197 :: v198 :: v199 :: v200 :: v201 :: v202 :: v203 :: v204 :: v205 :: v206 :: v207 :: v208 :: v209 :: v210 :: v211 :: v212 :: v213 :: v214 :: v215 :: v216 :: v217 :: v218 :: v219 :: v220 :: v221 :: v222 :: v223 :: v224 :: v225 :: v226 :: v227 :: v228 :: v229 :: v230 :: v231 :: v232 :: v1232 :: v1233 :: v233 :: v234 :: v235 :: v236 :: v237 :: v238 :: v239 :: v240 :: v241 :: v242 :: v243 :: v244 :: v245 :: v246 :: v247 :: v248 :: v249 :: v250 :: v251 :: v252 :: v253 :: v254 :: v255 :: v256 :: v257 :: v258 :: v259 :: v260 :: v261 :: v262 :: v263 :: v264 :: v265 :: v266 :: v267 :: v268 :: v269 :: v270 :: v271 :: v272 :: v273 :: v274 :: v275 :: v276 :: v277 :: v278 :: v279 :: v280 :: v281 :: v282 :: v283 :: v284 :: v285 :: v286 :: v287 :: v288 :: v289 :: v290 :: v291 :: v292 :: v293 :: v294 :: v295 :: v296 :: v297 :: v298 :: v299 :: v300 :: v301 :: v302 :: v303 :: v304 :: v305 :: v306 :: v307 :: v308 :: v309 :: v310 :: v311 :: v312 :: v313 :: v314 :: v315 :: v316 :: v317 :: v318 :: v319 :: v320 :: v321 :: v322 :: v323 :: v324 :: v325 :: v326 :: v327 :: v328 :: v329 :: v330 :: v331 :: .bool nine :: u333 :: u334 :: u335 :: u336 :: u337 :: u338 :: u339 :: u340 :: u341 :: u342 :: u343 :: u344 :: u345 :: u346 :: u347 :: u348 :: u349 :: u350 :: u351 :: u352 :: u353 :: u354 :: u355 :: u356 :: u357 :: u358 :: u359 :: u360 :: u361 :: u362 :: u363 :: u364 :: u365 :: u366 :: u367 :: u368 :: u369 :: u370 :: u371 :: u372 :: u373 :: u374 :: u375 :: u376 :: u377 :: u378 :: u379 :: u380 :: u381 :: u382 :: u383 :: u384 :: u385 :: u386 :: u387 :: u388 :: u389 :: u390 :: u391 :: u392 :: u393 :: u394 :: u395 :: u396 :: u397 :: u398 :: u399 :: u400 :: u401 :: u402 :: u403 :: u404 :: u405 :: u406 :: u407 :: u408 :: u409 :: u410 :: v1412 :: v1413 :: v1414 :: v1415 :: v1416 :: v411 :: v412 :: v413 :: v414 :: v415 :: v416 :: v417 :: v418 :: v419 :: v420 :: v421 :: v422 :: v423 :: v424 :: v425 :: v426 :: v427 :: v428 :: v429 :: v430 :: v431 :: v432 :: v433 :: v434 :: v435 :: v436 :: v437 :: v438 :: v439 :: v440 :: v441 :: v442 :: v443 :: v444 :: v445 :: v446 :: v447 :: v448 :: v449 :: v450 :: v451 :: v452 :: v453 :: v454 :: v455 :: v456 :: v457 :: v458 :: v459 :: []), []⟩ W') :
    Code.wp Try.prog (condP 333) (Exit.then K Q) ⟨List.toArray (v1000 :: v1001 :: v1002 :: v1003 :: v10 :: v5 :: v1 :: v11 :: v12 :: v13 :: v14 :: v15 :: v16 :: v17 :: v18 :: v19 :: v20 :: v21 :: v22 :: v23 :: v24 :: v25 :: v26 :: v1023 :: v28 :: v29 :: v30 :: .slice A2 l2.length c2 :: v31 :: v32 :: v33 :: v34 :: .int .i64 both :: v36 :: v37 :: v38 :: .int .i64 gh :: v40 :: v41 :: v42 :: .pointer (some ⟨gm, 0, none⟩) :: v44 :: v45 :: v46 :: v47 :: v48 :: v49 :: v50 :: v51 :: v52 :: v1050 :: v54 :: v55 :: v1053 :: v57 :: v58 :: v59 :: v8 :: v9 :: v60 :: v61 :: v62 :: v63 :: v64 :: v65 :: v66 :: v67 :: v1067 :: v1068 :: v1069 :: v1070 :: v1071 :: v1072 :: v1073 :: v1074 :: v76 :: v77 :: v78 :: v79 :: v80 :: v81 :: v82 :: v83 :: v84 :: v85 :: v86 :: v87 :: v88 :: v89 :: v90 :: v91 :: v92 :: v93 :: v94 :: v95 :: v96 :: v97 :: v98 :: v99 :: v100 :: v101 :: v102 :: v103 :: v104 :: v105 :: v106 :: v107 :: v108 :: v109 :: v110 :: v111 :: v112 :: v113 :: v114 :: v115 :: v116 :: v117 :: v118 :: v119 :: v120 :: v121 :: v122 :: v123 :: v124 :: v125 :: v126 :: v127 :: v128 :: v129 :: v130 :: v131 :: v132 :: v133 :: v134 :: v135 :: v136 :: v137 :: v138 :: v139 :: v140 :: v141 :: v142 :: v143 :: v144 :: v145 :: v146 :: v147 :: v148 :: v149 :: v150 :: v151 :: v152 :: v153 :: v154 :: v155 :: v156 :: v157 :: v158 :: v159 :: v160 :: v161 :: v162 :: v163 :: v164 :: v165 :: v166 :: v167 :: v168 :: v169 :: v170 :: v171 :: v172 :: v173 :: v174 :: v175 :: v176 :: v177 :: v178 :: v179 :: v180 :: v181 :: v182 :: v183 :: v184 :: v185 :: v186 :: v187 :: v188 :: v189 :: v190 :: v191 :: v192 :: v193 :: v194 :: v195 :: v196 :: v197 :: v198 :: v199 :: v200 :: v201 :: v202 :: v203 :: v204 :: v205 :: v206 :: v207 :: v208 :: v209 :: v210 :: v211 :: v212 :: v213 :: v214 :: v215 :: v216 :: v217 :: v218 :: v219 :: v220 :: v221 :: v222 :: v223 :: v224 :: v225 :: v226 :: v227 :: v228 :: v229 :: v230 :: v231 :: v232 :: v1232 :: v1233 :: v233 :: v234 :: v235 :: v236 :: v237 :: v238 :: v239 :: v240 :: v241 :: v242 :: v243 :: v244 :: v245 :: v246 :: v247 :: v248 :: v249 :: v250 :: v251 :: v252 :: v253 :: v254 :: v255 :: v256 :: v257 :: v258 :: v259 :: v260 :: v261 :: v262 :: v263 :: v264 :: v265 :: v266 :: v267 :: v268 :: v269 :: v270 :: v271 :: v272 :: v273 :: v274 :: v275 :: v276 :: v277 :: v278 :: v279 :: v280 :: v281 :: v282 :: v283 :: v284 :: v285 :: v286 :: v287 :: v288 :: v289 :: v290 :: v291 :: v292 :: v293 :: v294 :: v295 :: v296 :: v297 :: v298 :: v299 :: v300 :: v301 :: v302 :: v303 :: v304 :: v305 :: v306 :: v307 :: v308 :: v309 :: v310 :: v311 :: v312 :: v313 :: v314 :: v315 :: v316 :: v317 :: v318 :: v319 :: v320 :: v321 :: v322 :: v323 :: v324 :: v325 :: v326 :: v327 :: v328 :: v329 :: v330 :: v331 :: .bool nine :: v333 :: v334 :: v335 :: v336 :: v337 :: v338 :: v339 :: v340 :: v341 :: v342 :: v343 :: v344 :: v345 :: v346 :: v347 :: v348 :: v349 :: v350 :: v351 :: v352 :: v353 :: v354 :: v355 :: v356 :: v357 :: v358 :: v359 :: v360 :: v361 :: v362 :: v363 :: v364 :: v365 :: v366 :: v367 :: v368 :: v369 :: v370 :: v371 :: v372 :: v373 :: v374 :: v375 :: v376 :: v377 :: v378 :: v379 :: v380 :: v381 :: v382 :: v383 :: v384 :: v385 :: v386 :: v387 :: v388 :: v389 :: v390 :: v391 :: v392 :: v393 :: v394 :: v395 :: v396 :: v397 :: v398 :: v399 :: v400 :: v401 :: v402 :: v403 :: v404 :: v405 :: v406 :: v407 :: v408 :: v409 :: v410 :: v1412 :: v1413 :: v1414 :: v1415 :: v1416 :: v411 :: v412 :: v413 :: v414 :: v415 :: v416 :: v417 :: v418 :: v419 :: v420 :: v421 :: v422 :: v423 :: v424 :: v425 :: v426 :: v427 :: v428 :: v429 :: v430 :: v431 :: v432 :: v433 :: v434 :: v435 :: v436 :: v437 :: v438 :: v439 :: v440 :: v441 :: v442 :: v443 :: v444 :: v445 :: v446 :: v447 :: v448 :: v449 :: v450 :: v451 :: v452 :: v453 :: v454 :: v455 :: v456 :: v457 :: v458 :: v459 :: []), []⟩ W := by
  have hu24 := Try.underlying24
  have hu30 := Try.underlying30
  have hu22 := Try.underlying22
  have hu25 := Try.underlying25
  have G1 := amk g1
  have G2 := amk g2
  have HN0 := amk hN0
  have HNs := amk hNs
  have HZ0 := amk hZ0
  have HZs := amk hZs
  have HH0 := amk hH0
  have HHs := amk hHs
  have HNb := amk hNb
  have HZb := amk hZb
  have HHb := amk hHb
  have Hr2 := amk hr2
  have Hl := amk hl
  have S0 := amk s; have R12 := amk r12; have C12 := amk i12; have B12 := amk b12
  clear g1 g2 hN0 hNs hZ0 hZs hH0 hHs hNb hZb hHb hr2 hl s r12 i12 b12
  have hbb : ∀ b : Bool, (b != b) = false := fun b => by cases b <;> rfl
  have hii : ∀ x : Int, (x != x) = false := fun x => by simp
  conv => arg 2; whnf
  go_cut [] from 466 (fun wc => Aside0 (KP w g0 b0 wc))
  case first =>
    cases nine with
    | false => go_wp2; go_meet; (case rel => exact S0)
    | true =>
      obtain ⟨h1, h2, h3, h4, h5⟩ := G1.out (by first | rfl | trivial)
      have d1 : decide (gh < 0) = false := decide_eq_false (Int.not_lt.mpr h3)
      have d2 : decide (kc ≤ gh) = false := decide_eq_false (Int.not_le.mpr h4)
      have d3 : decide (kc < both) = false := decide_eq_false (Int.not_lt.mpr h5)
      have H1 := amk h1; have H2 := amk h2; clear h1 h2 h3 h4 h5
      obtain ⟨m0, m1, _, _, _⟩ := two_cells B12.out
      go_wp2_with (go_at_call 9; refine Calls.mono (impl_CountKeys.calls k mn _ _ M kc true _ R12.out C12.out H1.out) ?_; rintro e wx ⟨rfl, hb⟩; have n0 := amk (KP_below S0.out hb); have n1 := amk (Kd.C_below R12.out hb); have n2 := amk (blk_below B12.out hb); clear S0 R12 B12; have S0 := n0; have R12 := n1; have B12 := n2; clear n0 n1 n2; clear hb; clear m0 m1; obtain ⟨m0, m1, _, _, _⟩ := two_cells B12.out)
      go_upto_region 39 with (go_at_call 14; refine Calls.mono (impl_ArePins.calls mn _ _ M true _ R12.out C12.out H2.out) ?_; rintro e wx ⟨rfl, hb⟩; have n0 := amk (KP_below S0.out hb); have n1 := amk (Kd.C_below R12.out hb); have n2 := amk (blk_below B12.out hb); clear S0 R12 B12; have S0 := n0; have R12 := n1; have B12 := n2; clear n0 n1 n2; clear hb; clear m0 m1; obtain ⟨m0, m1, _, _, _⟩ := two_cells B12.out)
      by_cases hk : kc ≤ 200
      · have d4 : decide (kc ≤ 200) = true := decide_eq_true hk
        obtain ⟨y1, y2, y3, y4, y5⟩ := G2.out (by first | rfl | trivial) hk
        have Y1 := amk y1; have Y2 := amk y2; have Y3 := amk y3; have Y4 := amk y4; have Y5 := amk y5; clear y1 y2 y3 y4 y5 hk
        go_wp2_with (go_at_call 11; refine Calls.mono (impl_AllKeys.calls k mn _ _ M ev true _ R12.out C12.out Y1.out) ?_; rintro e wx ⟨v, rfl, hs, hb⟩; obtain ⟨A14, c14, rfl⟩ := Kd.R_slice hs; have R14 := amk (Kd.R_reads' hs).2.2; have C14 := amk (Kd.R_reads' hs).2.1; clear hs; have n0 := amk (KP_below S0.out hb); clear S0; have S0 := n0; clear n0; clear hb)
        clear m0 m1 R12 B12 d1 d2 d3 d4
        go_loopg [48, 49, 371] ev.length (fun gg v51 v52 v370 W => ∃ i : Nat, v51 = .int .i64 (Z i) ∧ v52 = .int .i64 (H i) ∧ v370 = .int .i64 (i : Int) ∧ Aside0 (i ≤ ev.length ∧ ev.length ≤ i + gg) ∧ Aside0 (KP w g0 b0 W) ∧ Aside0 (Kd.C Kd.string W A14 ev.length ev))
        case atStart => exact ⟨0, by rw [HZ0.out], by rw [HH0.out], rfl, ⟨⟨Nat.zero_le _, Nat.le_of_eq (Nat.zero_add _).symm⟩⟩, S0, R14⟩
        case round =>
          clear S0 R14
          obtain ⟨i, rfl, rfl, rfl, HI, S0, R14⟩ := hrel
          by_cases hi : i < ev.length
          · have p1 : 0 ≤ (i : Int) := Int.natCast_nonneg i
            have p2 : (i : Int) < (ev.length : Int) := Int.ofNat_lt.mpr hi
            obtain ⟨ad, e0, hx0⟩ := Kd.at_string R14.out (i : Int) p1 p2
            rw [rd_str hi, Int.toNat_natCast] at hx0
            cases e0
            have d1 : decide ((i : Int) < (ev.length : Int)) = true := decide_eq_true p2
            have HL := amk hi
            replace p1 := eq_true p1; replace p2 := eq_true p2
            go_wp2
            clear p1 p2 d1 hx0
            go_loopg [52, 377] l2.length (fun gg v55 v376 W => ∃ j : Nat, v55 = .int .i64 (N i j) ∧ v376 = .int .i64 (j : Int) ∧ Aside0 (j ≤ l2.length ∧ l2.length ≤ j + gg) ∧ Aside0 (KP w g0 b0 W) ∧ Aside0 (Kd.C Kd.string W (some ad) ev.length ev))
            case atStart => exact ⟨0, by rw [HN0.out], rfl, ⟨⟨Nat.zero_le _, Nat.le_of_eq (Nat.zero_add _).symm⟩⟩, S0, R14⟩
            case round =>
              clear S0 R14
              obtain ⟨j, rfl, rfl, HJ, S0, R14⟩ := hrel
              by_cases hj : j < l2.length
              · have p1 : 0 ≤ (j : Int) := Int.natCast_nonneg j
                have p2 : (j : Int) < (l2.length : Int) := Int.ofNat_lt.mpr hj
                obtain ⟨a2, Aq, cq, e0, hx0, hx1, hlq, hiq⟩ := at_T24 Hr2.out (j : Int) p1 p2
                simp only [rd_pins hj, Int.toNat_natCast] at hx0 hx1 hlq hiq
                cases e0
                replace hx0 := (S0.out.1.cell (World.block_lt_of_cell? w _ hx0)).trans hx0
                replace hx1 := (S0.out.1.cell (World.block_lt_of_cell? w _ hx1)).trans hx1
                have G := amk (Y5.out i hi j hj)
                generalize l2[j] = q at hx0 hx1 hlq hiq G
                have LQ := amk hlq; have IQ := amk hiq; have LJ := amk hj; clear hlq hiq
                have d1 : decide ((j : Int) < (l2.length : Int)) = true := decide_eq_true p2
                have hw1 : wrap64 ((j : Int) + 1) = ((j + 1 : Nat) : Int) := wr_leK hj (Nat.le_trans Hl.out (by decide))
                have hwn : wrap64 (N i j + 1) = N i j + 1 := wr_bK (HNb.out i j) (Nat.le_of_lt hj) (Nat.le_trans Hl.out (by decide))
                replace p1 := eq_true p1; replace p2 := eq_true p2
                have QB := amk (blk_new wr (bxK q.f0 Aq q.f1.length cq))
                obtain ⟨z0, z1, _, _, _⟩ := two_cells QB.out
                cases hop : op i j with
                | true =>
                  rw [hop] at G
                  go_wp2_with (go_at_call 5; refine Calls.mono (impl_DoesOpen.calls k _ _ _ _ _ true true _ (Kd.C_below IQ.out (KP_below S0.out ((Below.refl _ wr).alloc (Nat.le_refl _) (bxK q.f0 Aq q.f1.length cq))).1) LQ.out G.out) ?_; rintro e wx ⟨rfl, hb⟩; have n1 := amk (KP_below (KP_below S0.out ((Below.refl _ wr).alloc (Nat.le_refl _) (bxK q.f0 Aq q.f1.length cq))) hb); have n2 := amk (Kd.C_below (Kd.C_below R14.out ((Below.refl _ wr).alloc (Nat.le_refl _) (bxK q.f0 Aq q.f1.length cq))) hb); clear S0 R14 hb z0 z1; have S0 := n1; have R14 := n2; clear n1 n2)
                  go_roundg (l2.length - (j + 1))
                  case measure => exact ms1 LJ.out HJ.out
                  case rel => exact ⟨j + 1, by rw [HNs.out, if_pos hop]; first | rfl | rw [hwn], by rw [← hw1], ⟨ms2 LJ.out⟩, S0, R14⟩
                | false =>
                  rw [hop] at G
                  go_wp2_with (go_at_call 5; refine Calls.mono (impl_DoesOpen.calls k _ _ _ _ _ false true _ (Kd.C_below IQ.out (KP_below S0.out ((Below.refl _ wr).alloc (Nat.le_refl _) (bxK q.f0 Aq q.f1.length cq))).1) LQ.out G.out) ?_; rintro e wx ⟨rfl, hb⟩; have n1 := amk (KP_below (KP_below S0.out ((Below.refl _ wr).alloc (Nat.le_refl _) (bxK q.f0 Aq q.f1.length cq))) hb); have n2 := amk (Kd.C_below (Kd.C_below R14.out ((Below.refl _ wr).alloc (Nat.le_refl _) (bxK q.f0 Aq q.f1.length cq))) hb); clear S0 R14 hb z0 z1; have S0 := n1; have R14 := n2; clear n1 n2)
                  go_roundg (l2.length - (j + 1))
                  case measure => exact ms1 LJ.out HJ.out
                  case rel => exact ⟨j + 1, by rw [HNs.out, if_neg (by rw [hop]; decide)], by rw [← hw1], ⟨ms2 LJ.out⟩, S0, R14⟩
              · have d1 : decide ((j : Int) < (l2.length : Int)) = false := decide_eq_false (fun h => hj (Int.ofNat_lt.mp h))
                obtain rfl : j = l2.length := ms3 hj HJ.out
                have zi := HZs.out i; have hn := HHs.out i
                have hw1 : wrap64 ((i : Int) + 1) = ((i + 1 : Nat) : Int) := wr_leK HL.out (Nat.le_trans Y2.out (by decide))
                have hwz : wrap64 (Z i + 1) = Z i + 1 := wr_bK (HZb.out i) (Nat.le_of_lt HL.out) (Nat.le_trans Y2.out (by decide))
                have hwh : wrap64 (H i + 1) = H i + 1 := wr_bK (HHb.out i) (Nat.le_of_lt HL.out) (Nat.le_trans Y2.out (by decide))
                have ZI := amk zi; have HN := amk hn; clear zi hn
                generalize N i l2.length = nn at *
                by_cases ha : nn = 0
                · have a1 : (nn == 0) = true := beq_iff_eq.mpr ha
                  have zi := ZI.out; rw [if_pos ha] at zi
                  by_cases hb : nn = (l2.length : Int)
                  · have a2 : (nn == (l2.length : Int)) = true := beq_iff_eq.mpr hb
                    have hn := HN.out; rw [if_pos hb] at hn
                    have ZZ := amk zi; have HH := amk hn; clear zi hn ha hb
                    go_wp2
                    go_roundg (ev.length - (i + 1))
                    case measure => exact ms1 HL.out HI.out
                    case rel => exact ⟨i + 1, by rw [ZZ.out]; first | rfl | rw [hwz], by rw [HH.out]; first | rfl | rw [hwh], by rw [← hw1], ⟨ms2 HL.out⟩, S0, R14⟩
                  · have a2 : (nn == (l2.length : Int)) = false := beq_eq_false_iff_ne.mpr hb
                    have hn := HN.out; rw [if_neg hb] at hn
                    have ZZ := amk zi; have HH := amk hn; clear zi hn ha hb
                    go_wp2
                    go_roundg (ev.length - (i + 1))
                    case measure => exact ms1 HL.out HI.out
                    case rel => exact ⟨i + 1, by rw [ZZ.out]; first | rfl | rw [hwz], by rw [HH.out], by rw [← hw1], ⟨ms2 HL.out⟩, S0, R14⟩
                · have a1 : (nn == 0) = false := beq_eq_false_iff_ne.mpr ha
                  have zi := ZI.out; rw [if_neg ha] at zi
                  by_cases hb : nn = (l2.length : Int)
                  · have a2 : (nn == (l2.length : Int)) = true := beq_iff_eq.mpr hb
                    have hn := HN.out; rw [if_pos hb] at hn
                    have ZZ := amk zi; have HH := amk hn; clear zi hn ha hb
                    go_wp2
                    go_roundg (ev.length - (i + 1))
                    case measure => exact ms1 HL.out HI.out
                    case rel => exact ⟨i + 1, by rw [ZZ.out], by rw [HH.out]; first | rfl | rw [hwh], by rw [← hw1], ⟨ms2 HL.out⟩, S0, R14⟩
                  · have a2 : (nn == (l2.length : Int)) = false := beq_eq_false_iff_ne.mpr hb
                    have hn := HN.out; rw [if_neg hb] at hn
                    have ZZ := amk zi; have HH := amk hn; clear zi hn ha hb
                    go_wp2
                    go_roundg (ev.length - (i + 1))
                    case measure => exact ms1 HL.out HI.out
                    case rel => exact ⟨i + 1, by rw [ZZ.out], by rw [HH.out], by rw [← hw1], ⟨ms2 HL.out⟩, S0, R14⟩
          · have d1 : decide ((i : Int) < (ev.length : Int)) = false := decide_eq_false (fun h => hi (Int.ofNat_lt.mp h))
            obtain rfl : i = ev.length := ms3 hi HI.out
            have z1 : (Z ev.length != gh) = false := by rw [Y3.out]; simp
            have z2 : (H ev.length != both) = false := by rw [Y4.out]; simp
            go_wp2
            go_meet
            case rel => exact S0
      · have d4 : decide (kc ≤ 200) = false := decide_eq_false hk
        go_wp2
        go_meet
        case rel => exact S0
  case rest =>
    exact hrest _ hcut.out
/-! impl.MasterPins, by hand: it builds a list of the two. -/
theorem two_pins {W : World} {g : Nat} {a0 a1 : Int} {A0 A1 : Option Addr} {c0 c1 : Nat} {l0 l1 : List (List Int)} (hg : W.heap[g]? = some (.cells #[.int .i64 a0, .slice A0 l0.length c0, .int .i64 a1, .slice A1 l1.length c1] 24 (0, 0)))
    (h0 : Kd.C (Kd.slice 3 (Kd.int .i64)) W A0 l0.length l0) (i0 : l0.length ≤ c0) (h1 : Kd.C (Kd.slice 3 (Kd.int .i64)) W A1 l1.length l1) (i1 : l1.length ≤ c1) : Kd.C k24 W (some ⟨g, 0, none⟩) 2 [(⟨a0, l0⟩ : S24), (⟨a1, l1⟩ : S24)] := by
  have q0 : W.cell? ⟨g, 0, none⟩ = some (.int .i64 a0) := by simp [World.cell?, hg]
  have q1 : W.cell? ⟨g, 1, none⟩ = some (.slice A0 l0.length c0) := by simp [World.cell?, hg]
  have q2 : W.cell? ⟨g, 2, none⟩ = some (.int .i64 a1) := by simp [World.cell?, hg]
  have q3 : W.cell? ⟨g, 3, none⟩ = some (.slice A1 l1.length c1) := by simp [World.cell?, hg]
  refine ⟨rfl, by omega, fun _ => ⟨_, rfl, fun j p hj => ?_⟩⟩
  match j, hj with
  | 0, hj =>
    injection hj with hj
    subst hj
    refine ⟨[.int .i64 a0, .slice A0 l0.length c0], rfl, k24_mk W ⟨a0, l0⟩ i0 h0, fun i u hi => ?_⟩
    match i, hi with
    | 0, hi => injection hi with hi; subst hi; exact q0
    | 1, hi => injection hi with hi; subst hi; exact q1
  | 1, hj =>
    injection hj with hj
    subst hj
    refine ⟨[.int .i64 a1, .slice A1 l1.length c1], rfl, k24_mk W ⟨a1, l1⟩ i1 h1, fun i u hi => ?_⟩
    match i, hi with
    | 0, hi => injection hi with hi; subst hi; exact q2
    | 1, hi => injection hi with hi; subst hi; exact q3
def impl_MasterPins.f (k : Nat) (a0 : Int) (l0 : List (List Int)) (a1 : Int) (l1 : List (List Int)) : Option (Int × List (List Int) × Bool) := impl_MasterOf.f k [(⟨a0, l0⟩ : S24), (⟨a1, l1⟩ : S24)]
set_option maxHeartbeats 4000000 in
set_option maxRecDepth 100000 in
theorem impl_MasterPins.calls (k : Nat) (a0 : Int) (A0 : Option Addr) (c0 : Nat) (l0 : List (List Int)) (a1 : Int) (A1 : Option Addr) (c1 : Nat) (l1 : List (List Int)) (r1 : Int) (r2 : List (List Int)) (r3 : Bool) (w : World) (h0 : Kd.C (Kd.slice 3 (Kd.int .i64)) w A0 l0.length l0) (i0 : l0.length ≤ c0) (h1 : Kd.C (Kd.slice 3 (Kd.int .i64)) w A1 l1.length l1) (i1 : l1.length ≤ c1) (h : impl_MasterPins.f k a0 l0 a1 l1 = some (r1, r2, r3)) :
    Calls Try.prog 27 #[.agg #[.int .i64 a0, .slice A0 l0.length c0], .agg #[.int .i64 a1, .slice A1 l1.length c1]] w fun e w' => ∃ v1_ : Value, e = .returned (.tuple #[.agg #[.int .i64 r1, v1_], .bool r3]) ∧ Kd.S (Kd.slice 3 (Kd.int .i64)) 52 w' w.heap.size (fun _ => True) v1_ r2 ∧ Below w.heap.size w w' := by
  have hu41 := Try.underlying24
  have hu35 := Try.underlying22
  have hu57 := Try.underlying25
  unfold impl_MasterPins.f at h
  have H := amk h
  have H0 := amk h0
  have H1 := amk h1
  have I0 := amk i0
  have I1 := amk i1
  clear h h0 h1 i0 i1
  have HB3 := amk ((((Below.refl w.heap.size w).alloc (Nat.le_refl _) (.cells #[.int .i64 a0, .slice A0 l0.length c0] 24 (0, 0))).alloc (by simp) (.cells #[.int .i64 a1, .slice A1 l1.length c1] 24 (0, 0))).alloc (by simp <;> omega) (.cells #[.int .i64 0, .slice none 0 0] 24 (0, 0)))
  have HB4 := amk (HB3.out.alloc HB3.out.size (.cells #[.int .i64 a0, .slice A0 l0.length c0, .int .i64 a1, .slice A1 l1.length c1] 24 (0, 0)))
  have N3 := amk (blk_new ((w.alloc (.cells #[.int .i64 a0, .slice A0 l0.length c0] 24 (0, 0))).alloc (.cells #[.int .i64 a1, .slice A1 l1.length c1] 24 (0, 0))) (.cells #[.int .i64 0, .slice none 0 0] 24 (0, 0)))
  have N4 := amk (blk_new (((w.alloc (.cells #[.int .i64 a0, .slice A0 l0.length c0] 24 (0, 0))).alloc (.cells #[.int .i64 a1, .slice A1 l1.length c1] 24 (0, 0))).alloc (.cells #[.int .i64 0, .slice none 0 0] 24 (0, 0))) (.cells #[.int .i64 a0, .slice A0 l0.length c0, .int .i64 a1, .slice A1 l1.length c1] 24 (0, 0)))
  go_enter Try.func27, Try.ntmps27
  go_wp2_with (go_at_call 24; refine (impl_MasterOf.calls k _ 2 [(⟨a0, l0⟩ : S24), (⟨a1, l1⟩ : S24)] r1 r2 r3 _ (two_pins (g := w.heap.size + 1 + 1 + 1) (by simpa using N4.out) (Kd.C_below H0.out HB4.out) I0.out (Kd.C_below H1.out HB4.out) I1.out) (Nat.le_refl _) H.out).mono ?_; rintro e w9 ⟨v9, rfl, hs9, hb9⟩; have BK := amk (show w9.heap[w.heap.size + 1 + 1]? = some (.cells #[.int .i64 0, .slice none 0 0] 24 (0, 0)) from (hb9.block _ (by simp)).trans ((((Below.refl _ _).alloc (Nat.le_refl _) _).block _ (by simp)).trans (by simpa using N3.out))); obtain ⟨hq0, hq1, hq2, hq3, _⟩ := two_cells BK.out; obtain ⟨A9, c9, rfl⟩ := Kd.S_slice hs9; have S9 := amk (Kd.S_lower hs9 HB4.out.size); have HB9 := amk (HB4.out.trans (hb9.mono HB4.out.size)); clear hs9 hb9)
  (try simp only [Exit.inBlock, Exit.then])
  refine bodyPost_ret (results_ct rfl _ _ (w.heap.size + 1 + 1) 24 #[.int .i64 r1, .slice A9 r2.length c9] (0, 0) _ rfl (two_set BK.out _ _) Try.underlying24 rfl (by kernel_rfl)) rfl ?_
  have hty : ∀ q, q ∈ 52 :: (Kd.slice 3 (Kd.int .i64)).E → q ≠ 24 := by intro q hq; simp [Kd.slice, Kd.int, Kd.scalar] at hq; omega
  refine ⟨_, rfl, Kd.S_set (Kd.S_set S9.out BK.out hty 0 _) (heap_setCell_same _ _ 0 _ _ _ BK.out) hty 1 _, ?_⟩
  exact (HB9.out.setCell (p := ⟨w.heap.size + 1 + 1, 0, none⟩) (by show w.heap.size ≤ w.heap.size + 1 + 1; omega) _).setCell (p := ⟨w.heap.size + 1 + 1, 1, none⟩) (by show w.heap.size ≤ w.heap.size + 1 + 1; omega) _
/-! laws.FnKeysOpen, by hand: each callee's value is told; what lies in memory is ONE predicate. -/
def laws_FnKeysOpen.FP : Prop := ∀ (n0 : Int) (L0 : List (List Int)) (a1 : ByteArray), SmallR L0 → ∃ (k : Nat) (o is V ok five : Bool) (ct : Int) (all : List ByteArray), (ok = (V && is)) ∧ (five = (V && decide (ct ≤ 200))) ∧ (impl_DoesOpen.f k n0 L0 a1 = some (o, ok)) ∧ (spec_DoesOpen.f k n0 L0 a1 = some (o, ok)) ∧ (impl_IsKey.f k n0 L0 a1 = some (is, V)) ∧ (spec_IsKey.f k n0 L0 a1 = some (is, V)) ∧ (impl_CountKeys.f k n0 L0 = some (ct, V)) ∧ (spec_CountKeys.f k n0 L0 = some (ct, V)) ∧ (impl_AllKeys.f k n0 L0 = some (all, five)) ∧ (spec_AllKeys.f k n0 L0 = some (all, five)) ∧ (laws_eTexts.f k all all = some true) ∧ (impl_ArePins.f n0 L0 = some V) ∧ (spec_ArePins.f k n0 L0 = some V) ∧ (V = true → ct ≤ 200 → (all.length : Int) = ct ∧ laws_eSorted.f k all = some true ∧ (is = true → laws_eText.f k all a1 = some o) ∧ all.length ≤ 200 ∧ ∀ (i : Nat) (hi : i < all.length), impl_DoesOpen.f k n0 L0 all[i] = some (true, true))
def laws_FnKeysOpen.FL : Prop := ∀ l2 : List S24, SmallP l2 → ∃ (k : Nat) (sv : Bool) (sh : List ByteArray) (nine : Bool) (both gh mn : Int) (M : List (List Int)) (kc : Int) (ev : List ByteArray) (op : Nat → Nat → Bool) (N : Nat → Nat → Int) (Z H : Nat → Int), l2.length ≤ 10000 ∧ (sv = (nine && decide (both ≤ 200))) ∧ (impl_SharedKeys.f k l2 = some (sh, sv)) ∧ (spec_SharedKeys.f k l2 = some (sh, sv)) ∧ (impl_CountShared.f k l2 = some (both, nine)) ∧ (spec_CountShared.f k l2 = some (both, nine)) ∧ (impl_GhostKeys.f k l2 = some (gh, nine)) ∧ (spec_GhostKeys.f k l2 = some (gh, nine)) ∧ (impl_MasterOf.f k l2 = some (mn, M, nine)) ∧ (spec_MasterOf.f k l2 = some (mn, M, nine)) ∧ (laws_eTexts.f k sh sh = some true) ∧ (laws_ePins.f k mn M mn M = some true) ∧ (nine = true → impl_CountKeys.f k mn M = some (kc, true) ∧ impl_ArePins.f mn M = some true ∧ 0 ≤ gh ∧ gh < kc ∧ both ≤ kc) ∧ (nine = true → kc ≤ 200 → impl_AllKeys.f k mn M = some (ev, true) ∧ ev.length ≤ 200 ∧ Z ev.length = gh ∧ H ev.length = both ∧ ∀ (i : Nat) (hi : i < ev.length) (j : Nat) (hj : j < l2.length), impl_DoesOpen.f k l2[j].f0 l2[j].f1 ev[i] = some (op i j, true)) ∧ (∀ i, N i 0 = 0) ∧ (∀ i j, N i (j + 1) = if op i j then N i j + 1 else N i j) ∧ (Z 0 = 0) ∧ (∀ i, Z (i + 1) = if N i l2.length = 0 then Z i + 1 else Z i) ∧ (H 0 = 0) ∧ (∀ i, H (i + 1) = if N i l2.length = (l2.length : Int) then H i + 1 else H i) ∧ (∀ i j, 0 ≤ N i j ∧ N i j ≤ j) ∧ (∀ i, 0 ≤ Z i ∧ Z i ≤ i) ∧ (∀ i, 0 ≤ H i ∧ H i ≤ i)
def laws_FnKeysOpen.FM : Prop := ∀ (n3 n4 : Int) (L3 L4 : List (List Int)), SmallR L3 → SmallR L4 → ∃ (k : Nat) (pn : Int) (P : List (List Int)) (okp : Bool), (impl_MasterPins.f k n3 L3 n4 L4 = some (pn, P, okp)) ∧ (spec_MasterPins.f k n3 L3 n4 L4 = some (pn, P, okp)) ∧ (laws_ePins.f k pn P pn P = some true) ∧ (okp = true → impl_MasterPins.f k n4 L4 n3 L3 = some (pn, P, true))
set_option maxHeartbeats 16000000 in
set_option maxRecDepth 100000 in
theorem laws_FnKeysOpen.walk (lA lB : List Int) (xA xB : Option Addr) (yA yB : Nat) (w : World) (hsA : BytesV lA) (hsB : BytesV lB) (hrA : Kd.C (Kd.int .u8) w xA lA.length lA) (hcA : lA.length ≤ yA) (hrB : Kd.C (Kd.int .u8) w xB lB.length lB) (hcB : lB.length ≤ yB) (hbig : laws_big.f lA lB = some false) (fP : laws_FnKeysOpen.FP) (fL : laws_FnKeysOpen.FL) (fM : laws_FnKeysOpen.FM) :
    Calls Try.prog 4 #[.slice xA lA.length yA, .slice xB lB.length yB] w fun e w' => e = .returned (.bool true) ∧ Below w.heap.size w w' := by
  have hu24 := Try.underlying24
  have hu22 := Try.underlying22
  have hu25 := Try.underlying25
  have hu30 := Try.underlying30
  have HsA := amk hsA
  have HsB := amk hsB
  have HrA := amk hrA
  have HcA := amk hcA
  have HrB := amk hrB
  have HcB := amk hcB
  have Hbig := amk hbig
  have FP := amk fP
  have FL := amk fL
  have FM := amk fM
  clear hsA hsB hrA hcA hrB hcB hbig fP fL fM
  go_enter Try.func4, Try.ntmps4
  go_wp2_with (go_at_call 29; refine Calls.mono (laws_big.calls xA yA lA xB yB lB false _ HrA.out HcA.out HrB.out HcB.out Hbig.out) ?_; rintro e wx ⟨rfl, ⟨nd, rfl⟩⟩)
  go_wp2_with (go_at_call 30; refine Calls.mono (spec_DrawDoesOpen.calls xA yA lA _ HsA.out (Kd.C_below HrA.out (by exact bn_ (Below.refl _ _) _))) ?_; rintro e wd ⟨n0, A0, c0, L0, a1, rfl, hc0, hr0, hL0, hb⟩; have HW := amk (bp_ (bn_ (Below.refl w.heap.size w) nd) hb : Below w.heap.size w wd); have S0 := amk (show KP wd wd.heap.size (bxK n0 A0 L0.length c0) (wd.alloc (bxK n0 A0 L0.length c0)) from ⟨(Below.refl _ _).alloc (Nat.le_refl _) _, blk_new _ _⟩); obtain ⟨k, o, is, V, ok, five, ct, all, hok, h5, e1, e2, e3, e4, e5, e6, e7, e8, e9, e10, e11, e12⟩ := FP.out n0 L0 a1 hL0; clear hb hL0; have Hc0 := amk hc0; have Hr0 := amk hr0; have Hok := amk hok; have H5 := amk h5; have E1 := amk e1; have E2 := amk e2; have E3 := amk e3; have E4 := amk e4; have E5 := amk e5; have E6 := amk e6; have E7 := amk e7; have E8 := amk e8; have E9 := amk e9; have E10 := amk e10; have E11 := amk e11; have E12 := amk e12; clear hc0 hr0 hok h5 e1 e2 e3 e4 e5 e6 e7 e8 e9 e10 e11 e12; obtain ⟨q0, q1, _, _, _⟩ := two_cells S0.out.2)
  go_wp2_with (go_at_call 5; refine Calls.mono (impl_DoesOpen.calls k n0 _ _ L0 a1 o ok _ (Kd.C_below Hr0.out S0.out.1) Hc0.out E1.out) ?_; rintro e wx ⟨rfl, hb⟩; have nS0 := amk (KP_below S0.out hb); clear S0; have S0 := nS0; clear nS0; clear hb; clear q0 q1; obtain ⟨q0, q1, _, _, _⟩ := two_cells S0.out.2)
  go_wp2_with (go_at_call 6; refine Calls.mono (spec_DoesOpen.calls k n0 _ _ L0 a1 o ok _ (Kd.C_below Hr0.out S0.out.1) Hc0.out E2.out) ?_; rintro e wx ⟨rfl, hb⟩; have nS0 := amk (KP_below S0.out hb); clear S0; have S0 := nS0; clear nS0; clear hb; clear q0 q1; obtain ⟨q0, q1, _, _, _⟩ := two_cells S0.out.2)
  go_wp2_with (go_at_call 7; refine Calls.mono (impl_IsKey.calls k n0 _ _ L0 a1 is V _ (Kd.C_below Hr0.out S0.out.1) Hc0.out E3.out) ?_; rintro e wx ⟨rfl, hb⟩; have nS0 := amk (KP_below S0.out hb); clear S0; have S0 := nS0; clear nS0; clear hb; clear q0 q1; obtain ⟨q0, q1, _, _, _⟩ := two_cells S0.out.2)
  go_wp2_with (go_at_call 8; refine Calls.mono (spec_IsKey.calls k n0 _ _ L0 a1 is V _ (Kd.C_below Hr0.out S0.out.1) Hc0.out E4.out) ?_; rintro e wx ⟨rfl, hb⟩; have nS0 := amk (KP_below S0.out hb); clear S0; have S0 := nS0; clear nS0; clear hb; clear q0 q1; obtain ⟨q0, q1, _, _, _⟩ := two_cells S0.out.2)
  go_wp2_with (go_at_call 9; refine Calls.mono (impl_CountKeys.calls k n0 _ _ L0 ct V _ (Kd.C_below Hr0.out S0.out.1) Hc0.out E5.out) ?_; rintro e wx ⟨rfl, hb⟩; have nS0 := amk (KP_below S0.out hb); clear S0; have S0 := nS0; clear nS0; clear hb; clear q0 q1; obtain ⟨q0, q1, _, _, _⟩ := two_cells S0.out.2)
  go_wp2_with (go_at_call 10; refine Calls.mono (spec_CountKeys.calls k n0 _ _ L0 ct V _ (Kd.C_below Hr0.out S0.out.1) Hc0.out E6.out) ?_; rintro e wx ⟨rfl, hb⟩; have nS0 := amk (KP_below S0.out hb); clear S0; have S0 := nS0; clear nS0; clear hb; clear q0 q1; obtain ⟨q0, q1, _, _, _⟩ := two_cells S0.out.2)
  go_wp2_with (go_at_call 11; refine Calls.mono (impl_AllKeys.calls k n0 _ _ L0 all five _ (Kd.C_below Hr0.out S0.out.1) Hc0.out E7.out) ?_; rintro e wx ⟨v7, rfl, hs, hb⟩; have nS0 := amk (KP_below S0.out hb); clear S0; have S0 := nS0; clear nS0; obtain ⟨A7, c7, rfl⟩ := Kd.R_slice hs; have R7 := amk (Kd.R_reads' hs).2.2; have C7 := amk (Kd.R_reads' hs).2.1; clear hs hb; clear q0 q1; obtain ⟨q0, q1, _, _, _⟩ := two_cells S0.out.2)
  go_upto_region 12 with (go_at_call 12; refine Calls.mono (spec_AllKeys.calls k n0 _ _ L0 all five _ (Kd.C_below Hr0.out S0.out.1) Hc0.out E8.out) ?_; rintro e wx ⟨v8, rfl, hs, hb⟩; have nS0 := amk (KP_below S0.out hb); clear S0; have S0 := nS0; clear nS0; have nR7 := amk (Kd.C_below R7.out hb); clear R7; have R7 := nR7; clear nR7; obtain ⟨A8, c8, rfl⟩ := Kd.R_slice hs; have R8 := amk (Kd.R_reads' hs).2.2; have C8 := amk (Kd.R_reads' hs).2.1; clear hs hb; clear q0 q1; obtain ⟨q0, q1, _, _, _⟩ := two_cells S0.out.2)
  clear q0 q1
  refine KPA _ _ (fun _ _ _ _ _ h => h) k n0 L0 A0 A7 A8 c0 c7 c8 _ _ o is V ok five ct all Hok.out H5.out Hr0.out Hc0.out E9.out E10.out E11.out S0.out R7.out C7.out R8.out C8.out (fun {u120 u121 u122 u123 u124 u125 u126 u127 u128 u129 u130 u131 u132 u133 u134 u135 u136 u137 u138 u139 u140 u141 u142 u143 u144 u145 u146 u147 u148 u149 u150 u151 u152 u153 u154 u155 u156 u157 u158 u159 u160 u161 u162 u163 u164 u165 u166 u167 u168 u169 u170 u171 u172 u173 u174 u175 u176 u177 u178 u179 u180 u181 u182 u183 u184 u185 u186 u187 u188 u189 u190 u191 u192} W1 s1 r1 => ?_)
  clear S0 R7 R8; have S0 := amk s1; have R7 := amk r1; clear s1 r1
  go_upto_if 193 with (fail)
  refine KPB _ _ (fun _ _ _ _ _ h => h) k n0 L0 a1 A0 A7 c0 c7 _ _ o is V ok five ct all Hok.out H5.out Hr0.out Hc0.out E12.out S0.out R7.out C7.out (fun {u10 u28 u29 u30 u195 u196 u197 u198 u199 u200 u201 u202 u203 u204 u205 u206 u207 u208 u209 u210 u211 u212 u213 u214 u215 u216 u217 u218 u219 u220 u221 u222 u223 u224 u225 u226 u227 u228 u229 u230 u231 u232} W2 s1 => ?_)
  clear S0 R7; have S0 := amk s1; clear s1
  go_wp2_with (go_at_call 31; refine Calls.mono (spec_DrawSharedKeys.calls xB yB lB _ HsB.out (Kd.C_below HrB.out (bp_ HW.out S0.out.1))) ?_; rintro e wl ⟨A2, c2, l2, rfl, hc2, hr2, hL2, hb⟩; have HW2 := amk (bp_ (bp_ HW.out S0.out.1) hb); have S1 := amk (show KP wl wd.heap.size (bxK n0 A0 L0.length c0) wl from ⟨Below.refl _ _, blk_below S0.out.2 hb⟩); clear S0 HW; have S0 := S1; have HW := HW2; clear S1 HW2; obtain ⟨k, sv, sh, nine, both, gh, mn, M, kc, ev, op, N, Z, H, hl, hsv, f1, f2, f3, f4, f5, f6, f7, f8, f9, f10, g1, g2, hN0, hNs, hZ0, hZs, hH0, hHs, hNb, hZb, hHb⟩ := FL.out l2 hL2; clear hb hL2; have Hc2 := amk hc2; have Hr2 := amk hr2; have Hl := amk hl; have Hsv := amk hsv; have F1 := amk f1; have F2 := amk f2; have F3 := amk f3; have F4 := amk f4; have F5 := amk f5; have F6 := amk f6; have F7 := amk f7; have F8 := amk f8; have F9 := amk f9; have F10 := amk f10; have G1 := amk g1; have G2 := amk g2; have HN0 := amk hN0; have HNs := amk hNs; have HZ0 := amk hZ0; have HZs := amk hZs; have HH0 := amk hH0; have HHs := amk hHs; have HNb := amk hNb; have HZb := amk hZb; have HHb := amk hHb; clear hc2 hr2 hl hsv f1 f2 f3 f4 f5 f6 f7 f8 f9 f10 g1 g2 hN0 hNs hZ0 hZs hH0 hHs hNb hZb hHb)
  go_wp2_with (go_at_call 18; refine Calls.mono (impl_SharedKeys.calls k _ _ l2 sh sv _ (Kd.C_below Hr2.out S0.out.1) Hc2.out F1.out) ?_; rintro e wx ⟨v, rfl, hs, hb⟩; obtain ⟨A10, c10, rfl⟩ := Kd.R_slice hs; have R10 := amk (Kd.R_reads' hs).2.2; have C10 := amk (Kd.R_reads' hs).2.1; clear hs; have n0 := amk (KP_below S0.out hb); clear S0; have S0 := n0; clear n0; clear hb)
  go_wp2_with (go_at_call 19; refine Calls.mono (spec_SharedKeys.calls k _ _ l2 sh sv _ (Kd.C_below Hr2.out S0.out.1) Hc2.out F2.out) ?_; rintro e wx ⟨v, rfl, hs, hb⟩; obtain ⟨A11, c11, rfl⟩ := Kd.R_slice hs; have R11 := amk (Kd.R_reads' hs).2.2; have C11 := amk (Kd.R_reads' hs).2.1; clear hs; have n0 := amk (KP_below S0.out hb); have n1 := amk (Kd.C_below R10.out hb); clear S0 R10; have S0 := n0; have R10 := n1; clear n0 n1; clear hb)
  go_wp2_with (go_at_call 20; refine Calls.mono (impl_CountShared.calls k _ _ l2 both nine _ (Kd.C_below Hr2.out S0.out.1) Hc2.out F3.out) ?_; rintro e wx ⟨rfl, hb⟩; have n0 := amk (KP_below S0.out hb); have n1 := amk (Kd.C_below R10.out hb); have n2 := amk (Kd.C_below R11.out hb); clear S0 R10 R11; have S0 := n0; have R10 := n1; have R11 := n2; clear n0 n1 n2; clear hb)
  go_wp2_with (go_at_call 21; refine Calls.mono (spec_CountShared.calls k _ _ l2 both nine _ (Kd.C_below Hr2.out S0.out.1) Hc2.out F4.out) ?_; rintro e wx ⟨rfl, hb⟩; have n0 := amk (KP_below S0.out hb); have n1 := amk (Kd.C_below R10.out hb); have n2 := amk (Kd.C_below R11.out hb); clear S0 R10 R11; have S0 := n0; have R10 := n1; have R11 := n2; clear n0 n1 n2; clear hb)
  go_wp2_with (go_at_call 22; refine Calls.mono (impl_GhostKeys.calls k (fun k_ => k_ < wl.heap.size) _ _ l2 gh nine _ (Kd.V_mk Hc2.out (Kd.F_below (Kd.C_F pinsHeapK Hr2.out) S0.out.1)) F5.out) ?_; rintro e wx ⟨rfl, hb⟩; have n0 := amk (KP_below S0.out hb); have n1 := amk (Kd.C_below R10.out hb); have n2 := amk (Kd.C_below R11.out hb); clear S0 R10 R11; have S0 := n0; have R10 := n1; have R11 := n2; clear n0 n1 n2; clear hb)
  go_wp2_with (go_at_call 23; refine Calls.mono (spec_GhostKeys.calls k (fun k_ => k_ < wl.heap.size) _ _ l2 gh nine _ (Kd.V_mk Hc2.out (Kd.F_below (Kd.C_F pinsHeapK Hr2.out) S0.out.1)) F6.out) ?_; rintro e wx ⟨rfl, hb⟩; have n0 := amk (KP_below S0.out hb); have n1 := amk (Kd.C_below R10.out hb); have n2 := amk (Kd.C_below R11.out hb); clear S0 R10 R11; have S0 := n0; have R10 := n1; have R11 := n2; clear n0 n1 n2; clear hb)
  go_wp2_with (go_at_call 24; refine Calls.mono (impl_MasterOf.calls k _ _ l2 mn M nine _ (Kd.C_below Hr2.out S0.out.1) Hc2.out F7.out) ?_; rintro e wm ⟨v, rfl, hs, hb⟩; obtain ⟨A12, c12, rfl⟩ := Kd.S_slice hs; have R12 := amk (Kd.C_alloc (Kd.S_reads' hs).2.2 (bxK mn A12 M.length c12)); have C12 := amk (Kd.S_reads' hs).2.1; have B12 := amk (blk_new wm (bxK mn A12 M.length c12)); clear hs; have n0 := amk (KP_below (KP_below S0.out hb) ((Below.refl _ wm).alloc (Nat.le_refl _) (bxK mn A12 M.length c12))); have n1 := amk (Kd.C_below (Kd.C_below R10.out hb) ((Below.refl _ wm).alloc (Nat.le_refl _) (bxK mn A12 M.length c12))); have n2 := amk (Kd.C_below (Kd.C_below R11.out hb) ((Below.refl _ wm).alloc (Nat.le_refl _) (bxK mn A12 M.length c12))); clear S0 R10 R11; have S0 := n0; have R10 := n1; have R11 := n2; clear n0 n1 n2; clear hb)
  go_upto_region 33 with (go_at_call 25; refine Calls.mono (spec_MasterOf.calls k _ _ l2 mn M nine _ (Kd.C_below Hr2.out S0.out.1) Hc2.out F8.out) ?_; rintro e wt ⟨v, rfl, hs, hb⟩; obtain ⟨A13, c13, rfl⟩ := Kd.S_slice hs; have R13 := amk (Kd.C_alloc (Kd.S_reads' hs).2.2 (bxK mn A13 M.length c13)); have C13 := amk (Kd.S_reads' hs).2.1; have B13 := amk (blk_new wt (bxK mn A13 M.length c13)); clear hs; have n0 := amk (KP_below (KP_below S0.out hb) ((Below.refl _ wt).alloc (Nat.le_refl _) (bxK mn A13 M.length c13))); have n1 := amk (Kd.C_below (Kd.C_below R10.out hb) ((Below.refl _ wt).alloc (Nat.le_refl _) (bxK mn A13 M.length c13))); have n2 := amk (Kd.C_below (Kd.C_below R11.out hb) ((Below.refl _ wt).alloc (Nat.le_refl _) (bxK mn A13 M.length c13))); have n3 := amk (Kd.C_below (Kd.C_below R12.out hb) ((Below.refl _ wt).alloc (Nat.le_refl _) (bxK mn A13 M.length c13))); have n4 := amk (blk_below (blk_below B12.out hb) ((Below.refl _ wt).alloc (Nat.le_refl _) (bxK mn A13 M.length c13))); clear S0 R10 R11 R12 B12; have S0 := n0; have R10 := n1; have R11 := n2; have R12 := n3; have B12 := n4; clear n0 n1 n2 n3 n4; clear hb)
  refine KPC _ _ (fun _ _ _ _ _ h => h) k A10 A11 A12 A13 c10 c11 c12 c13 wm.heap.size wt.heap.size _ _ _ sv nine both gh mn sh M Hsv.out F9.out F10.out S0.out R10.out C10.out R11.out C11.out R12.out C12.out R13.out C13.out B12.out B13.out (fun {u273 u274 u275 u276 u277 u278 u279 u280 u281 u282 u283 u284 u285 u286 u287 u288 u289 u290 u291 u292 u293 u294 u295 u296 u297 u298 u299 u300 u301 u302 u303 u304 u305 u306 u307 u308 u309 u310 u311 u312 u313 u314 u315 u316 u317 u318 u319 u320 u321 u322 u323 u324 u325 u326 u327 u328 u329 u330} W3 s1 r1 b1 => ?_)
  clear S0 R10 R11 R12 R13 B12 B13; have S0 := amk s1; have R12 := amk r1; have B12 := amk b1; clear s1 r1 b1
  go_upto_if 333 with (fail)
  refine KPD _ _ (fun _ _ _ _ _ h => h) k A2 A12 c2 c12 wm.heap.size _ _ _ nine both gh mn kc M l2 ev op N Z H Hr2.out Hl.out G1.out G2.out HN0.out HNs.out HZ0.out HZs.out HH0.out HHs.out HNb.out HZb.out HHb.out S0.out R12.out C12.out B12.out (fun {u10 u47 u48 u49 u50 u51 u52 u54 u55 u57 u58 u59 u333 u334 u335 u336 u337 u338 u339 u340 u341 u342 u343 u344 u345 u346 u347 u348 u349 u350 u351 u352 u353 u354 u355 u356 u357 u358 u359 u360 u361 u362 u363 u364 u365 u366 u367 u368 u369 u370 u371 u372 u373 u374 u375 u376 u377 u378 u379 u380 u381 u382 u383 u384 u385 u386 u387 u388 u389 u390 u391 u392 u393 u394 u395 u396 u397 u398 u399 u400 u401 u402 u403 u404 u405 u406 u407 u408 u409 u410} W4 s1 => ?_)
  clear S0 R12 B12; have S0 := amk s1; clear s1
  have hbb : ∀ b : Bool, (b != b) = false := fun b => by cases b <;> rfl
  go_wp2_with (go_at_call 32; refine Calls.mono (spec_DrawMasterPins.calls xB yB lB _ HsB.out (Kd.C_below HrB.out (bp_ HW.out S0.out.1))) ?_; rintro e wz ⟨n3, n4, A3, A4, c3, c4, L3, L4, rfl, hc3, hr3, hc4, hr4, hL3, hL4, hb⟩; have HW2 := amk (bp_ (bp_ HW.out S0.out.1) hb); have SE := amk (kq_new wz (bxK n3 A3 L3.length c3) (bxK n4 A4 L4.length c4)); clear S0 HW; have HW := HW2; clear HW2; obtain ⟨k, pn, P, okp, i1, i2, i3, i4⟩ := FM.out n3 n4 L3 L4 hL3 hL4; clear hb hL3 hL4; have Hc3 := amk hc3; have Hr3 := amk hr3; have Hc4 := amk hc4; have Hr4 := amk hr4; have I1 := amk i1; have I2 := amk i2; have I3 := amk i3; have I4 := amk i4; clear hc3 hr3 hc4 hr4 i1 i2 i3 i4; obtain ⟨b0, b1, _, _, _⟩ := two_cells SE.out.2.1; obtain ⟨e0, e1, _, _, _⟩ := two_cells SE.out.2.2)
  go_wp2_with (go_at_call 27; refine Calls.mono (impl_MasterPins.calls k n3 _ _ L3 n4 _ _ L4 pn P okp _ (Kd.C_below Hr3.out SE.out.1) Hc3.out (Kd.C_below Hr4.out SE.out.1) Hc4.out I1.out) ?_; rintro e wp ⟨v, rfl, hs, hb⟩; obtain ⟨A15, c15, rfl⟩ := Kd.S_slice hs; have R15 := amk (Kd.C_alloc (Kd.S_reads' hs).2.2 (bxK pn A15 P.length c15)); have C15 := amk (Kd.S_reads' hs).2.1; have B15 := amk (blk_new wp (bxK pn A15 P.length c15)); clear hs; have n0 := amk (KQ_below (KQ_below SE.out hb) ((Below.refl _ wp).alloc (Nat.le_refl _) (bxK pn A15 P.length c15))); clear SE; have SE := n0; clear n0; clear hb; clear b0 b1 e0 e1; obtain ⟨b0, b1, _, _, _⟩ := two_cells SE.out.2.1; obtain ⟨e0, e1, _, _, _⟩ := two_cells SE.out.2.2)
  go_wp2_with (go_at_call 28; refine Calls.mono (spec_MasterPins.calls k n3 _ _ L3 n4 _ _ L4 pn P okp _ (Kd.C_below Hr3.out SE.out.1) Hc3.out (Kd.C_below Hr4.out SE.out.1) Hc4.out I2.out) ?_; rintro e wq ⟨v, rfl, hs, hb⟩; obtain ⟨A16, c16, rfl⟩ := Kd.S_slice hs; have R16 := amk (Kd.C_alloc (Kd.S_reads' hs).2.2 (bxK pn A16 P.length c16)); have C16 := amk (Kd.S_reads' hs).2.1; have B16 := amk (blk_new wq (bxK pn A16 P.length c16)); clear hs; have n0 := amk (KQ_below (KQ_below SE.out hb) ((Below.refl _ wq).alloc (Nat.le_refl _) (bxK pn A16 P.length c16))); have n1 := amk (Kd.C_below (Kd.C_below R15.out hb) ((Below.refl _ wq).alloc (Nat.le_refl _) (bxK pn A16 P.length c16))); have n2 := amk (blk_below (blk_below B15.out hb) ((Below.refl _ wq).alloc (Nat.le_refl _) (bxK pn A16 P.length c16))); clear SE R15 B15; have SE := n0; have R15 := n1; have B15 := n2; clear n0 n1 n2; clear hb; clear b0 b1 e0 e1; obtain ⟨b0, b1, _, _, _⟩ := two_cells SE.out.2.1; obtain ⟨e0, e1, _, _, _⟩ := two_cells SE.out.2.2; obtain ⟨x0, x1, _, _, _⟩ := two_cells B15.out; obtain ⟨y0, y1, _, _, _⟩ := two_cells B16.out)
  go_upto_if 438 with (go_at_call 26; refine Calls.mono (laws_ePins.calls k pn _ _ P pn _ _ P true _ R15.out C15.out R16.out C16.out I3.out) ?_; rintro e wx ⟨rfl, hb⟩; have n0 := amk (KQ_below SE.out hb); have n1 := amk (Kd.C_below R15.out hb); have n2 := amk (blk_below B15.out hb); have n3 := amk (Kd.C_below R16.out hb); have n4 := amk (blk_below B16.out hb); clear SE R15 B15 R16 B16; have SE := n0; have R15 := n1; have B15 := n2; have R16 := n3; have B16 := n4; clear n0 n1 n2 n3 n4; clear hb; clear b0 b1 e0 e1; obtain ⟨b0, b1, _, _, _⟩ := two_cells SE.out.2.1; obtain ⟨e0, e1, _, _, _⟩ := two_cells SE.out.2.2)
  clear x0 x1 y0 y1 R16 B16
  cases okp with
  | false => go_wp2; go_ret; exact ⟨rfl, bp_ HW.out SE.out.1⟩
  | true =>
    have I5 := amk (show impl_MasterOf.f k [(⟨n3, L3⟩ : S24), (⟨n4, L4⟩ : S24)] = some (pn, P, true) from I1.out)
    have I6 := amk (I4.out rfl)
    go_wp2_with (go_at_call 27; refine Calls.mono (impl_MasterPins.calls k n4 _ _ L4 n3 _ _ L3 pn P true _ (Kd.C_below Hr4.out SE.out.1) Hc4.out (Kd.C_below Hr3.out SE.out.1) Hc3.out I6.out) ?_; rintro e wu ⟨v, rfl, hs, hb⟩; obtain ⟨A17, c17, rfl⟩ := Kd.S_slice hs; have R17 := amk (Kd.C_alloc (Kd.S_reads' hs).2.2 (bxK pn A17 P.length c17)); have C17 := amk (Kd.S_reads' hs).2.1; have B17 := amk (blk_new wu (bxK pn A17 P.length c17)); clear hs; have n0 := amk (KQ_below (KQ_below SE.out hb) ((Below.refl _ wu).alloc (Nat.le_refl _) (bxK pn A17 P.length c17))); have n1 := amk (Kd.C_below (Kd.C_below R15.out hb) ((Below.refl _ wu).alloc (Nat.le_refl _) (bxK pn A17 P.length c17))); have n2 := amk (blk_below (blk_below B15.out hb) ((Below.refl _ wu).alloc (Nat.le_refl _) (bxK pn A17 P.length c17))); clear SE R15 B15; have SE := n0; have R15 := n1; have B15 := n2; clear n0 n1 n2; clear hb; clear b0 b1 e0 e1; obtain ⟨b0, b1, _, _, _⟩ := two_cells SE.out.2.1; obtain ⟨e0, e1, _, _, _⟩ := two_cells SE.out.2.2)
    have NB := amk (blk_new (wu.alloc (bxK pn A17 P.length c17)) (.cells #[.int .i64 n3, .slice A3 L3.length c3, .int .i64 n4, .slice A4 L4.length c4] 24 (0, 0)))
    have HB4 := amk (SE.out.1.alloc SE.out.1.size (.cells #[.int .i64 n3, .slice A3 L3.length c3, .int .i64 n4, .slice A4 L4.length c4] 24 (0, 0)))
    go_upto_region 72 with (go_at_call 24; refine Calls.mono (impl_MasterOf.calls k _ 2 [(⟨n3, L3⟩ : S24), (⟨n4, L4⟩ : S24)] pn P true _ (two_pins (g := wu.heap.size + 1) (by simpa using NB.out) (Kd.C_below Hr3.out HB4.out) Hc3.out (Kd.C_below Hr4.out HB4.out) Hc4.out) (Nat.le_refl _) I5.out) ?_; rintro e wv ⟨v, rfl, hs, hb⟩; obtain ⟨A18, c18, rfl⟩ := Kd.S_slice hs; have R18 := amk (Kd.C_alloc (Kd.S_reads' hs).2.2 (bxK pn A18 P.length c18)); have C18 := amk (Kd.S_reads' hs).2.1; have B18 := amk (blk_new wv (bxK pn A18 P.length c18)); clear hs; have HBB := (((Below.refl _ (wu.alloc (bxK pn A17 P.length c17))).alloc (Nat.le_refl _) (.cells #[.int .i64 n3, .slice A3 L3.length c3, .int .i64 n4, .slice A4 L4.length c4] 24 (0, 0))).trans (hb.mono ((Below.refl _ (wu.alloc (bxK pn A17 P.length c17))).alloc (Nat.le_refl _) (.cells #[.int .i64 n3, .slice A3 L3.length c3, .int .i64 n4, .slice A4 L4.length c4] 24 (0, 0))).size)).trans (((Below.refl _ wv).alloc (Nat.le_refl _) (bxK pn A18 P.length c18)).mono (((Below.refl _ (wu.alloc (bxK pn A17 P.length c17))).alloc (Nat.le_refl _) (.cells #[.int .i64 n3, .slice A3 L3.length c3, .int .i64 n4, .slice A4 L4.length c4] 24 (0, 0))).trans (hb.mono ((Below.refl _ (wu.alloc (bxK pn A17 P.length c17))).alloc (Nat.le_refl _) (.cells #[.int .i64 n3, .slice A3 L3.length c3, .int .i64 n4, .slice A4 L4.length c4] 24 (0, 0))).size)).size); have n0 := amk (KQ_below SE.out HBB); have n1 := amk (Kd.C_below R15.out HBB); have n2 := amk (blk_below B15.out HBB); have n3 := amk (Kd.C_below R17.out HBB); have n4 := amk (blk_below B17.out HBB); clear SE R15 B15 R17 B17; have SE := n0; have R15 := n1; have B15 := n2; have R17 := n3; have B17 := n4; clear n0 n1 n2 n3 n4; clear hb HBB; clear b0 b1 e0 e1; obtain ⟨x0, x1, _, _, _⟩ := two_cells B15.out; obtain ⟨y0, y1, _, _, _⟩ := two_cells B17.out; obtain ⟨u0, u1, _, _, _⟩ := two_cells B18.out)
    go_wp2_with (go_at_call 26; refine Calls.mono (laws_ePins.calls k pn _ _ P pn _ _ P true _ R17.out C17.out R15.out C15.out I3.out) ?_; rintro e wx ⟨rfl, hb⟩; have n0 := amk (KQ_below SE.out hb); have n1 := amk (Kd.C_below R15.out hb); have n2 := amk (blk_below B15.out hb); have n3 := amk (Kd.C_below R17.out hb); have n4 := amk (blk_below B17.out hb); have n5 := amk (Kd.C_below R18.out hb); have n6 := amk (blk_below B18.out hb); clear SE R15 B15 R17 B17 R18 B18; have SE := n0; have R15 := n1; have B15 := n2; have R17 := n3; have B17 := n4; have R18 := n5; have B18 := n6; clear n0 n1 n2 n3 n4 n5 n6; clear hb x0 x1 y0 y1 u0 u1; obtain ⟨x0, x1, _, _, _⟩ := two_cells B15.out; obtain ⟨y0, y1, _, _, _⟩ := two_cells B17.out; obtain ⟨u0, u1, _, _, _⟩ := two_cells B18.out)
    go_wp2_with (go_at_call 26; refine Calls.mono (laws_ePins.calls k pn _ _ P pn _ _ P true _ R18.out C18.out R15.out C15.out I3.out) ?_; rintro e wx ⟨rfl, hb⟩; have n0 := amk (KQ_below SE.out hb); clear SE; have SE := n0; clear n0; clear hb)
    go_ret
    exact ⟨rfl, bp_ HW.out SE.out.1⟩
/-! Facts that hold from some number of rounds on. -/
def Evt (P : Nat → Prop) : Prop := ∃ K, ∀ k, K ≤ k → P k
theorem Evt.and {P Q : Nat → Prop} (h : Evt P) (g : Evt Q) : Evt fun k => P k ∧ Q k := by
  obtain ⟨a, h⟩ := h
  obtain ⟨b, g⟩ := g
  exact ⟨a + b, fun k hk => ⟨h k (by omega), g k (by omega)⟩⟩
theorem Evt.pure {P : Nat → Prop} (h : ∀ k, P k) : Evt P := ⟨0, fun k _ => h k⟩
theorem Evt.imp {c : Prop} {P : Nat → Prop} (h : c → Evt P) : Evt fun k => c → P k := by
  by_cases hc : c
  · obtain ⟨K, h⟩ := h hc
    exact ⟨K, fun k hk _ => h k hk⟩
  · exact ⟨0, fun k _ h => absurd h hc⟩
theorem Evt.all {α : Type} {P : Nat → α → Prop} : ∀ (l : List α), (∀ x ∈ l, Evt fun k => P k x) → Evt fun k => ∀ x ∈ l, P k x := by
  intro l
  induction l with
  | nil => intro _; exact ⟨0, fun k _ x hx => by cases hx⟩
  | cons a t ih =>
    intro h
    obtain ⟨K1, h1⟩ := h a List.mem_cons_self
    obtain ⟨K2, h2⟩ := ih (fun x hx => h x (List.mem_cons_of_mem _ hx))
    refine ⟨K1 + K2, fun k hk x hx => ?_⟩
    rcases List.mem_cons.mp hx with rfl | hx
    · exact h1 k (by omega)
    · exact h2 k (by omega) x hx
theorem Evt.mono {P Q : Nat → Prop} (h : Evt P) (g : ∀ k, P k → Q k) : Evt Q := by
  obtain ⟨K, h⟩ := h
  exact ⟨K, fun k hk => g k (h k hk)⟩
/-- Counting from the front. -/
def cntN (f : Nat → Bool) : Nat → Int
  | 0 => 0
  | j + 1 => if f j = true then cntN f j + 1 else cntN f j
theorem cntN_bd (f : Nat → Bool) : ∀ j : Nat, 0 ≤ cntN f j ∧ cntN f j ≤ (j : Int) := by
  intro j
  induction j with
  | zero => exact ⟨Int.le_refl _, Int.le_refl _⟩
  | succ j ih =>
    unfold cntN
    by_cases h : f j = true
    · rw [if_pos h]; omega
    · rw [if_neg h]; omega
theorem cntN_list {α : Type} (P : α → Bool) (xs : List α) : ∀ n : Nat, cntN (fun i => (xs[i]?).any P) n = ((xs.take n).countP P : Nat) := by
  intro n
  induction n with
  | zero => rfl
  | succ n ih =>
    unfold cntN
    rw [ih, List.take_add_one, List.countP_append]
    cases h : xs[n]? with
    | none => simp [h]
    | some a =>
      by_cases hp : P a = true
      · simp [hp]
      · simp [hp]
theorem cntN_congr {f g : Nat → Bool} : ∀ n : Nat, (∀ i < n, f i = g i) → cntN f n = cntN g n := by
  intro n
  induction n with
  | zero => intro _; rfl
  | succ n ih =>
    intro h
    unfold cntN
    rw [h n (Nat.lt_succ_self n), ih (fun i hi => h i (by omega))]
section
/-! What a readable argument holds, told by kinds: the bridge from a statement's reading to the print's words. -/
open Go.WideShapes in
def Opens {α : Type} (P : Program) (t : TypeId) (d : Kd α) (V : α → Prop) : Prop :=
  ∀ (H : Type) (enc : TypeId × Value → H) (w : World) (base : Nat) (spare : Nat → Bool) (held : Bool) (fuel : Nat) (cs : List Value) (x : DataW H × List MemPlace),
    DataW.trod enc P w base spare held fuel t cs = some x → ∃ a : α, d.K w a cs ∧ V a
def ListV {α : Type} (V : α → Prop) (l : List α) : Prop := l.length ≤ 9223372036854775807 ∧ ∀ x ∈ l, V x
def U8V (x : Int) : Prop := 0 ≤ x ∧ x < 256
theorem opens_u8 {P : Program} {t : TypeId} (ht : P.underlying t = some (.int .u8)) : Opens P t (Kd.int .u8) U8V := by
  intro H enc w base spare held fuel cs x h
  obtain ⟨n, rfl, _, hw⟩ := DataW.trod_int ht h
  refine ⟨n, rfl, ?_⟩
  have hb : (IntKind.u8.min ≤ n ∧ n ≤ IntKind.u8.max) := by simpa [Lit.wf] using hw
  have e1 : IntKind.u8.min = 0 := rfl
  have e2 : IntKind.u8.max = 255 := rfl
  rw [e1, e2] at hb
  unfold U8V
  omega
theorem cells_list {w : World} {base : Nat} {a : Addr} {n : Nat} {cs : List Value} (h : w.cells? base a n = some cs) : cs.length = n ∧ ∀ i u, cs[i]? = some u → w.cell? (a.add i) = some u := by
  unfold World.cells? at h
  split at h
  · have hl := mapM_some_length h
    refine ⟨by simpa using hl, fun i u hu => ?_⟩
    have hi : i < n := by
      have := (List.getElem?_eq_some_iff.1 hu).1
      rw [hl] at this; simpa using this
    have := mapM_some_get h i i (by simp [hi])
    rw [hu] at this
    exact this
  · cases h
theorem opens_slice {α : Type} {P : Program} {t e : TypeId} {d : Kd α} {V : α → Prop} (ht : P.underlying t = some (.slice e)) (hd : Opens P e d V) (hsz : P.cellsOf e = d.sz) : Opens P t (Kd.slice e d) (ListV V) := by
  intro H enc w base spare held fuel cs x h
  rcases Go.Deep.open_slice ht h with ⟨rfl, _⟩ | ⟨a, len, cap, m, n, D, Pl, rfl, _, hl, hm, hmm, _, hel⟩
  · exact ⟨[], ⟨none, 0, rfl, Nat.le_refl _, ⟨rfl, by simp, fun h0 => absurd h0 (by simp)⟩⟩, ⟨by simp, fun x hx => by simp at hx⟩⟩
  · have hle : len ≤ m := by rw [hmm]; split <;> omega
    have each : ∀ i : Nat, ∃ a' : Option α, i < len → ∃ z cs', a' = some z ∧ V z ∧ d.K w z cs' ∧ ∀ j u, cs'[j]? = some u → w.cell? (a.add (i * d.sz + j)) = some u := by
      intro i
      by_cases hi : i < len
      · obtain ⟨cs', h1, h2⟩ := hel i (by omega)
        obtain ⟨z, hK, hV⟩ := hd H enc w base spare held n cs' _ h2
        refine ⟨some z, fun _ => ⟨z, cs', rfl, hV, hK, fun j u hu => ?_⟩⟩
        obtain ⟨_, hc⟩ := cells_list h1
        have := hc j u hu
        rw [Go.Deep.add_add, hsz] at this
        exact this
      · exact ⟨none, fun h0 => absurd h0 hi⟩
    have ⟨f, hf⟩ := Classical.axiomOfChoice each
    have hz : ∀ i, i < len → ∃ z, f i = some z ∧ V z ∧ ∃ cs', d.K w z cs' ∧ ∀ j u, cs'[j]? = some u → w.cell? (a.add (i * d.sz + j)) = some u := by
      intro i hi
      obtain ⟨z, cs', h1, h2, h3, h4⟩ := hf i hi
      exact ⟨z, h1, h2, cs', h3, h4⟩
    have hlist : ∃ l : List α, l.length = len ∧ ∀ i, i < len → f i = l[i]? := by
      clear hf each hel hmm hle
      have : ∀ n, n ≤ len → ∃ l : List α, l.length = n ∧ ∀ i, i < n → f i = l[i]? := by
        intro n
        induction n with
        | zero => intro _; exact ⟨[], rfl, fun i hi => by omega⟩
        | succ n ih =>
          intro hn
          obtain ⟨l, hl1, hl2⟩ := ih (by omega)
          obtain ⟨z, h1, _⟩ := hz n (by omega)
          refine ⟨l ++ [z], by simp [hl1], fun i hi => ?_⟩
          by_cases e : i < n
          · rw [List.getElem?_append_left (by omega)]; exact hl2 i e
          · obtain rfl : i = n := by omega
            rw [h1, ← hl1]; simp
      exact this len (Nat.le_refl _)
    obtain ⟨l, hlen, hget⟩ := hlist
    have hV : ∀ x ∈ l, V x := by
      intro x hx
      obtain ⟨i, hi, rfl⟩ := List.getElem_of_mem hx
      obtain ⟨z, h1, h2, _⟩ := hz i (by omega)
      have h3 := hget i (by omega)
      rw [h1, List.getElem?_eq_getElem hi] at h3
      injection h3 with h3
      rw [← h3]; exact h2
    unfold maxLen at hm
    subst hlen
    refine ⟨l, ⟨some a, cap, rfl, hl, ⟨rfl, by omega, fun _ => ⟨a, rfl, fun j p hp => ?_⟩⟩⟩, ⟨by omega, hV⟩⟩
    have hj : j < l.length := (List.getElem?_eq_some_iff.1 hp).1
    obtain ⟨z, h1, _, cs', h3, h4⟩ := hz j hj
    have h5 := hget j hj
    rw [h1, hp] at h5
    injection h5 with h5
    subst h5
    exact ⟨cs', d.K_len h3, h3, h4⟩
section
variable {H : Type} {enc : TypeId × Value → H} {P : Program} {w : World} {base : Nat} {spare : Nat → Bool} {held : Bool} {r : Reach} {b0 : Nat} {t : TypeId} {v : Value} {x : DataW H} {p : List MemPlace}
theorem arg_slice {α : Type} {d : Kd α} {e : TypeId} {V : List α → Prop} (ho : Opens P t (Kd.slice e d) V) (ht : P.underlying t = some (.slice e)) (hv : Value.okWide P w r b0 t v) (h : DataW.Trod enc P w base spare held t v x p) :
    ∃ A l c, v = .slice A (List.length l) c ∧ l.length ≤ c ∧ d.C w A l.length l ∧ V l := by
  obtain ⟨a, len, cap, rfl⟩ := WideShapes.okWide_slice ht hv
  obtain ⟨fuel, hf⟩ := h
  obtain ⟨l, ⟨A, c, hc, hl, hC⟩, hV⟩ := ho H enc w base spare held fuel _ _ hf
  simp only [Value.cells, List.cons.injEq, and_true] at hc
  injection hc with e1 e2 e3
  subst e1 e2 e3
  exact ⟨_, l, _, rfl, hl, hC, hV⟩
theorem arg_lt (h : DataW.Trod enc P w base spare held t v x p) : ∀ y ∈ p, y.block < w.heap.size := by
  obtain ⟨m, hm⟩ := h
  exact DataW.trod_lt m _ _ _ hm
end
end
/-! The laws' own comparisons: what they come to. -/
theorem laws_eTexts.ev (l : List ByteArray) (hn : l.length ≤ 1000000) : Ev (fun k => laws_eTexts.f k l l) true := by
  have : ∀ (m i : Nat), i + m = l.length → Ev (fun k => laws_eTexts.l0 k l l (l.length : Int) (i : Nat)) true := by
    intro m
    induction m with
    | zero => intro i hi; exact Ev.step (fun k => rfl) (Ev.no (by omega) (Ev.now _))
    | succ m ih =>
      intro i hi
      refine Ev.step (fun k => rfl) (Ev.yes (by omega) (Ev.yes (by omega) (Ev.yes (by omega) (Ev.yes (by omega) (Ev.yes rfl ?_)))))
      rw [show wrap64 ((i : Int) + 1) = ((i + 1 : Nat) : Int) from w64 (by omega) (by omega)]
      exact ih (i + 1) (by omega)
  unfold laws_eTexts.f
  exact Ev.yes rfl (this l.length 0 (by omega))
theorem laws_eSame.ev (l : List Int) (hn : l.length ≤ 9223372036854775807) : Ev (fun k => laws_eSame.f k l l) true := by
  have : ∀ (m i : Nat), i + m = l.length → Ev (fun k => laws_eSame.l0 k l l (l.length : Int) (i : Nat)) true := by
    intro m
    induction m with
    | zero => intro i hi; exact Ev.step (fun k => rfl) (Ev.no (by omega) (Ev.now _))
    | succ m ih =>
      intro i hi
      refine Ev.step (fun k => rfl) (Ev.yes (by omega) (Ev.yes (by omega) (Ev.yes (by omega) (Ev.yes (by omega) (Ev.yes rfl ?_)))))
      rw [show wrap64 ((i : Int) + 1) = ((i + 1 : Nat) : Int) from w64 (by omega) (by omega)]
      exact ih (i + 1) (by omega)
  unfold laws_eSame.f
  exact Ev.yes rfl (this l.length 0 (by omega))
theorem laws_eRows.ev (l : List (List Int)) (hl : RowsV l) : Ev (fun k => laws_eRows.f k l l) true := by
  have hn := hl.1
  have : ∀ (m i : Nat), i + m = l.length → Ev (fun k => laws_eRows.l0 k l l (l.length : Int) (i : Nat)) true := by
    intro m
    induction m with
    | zero => intro i hi; exact Ev.step (fun k => rfl) (Ev.no (by omega) (Ev.now _))
    | succ m ih =>
      intro i hi
      have hlt : i < l.length := by omega
      refine Ev.step (fun k => rfl) (Ev.yes (by omega) (Ev.yes (by omega) (Ev.yes (by omega) (Ev.yes (by omega) ?_))))
      rw [rd_row hlt]
      refine Ev.bind (laws_eSame.ev _ (hl.2 _ (List.getElem_mem hlt))) (Ev.yes rfl ?_)
      rw [show wrap64 ((i : Int) + 1) = ((i + 1 : Nat) : Int) from w64 (by omega) (by omega)]
      exact ih (i + 1) (by omega)
  unfold laws_eRows.f
  exact Ev.yes rfl (this l.length 0 (by omega))
theorem laws_ePins.ev (n : Int) (l : List (List Int)) (hl : RowsV l) : Ev (fun k => laws_ePins.f k n l n l) true := by
  unfold laws_ePins.f
  exact Ev.yes rfl (Ev.bind (laws_eRows.ev l hl) (Ev.now _))
theorem laws_eSorted.ev (l : List ByteArray) (hn : l.length ≤ 1000000) (h : ∀ (i j : Nat) (hi : i < l.length) (hj : j < l.length), i < j → Op.bytesLess l[i].toList l[j].toList = true) : Ev (fun k => laws_eSorted.f k l) true := by
  have : ∀ (m i : Nat), i + m = l.length + 1 → 1 ≤ i → Ev (fun k => laws_eSorted.l0 k l (i : Nat)) true := by
    intro m
    induction m with
    | zero => intro i hi _; exact Ev.step (fun k => rfl) (Ev.no (by omega) (Ev.now _))
    | succ m ih =>
      intro i hi h1
      by_cases hlt : i < l.length
      · have e : wrap64 ((i : Int) - 1) = ((i - 1 : Nat) : Int) := by rw [w64 (by omega) (by omega)]; omega
        have e2 : wrap64 ((i : Int) + 1) = ((i + 1 : Nat) : Int) := w64 (by omega) (by omega)
        refine Ev.step (fun k => rfl) (Ev.yes (by omega) ?_)
        rw [e, e2]
        clear e e2
        refine Ev.yes (by omega) (Ev.yes (by omega) (Ev.yes (by omega) ?_))
        have hlt2 : i - 1 < l.length := by omega
        rw [rd_str hlt, rd_str hlt2]
        exact Ev.yes (h (i - 1) i hlt2 hlt (by omega)) (ih (i + 1) (by omega) (by omega))
      · exact Ev.step (fun k => rfl) (Ev.no (by omega) (Ev.now _))
  unfold laws_eSorted.f
  exact this l.length 1 (by omega) (Nat.le_refl _)
theorem laws_eText.ev (l : List ByteArray) (hn : l.length ≤ 1000000) (s : ByteArray) : Ev (fun k => laws_eText.f k l s) (l.any fun x => decide (x.toList = s.toList)) := by
  have : ∀ (m i : Nat), i + m = l.length → Ev (fun k => laws_eText.l0 k s l (l.length : Int) (i : Nat)) ((l.drop i).any fun x => decide (x.toList = s.toList)) := by
    intro m
    induction m with
    | zero =>
      intro i hi
      refine Ev.step (fun k => rfl) (Ev.no (by omega) (Ev.id ?_))
      rw [List.drop_eq_nil_of_le (by omega)]; rfl
    | succ m ih =>
      intro i hi
      have hlt : i < l.length := by omega
      rw [List.drop_eq_getElem_cons hlt, List.any_cons]
      refine Ev.step (fun k => rfl) (Ev.yes (by omega) (Ev.yes (by omega) (Ev.yes (by omega) ?_)))
      rw [rd_str hlt]
      by_cases h : l[i].toList = s.toList
      · exact Ev.yes h (Ev.id (by rw [decide_eq_true h]; rfl))
      · refine Ev.no h ?_
        rw [show wrap64 ((i : Int) + 1) = ((i + 1 : Nat) : Int) from w64 (by omega) (by omega), decide_eq_false h, Bool.false_or]
        exact ih (i + 1) (by omega)
  unfold laws_eText.f
  have := this l.length 0 (by omega)
  rw [List.drop_zero] at this
  exact this
/-! Declarations moved out of EPinsS. -/
theorem spec_keKind.is (n : Int) (x : List (List Int)) (m : Int) (y : List (List Int)) : spec_keKind.f n x m y = some ((n == m) && (x.length == y.length)) := by
  unfold spec_keKind.f
  by_cases h : n = m
  · rw [if_pos h, h]
    congr 1
    rw [Bool.eq_iff_iff]
    simp only [beq_iff_eq, Bool.and_eq_true, true_and]
    omega
  · rw [if_neg h]
    simp [h]
theorem spec_keList.lev (l : List S24) (hl1 : l.length ≤ 9223372036854775807) (hl : ∀ p ∈ l, RowsV p.f1) : ∀ (m i : Nat), i + m = l.length → Ev (fun k => spec_keList.l0 k l l (l.length : Int) (i : Nat)) ((l.drop i).all fun p => pinsB p.f0 p.f1 && (p.f0 == (rd_T24 l 0).f0) && (p.f1.length == (rd_T24 l 0).f1.length)) := by
  intro m
  induction m with
  | zero =>
    intro i hi
    refine Ev.step (fun k => rfl) (Ev.no (by omega) (Ev.id ?_))
    rw [List.drop_eq_nil_of_le (by omega)]; rfl
  | succ m ih =>
    intro i hi
    have hlt : i < l.length := by omega
    refine Ev.step (fun k => rfl) (Ev.yes (by omega) (Ev.yes (by omega) (Ev.yes (by omega) ?_)))
    rw [rd_pins hlt, List.drop_eq_getElem_cons hlt, List.all_cons]
    refine Ev.bind (spec_keGood.ev _ _ (hl _ (List.getElem_mem hlt))) ?_
    have hgo := ih (i + 1) (by omega)
    cases pinsB l[i].f0 l[i].f1 with
    | false => exact Ev.no (by simp) (Ev.id (by simp))
    | true =>
      refine Ev.yes rfl (Ev.yes (by omega) (Ev.bindc (spec_keKind.is _ _ _ _) ?_))
      rw [Bool.true_and]
      cases (l[i].f0 == (rd_T24 l 0).f0) && (l[i].f1.length == (rd_T24 l 0).f1.length) with
      | false => exact Ev.no (by simp) (Ev.id rfl)
      | true =>
        refine Ev.yes rfl ?_
        rw [w64 (x := (i : Int) + 1) (by omega) (by omega), Bool.true_and]
        exact hgo
theorem spec_keList.ev (l : List S24) (hl1 : l.length ≤ 9223372036854775807) (hl : ∀ p ∈ l, RowsV p.f1) : Ev (fun k => spec_keList.f k l) (kindB l) := by
  unfold spec_keList.f kindB
  refine Ev.bindc (spec_l1In.bs _ _ _) ?_
  by_cases h1 : 1 ≤ (l.length : Int) ∧ (l.length : Int) ≤ 6
  · rw [decide_eq_true h1]
    refine Ev.yes rfl ?_
    have := spec_keList.lev l hl1 hl l.length 0 (by omega)
    simpa using this
  · rw [decide_eq_false h1]
    exact Ev.no (by simp) (Ev.id (by simp))
/-! Declarations moved out of LFnExactGhostKeys. -/
theorem shl_pow : ∀ n : Fin 7, shl .i64 1 ((n.val : Nat) : Int) = ((2 ^ n.val : Nat) : Int) := by decide +kernel
def bitB (s i : Nat) : Bool := decide (Int.tmod (shr .i64 ((s : Nat) : Int) ((i : Nat) : Int)) 2 = 1)
theorem bit_and : ∀ s : Fin 64, ∀ i : Fin 6, decide (Go.bits .and .i64 (shr .i64 ((s.val : Nat) : Int) ((i.val : Nat) : Int)) 1 = 1) = bitB s.val i.val := by decide +kernel
theorem bit_some : ∀ n : Fin 7, ∀ s : Fin 64, 1 ≤ s.val → s.val < 2 ^ n.val → ∃ i : Fin 6, i.val < n.val ∧ bitB s.val i.val = true := by decide +kernel
def pickS (s : Nat) : List S24 → Nat → List S24
  | [], _ => []
  | p :: t, i => if bitB s i = true then p :: pickS s t (i + 1) else pickS s t (i + 1)
theorem pickS_cons (s : Nat) (p : S24) (t : List S24) (i : Nat) : pickS s (p :: t) i = if bitB s i = true then p :: pickS s t (i + 1) else pickS s t (i + 1) := rfl
theorem pickS_mem (s : Nat) : ∀ (l : List S24) (i : Nat), ∀ p ∈ pickS s l i, p ∈ l := by
  intro l
  induction l with
  | nil => intro i p hp; exact hp
  | cons q t ih =>
    intro i p hp
    unfold pickS at hp
    by_cases e : bitB s i = true
    · rw [if_pos e] at hp
      rcases List.mem_cons.mp hp with rfl | hp
      · exact List.mem_cons_self
      · exact List.mem_cons_of_mem _ (ih _ p hp)
    · rw [if_neg e] at hp
      exact List.mem_cons_of_mem _ (ih _ p hp)
theorem pickS_len (s : Nat) : ∀ (l : List S24) (i : Nat), (pickS s l i).length ≤ l.length := by
  intro l
  induction l with
  | nil => intro i; exact Nat.le_refl _
  | cons q t ih =>
    intro i
    unfold pickS
    have := ih (i + 1)
    by_cases e : bitB s i = true
    · rw [if_pos e]; simp; omega
    · rw [if_neg e]; simp; omega
theorem pickS_pos (s : Nat) : ∀ (l : List S24) (i j : Nat), i ≤ j → j < i + l.length → bitB s j = true → 0 < (pickS s l i).length := by
  intro l
  induction l with
  | nil => intro i j h1 h2 _; simp at h2; omega
  | cons q t ih =>
    intro i j h1 h2 hb
    unfold pickS
    by_cases e : bitB s i = true
    · rw [if_pos e]; simp
    · rw [if_neg e]
      have hne : i ≠ j := fun h => e (h ▸ hb)
      simp only [List.length_cons] at h2
      exact ih (i + 1) j (by omega) (by omega) hb
def ghostC (n m : Nat) (l : List S24) (s : Nat) (c : Int) : Int :=
  if ((pickS s l 0).length : Int) % 2 = 1 then wrap64 (c - keysF (rowsOf n m (inB true (pickS s l 0)))) else wrap64 (c + keysF (rowsOf n m (inB true (pickS s l 0))))
def ghostF (n m : Nat) (l : List S24) : Nat → Nat → Int → Int
  | 0, _, c => c
  | q + 1, s, c => ghostF n m l q (s + 1) (ghostC n m l s c)
theorem KindL_pick {n m : Nat} {l : List S24} (h : KindL n m l) (s : Nat) : KindL n m (pickS s l 0) := ⟨h.1, h.2.1, fun p hp => h.2.2 p (pickS_mem s l 0 p hp)⟩
theorem rows_short {n m : Nat} {l : List S24} (h : KindL n m l) (f : Nat → Int → Bool) : (rowsOf n m f).length ≤ 9223372036854775807 := by rw [rowsOf_len]; have := h.2.1; omega
theorem impl_GhostKeys.lev1 (n m : Nat) (l : List S24) (h : KindL n m l) (hl : l.length ≤ 6) (s : Nat) (hs : s < 64) (hpos : 0 < (pickS s l 0).length) (c : Int) (o : Int × Bool) (hgo : Ev (fun k => impl_GhostKeys.l0 k l (ghostC n m l s c) ((s + 1 : Nat) : Int)) o) :
    ∀ (q i : Nat) (acc : List S24), i + q = l.length → acc.length ≤ i → acc ++ pickS s (l.drop i) i = pickS s l 0 → Ev (fun k => impl_GhostKeys.l1 k l c (s : Int) acc l (l.length : Int) (i : Int)) o := by
  intro q
  induction q with
  | zero =>
    intro i acc hi ha hacc
    have hws := amk (wr_succ (c := s) (by omega))
    rw [List.drop_eq_nil_of_le (by omega)] at hacc
    have hacc2 : acc = pickS s l 0 := by rw [← hacc]; exact (List.append_nil acc).symm
    refine Ev.step (fun k => rfl) (Ev.no (by omega) ?_)
    have hle := pickS_len s l 0
    rw [hacc2]
    refine Ev.bind (impl_shared.ev (pickS s l 0) n m hpos (KindL_pick h s) (by omega)) (Ev.bind (impl_Pins_keys.ev _ _ (rows_short h _)) ?_)
    rw [hws.out]
    unfold ghostC at hgo
    by_cases e : ((pickS s l 0).length : Int) % 2 = 1
    · rw [if_pos e] at hgo
      exact Ev.yes e hgo
    · rw [if_neg e] at hgo
      exact Ev.no e hgo
  | succ q ih =>
    intro i acc hi ha hacc
    have hlt : i < l.length := by omega
    have hwi := amk (wr_succ (c := i) (by omega))
    rw [List.drop_eq_getElem_cons hlt, pickS_cons] at hacc
    have hb := bit_and ⟨s, hs⟩ ⟨i, by omega⟩
    simp only [] at hb
    refine Ev.step (fun k => rfl) (Ev.yes (by omega) (Ev.yes (by omega) (Ev.yes (by omega) ?_)))
    rw [rd_pins hlt, hwi.out]
    by_cases e : bitB s i = true
    · rw [if_pos e] at hacc
      rw [e] at hb
      refine Ev.yes (of_decide_eq_true hb) (Ev.yes (by omega) ?_)
      exact ih (i + 1) (acc ++ [l[i]]) (by omega) (by simp; omega) (by rw [List.append_assoc]; exact hacc)
    · rw [if_neg e] at hacc
      rw [Bool.eq_false_iff.mpr e] at hb
      exact Ev.no (of_decide_eq_false hb) (ih (i + 1) acc (by omega) (by omega) hacc)
theorem spec_GhostKeys.lev1 (n m : Nat) (l : List S24) (h : KindL n m l) (hl : l.length ≤ 6) (s : Nat) (hs : s < 64) (hpos : 0 < (pickS s l 0).length) (c : Int) (o : Int × Bool) (hgo : Ev (fun k => spec_GhostKeys.l0 k l (ghostC n m l s c) ((s + 1 : Nat) : Int)) o) :
    ∀ (q i : Nat) (acc : List S24), i + q = l.length → acc.length ≤ i → acc ++ pickS s (l.drop i) i = pickS s l 0 → Ev (fun k => spec_GhostKeys.l1 k l c (s : Int) acc l (l.length : Int) (i : Int)) o := by
  intro q
  induction q with
  | zero =>
    intro i acc hi ha hacc
    have hws := amk (wr_succ (c := s) (by omega))
    rw [List.drop_eq_nil_of_le (by omega)] at hacc
    have hacc2 : acc = pickS s l 0 := by rw [← hacc]; exact (List.append_nil acc).symm
    refine Ev.step (fun k => rfl) (Ev.no (by omega) ?_)
    rw [hacc2]
    refine Ev.bind (spec_keJoined.ev true n m (pickS s l 0) hpos (KindL_pick h s)) (Ev.bind (spec_keCount.ev _ _ (rows_short h _)) ?_)
    rw [hws.out]
    unfold ghostC at hgo
    by_cases e : ((pickS s l 0).length : Int) % 2 = 1
    · rw [if_pos e] at hgo
      exact Ev.yes e hgo
    · rw [if_neg e] at hgo
      exact Ev.no e hgo
  | succ q ih =>
    intro i acc hi ha hacc
    have hlt : i < l.length := by omega
    have hwi := amk (wr_succ (c := i) (by omega))
    rw [List.drop_eq_getElem_cons hlt, pickS_cons] at hacc
    refine Ev.step (fun k => rfl) (Ev.yes (by omega) (Ev.yes (by omega) (Ev.yes (by omega) ?_)))
    rw [rd_pins hlt, hwi.out]
    by_cases e : bitB s i = true
    · rw [if_pos e] at hacc
      refine Ev.yes (of_decide_eq_true e) (Ev.yes (by omega) ?_)
      exact ih (i + 1) (acc ++ [l[i]]) (by omega) (by simp; omega) (by rw [List.append_assoc]; exact hacc)
    · rw [if_neg e] at hacc
      exact Ev.no (fun hh => e (decide_eq_true hh)) (ih (i + 1) acc (by omega) (by omega) hacc)
theorem ghost_pos {l : List S24} (hl : l.length ≤ 6) {s : Nat} (h1 : 1 ≤ s) (h2 : s < 2 ^ l.length) (hs : s < 64) : 0 < (pickS s l 0).length := by
  obtain ⟨i, hi, hb⟩ := bit_some ⟨l.length, by omega⟩ ⟨s, hs⟩ h1 h2
  exact pickS_pos s l 0 i.val (by omega) (by simp only [] at hi; omega) hb
theorem impl_GhostKeys.lev0 (n m : Nat) (l : List S24) (h : KindL n m l) (hl : l.length ≤ 6) (hp : 2 ^ l.length ≤ 64) : ∀ (q s : Nat) (c : Int), s + q = 2 ^ l.length → 1 ≤ s → Ev (fun k => impl_GhostKeys.l0 k l c (s : Int)) (ghostF n m l q s c, true) := by
  have hshl := amk (shl_pow ⟨l.length, by omega⟩)
  generalize hT : 2 ^ l.length = T at hp
  intro q
  induction q with
  | zero =>
    intro s c hs h1
    refine Ev.step (fun k => rfl) (Ev.no ?_ (Ev.now _))
    rw [show shl .i64 1 (l.length : Int) = ((2 ^ l.length : Nat) : Int) from hshl.out, hT]
    omega
  | succ q ih =>
    intro s c hs h1
    have hpos := ghost_pos hl h1 (by rw [hT]; omega) (by omega)
    refine Ev.step (fun k => rfl) (Ev.yes ?_ ?_)
    · rw [show shl .i64 1 (l.length : Int) = ((2 ^ l.length : Nat) : Int) from hshl.out, hT]
      omega
    · exact impl_GhostKeys.lev1 n m l h hl s (by omega) hpos c _ (ih (s + 1) (ghostC n m l s c) (by omega) (by omega)) l.length 0 [] (by omega) (Nat.le_refl _) rfl
theorem spec_GhostKeys.lev0 (n m : Nat) (l : List S24) (h : KindL n m l) (hl : l.length ≤ 6) (hp : 2 ^ l.length ≤ 64) : ∀ (q s : Nat) (c : Int), s + q = 2 ^ l.length → 1 ≤ s → Ev (fun k => spec_GhostKeys.l0 k l c (s : Int)) (ghostF n m l q s c, true) := by
  have hshl := amk (shl_pow ⟨l.length, by omega⟩)
  generalize hT : 2 ^ l.length = T at hp
  intro q
  induction q with
  | zero =>
    intro s c hs h1
    refine Ev.step (fun k => rfl) (Ev.no ?_ (Ev.now _))
    rw [show shl .i64 1 (l.length : Int) = ((2 ^ l.length : Nat) : Int) from hshl.out, hT]
    omega
  | succ q ih =>
    intro s c hs h1
    have hpos := ghost_pos hl h1 (by rw [hT]; omega) (by omega)
    refine Ev.step (fun k => rfl) (Ev.yes ?_ ?_)
    · rw [show shl .i64 1 (l.length : Int) = ((2 ^ l.length : Nat) : Int) from hshl.out, hT]
      omega
    · exact spec_GhostKeys.lev1 n m l h hl s (by omega) hpos c _ (ih (s + 1) (ghostC n m l s c) (by omega) (by omega)) l.length 0 [] (by omega) (Nat.le_refl _) rfl
def ghostV (L : List S24) : Int × Bool :=
  if kindB L = true then (ghostF (rd_T24 L 0).f0.toNat (rd_T24 L 0).f1.length L (2 ^ L.length - 1) 1 (keysF (rowsOf (rd_T24 L 0).f0.toNat (rd_T24 L 0).f1.length (inB false L))), true) else (0, false)
theorem GhostKeys.both (L : List S24) (hl2 : L.length ≤ 9223372036854775807) (hv2 : ∀ p ∈ L, RowsV p.f1) : Ev (fun k => spec_GhostKeys.f k L) (ghostV L) ∧ Ev (fun k => impl_GhostKeys.f k L) (ghostV L) := by
  unfold spec_GhostKeys.f impl_GhostKeys.f impl_ofKind.f ghostV
  cases hk : kindB L with
  | false =>
    refine ⟨Ev.bind (spec_keList.ev L hl2 hv2) (Ev.no (by rw [hk]; simp) (Ev.id (by simp))), Ev.bindc rfl (Ev.no (by simp) (Ev.id (by simp)))⟩
  | true =>
    obtain ⟨n, m, hkl, hne, h6⟩ := kindB_KindL hk hv2
    obtain ⟨h0, h1, _⟩ := hkl.2.2 L[0] (List.getElem_mem hne)
    have hq : rd_T24 L 0 = L[0] := rd_pins hne
    have hn0 : L[0].f0.toNat = n := by omega
    have hp : 2 ^ L.length ≤ 64 := Nat.le_trans (Nat.pow_le_pow_right (by omega) h6) (by decide)
    have hp1 : 1 ≤ 2 ^ L.length := Nat.one_le_two_pow
    rw [hq, hn0, h1, if_pos rfl]
    generalize hT : 2 ^ L.length = T at hp1
    refine ⟨Ev.bind (spec_keList.ev L hl2 hv2) (Ev.yes hk (Ev.bind (spec_keJoined.ev false n m L hne hkl) (Ev.bind (spec_keCount.ev _ _ (rows_short hkl _)) ?_))), Ev.bindc rfl (Ev.yes rfl (Ev.bind (impl_master.ev L n m hne hkl (by omega)) (Ev.bind (impl_Pins_keys.ev _ _ (rows_short hkl _)) ?_)))⟩
    · exact spec_GhostKeys.lev0 n m L hkl h6 hp (T - 1) 1 _ (by omega) (Nat.le_refl _)
    · exact impl_GhostKeys.lev0 n m L hkl h6 hp (T - 1) 1 _ (by omega) (Nat.le_refl _)
/-! Locks: which numbers are one, how many codes there are. -/
/-! Codes of a lock as texts, their digits, what clues tell of them. -/
theorem bt_textB {D : List Int} (h : ∀ x ∈ D, 0 ≤ x ∧ x < 10) {i : Nat} (hi : i < D.length) : bt (textB D) (i : Nat) = 48 + D[i] := by
  have hx := h D[i] (List.getElem_mem hi)
  have hs : (textB D).size = D.length := by unfold textB; rw [strOfNums_size, List.length_map]
  unfold bt
  rw [dif_pos (by rw [hs]; simpa using hi)]
  have e1 : ((textB D)[(i : Int).toNat]'(by rw [hs]; simpa using hi)) = UInt8.ofNat (wrap64 (48 + D[i]) % 256).toNat := by
    show (textB D).data[(i : Int).toNat]'_ = _
    have : (textB D).data = ((D.map fun x => wrap64 (48 + x) % 256).map fun n => UInt8.ofNat n.toNat).toArray := rfl
    simp [this]
  rw [e1, w64 (by omega) (by omega)]
  simp
  omega
/-! Declarations moved out of LFnExactSharedKeys. -/
theorem impl_Pins_all.ev (n : Int) (L : List (List Int)) (hS : Short L) : Ev (fun k => impl_Pins_all.f k n L) (if prodK L ≤ 200 then (extK L ⟨#[]⟩, true) else ([], false)) := by
  have h7 := hS.1
  unfold impl_Pins_all.f
  by_cases h2 : prodK L ≤ 200
  · rw [if_pos h2]
    have hb := impl_Pins_all.lev0 L hS L.length 0 [⟨#[]⟩] (by omega) (by show 1 ≤ 9 ^ 0; decide) (fun s hs => by rw [List.mem_singleton.mp hs]; rfl)
    rw [List.drop_zero, bfsK_ext, List.flatMap_cons, List.flatMap_nil, List.append_nil] at hb
    refine Ev.bind (impl_Pins_keys.ev n L (by omega)) (Ev.no ?_ hb)
    rw [keysF_is hS]; omega
  · rw [if_neg h2]
    refine Ev.bind (impl_Pins_keys.ev n L (by omega)) (Ev.yes ?_ (Ev.now _))
    rw [keysF_is hS]; omega
theorem rowsOf_short (n m : Nat) (hn : n ≤ 9) (hm : m ≤ 7) (f : Nat → Int → Bool) : Short (rowsOf n m f) := by
  refine ⟨by rw [rowsOf_len]; exact hm, fun r hr => ?_⟩
  unfold rowsOf at hr
  obtain ⟨i, _, rfl⟩ := List.mem_map.mp hr
  refine ⟨Nat.le_trans (filter_len_le _ _) (by rw [rngFrom_len]; exact hn), fun x hx => ?_⟩
  have := rngFrom_mem (List.mem_filter.mp hx).1
  omega
def shV (L : List S24) : List ByteArray × Bool := if kindB L = true then (if prodK (rowsOf (rd_T24 L 0).f0.toNat (rd_T24 L 0).f1.length (inB true L)) ≤ 200 then (extK (rowsOf (rd_T24 L 0).f0.toNat (rd_T24 L 0).f1.length (inB true L)) ⟨#[]⟩, true) else ([], false)) else ([], false)
theorem shV_len (L : List S24) : (shV L).1.length ≤ 200 := by
  unfold shV
  by_cases h : kindB L = true
  · rw [if_pos h]
    by_cases h2 : prodK (rowsOf (rd_T24 L 0).f0.toNat (rd_T24 L 0).f1.length (inB true L)) ≤ 200
    · rw [if_pos h2]
      show (extK _ ⟨#[]⟩).length ≤ 200
      rw [extK_len]; exact h2
    · rw [if_neg h2]; exact Nat.zero_le _
  · rw [if_neg h]; exact Nat.zero_le _
theorem SharedKeys.both (L : List S24) (hl2 : L.length ≤ 9223372036854775807) (hv2 : ∀ p ∈ L, RowsV p.f1) : Ev (fun k => spec_SharedKeys.f k L) (shV L) ∧ Ev (fun k => impl_SharedKeys.f k L) (shV L) := by
  unfold spec_SharedKeys.f impl_SharedKeys.f impl_ofKind.f shV
  cases hk : kindB L with
  | false =>
    refine ⟨Ev.bind (spec_keList.ev L hl2 hv2) (Ev.no (by rw [hk]; simp) (Ev.id (by simp))), Ev.bindc rfl (Ev.no (by simp) (Ev.id (by simp)))⟩
  | true =>
    obtain ⟨n, m, hkl, hne, h6⟩ := kindB_KindL hk hv2
    obtain ⟨h0, h1, _⟩ := hkl.2.2 L[0] (List.getElem_mem hne)
    have hq : rd_T24 L 0 = L[0] := rd_pins hne
    have hn0 : L[0].f0.toNat = n := by omega
    have hS := rowsOf_short n m hkl.1 hkl.2.1 (inB true L)
    have hlen : (rowsOf n m (inB true L)).length ≤ 9223372036854775807 := by have := hS.1; omega
    rw [hq, hn0, h1, if_pos rfl]
    refine ⟨Ev.bind (spec_keList.ev L hl2 hv2) (Ev.yes hk (Ev.bind (spec_keJoined.ev true n m L hne hkl) (Ev.bind (spec_keCount.ev _ _ hlen) ?_))), Ev.bindc rfl (Ev.yes rfl (Ev.bind (impl_shared.ev L n m hne hkl (by omega)) (Ev.bind (impl_Pins_all.ev _ _ hS) (Ev.id rfl))))⟩
    rw [keysF_is hS]
    by_cases h2 : prodK (rowsOf n m (inB true L)) ≤ 200
    · rw [if_pos h2]
      exact Ev.no (by omega) (Ev.bind (spec_keAll.ev _ _ hS) (Ev.now _))
    · rw [if_neg h2]
      exact Ev.yes (by omega) (Ev.now _)
/-! Keys of pins as rows of numbers; how many of them open none of a list: inclusion and exclusion. No program. -/
def tupK : List (List Int) → List (List Int)
  | [] => [[]]
  | r :: t => r.flatMap fun d => (tupK t).map fun x => d :: x
def opT (A : Nat → Int → Bool) : Nat → List Int → Bool
  | _, [] => true
  | i, d :: x => A i d && opT A (i + 1) x
def filtK (A : Nat → Int → Bool) : Nat → List (List Int) → List (List Int)
  | _, [] => []
  | i, r :: t => r.filter (A i) :: filtK A (i + 1) t
theorem tupK_len : ∀ (l : List (List Int)), (tupK l).length = prodK l := by
  intro l
  induction l with
  | nil => rfl
  | cons r t ih =>
    show (r.flatMap fun d => (tupK t).map fun x => d :: x).length = r.length * prodK t
    exact flatMap_len _ _ _ (fun d _ => by rw [List.length_map, ih])
theorem tupK_count (A : Nat → Int → Bool) : ∀ (l : List (List Int)) (i : Nat), (tupK l).countP (opT A i) = prodK (filtK A i l) := by
  intro l
  induction l with
  | nil => intro i; rfl
  | cons r t ih =>
    intro i
    show (r.flatMap fun d => (tupK t).map fun x => d :: x).countP (opT A i) = (r.filter (A i)).length * prodK (filtK A (i + 1) t)
    rw [← ih (i + 1)]
    induction r with
    | nil => show (0 : Nat) = 0 * _; rw [Nat.zero_mul]
    | cons d r ihr =>
      rw [List.flatMap_cons, List.countP_append, ihr, List.countP_map]
      by_cases h : A i d = true
      · rw [List.filter_cons_of_pos h, List.length_cons, Nat.succ_mul, Nat.add_comm]
        congr 1
        apply List.countP_congr
        intro x _
        show (A i d && opT A (i + 1) x) = true ↔ opT A (i + 1) x = true
        rw [h, Bool.true_and]
      · rw [List.filter_cons_of_neg h]
        have hz : (tupK t).countP (opT A i ∘ fun x => d :: x) = 0 := by
          rw [List.countP_eq_zero]
          intro x _
          show ¬ (A i d && opT A (i + 1) x) = true
          rw [Bool.eq_false_iff.mpr h, Bool.false_and]; simp
        rw [hz, Nat.zero_add]
theorem filtK_range (A : Nat → Int → Bool) (g : Nat → List Int) : ∀ (m s : Nat), filtK A s ((List.range' s m).map g) = (List.range' s m).map fun i => (g i).filter (A i) := by
  intro m
  induction m with
  | zero => intro s; rfl
  | succ m ih =>
    intro s
    rw [List.range'_succ, List.map_cons, List.map_cons]
    show (g s).filter (A s) :: filtK A (s + 1) _ = _
    rw [ih]
theorem filtK_rows (A f : Nat → Int → Bool) (n m : Nat) : filtK A 0 (rowsOf n m f) = rowsOf n m fun i d => f i d && A i d := by
  unfold rowsOf
  rw [filtK_range]
  apply List.map_congr_left
  intro i _
  rw [List.filter_filter]
  apply List.filter_congr
  intro d _
  rw [Bool.and_comm]
theorem opT_and (A B : Nat → Int → Bool) : ∀ (x : List Int) (i : Nat), opT (fun i d => A i d && B i d) i x = (opT A i x && opT B i x) := by
  intro x
  induction x with
  | nil => intro i; rfl
  | cons d x ih =>
    intro i
    show (A i d && B i d && opT (fun i d => A i d && B i d) (i + 1) x) = (A i d && opT A (i + 1) x && (B i d && opT B (i + 1) x))
    rw [ih]
    cases A i d <;> cases B i d <;> cases opT A (i + 1) x <;> cases opT B (i + 1) x <;> rfl
theorem opT_true : ∀ (x : List Int) (i : Nat), opT (fun _ _ => true) i x = true := by
  intro x
  induction x with
  | nil => intro i; rfl
  | cons d x ih => intro i; exact ih (i + 1)
def hasT (p : S24) (i : Nat) (d : Int) : Bool := (p.f1.getD i []).contains d
def opP (p : S24) (x : List Int) : Bool := opT (hasT p) 0 x
theorem opT_all (x : List Int) : ∀ (l : List S24), opT (inB true l) 0 x = l.all fun p => opP p x := by
  intro l
  induction l with
  | nil => exact opT_true x 0
  | cons p t ih =>
    have h : inB true (p :: t) = fun i d => hasT p i d && inB true t i d := by
      funext i d
      rw [inB_cons, if_pos rfl]; rfl
    rw [h, opT_and, ih, List.all_cons]; rfl
/-- What is counted: of the master's keys, those that open all of some. -/
theorem count_all (n m : Nat) (L T : List S24) (hs : ∀ p ∈ T, p ∈ L) (h0 : 0 < T.length) : (tupK (rowsOf n m (inB false L))).countP (fun x => T.all fun p => opP p x) = prodK (rowsOf n m (inB true T)) := by
  rw [show (fun x => T.all fun p => opP p x) = opT (inB true T) 0 from funext fun x => (opT_all x T).symm, tupK_count, filtK_rows]
  congr 1
  apply rowsOf_congr
  intro i _ d _
  cases h : inB true T i d with
  | false => rw [Bool.and_false]
  | true =>
    rw [Bool.and_true]
    unfold inB at h ⊢
    rw [if_pos rfl, List.all_eq_true] at h
    rw [if_neg (by simp), List.any_eq_true]
    exact ⟨T[0], hs _ (List.getElem_mem h0), h _ (List.getElem_mem h0)⟩
/-! Sums, and what the bits choose. -/
def sumR (f : Nat → Int) : Nat → Nat → Int
  | 0, _ => 0
  | q + 1, s => f s + sumR f q (s + 1)
theorem sumR_two (f : Nat → Int) : ∀ (q s : Nat), sumR f (2 * q) (2 * s) = sumR (fun j => f (2 * j) + f (2 * j + 1)) q s := by
  intro q
  induction q with
  | zero => intro s; rfl
  | succ q ih =>
    intro s
    have h := ih (s + 1)
    show f (2 * s) + (f (2 * s + 1) + sumR f (2 * q) (2 * (s + 1))) = _
    rw [h]
    show _ = (f (2 * s) + f (2 * s + 1)) + sumR (fun j => f (2 * j) + f (2 * j + 1)) q (s + 1)
    omega
theorem sumR_congr {f g : Nat → Int} : ∀ (q s : Nat), (∀ j, s ≤ j → j < s + q → f j = g j) → sumR f q s = sumR g q s := by
  intro q
  induction q with
  | zero => intro s _; rfl
  | succ q ih =>
    intro s h
    show f s + sumR f q (s + 1) = g s + sumR g q (s + 1)
    rw [h s (Nat.le_refl _) (by omega), ih (s + 1) (fun j h1 h2 => h j (by omega) (by omega))]
theorem sumR_sub (f g : Nat → Int) : ∀ (q s : Nat), sumR (fun j => f j - g j) q s = sumR f q s - sumR g q s := by
  intro q
  induction q with
  | zero => intro s; rfl
  | succ q ih =>
    intro s
    show f s - g s + sumR (fun j => f j - g j) q (s + 1) = f s + sumR f q (s + 1) - (g s + sumR g q (s + 1))
    rw [ih]; omega
theorem bit_low : ∀ s : Fin 32, bitB (2 * s.val) 0 = false ∧ bitB (2 * s.val + 1) 0 = true := by decide +kernel
theorem bit_up : ∀ s : Fin 32, ∀ i : Fin 5, bitB (2 * s.val) (i.val + 1) = bitB s.val i.val ∧ bitB (2 * s.val + 1) (i.val + 1) = bitB s.val i.val := by decide +kernel
theorem pickS_up {s s2 : Nat} : ∀ (l : List S24) (i : Nat), (∀ j, i ≤ j → j < i + l.length → bitB s2 (j + 1) = bitB s j) → pickS s2 l (i + 1) = pickS s l i := by
  intro l
  induction l with
  | nil => intro i _; rfl
  | cons p t ih =>
    intro i h
    rw [pickS_cons, pickS_cons, h i (Nat.le_refl _) (by rw [List.length_cons]; omega), ih (i + 1) (fun j h1 h2 => h j (by omega) (by rw [List.length_cons]; omega))]
theorem pickS_even {s : Nat} (hs : s < 32) (p : S24) (t : List S24) (ht : t.length ≤ 5) : pickS (2 * s) (p :: t) 0 = pickS s t 0 := by
  rw [pickS_cons, if_neg (by rw [(bit_low ⟨s, hs⟩).1]; simp)]
  exact pickS_up t 0 (fun j _ h2 => (bit_up ⟨s, hs⟩ ⟨j, by omega⟩).1)
theorem pickS_odd {s : Nat} (hs : s < 32) (p : S24) (t : List S24) (ht : t.length ≤ 5) : pickS (2 * s + 1) (p :: t) 0 = p :: pickS s t 0 := by
  rw [pickS_cons, if_pos (bit_low ⟨s, hs⟩).2]
  congr 1
  exact pickS_up t 0 (fun j _ h2 => (bit_up ⟨s, hs⟩ ⟨j, by omega⟩).2)
def sgK (l : List S24) (c : Nat) : Int := if (l.length : Int) % 2 = 1 then -(c : Int) else (c : Int)
theorem sgK_cons (p : S24) (l : List S24) (c : Nat) : sgK (p :: l) c = -sgK l c := by
  unfold sgK
  rw [List.length_cons]
  by_cases h : (l.length : Int) % 2 = 1
  · rw [if_pos h, if_neg (by omega)]; omega
  · rw [if_neg h, if_pos (by omega)]
theorem countP_part {α : Type} (P Q : α → Bool) : ∀ (l : List α), l.countP P = l.countP (fun x => P x && Q x) + l.countP (fun x => P x && !Q x) := by
  intro l
  induction l with
  | nil => rfl
  | cons a t ih =>
    rw [List.countP_cons, List.countP_cons, List.countP_cons, ih]
    cases P a <;> cases Q a <;> simp <;> omega
theorem incl_excl (K : List (List Int)) : ∀ (t : List S24) (P : List Int → Bool), t.length ≤ 6 →
    sumR (fun s => sgK (pickS s t 0) (K.countP fun x => P x && (pickS s t 0).all fun p => opP p x)) (2 ^ t.length) 0 = ((K.countP fun x => P x && t.all fun p => !opP p x : Nat) : Int) := by
  intro t
  induction t with
  | nil =>
    intro P _
    show sgK [] (K.countP fun x => P x && true) + 0 = _
    unfold sgK
    rw [if_neg (by decide), Int.add_zero]
    rfl
  | cons p t ih =>
    intro P ht
    rw [List.length_cons] at ht
    have h32 : 2 ^ t.length ≤ 32 := Nat.le_trans (Nat.pow_le_pow_right (by omega) (by omega : t.length ≤ 5)) (by decide)
    have h1 := ih P (by omega)
    have h2 := ih (fun x => P x && opP p x) (by omega)
    have hr : (K.countP fun x => P x && (p :: t).all fun p => !opP p x) + (K.countP fun x => P x && opP p x && t.all fun p => !opP p x) = K.countP fun x => P x && t.all fun p => !opP p x := by
      rw [countP_part (fun x => P x && t.all fun p => !opP p x) (opP p) K, Nat.add_comm]
      congr 1
      · apply List.countP_congr
        intro x _
        cases P x <;> cases opP p x <;> cases (t.all fun p => !opP p x) <;> simp
      · apply List.countP_congr
        intro x _
        rw [List.all_cons]
        cases P x <;> cases opP p x <;> cases (t.all fun p => !opP p x) <;> simp
    have hs : 2 ^ (p :: t).length = 2 * 2 ^ t.length := by rw [List.length_cons, Nat.pow_succ, Nat.mul_comm]
    rw [hs, show (0 : Nat) = 2 * 0 from rfl, sumR_two]
    rw [sumR_congr (g := fun s => sgK (pickS s t 0) (K.countP fun x => P x && (pickS s t 0).all fun p => opP p x) - sgK (pickS s t 0) (K.countP fun x => P x && opP p x && (pickS s t 0).all fun p => opP p x)) (2 ^ t.length) 0 (fun j _ h2 => ?_)]
    · rw [sumR_sub, h1, h2]
      omega
    · show sgK (pickS (2 * j) (p :: t) 0) _ + sgK (pickS (2 * j + 1) (p :: t) 0) _ = _
      rw [pickS_even (by omega) p t (by omega), pickS_odd (by omega) p t (by omega), sgK_cons, Int.sub_eq_add_neg]
      congr 3
      apply List.countP_congr
      intro x _
      rw [List.all_cons, Bool.and_assoc]
/-! What the program's sum comes to. -/
theorem ghostF_sum (n m : Nat) (hn : n ≤ 9) (hm : m ≤ 7) (L : List S24) : ∀ (q s : Nat) (c : Int), -1000000000 ≤ c - 4782969 * q → c + 4782969 * q ≤ 1000000000 → ghostF n m L q s c = c + sumR (fun j => sgK (pickS j L 0) (prodK (rowsOf n m (inB true (pickS j L 0))))) q s := by
  intro q
  induction q with
  | zero => intro s c _ _; show c = c + 0; omega
  | succ q ih =>
    intro s c h1 h2
    have hS := rowsOf_short n m hn hm (inB true (pickS s L 0))
    have hb := prodK_big hS
    have hc : ghostC n m L s c = c + sgK (pickS s L 0) (prodK (rowsOf n m (inB true (pickS s L 0)))) := by
      unfold ghostC sgK
      rw [keysF_is hS]
      by_cases e : ((pickS s L 0).length : Int) % 2 = 1
      · rw [if_pos e, if_pos e, w64 (by omega) (by omega)]; omega
      · rw [if_neg e, if_neg e, w64 (by omega) (by omega)]
    have hsg : -4782969 ≤ sgK (pickS s L 0) (prodK (rowsOf n m (inB true (pickS s L 0)))) ∧ sgK (pickS s L 0) (prodK (rowsOf n m (inB true (pickS s L 0)))) ≤ 4782969 := by
      unfold sgK
      by_cases e : ((pickS s L 0).length : Int) % 2 = 1
      · rw [if_pos e]; omega
      · rw [if_neg e]; omega
    show ghostF n m L q (s + 1) (ghostC n m L s c) = c + (sgK (pickS s L 0) (prodK (rowsOf n m (inB true (pickS s L 0)))) + sumR _ q (s + 1))
    rw [hc, ih (s + 1) _ (by omega) (by omega)]
    omega
theorem pickS_zero : ∀ (l : List S24), l.length ≤ 6 → pickS 0 l 0 = [] := by
  intro l h
  have hb : ∀ i : Fin 6, bitB 0 i.val = false := by decide +kernel
  have : ∀ (t : List S24) (i : Nat), i + t.length ≤ 6 → pickS 0 t i = [] := by
    intro t
    induction t with
    | nil => intro i _; rfl
    | cons p t ih =>
      intro i hi
      rw [List.length_cons] at hi
      rw [pickS_cons, if_neg (by rw [hb ⟨i, by omega⟩]; simp)]
      exact ih (i + 1) (by omega)
  exact this l 0 (by omega)
/-- Ghosts: the master's keys that open none. -/
theorem ghosts_count (n m : Nat) (hn : n ≤ 9) (hm : m ≤ 7) (L : List S24) (h6 : L.length ≤ 6) :
    ghostF n m L (2 ^ L.length - 1) 1 (keysF (rowsOf n m (inB false L))) = (((tupK (rowsOf n m (inB false L))).countP fun x => L.all fun p => !opP p x : Nat) : Int) := by
  have hS := rowsOf_short n m hn hm (inB false L)
  have hb := prodK_big hS
  have hp : 2 ^ L.length ≤ 64 := Nat.le_trans (Nat.pow_le_pow_right (by omega) h6) (by decide)
  have hp1 : 1 ≤ 2 ^ L.length := Nat.one_le_two_pow
  have hi := incl_excl (tupK (rowsOf n m (inB false L))) L (fun _ => true) h6
  simp only [Bool.true_and] at hi
  rw [← hi, keysF_is hS]
  generalize hT : 2 ^ L.length = T at hp hp1
  rw [ghostF_sum n m hn hm L (T - 1) 1 _ (by omega) (by omega)]
  obtain ⟨q, rfl⟩ : ∃ q, T = q + 1 := ⟨T - 1, by omega⟩
  show _ = sgK (pickS 0 L 0) _ + sumR _ q (0 + 1)
  have h0 : sgK (pickS 0 L 0) ((tupK (rowsOf n m (inB false L))).countP fun x => (pickS 0 L 0).all fun p => opP p x) = (prodK (rowsOf n m (inB false L)) : Int) := by
    rw [pickS_zero L h6]
    unfold sgK
    rw [if_neg (by decide), ← tupK_len]
    congr 1
    exact List.countP_eq_length.mpr (fun x _ => rfl)
  rw [h0, Nat.add_sub_cancel]
  congr 1
  apply sumR_congr
  intro j h1 h2
  rw [count_all n m L (pickS j L 0) (fun p hp => pickS_mem j L 0 p hp) ?_]
  exact ghost_pos h6 (by omega) (by omega) (by omega)
theorem ghosts_less (n m : Nat) (L : List S24) (h0 : 0 < L.length) (hpos : 0 < prodK (rowsOf n m (inB true [L[0]]))) :
    ((tupK (rowsOf n m (inB false L))).countP fun x => L.all fun p => !opP p x) < prodK (rowsOf n m (inB false L)) := by
  rw [← count_all n m L [L[0]] (fun p hp => by rw [List.mem_singleton.mp hp]; exact List.getElem_mem h0) (by show 0 < 1; decide)] at hpos
  rw [← tupK_len]
  generalize tupK (rowsOf n m (inB false L)) = K at hpos
  have h1 := countP_part (fun _ => true) (fun x => opP L[0] x) K
  have h2 : K.countP (fun x => L.all fun p => !opP p x) ≤ K.countP (fun x => true && !opP L[0] x) := by
    apply List.countP_mono_left
    intro x _ hx
    rw [List.all_eq_true] at hx
    rw [Bool.true_and]
    exact hx _ (List.getElem_mem h0)
  have h3 : K.countP (fun _ => true) = K.length := List.countP_eq_length.mpr (fun x _ => rfl)
  have h4 : K.countP (fun x => true && opP L[0] x) = K.countP (fun x => [L[0]].all fun p => opP p x) := by
    apply List.countP_congr
    intro x _
    simp
  omega
/-! Keys as texts. -/
def txK : ByteArray → List Int → ByteArray
  | s, [] => s
  | s, d :: x => txK (s ++ dT d) x
theorem extK_tup : ∀ (l : List (List Int)) (s : ByteArray), extK l s = (tupK l).map (txK s) := by
  intro l
  induction l with
  | nil => intro s; rfl
  | cons r t ih =>
    intro s
    show (r.flatMap fun d => extK t (s ++ dT d)) = (r.flatMap fun d => (tupK t).map fun x => d :: x).map (txK s)
    rw [List.map_flatMap]
    congr 1
    funext d
    rw [ih, List.map_map]
    rfl
/-! Declarations moved out of LFnExactParsePins. -/
theorem textB_bytes {r : List Int} (h : ∀ x ∈ r, 0 ≤ x ∧ x < 10) : (textB r).data.toList = r.map (fun x => UInt8.ofNat (48 + x.toNat)) := by
  unfold textB strOfNums
  rw [List.toList_toArray, List.map_map]
  refine List.map_congr_left (fun x hx => ?_)
  have hx2 := h x hx
  have e : wrap64 (48 + x) % 256 = 48 + x := by rw [w64 (by omega) (by omega)]; omega
  show UInt8.ofNat (wrap64 (48 + x) % 256).toNat = _
  rw [e]
  congr 1
  omega
/-! Which keys open: what impl and spec come to. -/
def opensB (L : List (List Int)) (s : ByteArray) : Bool := (List.range L.length).all fun i => (L.getD i []).contains (bt s (i : Nat) - 48)
def isKB (n : Int) (L : List (List Int)) (s : ByteArray) : Bool := decide (s.size = L.length) && keyB n s
theorem bt_rng {s : ByteArray} {i : Nat} (h : i < s.size) : 0 ≤ bt s (i : Nat) ∧ bt s (i : Nat) < 256 := by
  have e := bt_nat h
  have := (s[i]'h).toNat_lt
  omega
theorem keyB_at {n : Int} {s : ByteArray} (h : keyB n s = true) {i : Nat} (hi : i < s.size) : 0 ≤ bt s (i : Nat) - 48 ∧ bt s (i : Nat) - 48 ≤ n - 1 := by
  unfold keyB at h
  rw [List.all_eq_true] at h
  exact of_decide_eq_true (h i (List.mem_range.mpr hi))
theorem impl_isDepthText.lev (n : Int) (h1 : 1 ≤ n) (h9 : n ≤ 9) (s : ByteArray) (hs : 1 ≤ s.size) (hs7 : s.size ≤ 7) : ∀ (m i : Nat), i + m = s.size → Ev (fun k => impl_isDepthText.l0 k n s (s.size : Int) (i : Nat)) ((List.range' i m).all fun i => decide (0 ≤ bt s (i : Nat) - 48 ∧ bt s (i : Nat) - 48 ≤ n - 1)) := by
  intro m
  induction m with
  | zero =>
    intro i hi
    refine Ev.step (fun k => rfl) (Ev.no (by omega) (Ev.bindc (impl_within.bs _ _ _) (Ev.yes (decide_eq_true ⟨h1, h9⟩) (Ev.bindc (impl_within.bs _ _ _) (Ev.id ?_)))))
    rw [decide_eq_true (by omega)]; rfl
  | succ m ih =>
    intro i hi
    have hlt : i < s.size := by omega
    have hr := bt_rng hlt
    have e1 : wrap64 (bt s (i : Nat)) = bt s (i : Nat) := w64 (by omega) (by omega)
    have e2 : wrap64 (wrap64 (48 + n) - 1) = 48 + n - 1 := by rw [w64 (x := 48 + n) (by omega) (by omega), w64 (by omega) (by omega)]
    have e3 : wrap64 ((i : Int) + 1) = ((i + 1 : Nat) : Int) := w64 (by omega) (by omega)
    refine Ev.step (fun k => rfl) (Ev.yes (by omega) (Ev.yes (by omega) (Ev.yes (by omega) (Ev.bindc (impl_within.bs _ _ _) ?_))))
    rw [e1, e2, e3, List.range'_succ, List.all_cons]
    clear e1 e2 e3
    by_cases h : 0 ≤ bt s (i : Nat) - 48 ∧ bt s (i : Nat) - 48 ≤ n - 1
    · rw [decide_eq_true h]
      refine Ev.yes (decide_eq_true (by omega)) ?_
      rw [Bool.true_and]
      exact ih (i + 1) (by omega)
    · rw [decide_eq_false h]
      exact Ev.no (by rw [decide_eq_false (by omega)]; simp) (Ev.id (by simp))
theorem impl_Pins_isKey.ev (n : Int) (h1 : 1 ≤ n) (h9 : n ≤ 9) (L : List (List Int)) (hL : 1 ≤ L.length ∧ L.length ≤ 7) (s : ByteArray) : Ev (fun k => impl_Pins_isKey.f k n L s) (isKB n L s) := by
  unfold impl_Pins_isKey.f isKB impl_isDepthText.f
  by_cases h : s.size = L.length
  · rw [decide_eq_true h, Bool.true_and]
    refine Ev.yes (by omega) (Ev.bind (impl_isDepthText.lev n h1 h9 s (by omega) (by omega) s.size 0 (by omega)) (Ev.id ?_))
    unfold keyB
    rw [List.range_eq_range']
  · rw [decide_eq_false h]
    exact Ev.no (by omega) (Ev.id (by simp))
theorem spec_keIs.is (n : Int) (h1 : 1 ≤ n) (h9 : n ≤ 9) (L : List (List Int)) (hL : 1 ≤ L.length ∧ L.length ≤ 7) (s : ByteArray) : spec_keIs.f n L s = some (isKB n L s) := by
  unfold spec_keIs.f isKB
  by_cases h : s.size = L.length
  · rw [decide_eq_true h, Bool.true_and, if_pos (by omega)]
    unfold spec_keKey.f
    rw [if_pos ⟨h1, h9, by omega⟩]; rfl
  · rw [decide_eq_false h, if_neg (by omega)]; simp
def dgK (s : ByteArray) : List Int := (List.range s.size).map fun i => bt s (i : Nat) - 48
theorem impl_digits_of7 {s : ByteArray} (h6 : s.size ≤ 7) (h : ∀ i < s.size, 48 ≤ bt s (i : Nat) ∧ bt s (i : Nat) ≤ 57) : Ev (fun k => impl_digits.f k s) (dgK s) := by
  have : ∀ m i : Nat, i + m = s.size → ∀ xs : List Int, xs.length = i → Ev (fun k => impl_digits.l0 k s xs (s.size : Int) (i : Nat)) (xs ++ (List.range' i m).map fun i => bt s (i : Nat) - 48) := by
    intro m
    induction m with
    | zero =>
      intro i hi xs hx
      refine Ev.step (fun k => rfl) ?_
      refine Ev.no (by omega) ?_
      exact Ev.id (by simp)
    | succ m ih =>
      intro i hi xs hx
      refine Ev.step (fun k => rfl) ?_
      refine Ev.yes (by omega) (Ev.yes (by omega) (Ev.yes (by omega) (Ev.yes (by omega) ?_)))
      have := ih (i + 1) (by omega) (xs ++ [bt s (i : Nat) - 48]) (by simp [hx])
      have hb := h i (by omega)
      rw [show ((bt s (i : Nat)) - 48) % 256 = bt s (i : Nat) - 48 by omega, show wrap64 ((i : Int) + 1) = ((i + 1 : Nat) : Int) from w64 (by omega) (by omega)]
      refine Ev.eq this ?_
      rw [List.range'_succ]
      simp
  have := this s.size 0 (by omega) [] rfl
  refine Ev.eq this ?_
  unfold dgK
  simp [List.range_eq_range']
theorem dgK_len (s : ByteArray) : (dgK s).length = s.size := by unfold dgK; simp
theorem dgK_at {s : ByteArray} {i : Nat} (h : i < (dgK s).length) : (dgK s)[i] = bt s (i : Nat) - 48 := by simp only [dgK, List.getElem_map, List.getElem_range]
theorem impl_DoesOpen.lev (n : Int) (L : List (List Int)) (hL : ∀ r ∈ L, r.length ≤ 9) (s : ByteArray) (hs : s.size = L.length) (h7 : L.length ≤ 7) : ∀ (m i : Nat), i + m = s.size → Ev (fun k => impl_DoesOpen.l0 k (dgK s) ((dgK s).length : Int) (i : Nat) n L) ((List.range' i m).all fun i => (L.getD i []).contains (bt s (i : Nat) - 48), true) := by
  have hd := dgK_len s
  intro m
  induction m with
  | zero => intro i hi; exact Ev.step (fun k => rfl) (Ev.no (by omega) (Ev.now _))
  | succ m ih =>
    intro i hi
    have hil : i < L.length := by omega
    have hid : i < (dgK s).length := by omega
    have hrow := hL L[i] (List.getElem_mem hil)
    refine Ev.step (fun k => rfl) (Ev.yes (by omega) (Ev.yes (by omega) (Ev.yes (by omega) (Ev.yes (by omega) ?_))))
    rw [rd_row hil, rd_int hid, dgK_at hid, show wrap64 ((i : Int) + 1) = ((i + 1 : Nat) : Int) from w64 (by omega) (by omega), List.range'_succ, List.all_cons, show L.getD i [] = L[i] from getD_at hil]
    refine Ev.bind (slices_Contains_int_int.ev _ _ (by omega)) ?_
    cases h : L[i].contains (bt s (i : Nat) - 48) with
    | true =>
      refine Ev.yes rfl ?_
      rw [Bool.true_and]
      exact ih (i + 1) (by omega)
    | false => exact Ev.no (by simp) (Ev.id (by simp))
theorem spec_keOpens.lev (L : List (List Int)) (hL : ∀ r ∈ L, r.length ≤ 9) (s : ByteArray) (hs : s.size = L.length) (h7 : L.length ≤ 7) : ∀ (m i : Nat), i + m = L.length → Ev (fun k => spec_keOpens.l0 k s L (L.length : Int) (i : Nat)) ((List.range' i m).all fun i => (L.getD i []).contains (bt s (i : Nat) - 48)) := by
  intro m
  induction m with
  | zero => intro i hi; exact Ev.step (fun k => rfl) (Ev.no (by omega) (Ev.now _))
  | succ m ih =>
    intro i hi
    have hil : i < L.length := by omega
    have hrow := hL L[i] (List.getElem_mem hil)
    have hr := bt_rng (s := s) (i := i) (by omega)
    have e1 : wrap64 (wrap64 (bt s (i : Nat)) - 48) = bt s (i : Nat) - 48 := by rw [w64 (x := bt s (i : Nat)) (by omega) (by omega), w64 (by omega) (by omega)]
    refine Ev.step (fun k => rfl) (Ev.yes (by omega) (Ev.yes (by omega) (Ev.yes (by omega) (Ev.yes (by omega) ?_))))
    rw [rd_row hil, e1, show wrap64 ((i : Int) + 1) = ((i + 1 : Nat) : Int) from w64 (by omega) (by omega), List.range'_succ, List.all_cons, show L.getD i [] = L[i] from getD_at hil]
    clear e1
    refine Ev.bind (spec_l1Has.ev _ _ (by omega)) ?_
    cases h : L[i].contains (bt s (i : Nat) - 48) with
    | true =>
      refine Ev.yes rfl ?_
      rw [Bool.true_and]
      exact ih (i + 1) (by omega)
    | false => exact Ev.no (by simp) (Ev.id (by simp))
def opV (n : Int) (L : List (List Int)) (s : ByteArray) : Bool × Bool := (pinsB n L && isKB n L s && opensB L s, pinsB n L && isKB n L s)
theorem pinsB_rows9 {n : Int} {L : List (List Int)} (h : pinsB n L = true) : ∀ r ∈ L, r.length ≤ 9 := fun r hr => ((pinsB_Short h).2 r hr).1
theorem impl_DoesOpen.ev (n : Int) (L : List (List Int)) (s : ByteArray) : Ev (fun k => impl_DoesOpen.f k n L s) (opV n L s) := by
  unfold impl_DoesOpen.f impl_ArePins.f opV
  refine Ev.bindc rfl ?_
  cases h : pinsB n L with
  | false =>
    refine Ev.no (by simp) (Ev.step (fun k => rfl) ?_)
    simp only [impl_DoesOpen.j0]
    exact Ev.yes (by first | rfl | trivial) (Ev.id (by simp))
  | true =>
    obtain ⟨a1, a2, a3⟩ := pinsB_parts h
    refine Ev.yes rfl (Ev.bind (impl_Pins_isKey.ev n a1.1 a1.2 L a2 s) ?_)
    cases hk : isKB n L s with
    | false =>
      refine Ev.step (fun k => rfl) ?_
      simp only [impl_DoesOpen.j0]
      exact Ev.yes rfl (Ev.id (by simp))
    | true =>
      unfold isKB at hk
      rw [Bool.and_eq_true, decide_eq_true_eq] at hk
      refine Ev.step (fun k => rfl) ?_
      simp only [impl_DoesOpen.j0]
      refine (Ev.no (by simp) (Ev.bind (impl_digits_of7 (by omega) (fun i hi => by have := keyB_at hk.2 hi; omega)) ?_))
      have := impl_DoesOpen.lev n L (pinsB_rows9 h) s hk.1 a2.2 s.size 0 (by omega)
      refine Ev.eq this ?_
      unfold opensB
      rw [List.range_eq_range', ← hk.1]; simp
theorem spec_DoesOpen.ev (n : Int) (L : List (List Int)) (hl : RowsV L) (s : ByteArray) : Ev (fun k => spec_DoesOpen.f k n L s) (opV n L s) := by
  unfold spec_DoesOpen.f opV
  refine Ev.bind (spec_keGood.ev n L hl) ?_
  cases h : pinsB n L with
  | false => exact Ev.no (by simp) (Ev.id (by simp))
  | true =>
    obtain ⟨a1, a2, a3⟩ := pinsB_parts h
    refine Ev.yes rfl (Ev.bindc (spec_keIs.is n a1.1 a1.2 L a2 s) ?_)
    cases hk : isKB n L s with
    | false => exact Ev.no (by simp) (Ev.id (by simp))
    | true =>
      unfold isKB at hk
      rw [Bool.and_eq_true, decide_eq_true_eq] at hk
      have := spec_keOpens.lev L (pinsB_rows9 h) s hk.1 a2.2 L.length 0 (by omega)
      refine Ev.yes rfl (Ev.bind this (Ev.id ?_))
      unfold opensB
      rw [List.range_eq_range']; simp
theorem impl_IsKey.ev (n : Int) (L : List (List Int)) (s : ByteArray) : Ev (fun k => impl_IsKey.f k n L s) (pinsB n L && isKB n L s, pinsB n L) := by
  unfold impl_IsKey.f impl_ArePins.f
  refine Ev.bindc rfl ?_
  cases h : pinsB n L with
  | false => exact Ev.no (by simp) (Ev.id (by simp))
  | true =>
    obtain ⟨a1, a2, a3⟩ := pinsB_parts h
    exact Ev.yes rfl (Ev.bind (impl_Pins_isKey.ev n a1.1 a1.2 L a2 s) (Ev.id (by simp)))
theorem spec_IsKey.ev (n : Int) (L : List (List Int)) (hl : RowsV L) (s : ByteArray) : Ev (fun k => spec_IsKey.f k n L s) (pinsB n L && isKB n L s, pinsB n L) := by
  unfold spec_IsKey.f
  refine Ev.bind (spec_keGood.ev n L hl) ?_
  cases h : pinsB n L with
  | false => exact Ev.no (by simp) (Ev.id (by simp))
  | true =>
    obtain ⟨a1, a2, a3⟩ := pinsB_parts h
    exact Ev.yes rfl (Ev.bindc (spec_keIs.is n a1.1 a1.2 L a2 s) (Ev.id (by simp)))
def ctV (n : Int) (L : List (List Int)) : Int := if pinsB n L = true then (prodK L : Int) else 0
theorem impl_CountKeys.ev (n : Int) (L : List (List Int)) (hl : RowsV L) : Ev (fun k => impl_CountKeys.f k n L) (ctV n L, pinsB n L) := by
  unfold impl_CountKeys.f impl_ArePins.f ctV
  refine Ev.bindc rfl ?_
  cases h : pinsB n L with
  | false => exact Ev.no (by simp) (Ev.id (by simp))
  | true =>
    refine Ev.yes rfl (Ev.bind (impl_Pins_keys.ev n L hl.1) (Ev.id ?_))
    rw [keysF_is (pinsB_Short h), if_pos rfl]
theorem spec_CountKeys.ev (n : Int) (L : List (List Int)) (hl : RowsV L) : Ev (fun k => spec_CountKeys.f k n L) (ctV n L, pinsB n L) := by
  unfold spec_CountKeys.f ctV
  refine Ev.bind (spec_keGood.ev n L hl) ?_
  cases h : pinsB n L with
  | false => exact Ev.no (by simp) (Ev.id (by simp))
  | true =>
    refine Ev.yes rfl (Ev.bind (spec_keCount.ev n L hl.1) (Ev.id ?_))
    rw [keysF_is (pinsB_Short h), if_pos rfl]
theorem spec_ArePins.ev (n : Int) (L : List (List Int)) (hl : RowsV L) : Ev (fun k => spec_ArePins.f k n L) (pinsB n L) := by
  unfold spec_ArePins.f
  exact Ev.bind (spec_keGood.ev n L hl) (Ev.now _)
/-! Keys as texts and as rows of numbers: which are keys of pins, and their order. -/
theorem bytesEqK {a b : ByteArray} (h : a.toList = b.toList) : a = b := by
  rw [ByteArray.toList_eq, ByteArray.toList_eq] at h
  exact ByteArray.ext (Array.toList_inj.mp h)
def atR (L : List (List Int)) (i : Nat) (d : Int) : Bool := (L.getD i []).contains d
theorem opT_shift (A : Nat → Int → Bool) : ∀ (x : List Int) (i : Nat), opT A (i + 1) x = opT (fun i => A (i + 1)) i x := by
  intro x
  induction x with
  | nil => intro i; rfl
  | cons d x ih =>
    intro i
    show (A (i + 1) d && opT A (i + 1 + 1) x) = (A (i + 1) d && opT (fun i => A (i + 1)) (i + 1) x)
    rw [ih (i + 1)]
theorem tupK_mem : ∀ (L : List (List Int)) (x : List Int), x ∈ tupK L ↔ x.length = L.length ∧ opT (atR L) 0 x = true := by
  intro L
  induction L with
  | nil =>
    intro x
    show x ∈ [[]] ↔ _
    rw [List.mem_singleton]
    constructor
    · rintro rfl; exact ⟨rfl, rfl⟩
    · intro h; exact List.eq_nil_of_length_eq_zero h.1
  | cons r t ih =>
    intro x
    show x ∈ (r.flatMap fun d => (tupK t).map fun x => d :: x) ↔ _
    rw [List.mem_flatMap]
    have hsh : (fun i => atR (r :: t) (i + 1)) = atR t := by funext i d; simp [atR]
    constructor
    · rintro ⟨d, hd, hx⟩
      obtain ⟨y, hy, rfl⟩ := List.mem_map.mp hx
      obtain ⟨h1, h2⟩ := (ih y).mp hy
      refine ⟨by rw [List.length_cons, List.length_cons, h1], ?_⟩
      show (atR (r :: t) 0 d && opT (atR (r :: t)) (0 + 1) y) = true
      rw [opT_shift, hsh, h2, Bool.and_true]
      exact List.contains_iff_mem.mpr hd
    · rintro ⟨h1, h2⟩
      cases x with
      | nil => simp at h1
      | cons d y =>
        have h3 : (atR (r :: t) 0 d && opT (atR (r :: t)) (0 + 1) y) = true := h2
        rw [opT_shift, hsh, Bool.and_eq_true] at h3
        refine ⟨d, List.contains_iff_mem.mp h3.1, List.mem_map.mpr ⟨y, (ih y).mpr ⟨?_, h3.2⟩, rfl⟩⟩
        simpa using h1
theorem opT_get (A : Nat → Int → Bool) : ∀ (x : List Int) (i : Nat), opT A i x = (List.range x.length).all fun j => A (i + j) (x.getD j 0) := by
  intro x
  induction x with
  | nil => intro i; rfl
  | cons d x ih =>
    intro i
    show (A i d && opT A (i + 1) x) = _
    rw [ih (i + 1), List.length_cons, List.range_succ_eq_map, List.all_cons, List.all_map]
    congr 1
    congr 1
    funext j
    show A (i + 1 + j) _ = A (i + (j + 1)) _
    rw [show i + 1 + j = i + (j + 1) by omega]; rfl
theorem tupK_dig {L : List (List Int)} (hS : Short L) {x : List Int} (hx : x ∈ tupK L) : ∀ d ∈ x, 0 ≤ d ∧ d < 10 := by
  obtain ⟨h1, h2⟩ := (tupK_mem L x).mp hx
  intro d hd
  obtain ⟨j, hj, rfl⟩ := List.getElem_of_mem hd
  rw [opT_get, List.all_eq_true] at h2
  have h3 := h2 j (List.mem_range.mpr hj)
  rw [Nat.zero_add, show x.getD j 0 = x[j] from getD_at hj] at h3
  unfold atR at h3
  have hjl : j < L.length := by omega
  rw [show L.getD j [] = L[j] from getD_at hjl] at h3
  exact (hS.2 L[j] (List.getElem_mem hjl)).2 _ (List.contains_iff_mem.mp h3)
theorem txK_text : ∀ (x a : List Int), txK (textB a) x = textB (a ++ x) := by
  intro x
  induction x with
  | nil => intro a; rw [List.append_nil]; rfl
  | cons d x ih =>
    intro a
    show txK (textB a ++ dT d) x = _
    rw [show textB a ++ dT d = textB (a ++ [d]) from (textB_app a d).symm, ih, List.append_assoc]; rfl
theorem extK_text (L : List (List Int)) : extK L ⟨#[]⟩ = (tupK L).map textB := by
  rw [extK_tup]
  congr 1
  funext x
  exact txK_text x []
theorem opensB_text {L : List (List Int)} {x : List Int} (hl : x.length = L.length) (hx : ∀ d ∈ x, 0 ≤ d ∧ d < 10) : opensB L (textB x) = opT (atR L) 0 x := by
  rw [opT_get]
  unfold opensB
  rw [hl, Bool.eq_iff_iff, List.all_eq_true, List.all_eq_true]
  have e : ∀ j ∈ List.range L.length, ((L.getD j []).contains (bt (textB x) (j : Nat) - 48)) = atR L (0 + j) (x.getD j 0) := by
    intro j hj
    have hjx : j < x.length := by rw [hl]; exact List.mem_range.mp hj
    rw [bt_textB hx hjx, Nat.zero_add, show x.getD j 0 = x[j] from getD_at hjx]
    unfold atR
    rw [show 48 + x[j] - 48 = x[j] by omega]
  exact ⟨fun h j hj => by rw [← e j hj]; exact h j hj, fun h j hj => by rw [e j hj]; exact h j hj⟩
/-- A text of digits is the text of its digits. -/
theorem text_dgK {s : ByteArray} (h : ∀ i < s.size, 48 ≤ bt s (i : Nat) ∧ bt s (i : Nat) ≤ 57) : textB (dgK s) = s := by
  have hd : ∀ d ∈ dgK s, 0 ≤ d ∧ d < 10 := by
    intro d hd
    obtain ⟨j, hj, rfl⟩ := List.getElem_of_mem hd
    rw [dgK_at]
    have := h j (by rw [← dgK_len]; exact hj)
    omega
  apply ByteArray.ext
  apply Array.toList_inj.mp
  rw [textB_bytes hd]
  apply List.ext_getElem
  · rw [List.length_map, dgK_len]; rfl
  · intro i h1 h2
    have hi : i < s.size := by rw [List.length_map, dgK_len] at h1; exact h1
    have hb := h i hi
    have e := bt_nat hi
    rw [List.getElem_map, dgK_at]
    apply UInt8.toNat_inj.mp
    have hn : (s.data.toList[i]'h2).toNat = (s[i]'hi).toNat := rfl
    rw [hn, UInt8.toNat_ofNat']
    omega
theorem textB_inj {x y : List Int} (hx : ∀ d ∈ x, 0 ≤ d ∧ d < 10) (hy : ∀ d ∈ y, 0 ≤ d ∧ d < 10) (h : textB x = textB y) : x = y := by
  have hl : x.length = y.length := by rw [← textB_size x, h, textB_size]
  apply List.ext_getElem hl
  intro i h1 h2
  have e1 := bt_textB hx h1
  rw [h, bt_textB hy h2] at e1
  omega
/-- Whether a key is among all of them. -/
theorem extK_has {n : Int} {L : List (List Int)} (hp : pinsB n L = true) {s : ByteArray} (hk : isKB n L s = true) : ((extK L ⟨#[]⟩).any fun x => decide (x.toList = s.toList)) = opensB L s := by
  have hS := pinsB_Short hp
  obtain ⟨a1, _, _⟩ := pinsB_parts hp
  unfold isKB at hk
  rw [Bool.and_eq_true, decide_eq_true_eq] at hk
  have hb : ∀ i < s.size, 48 ≤ bt s (i : Nat) ∧ bt s (i : Nat) ≤ 57 := fun i hi => by have := keyB_at hk.2 hi; omega
  have ht := text_dgK hb
  have hd : ∀ d ∈ dgK s, 0 ≤ d ∧ d < 10 := by
    intro d hd
    obtain ⟨j, hj, rfl⟩ := List.getElem_of_mem hd
    rw [dgK_at]
    have := hb j (by rw [← dgK_len]; exact hj)
    omega
  have ho := opensB_text (L := L) (x := dgK s) (by rw [dgK_len, hk.1]) hd
  rw [ht] at ho
  rw [ho, Bool.eq_iff_iff, List.any_eq_true, extK_text]
  constructor
  · rintro ⟨y, hy, e⟩
    obtain ⟨x, hx, rfl⟩ := List.mem_map.mp hy
    have e2 := bytesEqK (of_decide_eq_true e)
    rw [← ht] at e2
    have := textB_inj (tupK_dig hS hx) hd e2
    rw [← this]
    exact ((tupK_mem L x).mp hx).2
  · intro h
    exact ⟨textB (dgK s), List.mem_map.mpr ⟨dgK s, (tupK_mem L _).mpr ⟨by rw [dgK_len, hk.1], h⟩, rfl⟩, decide_eq_true (by rw [ht])⟩
/-! Their order. -/
theorem less_cons {a b : UInt8} {x y : List UInt8} (h : a < b ∨ (a = b ∧ Op.bytesLess x y = true)) : Op.bytesLess (a :: x) (b :: y) = true := by
  simp only [Op.bytesLess]
  rcases h with h | ⟨rfl, h⟩
  · simp [h]
  · simp [h]
def byK (d : Int) : UInt8 := UInt8.ofNat (48 + d.toNat)
theorem byK_lt {a b : Int} (ha : 0 ≤ a ∧ a < 10) (hb : 0 ≤ b ∧ b < 10) (h : a < b) : byK a < byK b := by
  rw [UInt8.lt_iff_toNat_lt]
  unfold byK
  rw [UInt8.toNat_ofNat', UInt8.toNat_ofNat']
  omega
theorem tupK_rises : ∀ (L : List (List Int)), (∀ r ∈ L, r.Pairwise (· < ·) ∧ ∀ d ∈ r, 0 ≤ d ∧ d < 10) → (tupK L).Pairwise fun x y => Op.bytesLess (x.map byK) (y.map byK) = true := by
  intro L
  induction L with
  | nil => intro _; exact List.pairwise_singleton _ _
  | cons r t ih =>
    intro h
    obtain ⟨hr, hd⟩ := h r List.mem_cons_self
    have iht := ih (fun q hq => h q (List.mem_cons_of_mem _ hq))
    show (r.flatMap fun d => (tupK t).map fun x => d :: x).Pairwise _
    rw [List.pairwise_flatMap]
    refine ⟨fun d _ => ?_, ?_⟩
    · rw [List.pairwise_map]
      exact iht.imp (fun hxy => less_cons (Or.inr ⟨rfl, hxy⟩))
    · refine List.Pairwise.imp_of_mem ?_ hr
      intro a b ha hb hab x hx y hy
      obtain ⟨x', _, rfl⟩ := List.mem_map.mp hx
      obtain ⟨y', _, rfl⟩ := List.mem_map.mp hy
      exact less_cons (Or.inl (byK_lt (hd a ha) (hd b hb) hab))
theorem risF_pair {n : Int} : ∀ (l : List Int) (q : Int), risF n q l = true → l.Pairwise (· < ·) := by
  intro l
  induction l with
  | nil => intro q _; exact List.Pairwise.nil
  | cons a l ih =>
    intro q h
    unfold risF at h
    rw [Bool.and_eq_true, Bool.and_eq_true] at h
    refine List.Pairwise.cons (fun b hb => ?_) (ih a h.2)
    exact (risF_mem h.2 b hb).1
theorem extK_rises {n : Int} {L : List (List Int)} (hp : pinsB n L = true) (i j : Nat) (hi : i < (extK L ⟨#[]⟩).length) (hj : j < (extK L ⟨#[]⟩).length) (hij : i < j) : Op.bytesLess (extK L ⟨#[]⟩)[i].toList (extK L ⟨#[]⟩)[j].toList = true := by
  have hS := pinsB_Short hp
  obtain ⟨_, _, a3⟩ := pinsB_parts hp
  have h := tupK_rises L (fun r hr => by
    refine ⟨?_, (hS.2 r hr).2⟩
    have := a3 r hr
    unfold rowB at this
    rw [Bool.and_eq_true] at this
    exact risF_pair r _ this.2)
  rw [List.pairwise_iff_getElem] at h
  have hlen : (extK L ⟨#[]⟩).length = (tupK L).length := by rw [extK_text, List.length_map]
  have e : ∀ (k : Nat) (hk : k < (extK L ⟨#[]⟩).length), (extK L ⟨#[]⟩)[k].toList = ((tupK L)[k]'(by omega)).map byK := by
    intro k hk
    have hx := tupK_dig hS (List.getElem_mem (show k < (tupK L).length by omega))
    have hk2 : (extK L ⟨#[]⟩)[k] = textB ((tupK L)[k]'(by omega)) := by
      simp only [extK_text, List.getElem_map]
    rw [hk2, ByteArray.toList_eq, textB_bytes hx]
    rfl
  rw [e i hi, e j hj]
  exact h i j (by omega) (by omega) hij
/-! Declarations moved out of LFnExactAllKeys. -/
def totL (l : List (List Int)) : Nat := l.foldr (fun r n => r.length + n) 0
theorem totL_le (c : Nat) : ∀ l : List (List Int), (∀ r ∈ l, r.length ≤ c) → totL l ≤ l.length * c := by
  intro l
  induction l with
  | nil => intro _; exact Nat.zero_le _
  | cons r t ih =>
    intro h
    have h1 := ih (fun q hq => h q (List.mem_cons_of_mem _ hq))
    have h2 := h r List.mem_cons_self
    show r.length + totL t ≤ (t.length + 1) * c
    rw [Nat.succ_mul]
    omega
/-! Declarations moved out of LFnExactMasterOf. -/
def moV (L : List S24) : Int × List (List Int) × Bool := if kindB L = true then ((rd_T24 L 0).f0, rowsOf (rd_T24 L 0).f0.toNat (rd_T24 L 0).f1.length (inB false L), true) else (0, [], false)
theorem moV_small (L : List S24) (hv2 : ∀ p ∈ L, RowsV p.f1) : (moV L).2.1.length ≤ 7 ∧ totL (moV L).2.1 ≤ 63 ∧ RowsV (moV L).2.1 := by
  unfold moV
  by_cases h : kindB L = true
  · rw [if_pos h]
    obtain ⟨n, m, hkl, hne, h6⟩ := kindB_KindL h hv2
    obtain ⟨h0, h1, _⟩ := hkl.2.2 L[0] (List.getElem_mem hne)
    have hq : rd_T24 L 0 = L[0] := rd_pins hne
    have hn0 : L[0].f0.toNat = n := by omega
    rw [hq, hn0, h1]
    have hl : (rowsOf n m (inB false L)).length ≤ 7 := by rw [rowsOf_len]; exact hkl.2.1
    refine ⟨hl, Nat.le_trans (totL_le 9 _ (fun r hr => ?_)) (Nat.mul_le_mul_right 9 hl), rowsOf_v n m (by have := hkl.1; omega) (by have := hkl.2.1; omega) _⟩
    unfold rowsOf at hr
    obtain ⟨i, _, rfl⟩ := List.mem_map.mp hr
    exact Nat.le_trans (filter_len_le _ _) (by rw [rngFrom_len]; exact hkl.1)
  · rw [if_neg h]
    exact ⟨by decide, by decide, ⟨by decide, fun r hr => by cases hr⟩⟩
theorem MasterOf.both (L : List S24) (hl2 : L.length ≤ 9223372036854775807) (hv2 : ∀ p ∈ L, RowsV p.f1) : Ev (fun k => spec_MasterOf.f k L) (moV L) ∧ Ev (fun k => impl_MasterOf.f k L) (moV L) := by
  unfold spec_MasterOf.f impl_MasterOf.f impl_ofKind.f moV
  cases hk : kindB L with
  | false =>
    refine ⟨Ev.bind (spec_keList.ev L hl2 hv2) (Ev.no (by rw [hk]; simp) (Ev.id (by simp))), Ev.bindc rfl (Ev.no (by simp) (Ev.id (by simp)))⟩
  | true =>
    obtain ⟨n, m, hkl, hne, h6⟩ := kindB_KindL hk hv2
    obtain ⟨h0, h1, _⟩ := hkl.2.2 L[0] (List.getElem_mem hne)
    have hq : rd_T24 L 0 = L[0] := rd_pins hne
    have hn0 : L[0].f0.toNat = n := by omega
    rw [hq, hn0, h1, h0, if_pos rfl]
    exact ⟨Ev.bind (spec_keList.ev L hl2 hv2) (Ev.yes hk (Ev.bind (spec_keJoined.ev false n m L hne hkl) (Ev.now _))), Ev.bindc rfl (Ev.yes rfl (Ev.bind (impl_master.ev L n m hne hkl (by omega)) (Ev.now _)))⟩
/-! Declarations moved out of LFnExactMasterPins. -/
def masB (n : Int) (x : List (List Int)) (m : Int) (y : List (List Int)) : Bool := pinsB n x && (pinsB m y && ((n == m) && (x.length == y.length)))
def masV (n : Int) (x : List (List Int)) (m : Int) (y : List (List Int)) : Int × List (List Int) × Bool := if masB n x m y = true then (n, joinRows false n.toNat x y, true) else (0, [], false)
theorem masB_parts {n m : Int} {x y : List (List Int)} (h : masB n x m y = true) : pinsB n x = true ∧ pinsB m y = true ∧ n = m ∧ x.length = y.length := by
  unfold masB at h
  rw [Bool.and_eq_true, Bool.and_eq_true, Bool.and_eq_true, beq_iff_eq, beq_iff_eq] at h
  exact ⟨h.1, h.2.1, h.2.2.1, h.2.2.2⟩
theorem kindB_two (n m : Int) (x y : List (List Int)) : kindB [(⟨n, x⟩ : S24), (⟨m, y⟩ : S24)] = masB n x m y := by
  have hq : rd_T24 [(⟨n, x⟩ : S24), (⟨m, y⟩ : S24)] 0 = ⟨n, x⟩ := rd_pins (by decide : 0 < 2)
  unfold kindB masB
  rw [hq]
  simp only [List.length_cons, List.length_nil, List.all_cons, List.all_nil]
  rw [Bool.eq_iff_iff]
  simp only [Bool.and_eq_true, decide_eq_true_eq, beq_iff_eq]
  constructor
  · rintro ⟨_, ⟨⟨h1, _⟩, _⟩, ⟨⟨h2, h3⟩, h4⟩, _⟩
    exact ⟨h1, h2, h3.symm, h4.symm⟩
  · rintro ⟨h1, h2, h3, h4⟩
    exact ⟨by omega, ⟨⟨h1, trivial⟩, trivial⟩, ⟨⟨h2, h3.symm⟩, h4.symm⟩, trivial⟩
theorem joinRows_two (n : Nat) (a b : Int) (x y : List (List Int)) : rowsOf n x.length (inB false [(⟨a, x⟩ : S24), (⟨b, y⟩ : S24)]) = joinRows false n x y := by
  rw [joinRows_is]
  apply rowsOf_congr
  intro i _ d _
  rw [joinT_in]
  simp [inB]
theorem masV_small (n m : Int) (x y : List (List Int)) : (masV n x m y).2.1.length ≤ 7 ∧ totL (masV n x m y).2.1 ≤ 63 ∧ RowsV (masV n x m y).2.1 := by
  unfold masV
  by_cases h : masB n x m y = true
  · rw [if_pos h]
    obtain ⟨h1, _, _, _⟩ := masB_parts h
    obtain ⟨a1, a2, _⟩ := pinsB_parts h1
    have hl : (joinRows false n.toNat x y).length ≤ 7 := by rw [joinRows_is, rowsOf_len]; exact a2.2
    refine ⟨hl, ?_, ?_⟩
    · refine Nat.le_trans (totL_le 9 _ ?_) (Nat.mul_le_mul_right 9 hl)
      intro r hr
      unfold joinRows at hr
      obtain ⟨i, _, rfl⟩ := List.mem_map.mp hr
      refine Nat.le_trans (filter_len_le _ _) ?_
      rw [rngFrom_len]
      omega
    · exact rowsOf_v n.toNat x.length (by omega) (by omega) _
  · rw [if_neg h]
    exact ⟨by decide, by decide, ⟨by decide, fun r hr => by cases hr⟩⟩
theorem spec_MasterPins.ev (n m : Int) (x y : List (List Int)) (hx : RowsV x) (hy : RowsV y) : Ev (fun k => spec_MasterPins.f k n x m y) (masV n x m y) := by
  unfold spec_MasterPins.f masV
  refine Ev.bind (spec_keGood.ev n x hx) ?_
  cases h1 : pinsB n x with
  | false => exact Ev.no (by simp) (Ev.id (by unfold masB; rw [h1]; rfl))
  | true =>
    refine Ev.yes rfl (Ev.bind (spec_keGood.ev m y hy) ?_)
    cases h2 : pinsB m y with
    | false => exact Ev.no (by simp) (Ev.id (by unfold masB; rw [h1, h2]; rfl))
    | true =>
      refine Ev.yes rfl (Ev.bindc (spec_keKind.is n x m y) ?_)
      cases h3 : ((n == m) && (x.length == y.length)) with
      | false => exact Ev.no (by simp) (Ev.id (by unfold masB; rw [h1, h2, h3]; rfl))
      | true =>
        have hb : masB n x m y = true := by unfold masB; rw [h1, h2, h3]; rfl
        obtain ⟨_, _, e1, e2⟩ := masB_parts hb
        obtain ⟨a1, a2, _⟩ := pinsB_parts h1
        have hj := spec_keJoin.ev false n.toNat (by omega) x y m (by omega) (by omega) hx hy
        rw [show ((n.toNat : Nat) : Int) = n by omega] at hj
        refine Ev.yes rfl (Ev.bind hj (Ev.id ?_))
        rw [if_pos hb]
theorem impl_MasterPins.ev (n m : Int) (x y : List (List Int)) (hx : RowsV x) (hy : RowsV y) : Ev (fun k => impl_MasterPins.f k n x m y) (masV n x m y) := by
  unfold impl_MasterPins.f impl_MasterOf.f impl_ofKind.f masV
  have hv : ∀ p ∈ [(⟨n, x⟩ : S24), (⟨m, y⟩ : S24)], RowsV p.f1 := by
    intro p hp
    rcases List.mem_cons.mp hp with rfl | hp
    · exact hx
    · rcases List.mem_cons.mp hp with rfl | hp
      · exact hy
      · cases hp
  refine Ev.bindc rfl ?_
  rw [kindB_two]
  cases hb : masB n x m y with
  | false => exact Ev.no (by simp) (Ev.id (by simp))
  | true =>
    obtain ⟨h1, h2, e1, e2⟩ := masB_parts hb
    obtain ⟨a1, a2, _⟩ := pinsB_parts h1
    have hk : KindL n.toNat x.length [(⟨n, x⟩ : S24), (⟨m, y⟩ : S24)] := by
      refine ⟨by omega, a2.2, fun p hp => ?_⟩
      rcases List.mem_cons.mp hp with rfl | hp
      · exact ⟨by show n = _; omega, rfl, hx⟩
      · rcases List.mem_cons.mp hp with rfl | hp
        · exact ⟨by show m = _; omega, e2.symm, hy⟩
        · cases hp
    have hj := impl_master.ev _ n.toNat x.length (by show 0 < 2; omega) hk (by show 2 ≤ 1000; omega)
    rw [joinRows_two] at hj
    rw [show ((n.toNat : Nat) : Int) = n by omega] at hj
    refine Ev.yes rfl (Ev.bind hj (Ev.id ?_))
    rw [if_pos rfl]
/-! What KeysOpenOfAll asks of lists of pins: masters, ghosts, shared keys. -/
def csV (L : List S24) : Int := if kindB L = true then keysF (rowsOf (rd_T24 L 0).f0.toNat (rd_T24 L 0).f1.length (inB true L)) else 0
theorem CountShared.both (L : List S24) (hl2 : L.length ≤ 9223372036854775807) (hv2 : ∀ p ∈ L, RowsV p.f1) : Ev (fun k => spec_CountShared.f k L) (csV L, kindB L) ∧ Ev (fun k => impl_CountShared.f k L) (csV L, kindB L) := by
  unfold spec_CountShared.f impl_CountShared.f impl_ofKind.f csV
  cases hk : kindB L with
  | false =>
    refine ⟨Ev.bind (spec_keList.ev L hl2 hv2) (Ev.no (by rw [hk]; simp) (Ev.id (by simp))), Ev.bindc rfl (Ev.no (by simp) (Ev.id (by simp)))⟩
  | true =>
    obtain ⟨n, m, hkl, hne, h6⟩ := kindB_KindL hk hv2
    obtain ⟨h0, h1, _⟩ := hkl.2.2 L[0] (List.getElem_mem hne)
    have hq : rd_T24 L 0 = L[0] := rd_pins hne
    have hn0 : L[0].f0.toNat = n := by omega
    have hlen : (rowsOf n m (inB true L)).length ≤ 9223372036854775807 := by rw [rowsOf_len]; have := hkl.2.1; omega
    rw [hq, hn0, h1, if_pos rfl]
    exact ⟨Ev.bind (spec_keList.ev L hl2 hv2) (Ev.yes hk (Ev.bind (spec_keJoined.ev true n m L hne hkl) (Ev.bind (spec_keCount.ev _ _ hlen) (Ev.now _)))), Ev.bindc rfl (Ev.yes rfl (Ev.bind (impl_shared.ev L n m hne hkl (by omega)) (Ev.bind (impl_Pins_keys.ev _ _ hlen) (Ev.now _))))⟩
theorem extK_len2 (L : List (List Int)) : (extK L ⟨#[]⟩).length = prodK L := extK_len L _
/-- What is known of a list of one kind. -/
theorem kind_known {L : List S24} (hv2 : ∀ p ∈ L, RowsV p.f1) (hk : kindB L = true) : ∃ n m : Nat, KindL n m L ∧ 0 < L.length ∧ L.length ≤ 6 ∧ (∀ p ∈ L, pinsB p.f0 p.f1 = true) ∧ (moV L).1 = (n : Int) ∧ (moV L).2.1 = rowsOf n m (inB false L) ∧ csV L = (prodK (rowsOf n m (inB true L)) : Int) ∧ (ghostV L).1 = (((tupK (rowsOf n m (inB false L))).countP fun x => L.all fun p => !opP p x : Nat) : Int) ∧ (shV L).2 = decide (csV L ≤ 200) := by
  obtain ⟨n, m, hkl, hne, h6⟩ := kindB_KindL hk hv2
  obtain ⟨h0, h1, _⟩ := hkl.2.2 L[0] (List.getElem_mem hne)
  have hq : rd_T24 L 0 = L[0] := rd_pins hne
  have hn0 : L[0].f0.toNat = n := by omega
  have hS := rowsOf_short n m hkl.1 hkl.2.1 (inB true L)
  refine ⟨n, m, hkl, hne, h6, fun p hp => ((kindB_parts hk).2 p hp).1, ?_, ?_, ?_, ?_, ?_⟩
  · unfold moV; rw [if_pos hk, hq, h0]
  · unfold moV; rw [if_pos hk, hq, hn0, h1]
  · unfold csV; rw [if_pos hk, hq, hn0, h1, keysF_is hS]
  · unfold ghostV
    rw [if_pos hk, hq, hn0, h1]
    exact ghosts_count n m hkl.1 hkl.2.1 L h6
  · unfold shV csV
    rw [if_pos hk, if_pos hk, hq, hn0, h1, keysF_is hS]
    by_cases h2 : prodK (rowsOf n m (inB true L)) ≤ 200
    · rw [if_pos h2, decide_eq_true (by omega)]
    · rw [if_neg h2, decide_eq_false (by omega)]
theorem kind_not {L : List S24} (hk : kindB L = false) : (moV L).2.2 = false ∧ (ghostV L).2 = false ∧ (shV L).2 = false := by
  have hn : ¬ kindB L = true := by rw [hk]; simp
  unfold moV ghostV shV
  rw [if_neg hn, if_neg hn, if_neg hn]
  exact ⟨rfl, rfl, rfl⟩
theorem kind_yes {L : List S24} (hk : kindB L = true) : (moV L).2.2 = true ∧ (ghostV L).2 = true := by
  unfold moV ghostV
  rw [if_pos hk, if_pos hk]
  exact ⟨rfl, rfl⟩
theorem risF_of {n : Int} : ∀ (l : List Int) (q : Int), l.Pairwise (· < ·) → (∀ x ∈ l, q < x ∧ x ≤ n - 1) → risF n q l = true := by
  intro l
  induction l with
  | nil => intro q _ _; rfl
  | cons a l ih =>
    intro q hp h
    unfold risF
    have ha := h a List.mem_cons_self
    rw [decide_eq_true ha.1, decide_eq_true ha.2, Bool.true_and, Bool.true_and]
    rw [List.pairwise_cons] at hp
    exact ih a hp.2 (fun x hx => ⟨hp.1 x hx, (h x (List.mem_cons_of_mem _ hx)).2⟩)
theorem rngFrom_pair (s m : Nat) : (rngFrom s m).Pairwise (· < ·) := by
  unfold rngFrom
  rw [List.pairwise_map]
  exact (List.pairwise_lt_range' (s := s) (n := m)).imp (fun h => by omega)
theorem rngFrom_has {n : Nat} {d : Int} (h0 : 0 ≤ d) (h : d < n) : d ∈ rngFrom 0 n := by
  unfold rngFrom
  exact List.mem_map.mpr ⟨d.toNat, List.mem_range'_1.mpr ⟨Nat.zero_le _, by omega⟩, by omega⟩
theorem prodK_pos : ∀ (l : List (List Int)), (∀ r ∈ l, 0 < r.length) → 0 < prodK l := by
  intro l
  induction l with
  | nil => intro _; show 0 < 1; decide
  | cons r t ih =>
    intro h
    exact Nat.mul_pos (h r List.mem_cons_self) (ih (fun q hq => h q (List.mem_cons_of_mem _ hq)))
/-- A row of what is joined holds the first depth of the first pins' row. -/
theorem row_pos {n m : Nat} {L : List S24} (f : Nat → Int → Bool) (hkl : KindL n m L) (hne : 0 < L.length) (hp : pinsB L[0].f0 L[0].f1 = true) (hf : ∀ i < m, ∀ d, (L[0].f1.getD i []).contains d = true → f i d = true) : ∀ r ∈ rowsOf n m f, 0 < r.length := by
  intro r hr
  unfold rowsOf at hr
  obtain ⟨i, hi, rfl⟩ := List.mem_map.mp hr
  rw [List.mem_range'_1] at hi
  obtain ⟨h0, h1, _⟩ := hkl.2.2 L[0] (List.getElem_mem hne)
  obtain ⟨a1, a2, a3⟩ := pinsB_parts hp
  have hil : i < L[0].f1.length := by omega
  have hrow := a3 L[0].f1[i] (List.getElem_mem hil)
  have hl := (rowB_len (by omega) hrow).1
  have hd := rowB_mem hrow (L[0].f1[i][0]) (List.getElem_mem hl)
  have hc : (L[0].f1.getD i []).contains (L[0].f1[i][0]) = true := by
    rw [show L[0].f1.getD i [] = L[0].f1[i] from getD_at hil]
    exact List.contains_iff_mem.mpr (List.getElem_mem hl)
  exact List.length_pos_of_mem (List.mem_filter.mpr ⟨rngFrom_has hd.1 (by omega), hf i (by omega) _ hc⟩)
theorem inB_first {L : List S24} (hne : 0 < L.length) (i : Nat) (d : Int) (h : (L[0].f1.getD i []).contains d = true) : inB false L i d = true := by
  unfold inB
  rw [if_neg (by simp), List.any_eq_true]
  exact ⟨L[0], List.getElem_mem hne, h⟩
theorem inB_one (q : S24) (i : Nat) (d : Int) (h : (q.f1.getD i []).contains d = true) : inB true [q] i d = true := by
  unfold inB
  rw [if_pos rfl, List.all_cons, h]; rfl
theorem pinsB_master {n m : Nat} {L : List S24} (hkl : KindL n m L) (hne : 0 < L.length) (hp : pinsB L[0].f0 L[0].f1 = true) : pinsB (n : Int) (rowsOf n m (inB false L)) = true := by
  obtain ⟨h0, h1, _⟩ := hkl.2.2 L[0] (List.getElem_mem hne)
  obtain ⟨a1, a2, a3⟩ := pinsB_parts hp
  have hpos := row_pos (inB false L) hkl hne hp (fun i _ d h => inB_first hne i d h)
  unfold pinsB
  rw [decide_eq_true (by omega), rowsOf_len, decide_eq_true (by omega), Bool.true_and, Bool.true_and, List.all_eq_true]
  intro r hr
  have h2 := hpos r hr
  unfold rowsOf at hr
  obtain ⟨i, _, rfl⟩ := List.mem_map.mp hr
  unfold rowB
  rw [Bool.and_eq_true]
  refine ⟨?_, risF_of _ _ ((rngFrom_pair 0 n).filter _) (fun x hx => ?_)⟩
  · cases hl : (rngFrom 0 n).filter (inB false L i) with
    | nil => rw [hl] at h2; exact absurd h2 (by simp)
    | cons a t => rfl
  · have := rngFrom_mem (List.mem_filter.mp hx).1
    omega
/-- The keys of a list's master, opened or not by each. -/
theorem key_opens {n m : Nat} {L : List S24} (hkl : KindL n m L) (hb : ∀ p ∈ L, pinsB p.f0 p.f1 = true) {f : Nat → Int → Bool} {x : List Int} (hx : x ∈ tupK (rowsOf n m f)) {q : S24} (hq : q ∈ L) : opV q.f0 q.f1 (textB x) = (opP q x, true) := by
  obtain ⟨h0, h1, _⟩ := hkl.2.2 q hq
  have hp := hb q hq
  obtain ⟨a1, a2, a3⟩ := pinsB_parts hp
  have hS := rowsOf_short n m hkl.1 hkl.2.1 f
  have hd := tupK_dig hS hx
  obtain ⟨t1, t2⟩ := (tupK_mem _ x).mp hx
  rw [rowsOf_len] at t1
  have hk : isKB q.f0 q.f1 (textB x) = true := by
    unfold isKB keyB
    rw [Bool.and_eq_true, decide_eq_true_eq, List.all_eq_true, textB_size, t1, h1]
    refine ⟨rfl, fun i hi => decide_eq_true ?_⟩
    rw [List.mem_range] at hi
    have hix : i < x.length := by omega
    rw [bt_textB hd hix]
    rw [opT_get, List.all_eq_true] at t2
    have h3 := t2 i (List.mem_range.mpr hix)
    rw [Nat.zero_add, show x.getD i 0 = x[i] from getD_at hix] at h3
    unfold atR at h3
    rw [rowsOf_get n m f i hi, List.contains_iff_mem] at h3
    have := rngFrom_mem (List.mem_filter.mp h3).1
    omega
  unfold opV
  rw [hp, hk, Bool.true_and, Bool.true_and, opensB_text (by rw [t1, h1]) hd]
  rfl
/-! Joining two pins, one way and the other. -/
theorem joinT_sym (r s : List Int) (d : Int) : joinT false r s d = joinT false s r d := by
  unfold joinT
  cases r.contains d <;> cases s.contains d <;> rfl
theorem joinRows_sym (n : Nat) (x y : List (List Int)) (h : x.length = y.length) : joinRows false n x y = joinRows false n y x := by
  rw [joinRows_is, joinRows_is, h]
  apply rowsOf_congr
  intro i _ d _
  exact joinT_sym _ _ _
theorem masV_sym {n m : Int} {x y : List (List Int)} (h : (masV n x m y).2.2 = true) : masV m y n x = masV n x m y := by
  have hb : masB n x m y = true := by
    by_cases hb : masB n x m y = true
    · exact hb
    · unfold masV at h; rw [if_neg hb] at h; cases h
  obtain ⟨h1, h2, h3, h4⟩ := masB_parts hb
  have hb2 : masB m y n x = true := by
    unfold masB
    rw [h1, h2, h3, h4]; simp
  unfold masV
  rw [if_pos hb, if_pos hb2, h3, joinRows_sym _ _ _ h4]
/-! Declarations moved out of LFnExactAllKeys. -/
/-! laws.FnKeysOpenOfAll, a part of its walk. -/
/-! laws.FnKeysOpenOfAll, a part of its walk. -/
/-! laws.FnKeysOpenOfAll, a part of its walk. -/
/-! laws.FnKeysOpenOfAll, a part of its walk. -/
/-! laws.FnKeysOpenOfAll, by hand: each callee's value is told; what lies in memory is ONE predicate. -/
theorem opens_t5 : Opens Try.prog 5 (Kd.int .u8) U8V := opens_u8 Try.underlying5
theorem opens_t44 : Opens Try.prog 44 (Kd.slice 5 (Kd.int .u8)) (ListV U8V) := opens_slice Try.underlying44 opens_t5 (by kernel_rfl)
/-! The law FnKeysOpenOfAll: its calls, all told. -/
def opNumK (L : List S24) (K : List (List Int)) (i j : Nat) : Bool := (K[i]?).any fun x => (L[j]?).any fun q => opP q x
def nNumK (L : List S24) (K : List (List Int)) (i j : Nat) : Int := cntN (opNumK L K i) j
theorem nNumK_is {L : List S24} {K : List (List Int)} {i : Nat} (h : i < K.length) : nNumK L K i L.length = (L.countP fun q => opP q K[i] : Nat) := by
  unfold nNumK
  rw [cntN_congr (g := fun j => (L[j]?).any fun q => opP q K[i]) L.length (fun j _ => by unfold opNumK; rw [List.getElem?_eq_getElem h]; rfl), cntN_list, List.take_length]
def zNumK (L : List S24) (K : List (List Int)) (i : Nat) : Int := cntN (fun i => decide (nNumK L K i L.length = 0)) i
def hNumK (L : List S24) (K : List (List Int)) (i : Nat) : Int := cntN (fun i => decide (nNumK L K i L.length = (L.length : Int))) i
theorem zNumK_is (L : List S24) (K : List (List Int)) : zNumK L K K.length = ((K.countP fun x => L.all fun p => !opP p x : Nat) : Int) := by
  unfold zNumK
  rw [cntN_congr (g := fun i => (K[i]?).any fun x => L.all fun p => !opP p x) K.length (fun i hi => ?_), cntN_list, List.take_length]
  rw [nNumK_is hi, List.getElem?_eq_getElem hi]
  show decide (((L.countP fun q => opP q K[i] : Nat) : Int) = 0) = L.all fun p => !opP p K[i]
  rw [Bool.eq_iff_iff, decide_eq_true_eq, List.all_eq_true, show (((L.countP fun q => opP q K[i] : Nat) : Int) = 0) ↔ (L.countP fun q => opP q K[i]) = 0 from by omega, List.countP_eq_zero]
  simp
theorem hNumK_is (L : List S24) (K : List (List Int)) : hNumK L K K.length = ((K.countP fun x => L.all fun p => opP p x : Nat) : Int) := by
  unfold hNumK
  rw [cntN_congr (g := fun i => (K[i]?).any fun x => L.all fun p => opP p x) K.length (fun i hi => ?_), cntN_list, List.take_length]
  rw [nNumK_is hi, List.getElem?_eq_getElem hi]
  show decide (((L.countP fun q => opP q K[i] : Nat) : Int) = (L.length : Int)) = L.all fun p => opP p K[i]
  rw [Bool.eq_iff_iff, decide_eq_true_eq, List.all_eq_true, show (((L.countP fun q => opP q K[i] : Nat) : Int) = (L.length : Int)) ↔ (L.countP fun q => opP q K[i]) = L.length from by omega, List.countP_eq_length]
theorem nNumK_step (L : List S24) (K : List (List Int)) (i j : Nat) : nNumK L K i (j + 1) = if opNumK L K i j = true then nNumK L K i j + 1 else nNumK L K i j := rfl
theorem zNumK_step (L : List S24) (K : List (List Int)) (i : Nat) : zNumK L K (i + 1) = if nNumK L K i L.length = 0 then zNumK L K i + 1 else zNumK L K i := by
  show (if decide (nNumK L K i L.length = 0) = true then zNumK L K i + 1 else zNumK L K i) = _
  simp only [decide_eq_true_eq]
theorem hNumK_step (L : List S24) (K : List (List Int)) (i : Nat) : hNumK L K (i + 1) = if nNumK L K i L.length = (L.length : Int) then hNumK L K i + 1 else hNumK L K i := by
  show (if decide (nNumK L K i L.length = (L.length : Int)) = true then hNumK L K i + 1 else hNumK L K i) = _
  simp only [decide_eq_true_eq]
theorem allV_5 (n : Int) (L : List (List Int)) : (allV n L).2 = (pinsB n L && decide (ctV n L ≤ 200)) := by
  unfold allV ctV
  cases h : pinsB n L with
  | false => rw [if_neg (by simp)]; rfl
  | true =>
    by_cases h2 : prodK L ≤ 200
    · rw [if_pos ⟨rfl, h2⟩, if_pos rfl, decide_eq_true (by omega)]; rfl
    · rw [if_neg (fun hh => h2 hh.2), if_pos rfl, decide_eq_false (by omega)]; rfl
/-- The keys of one lot of pins. -/
theorem part_all (n : Int) (L : List (List Int)) (s : ByteArray) : Evt fun k => pinsB n L = true → ctV n L ≤ 200 → ((allV n L).1.length : Int) = ctV n L ∧ laws_eSorted.f k (allV n L).1 = some true ∧ ((pinsB n L && isKB n L s) = true → laws_eText.f k (allV n L).1 s = some (opV n L s).1) ∧ (allV n L).1.length ≤ 200 ∧ ∀ (i : Nat) (hi : i < (allV n L).1.length), impl_DoesOpen.f k n L (allV n L).1[i] = some (true, true) := by
  refine Evt.imp (fun hp => Evt.imp (fun hc => ?_))
  have hct : ctV n L = (prodK L : Int) := by unfold ctV; rw [if_pos hp]
  have hpr : prodK L ≤ 200 := by omega
  have hall : (allV n L).1 = extK L ⟨#[]⟩ := by rw [allV_yes hp hpr]
  have hlen : (extK L ⟨#[]⟩).length = prodK L := extK_len2 L
  rw [hall, hct]
  have e1 : Evt fun k => laws_eSorted.f k (extK L ⟨#[]⟩) = some true := laws_eSorted.ev _ (by omega) (fun i j hi hj hij => extK_rises hp i j hi hj hij)
  have e2 : Evt fun k => (pinsB n L && isKB n L s) = true → laws_eText.f k (extK L ⟨#[]⟩) s = some (opV n L s).1 := by
    refine Evt.imp (fun hk => ?_)
    have hk2 : isKB n L s = true := by rw [hp, Bool.true_and] at hk; exact hk
    have h := laws_eText.ev (extK L ⟨#[]⟩) (by omega) s
    rw [extK_has hp hk2] at h
    have e : (opV n L s).1 = opensB L s := by unfold opV; rw [hp, hk2]; rfl
    rw [e]
    exact h
  have e3 : Evt fun k => ∀ x ∈ extK L ⟨#[]⟩, impl_DoesOpen.f k n L x = some (true, true) := by
    refine Evt.all _ (fun y hy => ?_)
    rw [extK_text] at hy
    obtain ⟨x, hx, rfl⟩ := List.mem_map.mp hy
    have hd := tupK_dig (pinsB_Short hp) hx
    obtain ⟨t1, t2⟩ := (tupK_mem L x).mp hx
    have h := impl_DoesOpen.ev n L (textB x)
    obtain ⟨a1, a2, a3⟩ := pinsB_parts hp
    have hk : isKB n L (textB x) = true := by
      unfold isKB keyB
      rw [Bool.and_eq_true, decide_eq_true_eq, List.all_eq_true, textB_size]
      refine ⟨t1, fun i hi => decide_eq_true ?_⟩
      rw [List.mem_range] at hi
      have hil : i < L.length := by omega
      rw [bt_textB hd hi]
      rw [opT_get, List.all_eq_true] at t2
      have h3 := t2 i (List.mem_range.mpr hi)
      rw [Nat.zero_add, show x.getD i 0 = x[i] from getD_at hi] at h3
      unfold atR at h3
      rw [show L.getD i [] = L[i] from getD_at hil, List.contains_iff_mem] at h3
      have := rowB_mem (a3 L[i] (List.getElem_mem hil)) _ h3
      omega
    have e : opV n L (textB x) = (true, true) := by
      unfold opV
      rw [hp, hk, opensB_text t1 hd, t2]; rfl
    rw [e] at h
    exact h
  exact (e1.and (e2.and e3)).mono (fun k hk => ⟨by omega, hk.1, hk.2.1, by omega, fun i hi => hk.2.2 _ (List.getElem_mem hi)⟩)
/-- What is asked of the list, told at once. -/
theorem part_list (L : List S24) (hl2 : L.length ≤ 9223372036854775807) (hv : ∀ p ∈ L, RowsV p.f1) : ∃ (kc : Int) (ev : List ByteArray) (K : List (List Int)), Evt fun k =>
    (kindB L = true → impl_CountKeys.f k (moV L).1 (moV L).2.1 = some (kc, true) ∧ impl_ArePins.f (moV L).1 (moV L).2.1 = some true ∧ 0 ≤ (ghostV L).1 ∧ (ghostV L).1 < kc ∧ csV L ≤ kc) ∧
    (kindB L = true → kc ≤ 200 → impl_AllKeys.f k (moV L).1 (moV L).2.1 = some (ev, true) ∧ ev.length ≤ 200 ∧ zNumK L K ev.length = (ghostV L).1 ∧ hNumK L K ev.length = csV L ∧ ∀ (i : Nat) (hi : i < ev.length) (j : Nat) (hj : j < L.length), impl_DoesOpen.f k L[j].f0 L[j].f1 ev[i] = some (opNumK L K i j, true)) := by
  by_cases hk : kindB L = true
  · obtain ⟨n, m, hkl, hne, h6, hpb, k1, k2, k3, k4, k5⟩ := kind_known hv hk
    have hp0 := hpb L[0] (List.getElem_mem hne)
    have hpm := pinsB_master hkl hne hp0
    have hvm := rowsOf_v n m (by have := hkl.1; omega) (by have := hkl.2.1; omega) (inB false L)
    have hgl := ghosts_less n m L hne (prodK_pos _ (row_pos (inB true [L[0]]) hkl hne hp0 (fun i _ d h => inB_one L[0] i d h)))
    have hca := count_all n m L L (fun p hp => hp) hne
    have hcl := List.countP_le_length (p := fun x => L.all fun p => opP p x) (l := tupK (rowsOf n m (inB false L)))
    have htl := tupK_len (rowsOf n m (inB false L))
    refine ⟨(prodK (rowsOf n m (inB false L)) : Int), extK (rowsOf n m (inB false L)) ⟨#[]⟩, tupK (rowsOf n m (inB false L)), ?_⟩
    rw [k1, k2, k3, k4]
    have hel := extK_len2 (rowsOf n m (inB false L))
    have e1 := impl_CountKeys.ev (n : Int) (rowsOf n m (inB false L)) hvm
    have hct : ctV (n : Int) (rowsOf n m (inB false L)) = (prodK (rowsOf n m (inB false L)) : Int) := by unfold ctV; rw [if_pos hpm]
    rw [hct, hpm] at e1
    have e2 : Evt fun k => prodK (rowsOf n m (inB false L)) ≤ 200 → impl_AllKeys.f k (n : Int) (rowsOf n m (inB false L)) = some (extK (rowsOf n m (inB false L)) ⟨#[]⟩, true) := by
      refine Evt.imp (fun h2 => ?_)
      have h := impl_AllKeys.ev (n : Int) (rowsOf n m (inB false L)) hvm
      rw [allV_yes hpm h2] at h
      exact h
    have e3 : Evt fun k => ∀ x ∈ tupK (rowsOf n m (inB false L)), ∀ q ∈ L, impl_DoesOpen.f k q.f0 q.f1 (textB x) = some (opP q x, true) := by
      refine Evt.all _ (fun x hx => Evt.all _ (fun q hq => ?_))
      have h := impl_DoesOpen.ev q.f0 q.f1 (textB x)
      rw [key_opens hkl hpb hx hq] at h
      exact h
    refine (Evt.and e1 (Evt.and e2 e3)).mono (fun k hh => ⟨fun _ => ⟨hh.1, ?_, by omega, by omega, by omega⟩, fun _ h200 => ⟨hh.2.1 (by omega), by omega, ?_, ?_, fun i hi j hj => ?_⟩⟩)
    · unfold impl_ArePins.f; rw [hpm]
    · rw [hel, ← htl, zNumK_is]
    · rw [hel, ← htl, hNumK_is, hca]
    · have hit : i < (tupK (rowsOf n m (inB false L))).length := by omega
      have h := hh.2.2 _ (List.getElem_mem hit) _ (List.getElem_mem hj)
      have e : (extK (rowsOf n m (inB false L)) ⟨#[]⟩)[i] = textB (tupK (rowsOf n m (inB false L)))[i] := by simp only [extK_text, List.getElem_map]
      rw [e, h]
      unfold opNumK
      rw [List.getElem?_eq_getElem hit, List.getElem?_eq_getElem hj]; rfl
  · exact ⟨0, [], [], Evt.pure (fun k => ⟨fun h => absurd h hk, fun h => absurd h hk⟩)⟩
/-! The law FnKeysOpen: what the draws give is small; the facts of what is drawn, told at once. -/
noncomputable def laws_FnKeysOpen.f (l0 l1 : List Int) : Option Bool := by
  classical
  exact if (∀ x ∈ l0, U8V x) ∧ (∀ x ∈ l1, U8V x) then some true else none
theorem keysOpen_FP : laws_FnKeysOpen.FP := by
  intro n0 L0 a1 hs
  have V0 := hs.v
  have hall := allV_len n0 L0
  have hok : (opV n0 L0 a1).2 = (pinsB n0 L0 && (pinsB n0 L0 && isKB n0 L0 a1)) := by
    show (pinsB n0 L0 && isKB n0 L0 a1) = _
    cases pinsB n0 L0 <;> rfl
  obtain ⟨k, hk⟩ := Evt.and (impl_DoesOpen.ev n0 L0 a1) (Evt.and (spec_DoesOpen.ev n0 L0 V0 a1) (Evt.and (impl_IsKey.ev n0 L0 a1) (Evt.and (spec_IsKey.ev n0 L0 V0 a1) (Evt.and (impl_CountKeys.ev n0 L0 V0) (Evt.and (spec_CountKeys.ev n0 L0 V0) (Evt.and (impl_AllKeys.ev n0 L0 V0) (Evt.and (spec_AllKeys.ev n0 L0 V0) (Evt.and (laws_eTexts.ev (allV n0 L0).1 (by omega)) (Evt.and (spec_ArePins.ev n0 L0 V0) (part_all n0 L0 a1))))))))))
  obtain ⟨e1, e2, e3, e4, e5, e6, e7, e8, e9, e11, e12⟩ := hk k (Nat.le_refl _)
  exact ⟨k, (opV n0 L0 a1).1, (pinsB n0 L0 && isKB n0 L0 a1), (pinsB n0 L0), (opV n0 L0 a1).2, (allV n0 L0).2, (ctV n0 L0), (allV n0 L0).1, hok, allV_5 n0 L0, e1, e2, e3, e4, e5, e6, e7, e8, e9, rfl, e11, e12⟩
theorem keysOpen_FL : laws_FnKeysOpen.FL := by
  intro l2 hs
  have VL : ∀ p ∈ l2, RowsV p.f1 := fun p hp => (hs.2 p hp).v
  have hl2 : l2.length ≤ 9223372036854775807 := by have := hs.1; omega
  have hsh := shV_len l2
  obtain ⟨_, _, hmv⟩ := moV_small l2 VL
  have g1 := CountShared.both l2 hl2 VL
  have g2 := GhostKeys.both l2 hl2 VL
  have g3 := MasterOf.both l2 hl2 VL
  have g4 := SharedKeys.both l2 hl2 VL
  have hn1 : (moV l2).2.2 = kindB l2 := by cases hk : kindB l2 with | true => exact (kind_yes hk).1 | false => exact (kind_not hk).1
  have hn2 : (ghostV l2).2 = kindB l2 := by cases hk : kindB l2 with | true => exact (kind_yes hk).2 | false => exact (kind_not hk).2.1
  have hsv : (shV l2).2 = (kindB l2 && decide (csV l2 ≤ 200)) := by
    cases hk : kindB l2 with
    | true => obtain ⟨n, m, _, _, _, _, _, _, _, _, k5⟩ := kind_known VL hk; rw [k5]; rfl
    | false => exact (kind_not hk).2.2
  obtain ⟨kc, ev, K, hD⟩ := part_list l2 hl2 VL
  obtain ⟨k, hk⟩ := Evt.and g4.2 (Evt.and g4.1 (Evt.and g1.2 (Evt.and g1.1 (Evt.and g2.2 (Evt.and g2.1 (Evt.and g3.2 (Evt.and g3.1 (Evt.and (laws_eTexts.ev (shV l2).1 (by omega)) (Evt.and (laws_ePins.ev (moV l2).1 (moV l2).2.1 hmv) hD)))))))))
  obtain ⟨f1, f2, f3, f4, f5, f6, f7, f8, f9, f10, f11, f12⟩ := hk k (Nat.le_refl _)
  rw [← hn1] at f3 f4
  exact ⟨k, (shV l2).2, (shV l2).1, (moV l2).2.2, (csV l2), (ghostV l2).1, (moV l2).1, (moV l2).2.1, kc, ev, opNumK l2 K, nNumK l2 K, zNumK l2 K, hNumK l2 K, by have := hs.1; omega,
    by rw [hsv, hn1], f1, f2, f3, f4, by rw [hn1, ← hn2]; exact f5, by rw [hn1, ← hn2]; exact f6, f7, f8, f9, f10, by rw [hn1]; exact f11, by rw [hn1]; exact f12,
    fun _ => rfl, nNumK_step l2 K, rfl, zNumK_step l2 K, rfl, hNumK_step l2 K, fun i j => cntN_bd _ j, fun i => cntN_bd _ i, fun i => cntN_bd _ i⟩
theorem keysOpen_FM : laws_FnKeysOpen.FM := by
  intro n3 n4 L3 L4 h3 h4
  have V3 := h3.v
  have V4 := h4.v
  obtain ⟨_, _, hpv⟩ := masV_small n3 n4 L3 L4
  have I4 : Evt fun k => (masV n3 L3 n4 L4).2.2 = true → impl_MasterPins.f k n4 L4 n3 L3 = some ((masV n3 L3 n4 L4).1, (masV n3 L3 n4 L4).2.1, true) := by
    refine Evt.imp (fun ho => ?_)
    have h := impl_MasterPins.ev n4 n3 L4 L3 V4 V3
    rw [masV_sym ho] at h
    have e : masV n3 L3 n4 L4 = ((masV n3 L3 n4 L4).1, (masV n3 L3 n4 L4).2.1, true) := by rw [← ho]
    rw [e] at h
    exact h
  obtain ⟨k, hk⟩ := Evt.and (impl_MasterPins.ev n3 n4 L3 L4 V3 V4) (Evt.and (spec_MasterPins.ev n3 n4 L3 L4 V3 V4) (Evt.and (laws_ePins.ev (masV n3 L3 n4 L4).1 (masV n3 L3 n4 L4).2.1 hpv) I4))
  obtain ⟨i1, i2, i3, i4⟩ := hk k (Nat.le_refl _)
  exact ⟨k, (masV n3 L3 n4 L4).1, (masV n3 L3 n4 L4).2.1, (masV n3 L3 n4 L4).2.2, i1, i2, i3, i4⟩
theorem big_len {l m : List Int} (h : laws_big.f l m = some false) : l.length ≤ 1048576 ∧ m.length ≤ 1048576 := by
  unfold laws_big.f at h
  split at h
  · exact absurd h (by simp)
  · rename_i h1
    have h2 : decide ((m.length : Int) > wrap64 (1048576 - (l.length : Int))) = false := Option.some.inj h
    have h3 := of_decide_eq_false h2
    rw [w64 (by omega) (by omega)] at h3
    omega
set_option maxRecDepth 100000 in
theorem laws_FnKeysOpen.walkBig (lA lB : List Int) (xA xB : Option Addr) (yA yB : Nat) (w : World) (hrA : Kd.C (Kd.int .u8) w xA lA.length lA) (hcA : lA.length ≤ yA) (hrB : Kd.C (Kd.int .u8) w xB lB.length lB) (hcB : lB.length ≤ yB) (hbig : laws_big.f lA lB = some true) :
    Calls Try.prog 4 #[.slice xA lA.length yA, .slice xB lB.length yB] w fun e w' => e = .returned (.bool true) ∧ Below w.heap.size w w' := by
  have HrA := amk hrA; have HcA := amk hcA; have HrB := amk hrB; have HcB := amk hcB; have Hbig := amk hbig
  clear hrA hcA hrB hcB hbig
  go_enter Try.func4, Try.ntmps4
  go_wp2_with (go_at_call 29; refine Calls.mono (laws_big.calls xA yA lA xB yB lB true _ HrA.out HcA.out HrB.out HcB.out Hbig.out) ?_; rintro e wx ⟨rfl, ⟨nd, rfl⟩⟩)
  go_ret
  exact ⟨rfl, by repeat (first | exact Below.refl _ _ | apply bn_ | apply bd_)⟩
theorem laws_FnKeysOpen.calls (A0 : Option Addr) (c0 : Nat) (l0 : List Int) (A1 : Option Addr) (c1 : Nat) (l1 : List Int) (r : Bool) (w : World) (hr0 : Kd.C (Kd.int .u8) w A0 l0.length l0) (hc0 : l0.length ≤ c0) (hr1 : Kd.C (Kd.int .u8) w A1 l1.length l1) (hc1 : l1.length ≤ c1) (h : laws_FnKeysOpen.f l0 l1 = some r) :
    Calls Try.prog 4 #[.slice A0 l0.length c0, .slice A1 l1.length c1] w fun e w' => e = .returned (.bool r) ∧ Below w.heap.size w w' := by
  unfold laws_FnKeysOpen.f at h
  split at h
  · rename_i hv
    obtain rfl := Option.some.inj h
    obtain ⟨b, hb⟩ : ∃ b, laws_big.f l0 l1 = some b := by unfold laws_big.f; split <;> exact ⟨_, rfl⟩
    cases b with
    | true => exact laws_FnKeysOpen.walkBig l0 l1 A0 A1 c0 c1 w hr0 hc0 hr1 hc1 hb
    | false =>
      obtain ⟨h0, h1⟩ := big_len hb
      exact laws_FnKeysOpen.walk l0 l1 A0 A1 c0 c1 w ⟨hv.1, by omega⟩ ⟨hv.2, by omega⟩ hr0 hc0 hr1 hc1 hb keysOpen_FP keysOpen_FL keysOpen_FM
  · exact absurd h (by simp)
theorem pure_FnKeysOpen (l : List Int) (hl : ListV U8V l) (m : List Int) (hm : ListV U8V m) : laws_FnKeysOpen.f l m = some true := by
  unfold laws_FnKeysOpen.f
  rw [if_pos ⟨hl.2, hm.2⟩]
end Go.Proofs.Ytcbeihidnodceaa.P