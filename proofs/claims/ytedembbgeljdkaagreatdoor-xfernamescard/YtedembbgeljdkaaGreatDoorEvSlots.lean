/-
  SLOTS by name: printed by a program.
-/
import Derived.Test.YtedembbgeljdkaaGreatDoorEvFast
namespace Go.Proofs.YtedembbgeljdkaaGreatDoor.Ev
open Go
set_option linter.all false
noncomputable section
def g000 : Gt := fun T => T.a.a.a
def g001 : Gt := fun T => T.a.a.b
def g002 : Gt := fun T => T.a.a.c
def g003 : Gt := fun T => T.a.a.d
def g004 : Gt := fun T => T.a.a.e
def g005 : Gt := fun T => T.a.a.f
def g006 : Gt := fun T => T.a.a.g
def g007 : Gt := fun T => T.a.a.h
def g010 : Gt := fun T => T.a.b.a
def g011 : Gt := fun T => T.a.b.b
def g012 : Gt := fun T => T.a.b.c
def g013 : Gt := fun T => T.a.b.d
def g014 : Gt := fun T => T.a.b.e
def g015 : Gt := fun T => T.a.b.f
def g016 : Gt := fun T => T.a.b.g
def g017 : Gt := fun T => T.a.b.h
def g020 : Gt := fun T => T.a.c.a
def g021 : Gt := fun T => T.a.c.b
def g022 : Gt := fun T => T.a.c.c
def g023 : Gt := fun T => T.a.c.d
def g024 : Gt := fun T => T.a.c.e
def g025 : Gt := fun T => T.a.c.f
def g026 : Gt := fun T => T.a.c.g
def g027 : Gt := fun T => T.a.c.h
def g030 : Gt := fun T => T.a.d.a
def g031 : Gt := fun T => T.a.d.b
def g032 : Gt := fun T => T.a.d.c
def g033 : Gt := fun T => T.a.d.d
def g034 : Gt := fun T => T.a.d.e
def g035 : Gt := fun T => T.a.d.f
def g036 : Gt := fun T => T.a.d.g
def g037 : Gt := fun T => T.a.d.h
def g040 : Gt := fun T => T.a.e.a
def g041 : Gt := fun T => T.a.e.b
def g042 : Gt := fun T => T.a.e.c
def g043 : Gt := fun T => T.a.e.d
def g044 : Gt := fun T => T.a.e.e
def g045 : Gt := fun T => T.a.e.f
def g046 : Gt := fun T => T.a.e.g
def g047 : Gt := fun T => T.a.e.h
def g050 : Gt := fun T => T.a.f.a
def g051 : Gt := fun T => T.a.f.b
def g052 : Gt := fun T => T.a.f.c
def g053 : Gt := fun T => T.a.f.d
def g054 : Gt := fun T => T.a.f.e
def g055 : Gt := fun T => T.a.f.f
def g056 : Gt := fun T => T.a.f.g
def g057 : Gt := fun T => T.a.f.h
def g060 : Gt := fun T => T.a.g.a
def g061 : Gt := fun T => T.a.g.b
def g062 : Gt := fun T => T.a.g.c
def g063 : Gt := fun T => T.a.g.d
def g064 : Gt := fun T => T.a.g.e
def g065 : Gt := fun T => T.a.g.f
def g066 : Gt := fun T => T.a.g.g
def g067 : Gt := fun T => T.a.g.h
def g070 : Gt := fun T => T.a.h.a
def g071 : Gt := fun T => T.a.h.b
def g072 : Gt := fun T => T.a.h.c
def g073 : Gt := fun T => T.a.h.d
def g074 : Gt := fun T => T.a.h.e
def g075 : Gt := fun T => T.a.h.f
def g076 : Gt := fun T => T.a.h.g
def g077 : Gt := fun T => T.a.h.h
def g100 : Gt := fun T => T.b.a.a
def g101 : Gt := fun T => T.b.a.b
def g102 : Gt := fun T => T.b.a.c
def g103 : Gt := fun T => T.b.a.d
def g104 : Gt := fun T => T.b.a.e
def g105 : Gt := fun T => T.b.a.f
def g106 : Gt := fun T => T.b.a.g
def g107 : Gt := fun T => T.b.a.h
def g110 : Gt := fun T => T.b.b.a
def g111 : Gt := fun T => T.b.b.b
def g112 : Gt := fun T => T.b.b.c
def g113 : Gt := fun T => T.b.b.d
def g114 : Gt := fun T => T.b.b.e
def g115 : Gt := fun T => T.b.b.f
def g116 : Gt := fun T => T.b.b.g
def g117 : Gt := fun T => T.b.b.h
def g120 : Gt := fun T => T.b.c.a
def g121 : Gt := fun T => T.b.c.b
def g122 : Gt := fun T => T.b.c.c
def g123 : Gt := fun T => T.b.c.d
def g124 : Gt := fun T => T.b.c.e
def g125 : Gt := fun T => T.b.c.f
def g126 : Gt := fun T => T.b.c.g
def g127 : Gt := fun T => T.b.c.h
def g130 : Gt := fun T => T.b.d.a
def g131 : Gt := fun T => T.b.d.b
def g132 : Gt := fun T => T.b.d.c
def g133 : Gt := fun T => T.b.d.d
def g134 : Gt := fun T => T.b.d.e
def g135 : Gt := fun T => T.b.d.f
def g136 : Gt := fun T => T.b.d.g
def g137 : Gt := fun T => T.b.d.h
def g140 : Gt := fun T => T.b.e.a
def g141 : Gt := fun T => T.b.e.b
def g142 : Gt := fun T => T.b.e.c
def g143 : Gt := fun T => T.b.e.d
def g144 : Gt := fun T => T.b.e.e
def g145 : Gt := fun T => T.b.e.f
def g146 : Gt := fun T => T.b.e.g
def g147 : Gt := fun T => T.b.e.h
def g150 : Gt := fun T => T.b.f.a
def g151 : Gt := fun T => T.b.f.b
def g152 : Gt := fun T => T.b.f.c
def g153 : Gt := fun T => T.b.f.d
def g154 : Gt := fun T => T.b.f.e
def g155 : Gt := fun T => T.b.f.f
def g156 : Gt := fun T => T.b.f.g
def g157 : Gt := fun T => T.b.f.h
def g160 : Gt := fun T => T.b.g.a
def g161 : Gt := fun T => T.b.g.b
def g162 : Gt := fun T => T.b.g.c
def g163 : Gt := fun T => T.b.g.d
def g164 : Gt := fun T => T.b.g.e
def g165 : Gt := fun T => T.b.g.f
def g166 : Gt := fun T => T.b.g.g
def g167 : Gt := fun T => T.b.g.h
def g170 : Gt := fun T => T.b.h.a
def g171 : Gt := fun T => T.b.h.b
def g172 : Gt := fun T => T.b.h.c
def g173 : Gt := fun T => T.b.h.d
def g174 : Gt := fun T => T.b.h.e
def g175 : Gt := fun T => T.b.h.f
def g176 : Gt := fun T => T.b.h.g
def g177 : Gt := fun T => T.b.h.h
def g200 : Gt := fun T => T.c.a.a
def g201 : Gt := fun T => T.c.a.b
def g202 : Gt := fun T => T.c.a.c
def g203 : Gt := fun T => T.c.a.d
def g204 : Gt := fun T => T.c.a.e
def g205 : Gt := fun T => T.c.a.f
def g206 : Gt := fun T => T.c.a.g
def g207 : Gt := fun T => T.c.a.h
def g210 : Gt := fun T => T.c.b.a
def g211 : Gt := fun T => T.c.b.b
def g212 : Gt := fun T => T.c.b.c
def g213 : Gt := fun T => T.c.b.d
def g214 : Gt := fun T => T.c.b.e
def g215 : Gt := fun T => T.c.b.f
def g216 : Gt := fun T => T.c.b.g
def g217 : Gt := fun T => T.c.b.h
def g220 : Gt := fun T => T.c.c.a
def g221 : Gt := fun T => T.c.c.b
def g222 : Gt := fun T => T.c.c.c
def g223 : Gt := fun T => T.c.c.d
def g224 : Gt := fun T => T.c.c.e
def g225 : Gt := fun T => T.c.c.f
def g226 : Gt := fun T => T.c.c.g
def g227 : Gt := fun T => T.c.c.h
def g230 : Gt := fun T => T.c.d.a
def g231 : Gt := fun T => T.c.d.b
def g232 : Gt := fun T => T.c.d.c
def g233 : Gt := fun T => T.c.d.d
def g234 : Gt := fun T => T.c.d.e
def g235 : Gt := fun T => T.c.d.f
def g236 : Gt := fun T => T.c.d.g
def g237 : Gt := fun T => T.c.d.h
def g240 : Gt := fun T => T.c.e.a
def g241 : Gt := fun T => T.c.e.b
def g242 : Gt := fun T => T.c.e.c
def g243 : Gt := fun T => T.c.e.d
def g244 : Gt := fun T => T.c.e.e
def g245 : Gt := fun T => T.c.e.f
def g246 : Gt := fun T => T.c.e.g
def g247 : Gt := fun T => T.c.e.h
def g250 : Gt := fun T => T.c.f.a
def g251 : Gt := fun T => T.c.f.b
def g252 : Gt := fun T => T.c.f.c
def g253 : Gt := fun T => T.c.f.d
def g254 : Gt := fun T => T.c.f.e
def g255 : Gt := fun T => T.c.f.f
def g256 : Gt := fun T => T.c.f.g
def g257 : Gt := fun T => T.c.f.h
def g260 : Gt := fun T => T.c.g.a
def g261 : Gt := fun T => T.c.g.b
def g262 : Gt := fun T => T.c.g.c
def g263 : Gt := fun T => T.c.g.d
def g264 : Gt := fun T => T.c.g.e
def g265 : Gt := fun T => T.c.g.f
def g266 : Gt := fun T => T.c.g.g
def g267 : Gt := fun T => T.c.g.h
def g270 : Gt := fun T => T.c.h.a
def g271 : Gt := fun T => T.c.h.b
def g272 : Gt := fun T => T.c.h.c
def g273 : Gt := fun T => T.c.h.d
def g274 : Gt := fun T => T.c.h.e
def g275 : Gt := fun T => T.c.h.f
def g276 : Gt := fun T => T.c.h.g
def g277 : Gt := fun T => T.c.h.h
def g300 : Gt := fun T => T.d.a.a
def g301 : Gt := fun T => T.d.a.b
def g302 : Gt := fun T => T.d.a.c
def g303 : Gt := fun T => T.d.a.d
def g304 : Gt := fun T => T.d.a.e
def g305 : Gt := fun T => T.d.a.f
def g306 : Gt := fun T => T.d.a.g
def g307 : Gt := fun T => T.d.a.h
def g310 : Gt := fun T => T.d.b.a
def g311 : Gt := fun T => T.d.b.b
def g312 : Gt := fun T => T.d.b.c
def g313 : Gt := fun T => T.d.b.d
def g314 : Gt := fun T => T.d.b.e
def g315 : Gt := fun T => T.d.b.f
def g316 : Gt := fun T => T.d.b.g
def g317 : Gt := fun T => T.d.b.h
def g320 : Gt := fun T => T.d.c.a
def g321 : Gt := fun T => T.d.c.b
def g322 : Gt := fun T => T.d.c.c
def g323 : Gt := fun T => T.d.c.d
def g324 : Gt := fun T => T.d.c.e
def g325 : Gt := fun T => T.d.c.f
def g326 : Gt := fun T => T.d.c.g
def g327 : Gt := fun T => T.d.c.h
def g330 : Gt := fun T => T.d.d.a
def g331 : Gt := fun T => T.d.d.b
def g332 : Gt := fun T => T.d.d.c
def g333 : Gt := fun T => T.d.d.d
def g334 : Gt := fun T => T.d.d.e
def g335 : Gt := fun T => T.d.d.f
def g336 : Gt := fun T => T.d.d.g
def g337 : Gt := fun T => T.d.d.h
def g340 : Gt := fun T => T.d.e.a
def g341 : Gt := fun T => T.d.e.b
def g342 : Gt := fun T => T.d.e.c
def g343 : Gt := fun T => T.d.e.d
def g344 : Gt := fun T => T.d.e.e
def g345 : Gt := fun T => T.d.e.f
def g346 : Gt := fun T => T.d.e.g
def g347 : Gt := fun T => T.d.e.h
def g350 : Gt := fun T => T.d.f.a
def g351 : Gt := fun T => T.d.f.b
def g352 : Gt := fun T => T.d.f.c
def g353 : Gt := fun T => T.d.f.d
def g354 : Gt := fun T => T.d.f.e
def g355 : Gt := fun T => T.d.f.f
def g356 : Gt := fun T => T.d.f.g
def g357 : Gt := fun T => T.d.f.h
def g360 : Gt := fun T => T.d.g.a
def g361 : Gt := fun T => T.d.g.b
def g362 : Gt := fun T => T.d.g.c
def g363 : Gt := fun T => T.d.g.d
def g364 : Gt := fun T => T.d.g.e
def g365 : Gt := fun T => T.d.g.f
def g366 : Gt := fun T => T.d.g.g
def g367 : Gt := fun T => T.d.g.h
def g370 : Gt := fun T => T.d.h.a
def g371 : Gt := fun T => T.d.h.b
def g372 : Gt := fun T => T.d.h.c
def g373 : Gt := fun T => T.d.h.d
def g374 : Gt := fun T => T.d.h.e
def g375 : Gt := fun T => T.d.h.f
def g376 : Gt := fun T => T.d.h.g
def g377 : Gt := fun T => T.d.h.h
def g400 : Gt := fun T => T.e.a.a
def g401 : Gt := fun T => T.e.a.b
def g402 : Gt := fun T => T.e.a.c
def g403 : Gt := fun T => T.e.a.d
def g404 : Gt := fun T => T.e.a.e
def g405 : Gt := fun T => T.e.a.f
def g406 : Gt := fun T => T.e.a.g
def g407 : Gt := fun T => T.e.a.h
def g410 : Gt := fun T => T.e.b.a
def g411 : Gt := fun T => T.e.b.b
def g412 : Gt := fun T => T.e.b.c
def g413 : Gt := fun T => T.e.b.d
def g414 : Gt := fun T => T.e.b.e
def g415 : Gt := fun T => T.e.b.f
def g416 : Gt := fun T => T.e.b.g
def g417 : Gt := fun T => T.e.b.h
def g420 : Gt := fun T => T.e.c.a
def g421 : Gt := fun T => T.e.c.b
def g422 : Gt := fun T => T.e.c.c
def g423 : Gt := fun T => T.e.c.d
def g424 : Gt := fun T => T.e.c.e
def g425 : Gt := fun T => T.e.c.f
def g426 : Gt := fun T => T.e.c.g
def g427 : Gt := fun T => T.e.c.h
def g430 : Gt := fun T => T.e.d.a
def g431 : Gt := fun T => T.e.d.b
def g432 : Gt := fun T => T.e.d.c
def g433 : Gt := fun T => T.e.d.d
def g434 : Gt := fun T => T.e.d.e
def g435 : Gt := fun T => T.e.d.f
def g436 : Gt := fun T => T.e.d.g
def g437 : Gt := fun T => T.e.d.h
def g440 : Gt := fun T => T.e.e.a
def g441 : Gt := fun T => T.e.e.b
def g442 : Gt := fun T => T.e.e.c
def g443 : Gt := fun T => T.e.e.d
def g444 : Gt := fun T => T.e.e.e
def g445 : Gt := fun T => T.e.e.f
def g446 : Gt := fun T => T.e.e.g
def g447 : Gt := fun T => T.e.e.h
def g450 : Gt := fun T => T.e.f.a
def g451 : Gt := fun T => T.e.f.b
def g452 : Gt := fun T => T.e.f.c
def g453 : Gt := fun T => T.e.f.d
def g454 : Gt := fun T => T.e.f.e
def g455 : Gt := fun T => T.e.f.f
def g456 : Gt := fun T => T.e.f.g
def g457 : Gt := fun T => T.e.f.h
def g460 : Gt := fun T => T.e.g.a
def g461 : Gt := fun T => T.e.g.b
def g462 : Gt := fun T => T.e.g.c
def g463 : Gt := fun T => T.e.g.d
def g464 : Gt := fun T => T.e.g.e
def g465 : Gt := fun T => T.e.g.f
def g466 : Gt := fun T => T.e.g.g
def g467 : Gt := fun T => T.e.g.h
def g470 : Gt := fun T => T.e.h.a
def g471 : Gt := fun T => T.e.h.b
def g472 : Gt := fun T => T.e.h.c
def g473 : Gt := fun T => T.e.h.d
def g474 : Gt := fun T => T.e.h.e
def g475 : Gt := fun T => T.e.h.f
def g476 : Gt := fun T => T.e.h.g
def g477 : Gt := fun T => T.e.h.h
def g500 : Gt := fun T => T.f.a.a
def g501 : Gt := fun T => T.f.a.b
def g502 : Gt := fun T => T.f.a.c
def g503 : Gt := fun T => T.f.a.d
def g504 : Gt := fun T => T.f.a.e
def g505 : Gt := fun T => T.f.a.f
def g506 : Gt := fun T => T.f.a.g
def g507 : Gt := fun T => T.f.a.h
def g510 : Gt := fun T => T.f.b.a
def g511 : Gt := fun T => T.f.b.b
def g512 : Gt := fun T => T.f.b.c
def g513 : Gt := fun T => T.f.b.d
def g514 : Gt := fun T => T.f.b.e
def g515 : Gt := fun T => T.f.b.f
def g516 : Gt := fun T => T.f.b.g
def g517 : Gt := fun T => T.f.b.h
def g520 : Gt := fun T => T.f.c.a
def g521 : Gt := fun T => T.f.c.b
def g522 : Gt := fun T => T.f.c.c
def g523 : Gt := fun T => T.f.c.d
def g524 : Gt := fun T => T.f.c.e
def g525 : Gt := fun T => T.f.c.f
def g526 : Gt := fun T => T.f.c.g
def g527 : Gt := fun T => T.f.c.h
def g530 : Gt := fun T => T.f.d.a
def g531 : Gt := fun T => T.f.d.b
def g532 : Gt := fun T => T.f.d.c
def g533 : Gt := fun T => T.f.d.d
def g534 : Gt := fun T => T.f.d.e
def g535 : Gt := fun T => T.f.d.f
def g536 : Gt := fun T => T.f.d.g
def g537 : Gt := fun T => T.f.d.h
def g540 : Gt := fun T => T.f.e.a
def g541 : Gt := fun T => T.f.e.b
def g542 : Gt := fun T => T.f.e.c
def g543 : Gt := fun T => T.f.e.d
def g544 : Gt := fun T => T.f.e.e
def g545 : Gt := fun T => T.f.e.f
def g546 : Gt := fun T => T.f.e.g
def g547 : Gt := fun T => T.f.e.h
def g550 : Gt := fun T => T.f.f.a
def g551 : Gt := fun T => T.f.f.b
def g552 : Gt := fun T => T.f.f.c
def g553 : Gt := fun T => T.f.f.d
def g554 : Gt := fun T => T.f.f.e
def g555 : Gt := fun T => T.f.f.f
def g556 : Gt := fun T => T.f.f.g
def g557 : Gt := fun T => T.f.f.h
def g560 : Gt := fun T => T.f.g.a
def g561 : Gt := fun T => T.f.g.b
def g562 : Gt := fun T => T.f.g.c
def g563 : Gt := fun T => T.f.g.d
def g564 : Gt := fun T => T.f.g.e
def g565 : Gt := fun T => T.f.g.f
def g566 : Gt := fun T => T.f.g.g
def g567 : Gt := fun T => T.f.g.h
def g570 : Gt := fun T => T.f.h.a
def g571 : Gt := fun T => T.f.h.b
def g572 : Gt := fun T => T.f.h.c
def g573 : Gt := fun T => T.f.h.d
def g574 : Gt := fun T => T.f.h.e
def g575 : Gt := fun T => T.f.h.f
def g576 : Gt := fun T => T.f.h.g
def g577 : Gt := fun T => T.f.h.h
def g600 : Gt := fun T => T.g.a.a
def g601 : Gt := fun T => T.g.a.b
def g602 : Gt := fun T => T.g.a.c
def g603 : Gt := fun T => T.g.a.d
def g604 : Gt := fun T => T.g.a.e
def g605 : Gt := fun T => T.g.a.f
def g606 : Gt := fun T => T.g.a.g
def g607 : Gt := fun T => T.g.a.h
def g610 : Gt := fun T => T.g.b.a
def g611 : Gt := fun T => T.g.b.b
def g612 : Gt := fun T => T.g.b.c
def g613 : Gt := fun T => T.g.b.d
def g614 : Gt := fun T => T.g.b.e
def g615 : Gt := fun T => T.g.b.f
def g616 : Gt := fun T => T.g.b.g
def g617 : Gt := fun T => T.g.b.h
def g620 : Gt := fun T => T.g.c.a
def g621 : Gt := fun T => T.g.c.b
def g622 : Gt := fun T => T.g.c.c
def g623 : Gt := fun T => T.g.c.d
def g624 : Gt := fun T => T.g.c.e
def g625 : Gt := fun T => T.g.c.f
def g626 : Gt := fun T => T.g.c.g
def g627 : Gt := fun T => T.g.c.h
def g630 : Gt := fun T => T.g.d.a
def g631 : Gt := fun T => T.g.d.b
def g632 : Gt := fun T => T.g.d.c
def g633 : Gt := fun T => T.g.d.d
def g634 : Gt := fun T => T.g.d.e
def g635 : Gt := fun T => T.g.d.f
def g636 : Gt := fun T => T.g.d.g
def g637 : Gt := fun T => T.g.d.h
def g640 : Gt := fun T => T.g.e.a
def g641 : Gt := fun T => T.g.e.b
def g642 : Gt := fun T => T.g.e.c
def g643 : Gt := fun T => T.g.e.d
def g644 : Gt := fun T => T.g.e.e
def g645 : Gt := fun T => T.g.e.f
def g646 : Gt := fun T => T.g.e.g
def g647 : Gt := fun T => T.g.e.h
def g650 : Gt := fun T => T.g.f.a
def g651 : Gt := fun T => T.g.f.b
def g652 : Gt := fun T => T.g.f.c
def g653 : Gt := fun T => T.g.f.d
def g654 : Gt := fun T => T.g.f.e
def g655 : Gt := fun T => T.g.f.f
def g656 : Gt := fun T => T.g.f.g
def g657 : Gt := fun T => T.g.f.h
def g660 : Gt := fun T => T.g.g.a
def g661 : Gt := fun T => T.g.g.b
def g662 : Gt := fun T => T.g.g.c
def g663 : Gt := fun T => T.g.g.d
def g664 : Gt := fun T => T.g.g.e
def g665 : Gt := fun T => T.g.g.f
def g666 : Gt := fun T => T.g.g.g
def g667 : Gt := fun T => T.g.g.h
def g670 : Gt := fun T => T.g.h.a
def g671 : Gt := fun T => T.g.h.b
def g672 : Gt := fun T => T.g.h.c
def g673 : Gt := fun T => T.g.h.d
def g674 : Gt := fun T => T.g.h.e
def g675 : Gt := fun T => T.g.h.f
def g676 : Gt := fun T => T.g.h.g
def g677 : Gt := fun T => T.g.h.h
def g700 : Gt := fun T => T.h.a.a
def g701 : Gt := fun T => T.h.a.b
def g702 : Gt := fun T => T.h.a.c
def g703 : Gt := fun T => T.h.a.d
def g704 : Gt := fun T => T.h.a.e
def g705 : Gt := fun T => T.h.a.f
def g706 : Gt := fun T => T.h.a.g
def g707 : Gt := fun T => T.h.a.h
def g710 : Gt := fun T => T.h.b.a
def g711 : Gt := fun T => T.h.b.b
def g712 : Gt := fun T => T.h.b.c
def g713 : Gt := fun T => T.h.b.d
def g714 : Gt := fun T => T.h.b.e
def g715 : Gt := fun T => T.h.b.f
def g716 : Gt := fun T => T.h.b.g
def g717 : Gt := fun T => T.h.b.h
def g720 : Gt := fun T => T.h.c.a
def g721 : Gt := fun T => T.h.c.b
def g722 : Gt := fun T => T.h.c.c
def g723 : Gt := fun T => T.h.c.d
def g724 : Gt := fun T => T.h.c.e
def g725 : Gt := fun T => T.h.c.f
def g726 : Gt := fun T => T.h.c.g
def g727 : Gt := fun T => T.h.c.h
def g730 : Gt := fun T => T.h.d.a
def g731 : Gt := fun T => T.h.d.b
def g732 : Gt := fun T => T.h.d.c
def g733 : Gt := fun T => T.h.d.d
def g734 : Gt := fun T => T.h.d.e
def g735 : Gt := fun T => T.h.d.f
def g736 : Gt := fun T => T.h.d.g
def g737 : Gt := fun T => T.h.d.h
def g740 : Gt := fun T => T.h.e.a
def g741 : Gt := fun T => T.h.e.b
def g742 : Gt := fun T => T.h.e.c
def g743 : Gt := fun T => T.h.e.d
def g744 : Gt := fun T => T.h.e.e
def g745 : Gt := fun T => T.h.e.f
def g746 : Gt := fun T => T.h.e.g
def g747 : Gt := fun T => T.h.e.h
def g750 : Gt := fun T => T.h.f.a
def g751 : Gt := fun T => T.h.f.b
def g752 : Gt := fun T => T.h.f.c
def g753 : Gt := fun T => T.h.f.d
def g754 : Gt := fun T => T.h.f.e
def g755 : Gt := fun T => T.h.f.f
def g756 : Gt := fun T => T.h.f.g
def g757 : Gt := fun T => T.h.f.h
def g760 : Gt := fun T => T.h.g.a
def g761 : Gt := fun T => T.h.g.b
def g762 : Gt := fun T => T.h.g.c
def g763 : Gt := fun T => T.h.g.d
def g764 : Gt := fun T => T.h.g.e
def g765 : Gt := fun T => T.h.g.f
def g766 : Gt := fun T => T.h.g.g
def g767 : Gt := fun T => T.h.g.h
def g770 : Gt := fun T => T.h.h.a
def g771 : Gt := fun T => T.h.h.b
def g772 : Gt := fun T => T.h.h.c
def g773 : Gt := fun T => T.h.h.d
def g774 : Gt := fun T => T.h.h.e
def g775 : Gt := fun T => T.h.h.f
def g776 : Gt := fun T => T.h.h.g
def g777 : Gt := fun T => T.h.h.h
def s000 : Pt := fun v T => Q.ua (Q.ua (Q.ua (fun _ => v))) T
def s001 : Pt := fun v T => Q.ua (Q.ua (Q.ub (fun _ => v))) T
def s002 : Pt := fun v T => Q.ua (Q.ua (Q.uc (fun _ => v))) T
def s003 : Pt := fun v T => Q.ua (Q.ua (Q.ud (fun _ => v))) T
def s004 : Pt := fun v T => Q.ua (Q.ua (Q.ue (fun _ => v))) T
def s005 : Pt := fun v T => Q.ua (Q.ua (Q.uf (fun _ => v))) T
def s006 : Pt := fun v T => Q.ua (Q.ua (Q.ug (fun _ => v))) T
def s007 : Pt := fun v T => Q.ua (Q.ua (Q.uh (fun _ => v))) T
def s010 : Pt := fun v T => Q.ua (Q.ub (Q.ua (fun _ => v))) T
def s011 : Pt := fun v T => Q.ua (Q.ub (Q.ub (fun _ => v))) T
def s012 : Pt := fun v T => Q.ua (Q.ub (Q.uc (fun _ => v))) T
def s013 : Pt := fun v T => Q.ua (Q.ub (Q.ud (fun _ => v))) T
def s014 : Pt := fun v T => Q.ua (Q.ub (Q.ue (fun _ => v))) T
def s015 : Pt := fun v T => Q.ua (Q.ub (Q.uf (fun _ => v))) T
def s016 : Pt := fun v T => Q.ua (Q.ub (Q.ug (fun _ => v))) T
def s017 : Pt := fun v T => Q.ua (Q.ub (Q.uh (fun _ => v))) T
def s020 : Pt := fun v T => Q.ua (Q.uc (Q.ua (fun _ => v))) T
def s021 : Pt := fun v T => Q.ua (Q.uc (Q.ub (fun _ => v))) T
def s022 : Pt := fun v T => Q.ua (Q.uc (Q.uc (fun _ => v))) T
def s023 : Pt := fun v T => Q.ua (Q.uc (Q.ud (fun _ => v))) T
def s024 : Pt := fun v T => Q.ua (Q.uc (Q.ue (fun _ => v))) T
def s025 : Pt := fun v T => Q.ua (Q.uc (Q.uf (fun _ => v))) T
def s026 : Pt := fun v T => Q.ua (Q.uc (Q.ug (fun _ => v))) T
def s027 : Pt := fun v T => Q.ua (Q.uc (Q.uh (fun _ => v))) T
def s030 : Pt := fun v T => Q.ua (Q.ud (Q.ua (fun _ => v))) T
def s031 : Pt := fun v T => Q.ua (Q.ud (Q.ub (fun _ => v))) T
def s032 : Pt := fun v T => Q.ua (Q.ud (Q.uc (fun _ => v))) T
def s033 : Pt := fun v T => Q.ua (Q.ud (Q.ud (fun _ => v))) T
def s034 : Pt := fun v T => Q.ua (Q.ud (Q.ue (fun _ => v))) T
def s035 : Pt := fun v T => Q.ua (Q.ud (Q.uf (fun _ => v))) T
def s036 : Pt := fun v T => Q.ua (Q.ud (Q.ug (fun _ => v))) T
def s037 : Pt := fun v T => Q.ua (Q.ud (Q.uh (fun _ => v))) T
def s040 : Pt := fun v T => Q.ua (Q.ue (Q.ua (fun _ => v))) T
def s041 : Pt := fun v T => Q.ua (Q.ue (Q.ub (fun _ => v))) T
def s042 : Pt := fun v T => Q.ua (Q.ue (Q.uc (fun _ => v))) T
def s043 : Pt := fun v T => Q.ua (Q.ue (Q.ud (fun _ => v))) T
def s044 : Pt := fun v T => Q.ua (Q.ue (Q.ue (fun _ => v))) T
def s045 : Pt := fun v T => Q.ua (Q.ue (Q.uf (fun _ => v))) T
def s046 : Pt := fun v T => Q.ua (Q.ue (Q.ug (fun _ => v))) T
def s047 : Pt := fun v T => Q.ua (Q.ue (Q.uh (fun _ => v))) T
def s050 : Pt := fun v T => Q.ua (Q.uf (Q.ua (fun _ => v))) T
def s051 : Pt := fun v T => Q.ua (Q.uf (Q.ub (fun _ => v))) T
def s052 : Pt := fun v T => Q.ua (Q.uf (Q.uc (fun _ => v))) T
def s053 : Pt := fun v T => Q.ua (Q.uf (Q.ud (fun _ => v))) T
def s054 : Pt := fun v T => Q.ua (Q.uf (Q.ue (fun _ => v))) T
def s055 : Pt := fun v T => Q.ua (Q.uf (Q.uf (fun _ => v))) T
def s056 : Pt := fun v T => Q.ua (Q.uf (Q.ug (fun _ => v))) T
def s057 : Pt := fun v T => Q.ua (Q.uf (Q.uh (fun _ => v))) T
def s060 : Pt := fun v T => Q.ua (Q.ug (Q.ua (fun _ => v))) T
def s061 : Pt := fun v T => Q.ua (Q.ug (Q.ub (fun _ => v))) T
def s062 : Pt := fun v T => Q.ua (Q.ug (Q.uc (fun _ => v))) T
def s063 : Pt := fun v T => Q.ua (Q.ug (Q.ud (fun _ => v))) T
def s064 : Pt := fun v T => Q.ua (Q.ug (Q.ue (fun _ => v))) T
def s065 : Pt := fun v T => Q.ua (Q.ug (Q.uf (fun _ => v))) T
def s066 : Pt := fun v T => Q.ua (Q.ug (Q.ug (fun _ => v))) T
def s067 : Pt := fun v T => Q.ua (Q.ug (Q.uh (fun _ => v))) T
def s070 : Pt := fun v T => Q.ua (Q.uh (Q.ua (fun _ => v))) T
def s071 : Pt := fun v T => Q.ua (Q.uh (Q.ub (fun _ => v))) T
def s072 : Pt := fun v T => Q.ua (Q.uh (Q.uc (fun _ => v))) T
def s073 : Pt := fun v T => Q.ua (Q.uh (Q.ud (fun _ => v))) T
def s074 : Pt := fun v T => Q.ua (Q.uh (Q.ue (fun _ => v))) T
def s075 : Pt := fun v T => Q.ua (Q.uh (Q.uf (fun _ => v))) T
def s076 : Pt := fun v T => Q.ua (Q.uh (Q.ug (fun _ => v))) T
def s077 : Pt := fun v T => Q.ua (Q.uh (Q.uh (fun _ => v))) T
def s100 : Pt := fun v T => Q.ub (Q.ua (Q.ua (fun _ => v))) T
def s101 : Pt := fun v T => Q.ub (Q.ua (Q.ub (fun _ => v))) T
def s102 : Pt := fun v T => Q.ub (Q.ua (Q.uc (fun _ => v))) T
def s103 : Pt := fun v T => Q.ub (Q.ua (Q.ud (fun _ => v))) T
def s104 : Pt := fun v T => Q.ub (Q.ua (Q.ue (fun _ => v))) T
def s105 : Pt := fun v T => Q.ub (Q.ua (Q.uf (fun _ => v))) T
def s106 : Pt := fun v T => Q.ub (Q.ua (Q.ug (fun _ => v))) T
def s107 : Pt := fun v T => Q.ub (Q.ua (Q.uh (fun _ => v))) T
def s110 : Pt := fun v T => Q.ub (Q.ub (Q.ua (fun _ => v))) T
def s111 : Pt := fun v T => Q.ub (Q.ub (Q.ub (fun _ => v))) T
def s112 : Pt := fun v T => Q.ub (Q.ub (Q.uc (fun _ => v))) T
def s113 : Pt := fun v T => Q.ub (Q.ub (Q.ud (fun _ => v))) T
def s114 : Pt := fun v T => Q.ub (Q.ub (Q.ue (fun _ => v))) T
def s115 : Pt := fun v T => Q.ub (Q.ub (Q.uf (fun _ => v))) T
def s116 : Pt := fun v T => Q.ub (Q.ub (Q.ug (fun _ => v))) T
def s117 : Pt := fun v T => Q.ub (Q.ub (Q.uh (fun _ => v))) T
def s120 : Pt := fun v T => Q.ub (Q.uc (Q.ua (fun _ => v))) T
def s121 : Pt := fun v T => Q.ub (Q.uc (Q.ub (fun _ => v))) T
def s122 : Pt := fun v T => Q.ub (Q.uc (Q.uc (fun _ => v))) T
def s123 : Pt := fun v T => Q.ub (Q.uc (Q.ud (fun _ => v))) T
def s124 : Pt := fun v T => Q.ub (Q.uc (Q.ue (fun _ => v))) T
def s125 : Pt := fun v T => Q.ub (Q.uc (Q.uf (fun _ => v))) T
def s126 : Pt := fun v T => Q.ub (Q.uc (Q.ug (fun _ => v))) T
def s127 : Pt := fun v T => Q.ub (Q.uc (Q.uh (fun _ => v))) T
def s130 : Pt := fun v T => Q.ub (Q.ud (Q.ua (fun _ => v))) T
def s131 : Pt := fun v T => Q.ub (Q.ud (Q.ub (fun _ => v))) T
def s132 : Pt := fun v T => Q.ub (Q.ud (Q.uc (fun _ => v))) T
def s133 : Pt := fun v T => Q.ub (Q.ud (Q.ud (fun _ => v))) T
def s134 : Pt := fun v T => Q.ub (Q.ud (Q.ue (fun _ => v))) T
def s135 : Pt := fun v T => Q.ub (Q.ud (Q.uf (fun _ => v))) T
def s136 : Pt := fun v T => Q.ub (Q.ud (Q.ug (fun _ => v))) T
def s137 : Pt := fun v T => Q.ub (Q.ud (Q.uh (fun _ => v))) T
def s140 : Pt := fun v T => Q.ub (Q.ue (Q.ua (fun _ => v))) T
def s141 : Pt := fun v T => Q.ub (Q.ue (Q.ub (fun _ => v))) T
def s142 : Pt := fun v T => Q.ub (Q.ue (Q.uc (fun _ => v))) T
def s143 : Pt := fun v T => Q.ub (Q.ue (Q.ud (fun _ => v))) T
def s144 : Pt := fun v T => Q.ub (Q.ue (Q.ue (fun _ => v))) T
def s145 : Pt := fun v T => Q.ub (Q.ue (Q.uf (fun _ => v))) T
def s146 : Pt := fun v T => Q.ub (Q.ue (Q.ug (fun _ => v))) T
def s147 : Pt := fun v T => Q.ub (Q.ue (Q.uh (fun _ => v))) T
def s150 : Pt := fun v T => Q.ub (Q.uf (Q.ua (fun _ => v))) T
def s151 : Pt := fun v T => Q.ub (Q.uf (Q.ub (fun _ => v))) T
def s152 : Pt := fun v T => Q.ub (Q.uf (Q.uc (fun _ => v))) T
def s153 : Pt := fun v T => Q.ub (Q.uf (Q.ud (fun _ => v))) T
def s154 : Pt := fun v T => Q.ub (Q.uf (Q.ue (fun _ => v))) T
def s155 : Pt := fun v T => Q.ub (Q.uf (Q.uf (fun _ => v))) T
def s156 : Pt := fun v T => Q.ub (Q.uf (Q.ug (fun _ => v))) T
def s157 : Pt := fun v T => Q.ub (Q.uf (Q.uh (fun _ => v))) T
def s160 : Pt := fun v T => Q.ub (Q.ug (Q.ua (fun _ => v))) T
def s161 : Pt := fun v T => Q.ub (Q.ug (Q.ub (fun _ => v))) T
def s162 : Pt := fun v T => Q.ub (Q.ug (Q.uc (fun _ => v))) T
def s163 : Pt := fun v T => Q.ub (Q.ug (Q.ud (fun _ => v))) T
def s164 : Pt := fun v T => Q.ub (Q.ug (Q.ue (fun _ => v))) T
def s165 : Pt := fun v T => Q.ub (Q.ug (Q.uf (fun _ => v))) T
def s166 : Pt := fun v T => Q.ub (Q.ug (Q.ug (fun _ => v))) T
def s167 : Pt := fun v T => Q.ub (Q.ug (Q.uh (fun _ => v))) T
def s170 : Pt := fun v T => Q.ub (Q.uh (Q.ua (fun _ => v))) T
def s171 : Pt := fun v T => Q.ub (Q.uh (Q.ub (fun _ => v))) T
def s172 : Pt := fun v T => Q.ub (Q.uh (Q.uc (fun _ => v))) T
def s173 : Pt := fun v T => Q.ub (Q.uh (Q.ud (fun _ => v))) T
def s174 : Pt := fun v T => Q.ub (Q.uh (Q.ue (fun _ => v))) T
def s175 : Pt := fun v T => Q.ub (Q.uh (Q.uf (fun _ => v))) T
def s176 : Pt := fun v T => Q.ub (Q.uh (Q.ug (fun _ => v))) T
def s177 : Pt := fun v T => Q.ub (Q.uh (Q.uh (fun _ => v))) T
def s200 : Pt := fun v T => Q.uc (Q.ua (Q.ua (fun _ => v))) T
def s201 : Pt := fun v T => Q.uc (Q.ua (Q.ub (fun _ => v))) T
def s202 : Pt := fun v T => Q.uc (Q.ua (Q.uc (fun _ => v))) T
def s203 : Pt := fun v T => Q.uc (Q.ua (Q.ud (fun _ => v))) T
def s204 : Pt := fun v T => Q.uc (Q.ua (Q.ue (fun _ => v))) T
def s205 : Pt := fun v T => Q.uc (Q.ua (Q.uf (fun _ => v))) T
def s206 : Pt := fun v T => Q.uc (Q.ua (Q.ug (fun _ => v))) T
def s207 : Pt := fun v T => Q.uc (Q.ua (Q.uh (fun _ => v))) T
def s210 : Pt := fun v T => Q.uc (Q.ub (Q.ua (fun _ => v))) T
def s211 : Pt := fun v T => Q.uc (Q.ub (Q.ub (fun _ => v))) T
def s212 : Pt := fun v T => Q.uc (Q.ub (Q.uc (fun _ => v))) T
def s213 : Pt := fun v T => Q.uc (Q.ub (Q.ud (fun _ => v))) T
def s214 : Pt := fun v T => Q.uc (Q.ub (Q.ue (fun _ => v))) T
def s215 : Pt := fun v T => Q.uc (Q.ub (Q.uf (fun _ => v))) T
def s216 : Pt := fun v T => Q.uc (Q.ub (Q.ug (fun _ => v))) T
def s217 : Pt := fun v T => Q.uc (Q.ub (Q.uh (fun _ => v))) T
def s220 : Pt := fun v T => Q.uc (Q.uc (Q.ua (fun _ => v))) T
def s221 : Pt := fun v T => Q.uc (Q.uc (Q.ub (fun _ => v))) T
def s222 : Pt := fun v T => Q.uc (Q.uc (Q.uc (fun _ => v))) T
def s223 : Pt := fun v T => Q.uc (Q.uc (Q.ud (fun _ => v))) T
def s224 : Pt := fun v T => Q.uc (Q.uc (Q.ue (fun _ => v))) T
def s225 : Pt := fun v T => Q.uc (Q.uc (Q.uf (fun _ => v))) T
def s226 : Pt := fun v T => Q.uc (Q.uc (Q.ug (fun _ => v))) T
def s227 : Pt := fun v T => Q.uc (Q.uc (Q.uh (fun _ => v))) T
def s230 : Pt := fun v T => Q.uc (Q.ud (Q.ua (fun _ => v))) T
def s231 : Pt := fun v T => Q.uc (Q.ud (Q.ub (fun _ => v))) T
def s232 : Pt := fun v T => Q.uc (Q.ud (Q.uc (fun _ => v))) T
def s233 : Pt := fun v T => Q.uc (Q.ud (Q.ud (fun _ => v))) T
def s234 : Pt := fun v T => Q.uc (Q.ud (Q.ue (fun _ => v))) T
def s235 : Pt := fun v T => Q.uc (Q.ud (Q.uf (fun _ => v))) T
def s236 : Pt := fun v T => Q.uc (Q.ud (Q.ug (fun _ => v))) T
def s237 : Pt := fun v T => Q.uc (Q.ud (Q.uh (fun _ => v))) T
def s240 : Pt := fun v T => Q.uc (Q.ue (Q.ua (fun _ => v))) T
def s241 : Pt := fun v T => Q.uc (Q.ue (Q.ub (fun _ => v))) T
def s242 : Pt := fun v T => Q.uc (Q.ue (Q.uc (fun _ => v))) T
def s243 : Pt := fun v T => Q.uc (Q.ue (Q.ud (fun _ => v))) T
def s244 : Pt := fun v T => Q.uc (Q.ue (Q.ue (fun _ => v))) T
def s245 : Pt := fun v T => Q.uc (Q.ue (Q.uf (fun _ => v))) T
def s246 : Pt := fun v T => Q.uc (Q.ue (Q.ug (fun _ => v))) T
def s247 : Pt := fun v T => Q.uc (Q.ue (Q.uh (fun _ => v))) T
def s250 : Pt := fun v T => Q.uc (Q.uf (Q.ua (fun _ => v))) T
def s251 : Pt := fun v T => Q.uc (Q.uf (Q.ub (fun _ => v))) T
def s252 : Pt := fun v T => Q.uc (Q.uf (Q.uc (fun _ => v))) T
def s253 : Pt := fun v T => Q.uc (Q.uf (Q.ud (fun _ => v))) T
def s254 : Pt := fun v T => Q.uc (Q.uf (Q.ue (fun _ => v))) T
def s255 : Pt := fun v T => Q.uc (Q.uf (Q.uf (fun _ => v))) T
def s256 : Pt := fun v T => Q.uc (Q.uf (Q.ug (fun _ => v))) T
def s257 : Pt := fun v T => Q.uc (Q.uf (Q.uh (fun _ => v))) T
def s260 : Pt := fun v T => Q.uc (Q.ug (Q.ua (fun _ => v))) T
def s261 : Pt := fun v T => Q.uc (Q.ug (Q.ub (fun _ => v))) T
def s262 : Pt := fun v T => Q.uc (Q.ug (Q.uc (fun _ => v))) T
def s263 : Pt := fun v T => Q.uc (Q.ug (Q.ud (fun _ => v))) T
def s264 : Pt := fun v T => Q.uc (Q.ug (Q.ue (fun _ => v))) T
def s265 : Pt := fun v T => Q.uc (Q.ug (Q.uf (fun _ => v))) T
def s266 : Pt := fun v T => Q.uc (Q.ug (Q.ug (fun _ => v))) T
def s267 : Pt := fun v T => Q.uc (Q.ug (Q.uh (fun _ => v))) T
def s270 : Pt := fun v T => Q.uc (Q.uh (Q.ua (fun _ => v))) T
def s271 : Pt := fun v T => Q.uc (Q.uh (Q.ub (fun _ => v))) T
def s272 : Pt := fun v T => Q.uc (Q.uh (Q.uc (fun _ => v))) T
def s273 : Pt := fun v T => Q.uc (Q.uh (Q.ud (fun _ => v))) T
def s274 : Pt := fun v T => Q.uc (Q.uh (Q.ue (fun _ => v))) T
def s275 : Pt := fun v T => Q.uc (Q.uh (Q.uf (fun _ => v))) T
def s276 : Pt := fun v T => Q.uc (Q.uh (Q.ug (fun _ => v))) T
def s277 : Pt := fun v T => Q.uc (Q.uh (Q.uh (fun _ => v))) T
def s300 : Pt := fun v T => Q.ud (Q.ua (Q.ua (fun _ => v))) T
def s301 : Pt := fun v T => Q.ud (Q.ua (Q.ub (fun _ => v))) T
def s302 : Pt := fun v T => Q.ud (Q.ua (Q.uc (fun _ => v))) T
def s303 : Pt := fun v T => Q.ud (Q.ua (Q.ud (fun _ => v))) T
def s304 : Pt := fun v T => Q.ud (Q.ua (Q.ue (fun _ => v))) T
def s305 : Pt := fun v T => Q.ud (Q.ua (Q.uf (fun _ => v))) T
def s306 : Pt := fun v T => Q.ud (Q.ua (Q.ug (fun _ => v))) T
def s307 : Pt := fun v T => Q.ud (Q.ua (Q.uh (fun _ => v))) T
def s310 : Pt := fun v T => Q.ud (Q.ub (Q.ua (fun _ => v))) T
def s311 : Pt := fun v T => Q.ud (Q.ub (Q.ub (fun _ => v))) T
def s312 : Pt := fun v T => Q.ud (Q.ub (Q.uc (fun _ => v))) T
def s313 : Pt := fun v T => Q.ud (Q.ub (Q.ud (fun _ => v))) T
def s314 : Pt := fun v T => Q.ud (Q.ub (Q.ue (fun _ => v))) T
def s315 : Pt := fun v T => Q.ud (Q.ub (Q.uf (fun _ => v))) T
def s316 : Pt := fun v T => Q.ud (Q.ub (Q.ug (fun _ => v))) T
def s317 : Pt := fun v T => Q.ud (Q.ub (Q.uh (fun _ => v))) T
def s320 : Pt := fun v T => Q.ud (Q.uc (Q.ua (fun _ => v))) T
def s321 : Pt := fun v T => Q.ud (Q.uc (Q.ub (fun _ => v))) T
def s322 : Pt := fun v T => Q.ud (Q.uc (Q.uc (fun _ => v))) T
def s323 : Pt := fun v T => Q.ud (Q.uc (Q.ud (fun _ => v))) T
def s324 : Pt := fun v T => Q.ud (Q.uc (Q.ue (fun _ => v))) T
def s325 : Pt := fun v T => Q.ud (Q.uc (Q.uf (fun _ => v))) T
def s326 : Pt := fun v T => Q.ud (Q.uc (Q.ug (fun _ => v))) T
def s327 : Pt := fun v T => Q.ud (Q.uc (Q.uh (fun _ => v))) T
def s330 : Pt := fun v T => Q.ud (Q.ud (Q.ua (fun _ => v))) T
def s331 : Pt := fun v T => Q.ud (Q.ud (Q.ub (fun _ => v))) T
def s332 : Pt := fun v T => Q.ud (Q.ud (Q.uc (fun _ => v))) T
def s333 : Pt := fun v T => Q.ud (Q.ud (Q.ud (fun _ => v))) T
def s334 : Pt := fun v T => Q.ud (Q.ud (Q.ue (fun _ => v))) T
def s335 : Pt := fun v T => Q.ud (Q.ud (Q.uf (fun _ => v))) T
def s336 : Pt := fun v T => Q.ud (Q.ud (Q.ug (fun _ => v))) T
def s337 : Pt := fun v T => Q.ud (Q.ud (Q.uh (fun _ => v))) T
def s340 : Pt := fun v T => Q.ud (Q.ue (Q.ua (fun _ => v))) T
def s341 : Pt := fun v T => Q.ud (Q.ue (Q.ub (fun _ => v))) T
def s342 : Pt := fun v T => Q.ud (Q.ue (Q.uc (fun _ => v))) T
def s343 : Pt := fun v T => Q.ud (Q.ue (Q.ud (fun _ => v))) T
def s344 : Pt := fun v T => Q.ud (Q.ue (Q.ue (fun _ => v))) T
def s345 : Pt := fun v T => Q.ud (Q.ue (Q.uf (fun _ => v))) T
def s346 : Pt := fun v T => Q.ud (Q.ue (Q.ug (fun _ => v))) T
def s347 : Pt := fun v T => Q.ud (Q.ue (Q.uh (fun _ => v))) T
def s350 : Pt := fun v T => Q.ud (Q.uf (Q.ua (fun _ => v))) T
def s351 : Pt := fun v T => Q.ud (Q.uf (Q.ub (fun _ => v))) T
def s352 : Pt := fun v T => Q.ud (Q.uf (Q.uc (fun _ => v))) T
def s353 : Pt := fun v T => Q.ud (Q.uf (Q.ud (fun _ => v))) T
def s354 : Pt := fun v T => Q.ud (Q.uf (Q.ue (fun _ => v))) T
def s355 : Pt := fun v T => Q.ud (Q.uf (Q.uf (fun _ => v))) T
def s356 : Pt := fun v T => Q.ud (Q.uf (Q.ug (fun _ => v))) T
def s357 : Pt := fun v T => Q.ud (Q.uf (Q.uh (fun _ => v))) T
def s360 : Pt := fun v T => Q.ud (Q.ug (Q.ua (fun _ => v))) T
def s361 : Pt := fun v T => Q.ud (Q.ug (Q.ub (fun _ => v))) T
def s362 : Pt := fun v T => Q.ud (Q.ug (Q.uc (fun _ => v))) T
def s363 : Pt := fun v T => Q.ud (Q.ug (Q.ud (fun _ => v))) T
def s364 : Pt := fun v T => Q.ud (Q.ug (Q.ue (fun _ => v))) T
def s365 : Pt := fun v T => Q.ud (Q.ug (Q.uf (fun _ => v))) T
def s366 : Pt := fun v T => Q.ud (Q.ug (Q.ug (fun _ => v))) T
def s367 : Pt := fun v T => Q.ud (Q.ug (Q.uh (fun _ => v))) T
def s370 : Pt := fun v T => Q.ud (Q.uh (Q.ua (fun _ => v))) T
def s371 : Pt := fun v T => Q.ud (Q.uh (Q.ub (fun _ => v))) T
def s372 : Pt := fun v T => Q.ud (Q.uh (Q.uc (fun _ => v))) T
def s373 : Pt := fun v T => Q.ud (Q.uh (Q.ud (fun _ => v))) T
def s374 : Pt := fun v T => Q.ud (Q.uh (Q.ue (fun _ => v))) T
def s375 : Pt := fun v T => Q.ud (Q.uh (Q.uf (fun _ => v))) T
def s376 : Pt := fun v T => Q.ud (Q.uh (Q.ug (fun _ => v))) T
def s377 : Pt := fun v T => Q.ud (Q.uh (Q.uh (fun _ => v))) T
def s400 : Pt := fun v T => Q.ue (Q.ua (Q.ua (fun _ => v))) T
def s401 : Pt := fun v T => Q.ue (Q.ua (Q.ub (fun _ => v))) T
def s402 : Pt := fun v T => Q.ue (Q.ua (Q.uc (fun _ => v))) T
def s403 : Pt := fun v T => Q.ue (Q.ua (Q.ud (fun _ => v))) T
def s404 : Pt := fun v T => Q.ue (Q.ua (Q.ue (fun _ => v))) T
def s405 : Pt := fun v T => Q.ue (Q.ua (Q.uf (fun _ => v))) T
def s406 : Pt := fun v T => Q.ue (Q.ua (Q.ug (fun _ => v))) T
def s407 : Pt := fun v T => Q.ue (Q.ua (Q.uh (fun _ => v))) T
def s410 : Pt := fun v T => Q.ue (Q.ub (Q.ua (fun _ => v))) T
def s411 : Pt := fun v T => Q.ue (Q.ub (Q.ub (fun _ => v))) T
def s412 : Pt := fun v T => Q.ue (Q.ub (Q.uc (fun _ => v))) T
def s413 : Pt := fun v T => Q.ue (Q.ub (Q.ud (fun _ => v))) T
def s414 : Pt := fun v T => Q.ue (Q.ub (Q.ue (fun _ => v))) T
def s415 : Pt := fun v T => Q.ue (Q.ub (Q.uf (fun _ => v))) T
def s416 : Pt := fun v T => Q.ue (Q.ub (Q.ug (fun _ => v))) T
def s417 : Pt := fun v T => Q.ue (Q.ub (Q.uh (fun _ => v))) T
def s420 : Pt := fun v T => Q.ue (Q.uc (Q.ua (fun _ => v))) T
def s421 : Pt := fun v T => Q.ue (Q.uc (Q.ub (fun _ => v))) T
def s422 : Pt := fun v T => Q.ue (Q.uc (Q.uc (fun _ => v))) T
def s423 : Pt := fun v T => Q.ue (Q.uc (Q.ud (fun _ => v))) T
def s424 : Pt := fun v T => Q.ue (Q.uc (Q.ue (fun _ => v))) T
def s425 : Pt := fun v T => Q.ue (Q.uc (Q.uf (fun _ => v))) T
def s426 : Pt := fun v T => Q.ue (Q.uc (Q.ug (fun _ => v))) T
def s427 : Pt := fun v T => Q.ue (Q.uc (Q.uh (fun _ => v))) T
def s430 : Pt := fun v T => Q.ue (Q.ud (Q.ua (fun _ => v))) T
def s431 : Pt := fun v T => Q.ue (Q.ud (Q.ub (fun _ => v))) T
def s432 : Pt := fun v T => Q.ue (Q.ud (Q.uc (fun _ => v))) T
def s433 : Pt := fun v T => Q.ue (Q.ud (Q.ud (fun _ => v))) T
def s434 : Pt := fun v T => Q.ue (Q.ud (Q.ue (fun _ => v))) T
def s435 : Pt := fun v T => Q.ue (Q.ud (Q.uf (fun _ => v))) T
def s436 : Pt := fun v T => Q.ue (Q.ud (Q.ug (fun _ => v))) T
def s437 : Pt := fun v T => Q.ue (Q.ud (Q.uh (fun _ => v))) T
def s440 : Pt := fun v T => Q.ue (Q.ue (Q.ua (fun _ => v))) T
def s441 : Pt := fun v T => Q.ue (Q.ue (Q.ub (fun _ => v))) T
def s442 : Pt := fun v T => Q.ue (Q.ue (Q.uc (fun _ => v))) T
def s443 : Pt := fun v T => Q.ue (Q.ue (Q.ud (fun _ => v))) T
def s444 : Pt := fun v T => Q.ue (Q.ue (Q.ue (fun _ => v))) T
def s445 : Pt := fun v T => Q.ue (Q.ue (Q.uf (fun _ => v))) T
def s446 : Pt := fun v T => Q.ue (Q.ue (Q.ug (fun _ => v))) T
def s447 : Pt := fun v T => Q.ue (Q.ue (Q.uh (fun _ => v))) T
def s450 : Pt := fun v T => Q.ue (Q.uf (Q.ua (fun _ => v))) T
def s451 : Pt := fun v T => Q.ue (Q.uf (Q.ub (fun _ => v))) T
def s452 : Pt := fun v T => Q.ue (Q.uf (Q.uc (fun _ => v))) T
def s453 : Pt := fun v T => Q.ue (Q.uf (Q.ud (fun _ => v))) T
def s454 : Pt := fun v T => Q.ue (Q.uf (Q.ue (fun _ => v))) T
def s455 : Pt := fun v T => Q.ue (Q.uf (Q.uf (fun _ => v))) T
def s456 : Pt := fun v T => Q.ue (Q.uf (Q.ug (fun _ => v))) T
def s457 : Pt := fun v T => Q.ue (Q.uf (Q.uh (fun _ => v))) T
def s460 : Pt := fun v T => Q.ue (Q.ug (Q.ua (fun _ => v))) T
def s461 : Pt := fun v T => Q.ue (Q.ug (Q.ub (fun _ => v))) T
def s462 : Pt := fun v T => Q.ue (Q.ug (Q.uc (fun _ => v))) T
def s463 : Pt := fun v T => Q.ue (Q.ug (Q.ud (fun _ => v))) T
def s464 : Pt := fun v T => Q.ue (Q.ug (Q.ue (fun _ => v))) T
def s465 : Pt := fun v T => Q.ue (Q.ug (Q.uf (fun _ => v))) T
def s466 : Pt := fun v T => Q.ue (Q.ug (Q.ug (fun _ => v))) T
def s467 : Pt := fun v T => Q.ue (Q.ug (Q.uh (fun _ => v))) T
def s470 : Pt := fun v T => Q.ue (Q.uh (Q.ua (fun _ => v))) T
def s471 : Pt := fun v T => Q.ue (Q.uh (Q.ub (fun _ => v))) T
def s472 : Pt := fun v T => Q.ue (Q.uh (Q.uc (fun _ => v))) T
def s473 : Pt := fun v T => Q.ue (Q.uh (Q.ud (fun _ => v))) T
def s474 : Pt := fun v T => Q.ue (Q.uh (Q.ue (fun _ => v))) T
def s475 : Pt := fun v T => Q.ue (Q.uh (Q.uf (fun _ => v))) T
def s476 : Pt := fun v T => Q.ue (Q.uh (Q.ug (fun _ => v))) T
def s477 : Pt := fun v T => Q.ue (Q.uh (Q.uh (fun _ => v))) T
def s500 : Pt := fun v T => Q.uf (Q.ua (Q.ua (fun _ => v))) T
def s501 : Pt := fun v T => Q.uf (Q.ua (Q.ub (fun _ => v))) T
def s502 : Pt := fun v T => Q.uf (Q.ua (Q.uc (fun _ => v))) T
def s503 : Pt := fun v T => Q.uf (Q.ua (Q.ud (fun _ => v))) T
def s504 : Pt := fun v T => Q.uf (Q.ua (Q.ue (fun _ => v))) T
def s505 : Pt := fun v T => Q.uf (Q.ua (Q.uf (fun _ => v))) T
def s506 : Pt := fun v T => Q.uf (Q.ua (Q.ug (fun _ => v))) T
def s507 : Pt := fun v T => Q.uf (Q.ua (Q.uh (fun _ => v))) T
def s510 : Pt := fun v T => Q.uf (Q.ub (Q.ua (fun _ => v))) T
def s511 : Pt := fun v T => Q.uf (Q.ub (Q.ub (fun _ => v))) T
def s512 : Pt := fun v T => Q.uf (Q.ub (Q.uc (fun _ => v))) T
def s513 : Pt := fun v T => Q.uf (Q.ub (Q.ud (fun _ => v))) T
def s514 : Pt := fun v T => Q.uf (Q.ub (Q.ue (fun _ => v))) T
def s515 : Pt := fun v T => Q.uf (Q.ub (Q.uf (fun _ => v))) T
def s516 : Pt := fun v T => Q.uf (Q.ub (Q.ug (fun _ => v))) T
def s517 : Pt := fun v T => Q.uf (Q.ub (Q.uh (fun _ => v))) T
def s520 : Pt := fun v T => Q.uf (Q.uc (Q.ua (fun _ => v))) T
def s521 : Pt := fun v T => Q.uf (Q.uc (Q.ub (fun _ => v))) T
def s522 : Pt := fun v T => Q.uf (Q.uc (Q.uc (fun _ => v))) T
def s523 : Pt := fun v T => Q.uf (Q.uc (Q.ud (fun _ => v))) T
def s524 : Pt := fun v T => Q.uf (Q.uc (Q.ue (fun _ => v))) T
def s525 : Pt := fun v T => Q.uf (Q.uc (Q.uf (fun _ => v))) T
def s526 : Pt := fun v T => Q.uf (Q.uc (Q.ug (fun _ => v))) T
def s527 : Pt := fun v T => Q.uf (Q.uc (Q.uh (fun _ => v))) T
def s530 : Pt := fun v T => Q.uf (Q.ud (Q.ua (fun _ => v))) T
def s531 : Pt := fun v T => Q.uf (Q.ud (Q.ub (fun _ => v))) T
def s532 : Pt := fun v T => Q.uf (Q.ud (Q.uc (fun _ => v))) T
def s533 : Pt := fun v T => Q.uf (Q.ud (Q.ud (fun _ => v))) T
def s534 : Pt := fun v T => Q.uf (Q.ud (Q.ue (fun _ => v))) T
def s535 : Pt := fun v T => Q.uf (Q.ud (Q.uf (fun _ => v))) T
def s536 : Pt := fun v T => Q.uf (Q.ud (Q.ug (fun _ => v))) T
def s537 : Pt := fun v T => Q.uf (Q.ud (Q.uh (fun _ => v))) T
def s540 : Pt := fun v T => Q.uf (Q.ue (Q.ua (fun _ => v))) T
def s541 : Pt := fun v T => Q.uf (Q.ue (Q.ub (fun _ => v))) T
def s542 : Pt := fun v T => Q.uf (Q.ue (Q.uc (fun _ => v))) T
def s543 : Pt := fun v T => Q.uf (Q.ue (Q.ud (fun _ => v))) T
def s544 : Pt := fun v T => Q.uf (Q.ue (Q.ue (fun _ => v))) T
def s545 : Pt := fun v T => Q.uf (Q.ue (Q.uf (fun _ => v))) T
def s546 : Pt := fun v T => Q.uf (Q.ue (Q.ug (fun _ => v))) T
def s547 : Pt := fun v T => Q.uf (Q.ue (Q.uh (fun _ => v))) T
def s550 : Pt := fun v T => Q.uf (Q.uf (Q.ua (fun _ => v))) T
def s551 : Pt := fun v T => Q.uf (Q.uf (Q.ub (fun _ => v))) T
def s552 : Pt := fun v T => Q.uf (Q.uf (Q.uc (fun _ => v))) T
def s553 : Pt := fun v T => Q.uf (Q.uf (Q.ud (fun _ => v))) T
def s554 : Pt := fun v T => Q.uf (Q.uf (Q.ue (fun _ => v))) T
def s555 : Pt := fun v T => Q.uf (Q.uf (Q.uf (fun _ => v))) T
def s556 : Pt := fun v T => Q.uf (Q.uf (Q.ug (fun _ => v))) T
def s557 : Pt := fun v T => Q.uf (Q.uf (Q.uh (fun _ => v))) T
def s560 : Pt := fun v T => Q.uf (Q.ug (Q.ua (fun _ => v))) T
def s561 : Pt := fun v T => Q.uf (Q.ug (Q.ub (fun _ => v))) T
def s562 : Pt := fun v T => Q.uf (Q.ug (Q.uc (fun _ => v))) T
def s563 : Pt := fun v T => Q.uf (Q.ug (Q.ud (fun _ => v))) T
def s564 : Pt := fun v T => Q.uf (Q.ug (Q.ue (fun _ => v))) T
def s565 : Pt := fun v T => Q.uf (Q.ug (Q.uf (fun _ => v))) T
def s566 : Pt := fun v T => Q.uf (Q.ug (Q.ug (fun _ => v))) T
def s567 : Pt := fun v T => Q.uf (Q.ug (Q.uh (fun _ => v))) T
def s570 : Pt := fun v T => Q.uf (Q.uh (Q.ua (fun _ => v))) T
def s571 : Pt := fun v T => Q.uf (Q.uh (Q.ub (fun _ => v))) T
def s572 : Pt := fun v T => Q.uf (Q.uh (Q.uc (fun _ => v))) T
def s573 : Pt := fun v T => Q.uf (Q.uh (Q.ud (fun _ => v))) T
def s574 : Pt := fun v T => Q.uf (Q.uh (Q.ue (fun _ => v))) T
def s575 : Pt := fun v T => Q.uf (Q.uh (Q.uf (fun _ => v))) T
def s576 : Pt := fun v T => Q.uf (Q.uh (Q.ug (fun _ => v))) T
def s577 : Pt := fun v T => Q.uf (Q.uh (Q.uh (fun _ => v))) T
def s600 : Pt := fun v T => Q.ug (Q.ua (Q.ua (fun _ => v))) T
def s601 : Pt := fun v T => Q.ug (Q.ua (Q.ub (fun _ => v))) T
def s602 : Pt := fun v T => Q.ug (Q.ua (Q.uc (fun _ => v))) T
def s603 : Pt := fun v T => Q.ug (Q.ua (Q.ud (fun _ => v))) T
def s604 : Pt := fun v T => Q.ug (Q.ua (Q.ue (fun _ => v))) T
def s605 : Pt := fun v T => Q.ug (Q.ua (Q.uf (fun _ => v))) T
def s606 : Pt := fun v T => Q.ug (Q.ua (Q.ug (fun _ => v))) T
def s607 : Pt := fun v T => Q.ug (Q.ua (Q.uh (fun _ => v))) T
def s610 : Pt := fun v T => Q.ug (Q.ub (Q.ua (fun _ => v))) T
def s611 : Pt := fun v T => Q.ug (Q.ub (Q.ub (fun _ => v))) T
def s612 : Pt := fun v T => Q.ug (Q.ub (Q.uc (fun _ => v))) T
def s613 : Pt := fun v T => Q.ug (Q.ub (Q.ud (fun _ => v))) T
def s614 : Pt := fun v T => Q.ug (Q.ub (Q.ue (fun _ => v))) T
def s615 : Pt := fun v T => Q.ug (Q.ub (Q.uf (fun _ => v))) T
def s616 : Pt := fun v T => Q.ug (Q.ub (Q.ug (fun _ => v))) T
def s617 : Pt := fun v T => Q.ug (Q.ub (Q.uh (fun _ => v))) T
def s620 : Pt := fun v T => Q.ug (Q.uc (Q.ua (fun _ => v))) T
def s621 : Pt := fun v T => Q.ug (Q.uc (Q.ub (fun _ => v))) T
def s622 : Pt := fun v T => Q.ug (Q.uc (Q.uc (fun _ => v))) T
def s623 : Pt := fun v T => Q.ug (Q.uc (Q.ud (fun _ => v))) T
def s624 : Pt := fun v T => Q.ug (Q.uc (Q.ue (fun _ => v))) T
def s625 : Pt := fun v T => Q.ug (Q.uc (Q.uf (fun _ => v))) T
def s626 : Pt := fun v T => Q.ug (Q.uc (Q.ug (fun _ => v))) T
def s627 : Pt := fun v T => Q.ug (Q.uc (Q.uh (fun _ => v))) T
def s630 : Pt := fun v T => Q.ug (Q.ud (Q.ua (fun _ => v))) T
def s631 : Pt := fun v T => Q.ug (Q.ud (Q.ub (fun _ => v))) T
def s632 : Pt := fun v T => Q.ug (Q.ud (Q.uc (fun _ => v))) T
def s633 : Pt := fun v T => Q.ug (Q.ud (Q.ud (fun _ => v))) T
def s634 : Pt := fun v T => Q.ug (Q.ud (Q.ue (fun _ => v))) T
def s635 : Pt := fun v T => Q.ug (Q.ud (Q.uf (fun _ => v))) T
def s636 : Pt := fun v T => Q.ug (Q.ud (Q.ug (fun _ => v))) T
def s637 : Pt := fun v T => Q.ug (Q.ud (Q.uh (fun _ => v))) T
def s640 : Pt := fun v T => Q.ug (Q.ue (Q.ua (fun _ => v))) T
def s641 : Pt := fun v T => Q.ug (Q.ue (Q.ub (fun _ => v))) T
def s642 : Pt := fun v T => Q.ug (Q.ue (Q.uc (fun _ => v))) T
def s643 : Pt := fun v T => Q.ug (Q.ue (Q.ud (fun _ => v))) T
def s644 : Pt := fun v T => Q.ug (Q.ue (Q.ue (fun _ => v))) T
def s645 : Pt := fun v T => Q.ug (Q.ue (Q.uf (fun _ => v))) T
def s646 : Pt := fun v T => Q.ug (Q.ue (Q.ug (fun _ => v))) T
def s647 : Pt := fun v T => Q.ug (Q.ue (Q.uh (fun _ => v))) T
def s650 : Pt := fun v T => Q.ug (Q.uf (Q.ua (fun _ => v))) T
def s651 : Pt := fun v T => Q.ug (Q.uf (Q.ub (fun _ => v))) T
def s652 : Pt := fun v T => Q.ug (Q.uf (Q.uc (fun _ => v))) T
def s653 : Pt := fun v T => Q.ug (Q.uf (Q.ud (fun _ => v))) T
def s654 : Pt := fun v T => Q.ug (Q.uf (Q.ue (fun _ => v))) T
def s655 : Pt := fun v T => Q.ug (Q.uf (Q.uf (fun _ => v))) T
def s656 : Pt := fun v T => Q.ug (Q.uf (Q.ug (fun _ => v))) T
def s657 : Pt := fun v T => Q.ug (Q.uf (Q.uh (fun _ => v))) T
def s660 : Pt := fun v T => Q.ug (Q.ug (Q.ua (fun _ => v))) T
def s661 : Pt := fun v T => Q.ug (Q.ug (Q.ub (fun _ => v))) T
def s662 : Pt := fun v T => Q.ug (Q.ug (Q.uc (fun _ => v))) T
def s663 : Pt := fun v T => Q.ug (Q.ug (Q.ud (fun _ => v))) T
def s664 : Pt := fun v T => Q.ug (Q.ug (Q.ue (fun _ => v))) T
def s665 : Pt := fun v T => Q.ug (Q.ug (Q.uf (fun _ => v))) T
def s666 : Pt := fun v T => Q.ug (Q.ug (Q.ug (fun _ => v))) T
def s667 : Pt := fun v T => Q.ug (Q.ug (Q.uh (fun _ => v))) T
def s670 : Pt := fun v T => Q.ug (Q.uh (Q.ua (fun _ => v))) T
def s671 : Pt := fun v T => Q.ug (Q.uh (Q.ub (fun _ => v))) T
def s672 : Pt := fun v T => Q.ug (Q.uh (Q.uc (fun _ => v))) T
def s673 : Pt := fun v T => Q.ug (Q.uh (Q.ud (fun _ => v))) T
def s674 : Pt := fun v T => Q.ug (Q.uh (Q.ue (fun _ => v))) T
def s675 : Pt := fun v T => Q.ug (Q.uh (Q.uf (fun _ => v))) T
def s676 : Pt := fun v T => Q.ug (Q.uh (Q.ug (fun _ => v))) T
def s677 : Pt := fun v T => Q.ug (Q.uh (Q.uh (fun _ => v))) T
def s700 : Pt := fun v T => Q.uh (Q.ua (Q.ua (fun _ => v))) T
def s701 : Pt := fun v T => Q.uh (Q.ua (Q.ub (fun _ => v))) T
def s702 : Pt := fun v T => Q.uh (Q.ua (Q.uc (fun _ => v))) T
def s703 : Pt := fun v T => Q.uh (Q.ua (Q.ud (fun _ => v))) T
def s704 : Pt := fun v T => Q.uh (Q.ua (Q.ue (fun _ => v))) T
def s705 : Pt := fun v T => Q.uh (Q.ua (Q.uf (fun _ => v))) T
def s706 : Pt := fun v T => Q.uh (Q.ua (Q.ug (fun _ => v))) T
def s707 : Pt := fun v T => Q.uh (Q.ua (Q.uh (fun _ => v))) T
def s710 : Pt := fun v T => Q.uh (Q.ub (Q.ua (fun _ => v))) T
def s711 : Pt := fun v T => Q.uh (Q.ub (Q.ub (fun _ => v))) T
def s712 : Pt := fun v T => Q.uh (Q.ub (Q.uc (fun _ => v))) T
def s713 : Pt := fun v T => Q.uh (Q.ub (Q.ud (fun _ => v))) T
def s714 : Pt := fun v T => Q.uh (Q.ub (Q.ue (fun _ => v))) T
def s715 : Pt := fun v T => Q.uh (Q.ub (Q.uf (fun _ => v))) T
def s716 : Pt := fun v T => Q.uh (Q.ub (Q.ug (fun _ => v))) T
def s717 : Pt := fun v T => Q.uh (Q.ub (Q.uh (fun _ => v))) T
def s720 : Pt := fun v T => Q.uh (Q.uc (Q.ua (fun _ => v))) T
def s721 : Pt := fun v T => Q.uh (Q.uc (Q.ub (fun _ => v))) T
def s722 : Pt := fun v T => Q.uh (Q.uc (Q.uc (fun _ => v))) T
def s723 : Pt := fun v T => Q.uh (Q.uc (Q.ud (fun _ => v))) T
def s724 : Pt := fun v T => Q.uh (Q.uc (Q.ue (fun _ => v))) T
def s725 : Pt := fun v T => Q.uh (Q.uc (Q.uf (fun _ => v))) T
def s726 : Pt := fun v T => Q.uh (Q.uc (Q.ug (fun _ => v))) T
def s727 : Pt := fun v T => Q.uh (Q.uc (Q.uh (fun _ => v))) T
def s730 : Pt := fun v T => Q.uh (Q.ud (Q.ua (fun _ => v))) T
def s731 : Pt := fun v T => Q.uh (Q.ud (Q.ub (fun _ => v))) T
def s732 : Pt := fun v T => Q.uh (Q.ud (Q.uc (fun _ => v))) T
def s733 : Pt := fun v T => Q.uh (Q.ud (Q.ud (fun _ => v))) T
def s734 : Pt := fun v T => Q.uh (Q.ud (Q.ue (fun _ => v))) T
def s735 : Pt := fun v T => Q.uh (Q.ud (Q.uf (fun _ => v))) T
def s736 : Pt := fun v T => Q.uh (Q.ud (Q.ug (fun _ => v))) T
def s737 : Pt := fun v T => Q.uh (Q.ud (Q.uh (fun _ => v))) T
def s740 : Pt := fun v T => Q.uh (Q.ue (Q.ua (fun _ => v))) T
def s741 : Pt := fun v T => Q.uh (Q.ue (Q.ub (fun _ => v))) T
def s742 : Pt := fun v T => Q.uh (Q.ue (Q.uc (fun _ => v))) T
def s743 : Pt := fun v T => Q.uh (Q.ue (Q.ud (fun _ => v))) T
def s744 : Pt := fun v T => Q.uh (Q.ue (Q.ue (fun _ => v))) T
def s745 : Pt := fun v T => Q.uh (Q.ue (Q.uf (fun _ => v))) T
def s746 : Pt := fun v T => Q.uh (Q.ue (Q.ug (fun _ => v))) T
def s747 : Pt := fun v T => Q.uh (Q.ue (Q.uh (fun _ => v))) T
def s750 : Pt := fun v T => Q.uh (Q.uf (Q.ua (fun _ => v))) T
def s751 : Pt := fun v T => Q.uh (Q.uf (Q.ub (fun _ => v))) T
def s752 : Pt := fun v T => Q.uh (Q.uf (Q.uc (fun _ => v))) T
def s753 : Pt := fun v T => Q.uh (Q.uf (Q.ud (fun _ => v))) T
def s754 : Pt := fun v T => Q.uh (Q.uf (Q.ue (fun _ => v))) T
def s755 : Pt := fun v T => Q.uh (Q.uf (Q.uf (fun _ => v))) T
def s756 : Pt := fun v T => Q.uh (Q.uf (Q.ug (fun _ => v))) T
def s757 : Pt := fun v T => Q.uh (Q.uf (Q.uh (fun _ => v))) T
def s760 : Pt := fun v T => Q.uh (Q.ug (Q.ua (fun _ => v))) T
def s761 : Pt := fun v T => Q.uh (Q.ug (Q.ub (fun _ => v))) T
def s762 : Pt := fun v T => Q.uh (Q.ug (Q.uc (fun _ => v))) T
def s763 : Pt := fun v T => Q.uh (Q.ug (Q.ud (fun _ => v))) T
def s764 : Pt := fun v T => Q.uh (Q.ug (Q.ue (fun _ => v))) T
def s765 : Pt := fun v T => Q.uh (Q.ug (Q.uf (fun _ => v))) T
def s766 : Pt := fun v T => Q.uh (Q.ug (Q.ug (fun _ => v))) T
def s767 : Pt := fun v T => Q.uh (Q.ug (Q.uh (fun _ => v))) T
def s770 : Pt := fun v T => Q.uh (Q.uh (Q.ua (fun _ => v))) T
def s771 : Pt := fun v T => Q.uh (Q.uh (Q.ub (fun _ => v))) T
def s772 : Pt := fun v T => Q.uh (Q.uh (Q.uc (fun _ => v))) T
def s773 : Pt := fun v T => Q.uh (Q.uh (Q.ud (fun _ => v))) T
def s774 : Pt := fun v T => Q.uh (Q.uh (Q.ue (fun _ => v))) T
def s775 : Pt := fun v T => Q.uh (Q.uh (Q.uf (fun _ => v))) T
def s776 : Pt := fun v T => Q.uh (Q.uh (Q.ug (fun _ => v))) T
def s777 : Pt := fun v T => Q.uh (Q.uh (Q.uh (fun _ => v))) T
end
noncomputable def k0z := kc (.int .i64 0)
noncomputable def k1z := kc (.int .i64 1)
noncomputable def kfz := kc (.bool false)
noncomputable def ktz := kc (.bool true)
end Go.Proofs.YtedembbgeljdkaaGreatDoor.Ev
