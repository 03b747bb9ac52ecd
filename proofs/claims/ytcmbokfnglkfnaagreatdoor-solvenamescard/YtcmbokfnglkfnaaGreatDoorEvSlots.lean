/- The evaluator, a part. -/
import Derived.Test.YtcmbokfnglkfnaaGreatDoorEvFast
import Derived.Test.YtcmbokfnglkfnaaGreatDoorEvRel
import Derived.IntWalk
namespace Go.Proofs.YtcmbokfnglkfnaaGreatDoor.Ev
open Go
set_option linter.all false
noncomputable section
def g00 : Gt := fun T => T.a.a.a
def g01 : Gt := fun T => T.a.a.b
def g02 : Gt := fun T => T.a.a.c
def g03 : Gt := fun T => T.a.a.d
def g04 : Gt := fun T => T.a.a.e
def g05 : Gt := fun T => T.a.a.f
def g06 : Gt := fun T => T.a.a.g
def g07 : Gt := fun T => T.a.a.h
def g10 : Gt := fun T => T.a.b.a
def g11 : Gt := fun T => T.a.b.b
def g12 : Gt := fun T => T.a.b.c
def g13 : Gt := fun T => T.a.b.d
def g14 : Gt := fun T => T.a.b.e
def g15 : Gt := fun T => T.a.b.f
def g16 : Gt := fun T => T.a.b.g
def g17 : Gt := fun T => T.a.b.h
def g20 : Gt := fun T => T.a.c.a
def g21 : Gt := fun T => T.a.c.b
def g22 : Gt := fun T => T.a.c.c
def g23 : Gt := fun T => T.a.c.d
def g24 : Gt := fun T => T.a.c.e
def g25 : Gt := fun T => T.a.c.f
def g26 : Gt := fun T => T.a.c.g
def g27 : Gt := fun T => T.a.c.h
def g30 : Gt := fun T => T.a.d.a
def g31 : Gt := fun T => T.a.d.b
def g32 : Gt := fun T => T.a.d.c
def g33 : Gt := fun T => T.a.d.d
def g34 : Gt := fun T => T.a.d.e
def g35 : Gt := fun T => T.a.d.f
def g36 : Gt := fun T => T.a.d.g
def g37 : Gt := fun T => T.a.d.h
def g40 : Gt := fun T => T.a.e.a
def g41 : Gt := fun T => T.a.e.b
def g42 : Gt := fun T => T.a.e.c
def g43 : Gt := fun T => T.a.e.d
def g44 : Gt := fun T => T.a.e.e
def g45 : Gt := fun T => T.a.e.f
def g46 : Gt := fun T => T.a.e.g
def g47 : Gt := fun T => T.a.e.h
def g50 : Gt := fun T => T.a.f.a
def g51 : Gt := fun T => T.a.f.b
def g52 : Gt := fun T => T.a.f.c
def g53 : Gt := fun T => T.a.f.d
def g54 : Gt := fun T => T.a.f.e
def g55 : Gt := fun T => T.a.f.f
def g56 : Gt := fun T => T.a.f.g
def g57 : Gt := fun T => T.a.f.h
def g60 : Gt := fun T => T.a.g.a
def g61 : Gt := fun T => T.a.g.b
def g62 : Gt := fun T => T.a.g.c
def g63 : Gt := fun T => T.a.g.d
def g64 : Gt := fun T => T.a.g.e
def g65 : Gt := fun T => T.a.g.f
def g66 : Gt := fun T => T.a.g.g
def g67 : Gt := fun T => T.a.g.h
def g70 : Gt := fun T => T.a.h.a
def g71 : Gt := fun T => T.a.h.b
def g72 : Gt := fun T => T.a.h.c
def g73 : Gt := fun T => T.a.h.d
def g74 : Gt := fun T => T.a.h.e
def g75 : Gt := fun T => T.a.h.f
def g76 : Gt := fun T => T.a.h.g
def g77 : Gt := fun T => T.a.h.h
def g100 : Gt := fun T => T.b.a.a
def g101 : Gt := fun T => T.b.a.b
def g102 : Gt := fun T => T.b.a.c
def g103 : Gt := fun T => T.b.a.d
def g104 : Gt := fun T => T.b.a.e
def g105 : Gt := fun T => T.b.a.f
def g106 : Gt := fun T => T.b.a.g
def g107 : Gt := fun T => T.b.a.h
def g110 : Gt := fun T => T.b.b.a
def g111 : Gt := fun T => T.b.b.b
def g112 : Gt := fun T => T.b.b.c
def g113 : Gt := fun T => T.b.b.d
def g114 : Gt := fun T => T.b.b.e
def g115 : Gt := fun T => T.b.b.f
def g116 : Gt := fun T => T.b.b.g
def g117 : Gt := fun T => T.b.b.h
def g120 : Gt := fun T => T.b.c.a
def g121 : Gt := fun T => T.b.c.b
def g122 : Gt := fun T => T.b.c.c
def g123 : Gt := fun T => T.b.c.d
def g124 : Gt := fun T => T.b.c.e
def g125 : Gt := fun T => T.b.c.f
def g126 : Gt := fun T => T.b.c.g
def g127 : Gt := fun T => T.b.c.h
def g130 : Gt := fun T => T.b.d.a
def g131 : Gt := fun T => T.b.d.b
def g132 : Gt := fun T => T.b.d.c
def g133 : Gt := fun T => T.b.d.d
def g134 : Gt := fun T => T.b.d.e
def g135 : Gt := fun T => T.b.d.f
def g136 : Gt := fun T => T.b.d.g
def g137 : Gt := fun T => T.b.d.h
def g140 : Gt := fun T => T.b.e.a
def g141 : Gt := fun T => T.b.e.b
def g142 : Gt := fun T => T.b.e.c
def g143 : Gt := fun T => T.b.e.d
def g144 : Gt := fun T => T.b.e.e
def g145 : Gt := fun T => T.b.e.f
def g146 : Gt := fun T => T.b.e.g
def g147 : Gt := fun T => T.b.e.h
def g150 : Gt := fun T => T.b.f.a
def g151 : Gt := fun T => T.b.f.b
def g152 : Gt := fun T => T.b.f.c
def g153 : Gt := fun T => T.b.f.d
def g154 : Gt := fun T => T.b.f.e
def g155 : Gt := fun T => T.b.f.f
def g156 : Gt := fun T => T.b.f.g
def g157 : Gt := fun T => T.b.f.h
def g160 : Gt := fun T => T.b.g.a
def g161 : Gt := fun T => T.b.g.b
def g162 : Gt := fun T => T.b.g.c
def g163 : Gt := fun T => T.b.g.d
def g164 : Gt := fun T => T.b.g.e
def g165 : Gt := fun T => T.b.g.f
def g166 : Gt := fun T => T.b.g.g
def g167 : Gt := fun T => T.b.g.h
def g170 : Gt := fun T => T.b.h.a
def g171 : Gt := fun T => T.b.h.b
def g172 : Gt := fun T => T.b.h.c
def g173 : Gt := fun T => T.b.h.d
def g174 : Gt := fun T => T.b.h.e
def g175 : Gt := fun T => T.b.h.f
def g176 : Gt := fun T => T.b.h.g
def g177 : Gt := fun T => T.b.h.h
def g200 : Gt := fun T => T.c.a.a
def g201 : Gt := fun T => T.c.a.b
def g202 : Gt := fun T => T.c.a.c
def g203 : Gt := fun T => T.c.a.d
def g204 : Gt := fun T => T.c.a.e
def g205 : Gt := fun T => T.c.a.f
def g206 : Gt := fun T => T.c.a.g
def g207 : Gt := fun T => T.c.a.h
def g210 : Gt := fun T => T.c.b.a
def g211 : Gt := fun T => T.c.b.b
def g212 : Gt := fun T => T.c.b.c
def g213 : Gt := fun T => T.c.b.d
def g214 : Gt := fun T => T.c.b.e
def g215 : Gt := fun T => T.c.b.f
def g216 : Gt := fun T => T.c.b.g
def g217 : Gt := fun T => T.c.b.h
def g220 : Gt := fun T => T.c.c.a
def g221 : Gt := fun T => T.c.c.b
def g222 : Gt := fun T => T.c.c.c
def g223 : Gt := fun T => T.c.c.d
def g224 : Gt := fun T => T.c.c.e
def g225 : Gt := fun T => T.c.c.f
def g226 : Gt := fun T => T.c.c.g
def g227 : Gt := fun T => T.c.c.h
def g230 : Gt := fun T => T.c.d.a
def g231 : Gt := fun T => T.c.d.b
def g232 : Gt := fun T => T.c.d.c
def g233 : Gt := fun T => T.c.d.d
def g234 : Gt := fun T => T.c.d.e
def g235 : Gt := fun T => T.c.d.f
def g236 : Gt := fun T => T.c.d.g
def g237 : Gt := fun T => T.c.d.h
def g240 : Gt := fun T => T.c.e.a
def g241 : Gt := fun T => T.c.e.b
def g242 : Gt := fun T => T.c.e.c
def g243 : Gt := fun T => T.c.e.d
def g244 : Gt := fun T => T.c.e.e
def g245 : Gt := fun T => T.c.e.f
def g246 : Gt := fun T => T.c.e.g
def g247 : Gt := fun T => T.c.e.h
def g250 : Gt := fun T => T.c.f.a
def g251 : Gt := fun T => T.c.f.b
def g252 : Gt := fun T => T.c.f.c
def g253 : Gt := fun T => T.c.f.d
def g254 : Gt := fun T => T.c.f.e
def g255 : Gt := fun T => T.c.f.f
def g256 : Gt := fun T => T.c.f.g
def g257 : Gt := fun T => T.c.f.h
def g260 : Gt := fun T => T.c.g.a
def g261 : Gt := fun T => T.c.g.b
def g262 : Gt := fun T => T.c.g.c
def s00 : Pt := fun v T => Q.ua (Q.ua (Q.ua (fun _ => v))) T
def s01 : Pt := fun v T => Q.ua (Q.ua (Q.ub (fun _ => v))) T
def s02 : Pt := fun v T => Q.ua (Q.ua (Q.uc (fun _ => v))) T
def s03 : Pt := fun v T => Q.ua (Q.ua (Q.ud (fun _ => v))) T
def s04 : Pt := fun v T => Q.ua (Q.ua (Q.ue (fun _ => v))) T
def s05 : Pt := fun v T => Q.ua (Q.ua (Q.uf (fun _ => v))) T
def s06 : Pt := fun v T => Q.ua (Q.ua (Q.ug (fun _ => v))) T
def s07 : Pt := fun v T => Q.ua (Q.ua (Q.uh (fun _ => v))) T
def s10 : Pt := fun v T => Q.ua (Q.ub (Q.ua (fun _ => v))) T
def s11 : Pt := fun v T => Q.ua (Q.ub (Q.ub (fun _ => v))) T
def s12 : Pt := fun v T => Q.ua (Q.ub (Q.uc (fun _ => v))) T
def s13 : Pt := fun v T => Q.ua (Q.ub (Q.ud (fun _ => v))) T
def s14 : Pt := fun v T => Q.ua (Q.ub (Q.ue (fun _ => v))) T
def s15 : Pt := fun v T => Q.ua (Q.ub (Q.uf (fun _ => v))) T
def s16 : Pt := fun v T => Q.ua (Q.ub (Q.ug (fun _ => v))) T
def s17 : Pt := fun v T => Q.ua (Q.ub (Q.uh (fun _ => v))) T
def s20 : Pt := fun v T => Q.ua (Q.uc (Q.ua (fun _ => v))) T
def s21 : Pt := fun v T => Q.ua (Q.uc (Q.ub (fun _ => v))) T
def s22 : Pt := fun v T => Q.ua (Q.uc (Q.uc (fun _ => v))) T
def s23 : Pt := fun v T => Q.ua (Q.uc (Q.ud (fun _ => v))) T
def s24 : Pt := fun v T => Q.ua (Q.uc (Q.ue (fun _ => v))) T
def s25 : Pt := fun v T => Q.ua (Q.uc (Q.uf (fun _ => v))) T
def s26 : Pt := fun v T => Q.ua (Q.uc (Q.ug (fun _ => v))) T
def s27 : Pt := fun v T => Q.ua (Q.uc (Q.uh (fun _ => v))) T
def s30 : Pt := fun v T => Q.ua (Q.ud (Q.ua (fun _ => v))) T
def s31 : Pt := fun v T => Q.ua (Q.ud (Q.ub (fun _ => v))) T
def s32 : Pt := fun v T => Q.ua (Q.ud (Q.uc (fun _ => v))) T
def s33 : Pt := fun v T => Q.ua (Q.ud (Q.ud (fun _ => v))) T
def s34 : Pt := fun v T => Q.ua (Q.ud (Q.ue (fun _ => v))) T
def s35 : Pt := fun v T => Q.ua (Q.ud (Q.uf (fun _ => v))) T
def s36 : Pt := fun v T => Q.ua (Q.ud (Q.ug (fun _ => v))) T
def s37 : Pt := fun v T => Q.ua (Q.ud (Q.uh (fun _ => v))) T
def s40 : Pt := fun v T => Q.ua (Q.ue (Q.ua (fun _ => v))) T
def s41 : Pt := fun v T => Q.ua (Q.ue (Q.ub (fun _ => v))) T
def s42 : Pt := fun v T => Q.ua (Q.ue (Q.uc (fun _ => v))) T
def s43 : Pt := fun v T => Q.ua (Q.ue (Q.ud (fun _ => v))) T
def s44 : Pt := fun v T => Q.ua (Q.ue (Q.ue (fun _ => v))) T
def s45 : Pt := fun v T => Q.ua (Q.ue (Q.uf (fun _ => v))) T
def s46 : Pt := fun v T => Q.ua (Q.ue (Q.ug (fun _ => v))) T
def s47 : Pt := fun v T => Q.ua (Q.ue (Q.uh (fun _ => v))) T
def s50 : Pt := fun v T => Q.ua (Q.uf (Q.ua (fun _ => v))) T
def s51 : Pt := fun v T => Q.ua (Q.uf (Q.ub (fun _ => v))) T
def s52 : Pt := fun v T => Q.ua (Q.uf (Q.uc (fun _ => v))) T
def s53 : Pt := fun v T => Q.ua (Q.uf (Q.ud (fun _ => v))) T
def s54 : Pt := fun v T => Q.ua (Q.uf (Q.ue (fun _ => v))) T
def s55 : Pt := fun v T => Q.ua (Q.uf (Q.uf (fun _ => v))) T
def s56 : Pt := fun v T => Q.ua (Q.uf (Q.ug (fun _ => v))) T
def s57 : Pt := fun v T => Q.ua (Q.uf (Q.uh (fun _ => v))) T
def s60 : Pt := fun v T => Q.ua (Q.ug (Q.ua (fun _ => v))) T
def s61 : Pt := fun v T => Q.ua (Q.ug (Q.ub (fun _ => v))) T
def s62 : Pt := fun v T => Q.ua (Q.ug (Q.uc (fun _ => v))) T
def s63 : Pt := fun v T => Q.ua (Q.ug (Q.ud (fun _ => v))) T
def s64 : Pt := fun v T => Q.ua (Q.ug (Q.ue (fun _ => v))) T
def s65 : Pt := fun v T => Q.ua (Q.ug (Q.uf (fun _ => v))) T
def s66 : Pt := fun v T => Q.ua (Q.ug (Q.ug (fun _ => v))) T
def s67 : Pt := fun v T => Q.ua (Q.ug (Q.uh (fun _ => v))) T
def s70 : Pt := fun v T => Q.ua (Q.uh (Q.ua (fun _ => v))) T
def s71 : Pt := fun v T => Q.ua (Q.uh (Q.ub (fun _ => v))) T
def s72 : Pt := fun v T => Q.ua (Q.uh (Q.uc (fun _ => v))) T
def s73 : Pt := fun v T => Q.ua (Q.uh (Q.ud (fun _ => v))) T
def s74 : Pt := fun v T => Q.ua (Q.uh (Q.ue (fun _ => v))) T
def s75 : Pt := fun v T => Q.ua (Q.uh (Q.uf (fun _ => v))) T
def s76 : Pt := fun v T => Q.ua (Q.uh (Q.ug (fun _ => v))) T
def s77 : Pt := fun v T => Q.ua (Q.uh (Q.uh (fun _ => v))) T
def s100 : Pt := fun v T => Q.ub (Q.ua (Q.ua (fun _ => v))) T
def s101 : Pt := fun v T => Q.ub (Q.ua (Q.ub (fun _ => v))) T
def s102 : Pt := fun v T => Q.ub (Q.ua (Q.uc (fun _ => v))) T
def s103 : Pt := fun v T => Q.ub (Q.ua (Q.ud (fun _ => v))) T
def s104 : Pt := fun v T => Q.ub (Q.ua (Q.ue (fun _ => v))) T
def s105 : Pt := fun v T => Q.ub (Q.ua (Q.uf (fun _ => v))) T
def s106 : Pt := fun v T => Q.ub (Q.ua (Q.ug (fun _ => v))) T
def s107 : Pt := fun v T => Q.ub (Q.ua (Q.uh (fun _ => v))) T
def s110 : Pt := fun v T => Q.ub (Q.ub (Q.ua (fun _ => v))) T
def s111 : Pt := fun v T => Q.ub (Q.ub (Q.ub (fun _ => v))) T
def s112 : Pt := fun v T => Q.ub (Q.ub (Q.uc (fun _ => v))) T
def s113 : Pt := fun v T => Q.ub (Q.ub (Q.ud (fun _ => v))) T
def s114 : Pt := fun v T => Q.ub (Q.ub (Q.ue (fun _ => v))) T
def s115 : Pt := fun v T => Q.ub (Q.ub (Q.uf (fun _ => v))) T
def s116 : Pt := fun v T => Q.ub (Q.ub (Q.ug (fun _ => v))) T
def s117 : Pt := fun v T => Q.ub (Q.ub (Q.uh (fun _ => v))) T
def s120 : Pt := fun v T => Q.ub (Q.uc (Q.ua (fun _ => v))) T
def s121 : Pt := fun v T => Q.ub (Q.uc (Q.ub (fun _ => v))) T
def s122 : Pt := fun v T => Q.ub (Q.uc (Q.uc (fun _ => v))) T
def s123 : Pt := fun v T => Q.ub (Q.uc (Q.ud (fun _ => v))) T
def s124 : Pt := fun v T => Q.ub (Q.uc (Q.ue (fun _ => v))) T
def s125 : Pt := fun v T => Q.ub (Q.uc (Q.uf (fun _ => v))) T
def s126 : Pt := fun v T => Q.ub (Q.uc (Q.ug (fun _ => v))) T
def s127 : Pt := fun v T => Q.ub (Q.uc (Q.uh (fun _ => v))) T
def s130 : Pt := fun v T => Q.ub (Q.ud (Q.ua (fun _ => v))) T
def s131 : Pt := fun v T => Q.ub (Q.ud (Q.ub (fun _ => v))) T
def s132 : Pt := fun v T => Q.ub (Q.ud (Q.uc (fun _ => v))) T
def s133 : Pt := fun v T => Q.ub (Q.ud (Q.ud (fun _ => v))) T
def s134 : Pt := fun v T => Q.ub (Q.ud (Q.ue (fun _ => v))) T
def s135 : Pt := fun v T => Q.ub (Q.ud (Q.uf (fun _ => v))) T
def s136 : Pt := fun v T => Q.ub (Q.ud (Q.ug (fun _ => v))) T
def s137 : Pt := fun v T => Q.ub (Q.ud (Q.uh (fun _ => v))) T
def s140 : Pt := fun v T => Q.ub (Q.ue (Q.ua (fun _ => v))) T
def s141 : Pt := fun v T => Q.ub (Q.ue (Q.ub (fun _ => v))) T
def s142 : Pt := fun v T => Q.ub (Q.ue (Q.uc (fun _ => v))) T
def s143 : Pt := fun v T => Q.ub (Q.ue (Q.ud (fun _ => v))) T
def s144 : Pt := fun v T => Q.ub (Q.ue (Q.ue (fun _ => v))) T
def s145 : Pt := fun v T => Q.ub (Q.ue (Q.uf (fun _ => v))) T
def s146 : Pt := fun v T => Q.ub (Q.ue (Q.ug (fun _ => v))) T
def s147 : Pt := fun v T => Q.ub (Q.ue (Q.uh (fun _ => v))) T
def s150 : Pt := fun v T => Q.ub (Q.uf (Q.ua (fun _ => v))) T
def s151 : Pt := fun v T => Q.ub (Q.uf (Q.ub (fun _ => v))) T
def s152 : Pt := fun v T => Q.ub (Q.uf (Q.uc (fun _ => v))) T
def s153 : Pt := fun v T => Q.ub (Q.uf (Q.ud (fun _ => v))) T
def s154 : Pt := fun v T => Q.ub (Q.uf (Q.ue (fun _ => v))) T
def s155 : Pt := fun v T => Q.ub (Q.uf (Q.uf (fun _ => v))) T
def s156 : Pt := fun v T => Q.ub (Q.uf (Q.ug (fun _ => v))) T
def s157 : Pt := fun v T => Q.ub (Q.uf (Q.uh (fun _ => v))) T
def s160 : Pt := fun v T => Q.ub (Q.ug (Q.ua (fun _ => v))) T
def s161 : Pt := fun v T => Q.ub (Q.ug (Q.ub (fun _ => v))) T
def s162 : Pt := fun v T => Q.ub (Q.ug (Q.uc (fun _ => v))) T
def s163 : Pt := fun v T => Q.ub (Q.ug (Q.ud (fun _ => v))) T
def s164 : Pt := fun v T => Q.ub (Q.ug (Q.ue (fun _ => v))) T
def s165 : Pt := fun v T => Q.ub (Q.ug (Q.uf (fun _ => v))) T
def s166 : Pt := fun v T => Q.ub (Q.ug (Q.ug (fun _ => v))) T
def s167 : Pt := fun v T => Q.ub (Q.ug (Q.uh (fun _ => v))) T
def s170 : Pt := fun v T => Q.ub (Q.uh (Q.ua (fun _ => v))) T
def s171 : Pt := fun v T => Q.ub (Q.uh (Q.ub (fun _ => v))) T
def s172 : Pt := fun v T => Q.ub (Q.uh (Q.uc (fun _ => v))) T
def s173 : Pt := fun v T => Q.ub (Q.uh (Q.ud (fun _ => v))) T
def s174 : Pt := fun v T => Q.ub (Q.uh (Q.ue (fun _ => v))) T
def s175 : Pt := fun v T => Q.ub (Q.uh (Q.uf (fun _ => v))) T
def s176 : Pt := fun v T => Q.ub (Q.uh (Q.ug (fun _ => v))) T
def s177 : Pt := fun v T => Q.ub (Q.uh (Q.uh (fun _ => v))) T
def s200 : Pt := fun v T => Q.uc (Q.ua (Q.ua (fun _ => v))) T
def s201 : Pt := fun v T => Q.uc (Q.ua (Q.ub (fun _ => v))) T
def s202 : Pt := fun v T => Q.uc (Q.ua (Q.uc (fun _ => v))) T
def s203 : Pt := fun v T => Q.uc (Q.ua (Q.ud (fun _ => v))) T
def s204 : Pt := fun v T => Q.uc (Q.ua (Q.ue (fun _ => v))) T
def s205 : Pt := fun v T => Q.uc (Q.ua (Q.uf (fun _ => v))) T
def s206 : Pt := fun v T => Q.uc (Q.ua (Q.ug (fun _ => v))) T
def s207 : Pt := fun v T => Q.uc (Q.ua (Q.uh (fun _ => v))) T
def s210 : Pt := fun v T => Q.uc (Q.ub (Q.ua (fun _ => v))) T
def s211 : Pt := fun v T => Q.uc (Q.ub (Q.ub (fun _ => v))) T
def s212 : Pt := fun v T => Q.uc (Q.ub (Q.uc (fun _ => v))) T
def s213 : Pt := fun v T => Q.uc (Q.ub (Q.ud (fun _ => v))) T
def s214 : Pt := fun v T => Q.uc (Q.ub (Q.ue (fun _ => v))) T
def s215 : Pt := fun v T => Q.uc (Q.ub (Q.uf (fun _ => v))) T
def s216 : Pt := fun v T => Q.uc (Q.ub (Q.ug (fun _ => v))) T
def s217 : Pt := fun v T => Q.uc (Q.ub (Q.uh (fun _ => v))) T
def s220 : Pt := fun v T => Q.uc (Q.uc (Q.ua (fun _ => v))) T
def s221 : Pt := fun v T => Q.uc (Q.uc (Q.ub (fun _ => v))) T
def s222 : Pt := fun v T => Q.uc (Q.uc (Q.uc (fun _ => v))) T
def s223 : Pt := fun v T => Q.uc (Q.uc (Q.ud (fun _ => v))) T
def s224 : Pt := fun v T => Q.uc (Q.uc (Q.ue (fun _ => v))) T
def s225 : Pt := fun v T => Q.uc (Q.uc (Q.uf (fun _ => v))) T
def s226 : Pt := fun v T => Q.uc (Q.uc (Q.ug (fun _ => v))) T
def s227 : Pt := fun v T => Q.uc (Q.uc (Q.uh (fun _ => v))) T
def s230 : Pt := fun v T => Q.uc (Q.ud (Q.ua (fun _ => v))) T
def s231 : Pt := fun v T => Q.uc (Q.ud (Q.ub (fun _ => v))) T
def s232 : Pt := fun v T => Q.uc (Q.ud (Q.uc (fun _ => v))) T
def s233 : Pt := fun v T => Q.uc (Q.ud (Q.ud (fun _ => v))) T
def s234 : Pt := fun v T => Q.uc (Q.ud (Q.ue (fun _ => v))) T
def s235 : Pt := fun v T => Q.uc (Q.ud (Q.uf (fun _ => v))) T
def s236 : Pt := fun v T => Q.uc (Q.ud (Q.ug (fun _ => v))) T
def s237 : Pt := fun v T => Q.uc (Q.ud (Q.uh (fun _ => v))) T
def s240 : Pt := fun v T => Q.uc (Q.ue (Q.ua (fun _ => v))) T
def s241 : Pt := fun v T => Q.uc (Q.ue (Q.ub (fun _ => v))) T
def s242 : Pt := fun v T => Q.uc (Q.ue (Q.uc (fun _ => v))) T
def s243 : Pt := fun v T => Q.uc (Q.ue (Q.ud (fun _ => v))) T
def s244 : Pt := fun v T => Q.uc (Q.ue (Q.ue (fun _ => v))) T
def s245 : Pt := fun v T => Q.uc (Q.ue (Q.uf (fun _ => v))) T
def s246 : Pt := fun v T => Q.uc (Q.ue (Q.ug (fun _ => v))) T
def s247 : Pt := fun v T => Q.uc (Q.ue (Q.uh (fun _ => v))) T
def s250 : Pt := fun v T => Q.uc (Q.uf (Q.ua (fun _ => v))) T
def s251 : Pt := fun v T => Q.uc (Q.uf (Q.ub (fun _ => v))) T
def s252 : Pt := fun v T => Q.uc (Q.uf (Q.uc (fun _ => v))) T
def s253 : Pt := fun v T => Q.uc (Q.uf (Q.ud (fun _ => v))) T
def s254 : Pt := fun v T => Q.uc (Q.uf (Q.ue (fun _ => v))) T
def s255 : Pt := fun v T => Q.uc (Q.uf (Q.uf (fun _ => v))) T
def s256 : Pt := fun v T => Q.uc (Q.uf (Q.ug (fun _ => v))) T
def s257 : Pt := fun v T => Q.uc (Q.uf (Q.uh (fun _ => v))) T
def s260 : Pt := fun v T => Q.uc (Q.ug (Q.ua (fun _ => v))) T
def s261 : Pt := fun v T => Q.uc (Q.ug (Q.ub (fun _ => v))) T
def s262 : Pt := fun v T => Q.uc (Q.ug (Q.uc (fun _ => v))) T
def s263 : Pt := fun v T => Q.uc (Q.ug (Q.ud (fun _ => v))) T
end
noncomputable def k0z := kc (.int .i64 0)
noncomputable def k1z := kc (.int .i64 1)
noncomputable def kfz := kc (.bool false)
noncomputable def ktz := kc (.bool true)
end Go.Proofs.YtcmbokfnglkfnaaGreatDoor.Ev

namespace Go.Proofs.YtcmbokfnglkfnaaGreatDoor.Ev
open Go
set_option linter.all false
theorem aay {α : Type} {o : Option α} {k : α → R} {r : AV × Heap} (h : optK o k = some r) : ∃ v, o = some v ∧ k v = some r := by
 cases o with
 | none => cases h
 | some v => exact ⟨v, rfl, h⟩
theorem ahb {v : AV} {k : IntKind → Int → R} {r : AV × Heap} (h : avInt v k = some r) : ∃ a x, v = .int a x ∧ k a x = some r := by
 cases v <;> first | (cases h; done) | exact ⟨_, _, rfl, h⟩
theorem amp {a b : IntKind} {k : R} {r : AV × Heap} (h : kindK a b k = some r) : a = b ∧ k = some r := by
 cases a <;> cases b <;> first | (cases h; done) | exact ⟨rfl, h⟩
theorem aai {b : Bool} {k : R} {r : AV × Heap} (h : @Bool.rec (fun _ => R) none k b = some r) : b = true ∧ k = some r := by
 cases b
 ·cases h
 ·exact ⟨rfl, h⟩
theorem addI_eq (a b : Int) : addI a b = a + b := by cases a <;> cases b <;> rfl
theorem mulI_eq (a b : Int) : mulI a b = a * b := by cases a <;> cases b <;> rfl
theorem subI_eq (a b : Int) : subI a b = a - b := by
 cases a with
 | negSucc m => rfl
 | ofNat m =>
  cases b with
  | negSucc n => rfl
  | ofNat n =>
   show @Bool.rec (fun _ => Int) (Int.sub (.ofNat m) (.ofNat n)) (.ofNat (Nat.sub m n)) (Nat.ble n m) = _
   cases h : Nat.ble n m with
   | false => rfl
   | true =>
    have hle := Nat.le_of_ble_eq_true h
    show Int.ofNat (m - n) = (m : Int) - (n : Int)
    rw [Int.ofNat_eq_natCast]
    omega
theorem al8 (a b : Int) : ltI a b = decide (a < b) := by
 cases a with
 | ofNat m =>
  cases b with
  | ofNat n =>
   show Nat.ble (Nat.succ m) n = _
   cases h : Nat.ble (Nat.succ m) n with
   | true => have := Nat.le_of_ble_eq_true h; symm; simp; omega
   | false =>
    symm; simp
    have h2 : ¬ (Nat.succ m ≤ n) := fun hle => by rw [Nat.ble_eq_true_of_le hle] at h; cases h
    omega
  | negSucc n => symm; show decide _ = false; simp; omega
 | negSucc m =>
  cases b with
  | ofNat n => symm; show decide _ = true; simp; omega
  | negSucc n =>
   show Nat.ble (Nat.succ n) m = _
   cases h : Nat.ble (Nat.succ n) m with
   | true => have := Nat.le_of_ble_eq_true h; symm; simp; omega
   | false =>
    symm; simp
    have h2 : ¬ (Nat.succ n ≤ m) := fun hle => by rw [Nat.ble_eq_true_of_le hle] at h; cases h
    omega
theorem eqI_eq (a b : Int) : eqI a b = (a == b) := by
 cases a with
 | ofNat m =>
  cases b with
  | ofNat n =>
   show Nat.beq m n = _
   cases h : Nat.beq m n with
   | true => have := Nat.eq_of_beq_eq_true h; subst this; symm; simp
   | false =>
    have h2 : m ≠ n := fun e => by subst e; rw [Nat.beq_refl] at h; cases h
    symm; simp; omega
  | negSucc n => symm; show (Int.ofNat m == Int.negSucc n) = false; simp
 | negSucc m =>
  cases b with
  | ofNat n => symm; show (Int.negSucc m == Int.ofNat n) = false; simp
  | negSucc n =>
   show Nat.beq m n = _
   cases h : Nat.beq m n with
   | true => have := Nat.eq_of_beq_eq_true h; subst this; symm; simp
   | false =>
    have h2 : m ≠ n := fun e => by subst e; rw [Nat.beq_refl] at h; cases h
    symm; simp; omega
theorem ako (b : Bool) : notF b = !b := by cases b <;> rfl
theorem ain (k : IntKind) (x : Int) : wrapI k x = k.wrap x := by
 cases k <;> first | rfl | skip
 ·cases x with
  | ofNat n =>
   show @Bool.rec (fun _ => Int) (IntKind.wrap .i64 (.ofNat n)) (.ofNat n) (Nat.ble n 9223372036854775807) = _
   cases h : Nat.ble n 9223372036854775807 with
   | false => rfl
   | true =>
    have := Nat.le_of_ble_eq_true h
    exact (IntWalk.i64_in (.ofNat n) (by rw [Int.ofNat_eq_natCast]; omega)).symm
  | negSucc n =>
   show @Bool.rec (fun _ => Int) (IntKind.wrap .i64 (.negSucc n)) (.negSucc n) (Nat.ble n 9223372036854775807) = _
   cases h : Nat.ble n 9223372036854775807 with
   | false => rfl
   | true =>
    have := Nat.le_of_ble_eq_true h
    exact (IntWalk.i64_in (.negSucc n) (by omega)).symm
 ·cases x with
  | ofNat n =>
   show Int.ofNat (Nat.mod n 18446744073709551616) = IntKind.wrap .u64 (.ofNat n)
   simp [IntKind.wrap, IntKind.bits, IntKind.signed]
   rfl
  | negSucc n => rfl
/-! ### Pure ones -/
def PVok (f : PV) (op : AOp) : Prop := ∀ (T : Tq) (k : KA) (r : AV × Heap), f T k = some r → ∃ v, pureA (evq T) op = some v ∧ k v = some r
theorem acm {f : IntKind → Int → Int → AV} {op : BinOp} {x y : Src} (hf : ∀ k a b, binA op .int (.int k a) (.int k b) = some (f k a b)) : PVok (vInt f (srcG x) (srcG y)) (.bin op .int x y) := by
 intro T k r h
 unfold vInt at h
 obtain ⟨a, m, h1, h⟩ := ahb h
 obtain ⟨b, n, h2, h⟩ := ahb h
 obtain ⟨hab, hk⟩ := amp h
 subst hab
 refine ⟨f a m n, ?_, hk⟩
 have e1 : evq T x = .int a m := h1
 have e2 : evq T y = .int a n := h2
 simp only [pureA, e1, e2]
 exact hf a m n
theorem vAdd_ok {x y : Src} : PVok (vAdd (srcG x) (srcG y)) (.bin .add .int x y) := acm fun k a b => by simp [binA, acn, ain, addI_eq]
theorem vSub_ok {x y : Src} : PVok (vSub (srcG x) (srcG y)) (.bin .sub .int x y) := acm fun k a b => by simp [binA, acn, ain, subI_eq]
theorem vMul_ok {x y : Src} : PVok (vMul (srcG x) (srcG y)) (.bin .mul .int x y) := acm fun k a b => by simp [binA, acn, ain, mulI_eq]
theorem vLss_ok {x y : Src} : PVok (vLss (srcG x) (srcG y)) (.bin .lss .int x y) := acm fun k a b => by simp [binA, acn, al8]
theorem vGtr_ok {x y : Src} : PVok (vGtr (srcG x) (srcG y)) (.bin .gtr .int x y) := acm fun k a b => by simp [binA, acn, al8]
theorem ajs (a b : Int) : (!decide (b < a)) = decide (a ≤ b) := by
 by_cases h : a ≤ b
 ·have : ¬ b < a := by omega
  simp [h]
 ·have : b < a := by omega
  simp [this]
theorem vLeq_ok {x y : Src} : PVok (vLeq (srcG x) (srcG y)) (.bin .leq .int x y) := acm fun k a b => by simp only [binA, acn, al8, ako, ajs, if_true]
theorem vGeq_ok {x y : Src} : PVok (vGeq (srcG x) (srcG y)) (.bin .geq .int x y) := acm fun k a b => by simp only [binA, acn, al8, ako, ajs, if_true]
theorem vEql_ok {x y : Src} : PVok (vEql (srcG x) (srcG y)) (.bin .eql .int x y) := acm fun k a b => by simp [binA, acn, eqI_eq]
theorem vNeq_ok {x y : Src} : PVok (vNeq (srcG x) (srcG y)) (.bin .neq .int x y) := acm fun k a b => by simp [binA, acn, eqI_eq, ako, bne]
theorem vLen_ok {x : Src} : PVok (vLen (srcG x)) (.len x) := by
 intro T k r h
 unfold vLen at h
 have e : srcG x T = evq T x := rfl
 rw [e] at h
 simp only [pureA]
 generalize evq T x = v at h ⊢
 cases v <;> first | (cases h; done) | exact ⟨_, rfl, h⟩
theorem vFA_ok {off : Nat} {x : Src} : PVok (vFA off (srcG x)) (.fieldAddr off x) := by
 intro T k r h
 unfold vFA at h
 have e : srcG x T = evq T x := rfl
 rw [e] at h
 simp only [pureA]
 generalize evq T x = v at h ⊢
 cases v <;> first | (cases h; done) | exact ⟨_, rfl, h⟩
theorem ad1 : ∀ (l : List AV) (n : Nat) (k : KA) (r : AV × Heap), nthK l n k = some r → ∃ v, l[n]? = some v ∧ k v = some r
 | [], n, k, r, h => by cases h
 | a :: l, 0, k, r, h => ⟨a, rfl, h⟩
 | a :: l, n + 1, k, r, h => by
  obtain ⟨v, h1, h2⟩ := ad1 l n k r h
  exact ⟨v, by simpa using h1, h2⟩
theorem vExt_ok {i : Nat} {x : Src} : PVok (vExt i (srcG x)) (.extract i x) := by
 intro T k r h
 unfold vExt at h
 have e : srcG x T = evq T x := rfl
 rw [e] at h
 simp only [pureA]
 generalize evq T x = v at h ⊢
 cases v <;> first | (cases h; done) | exact ad1 _ _ _ _ h
theorem amj {v : AV} {a b : R} {r : AV × Heap} (h : condA v a b = some r) : (v = .bool true ∧ a = some r) ∨ (v = .bool false ∧ b = some r) := by
 cases v <;> first | (cases h; done) | skip
 rename_i c
 cases c
 ·exact .inr ⟨rfl, h⟩
 ·exact .inl ⟨rfl, h⟩
theorem vPick_ok {c a b : Src} : PVok (vPick (srcG c) (srcG a) (srcG b)) (.pick c a b) := by
 intro T k r h
 unfold vPick at h
 rcases amj h with ⟨hc, h⟩ | ⟨hc, h⟩
 ·have hc : evq T c = .bool true := hc
  exact ⟨evq T a, by simp [pureA, hc], h⟩
 ·have hc : evq T c = .bool false := hc
  exact ⟨evq T b, by simp [pureA, hc], h⟩
theorem amu {v : AV} {k : Nat → R} {r : AV × Heap} (h : avNat v k = some r) : ∃ n, asN v = some n ∧ k n = some r := by
 cases v <;> first | (cases h; done) | skip
 rename_i kk x
 cases x with
 | ofNat n => exact ⟨n, rfl, h⟩
 | negSucc n => cases h
theorem vIdx_ok {size : Nat} {x y : Src} : PVok (vIdx size (srcG x) (srcG y)) (.indexAddr size x y) := by
 intro T k r h
 unfold vIdx at h
 obtain ⟨i, hi, h⟩ := amu h
 have hi : asN (evq T y) = some i := hi
 have e : srcG x T = evq T x := rfl
 rw [e] at h
 simp only [pureA, hi, Option.bind_eq_bind, Option.bind_some]
 generalize evq T x = v at h ⊢
 cases v <;> first | (cases h; done) | skip
 ·obtain ⟨h1, h⟩ := aai h
  have h1 := Nat.le_of_ble_eq_true h1
  exact ⟨_, if_pos (by omega), h⟩
 ·obtain ⟨h1, h⟩ := aai h
  obtain ⟨h2, h⟩ := aai h
  have h1 := Nat.le_of_ble_eq_true h1
  have h2 := Nat.eq_of_beq_eq_true h2
  exact ⟨_, if_pos ⟨by omega, h2⟩, h⟩
/-! ### Those of the memory -/
theorem afj (l : List AV) : lenF l = l.length := by
 induction l with
 | nil => rfl
 | cons a l ih => show Nat.succ (lenF l) = _; rw [ih]; rfl
theorem aiu : ∀ (n : Nat) (l : List AV), dropF n l = l.drop n
 | 0, l => rfl
 | n + 1, [] => by show ([] : List AV) = _; simp
 | n + 1, a :: l => by show dropF n l = _; rw [aiu n l]; rfl
theorem ah7 : ∀ (n : Nat) (l : List AV), takeF n l = l.take n
 | 0, l => by show ([] : List AV) = _; simp
 | n + 1, [] => by show ([] : List AV) = _; simp
 | n + 1, a :: l => by show a :: takeF n l = _; rw [ah7 n l]; rfl
theorem aof (l m : List AV) : appF l m = l ++ m := by
 induction l with
 | nil => rfl
 | cons a l ih => show a :: appF l m = _; rw [ih]; rfl
theorem ano (v : AV) : oneF v = v.one := by cases v <;> rfl
theorem ajc (l : List AV) : ama l = l.all AV.one := by
 induction l with
 | nil => rfl
 | cons a l ih =>
  show @Bool.rec (fun _ => Bool) false (ama l) (oneF a) = _
  rw [ano, ih, List.all_cons]
  cases a.one <;> rfl
theorem ads (v : AV) : agy v = v.cells := by cases v <;> rfl
theorem aea {n o : Nat} {vc cs : List AV} {k : List AV → R} {r : AV × Heap} (h : ad8 n o vc cs k = some r) :
  vc.length = n ∧ o + n ≤ cs.length ∧ vc.all AV.one = true ∧ k (cs.take o ++ vc ++ cs.drop (o + n)) = some r := by
 unfold ad8 at h
 obtain ⟨h1, h⟩ := aai h
 obtain ⟨h2, h⟩ := aai h
 obtain ⟨h3, h⟩ := aai h
 rw [afj] at h1 h2
 rw [ajc] at h3
 rw [aof, aof, ah7, aiu, ← List.append_assoc] at h
 exact ⟨Nat.eq_of_beq_eq_true h1, Nat.le_of_ble_eq_true h2, h3, h⟩
theorem abi {e : Ent} {k : List AV → Nat → Bool → R} {r : AV × Heap} (h : adv e k = some r) : ∃ cs ty rw', e = .cells cs ty rw' ∧ k cs ty rw' = some r := by
 cases e <;> first | (cases h; done) | exact ⟨_, _, _, rfl, h⟩
theorem akl {v : AV} {H : Heap} {k : KA} {r : AV × Heap} (h : avLoad v H k = some r) : ∃ u, loadA H none v = some u ∧ k u = some r := by
 cases v <;> first | (cases h; done) | skip
 ·obtain ⟨u, h1, h2⟩ := ad1 _ _ _ _ h
  exact ⟨u, h1, h2⟩
 ·obtain ⟨e, he, h⟩ := aay h
  obtain ⟨cs, ty, rw', hc, h⟩ := abi h
  obtain ⟨u, h1, h2⟩ := ad1 _ _ _ _ h
  exact ⟨u, by simp only [loadA, he, hc, abv, h1], h2⟩
theorem ag0 {m o : Nat} {cs : List AV} {k : KA} {r : AV × Heap} (h : takeK m cs o k = some r) : ∃ u, abv cs o (some m) = some u ∧ k u = some r := by
 unfold takeK at h
 obtain ⟨h1, h⟩ := aai h
 rw [afj] at h1
 rw [ah7, aiu] at h
 exact ⟨_, if_pos (Nat.le_of_ble_eq_true h1), h⟩
theorem ai5 {v : AV} {m : Nat} {H : Heap} {k : KA} {r : AV × Heap} (h : ao8 v m H k = some r) : ∃ u, loadA H (some m) v = some u ∧ k u = some r := by
 cases v <;> first | (cases h; done) | skip
 ·exact ag0 h
 ·obtain ⟨e, he, h⟩ := aay h
  obtain ⟨cs, ty, rw', hc, h⟩ := abi h
  obtain ⟨u, h1, h2⟩ := ag0 h
  exact ⟨u, by simp only [loadA, he, hc, h1], h2⟩
theorem aiq {v x : AV} {m : Nat} {H : Heap} {k : Heap → R} {r : AV × Heap} (h : amb v m x H k = some r) : ∃ H', abt H m v x = some H' ∧ k H' = some r := by
 cases v <;> first | (cases h; done) | skip
 obtain ⟨e, he, h⟩ := aay h
 obtain ⟨cs, ty, rw', hc, h⟩ := abi h
 obtain ⟨hr, h⟩ := aai h
 obtain ⟨h1, h2, h3, hk⟩ := aea h
 rw [ads] at h1 h3 hk
 subst hc
 subst hr
 exact ⟨_, by simp only [abt, he]; exact if_pos ⟨h1, h2, h3⟩, hk⟩
theorem ao4 : ∀ (l : List AV) (n : Nat) (v : AV), setF l n v = l.set n v
 | [], n, v => rfl
 | a :: l, 0, v => rfl
 | a :: l, n + 1, v => by show a :: setF l n v = _; rw [ao4 l n v]; rfl
theorem aiv {v : AV} (h : v.one = true) : v.cells = [v] := by cases v <;> first | rfl | (simp [AV.one] at h)
theorem ajy {v x : AV} {H : Heap} {k : Heap → R} {r : AV × Heap} (h : ao9 v x H k = some r) : ∃ H', abt H 1 v x = some H' ∧ k H' = some r := by
 cases v <;> first | (cases h; done) | skip
 rename_i b o
 obtain ⟨e, he, h⟩ := aay h
 obtain ⟨cs, ty, rw', hc, h⟩ := abi h
 obtain ⟨hr, h⟩ := aai h
 obtain ⟨h1, h⟩ := aai h
 obtain ⟨h2, hk⟩ := aai h
 rw [ano] at h1
 rw [afj] at h2
 have h2 := Nat.le_of_ble_eq_true h2
 subst hc
 subst hr
 refine ⟨_, ?_, hk⟩
 simp only [abt, he, aiv h1]
 rw [if_pos ⟨rfl, by omega, by simp [h1]⟩, ao4, List.set_eq_take_append_cons_drop, if_pos (by omega)]
 simp
theorem aeq {T : Tq} : ∀ (ps : List ((Nat × Nat) × Src)) (cs : List AV) (k : List AV → R) (r : AV × Heap), fillK (ps.map fun q => (q.1, srcG q.2)) T cs k = some r →
  ∃ ds, fillA cs (ps.map fun p => (p.1, evq T p.2)) = some ds ∧ k ds = some r
 | [], cs, k, r, h => ⟨cs, rfl, h⟩
 | ((o, n), x) :: ps, cs, k, r, h => by
  have h : ad8 n o (agy (evq T x)) cs (fun cs => fillK (ps.map fun q => (q.1, srcG q.2)) T cs k) = some r := h
  obtain ⟨h1, h2, h3, hk⟩ := aea h
  rw [ads] at h1 h3 hk
  obtain ⟨ds, e1, e2⟩ := aeq ps _ k r hk
  refine ⟨ds, ?_, e2⟩
  simp only [List.map_cons, fillA]
  rw [if_pos ⟨h1, h2, h3⟩]
  exact e1
theorem ank {z : List AV} {ps : List ((Nat × Nat) × Src)} : PVok (vbz z (ps.map fun q => (q.1, srcG q.2))) (.build z ps) := by
 intro T k r h
 obtain ⟨ds, h1, h2⟩ := aeq ps z _ r h
 exact ⟨.agg ds, by simp only [pureA, h1, Option.bind_eq_bind, Option.bind_some], h2⟩
end Go.Proofs.YtcmbokfnglkfnaaGreatDoor.Ev
