/- The evaluator, a part. -/
import Derived.Test.YtopigipibioclaaGreatDoorEvFast
import Derived.Test.YtopigipibioclaaGreatDoorEvRel
import Derived.IntWalk
namespace Go.Proofs.YtopigipibioclaaGreatDoor.Ev
open Go
set_option linter.all false
noncomputable section
def ah : Gt := fun T => T.a.a.a
def aj : Gt := fun T => T.a.a.b
def aK : Gt := fun T => T.a.a.c
def aM : Gt := fun T => T.a.a.d
def aS : Gt := fun T => T.a.a.e
def aN : Gt := fun T => T.a.a.f
def aW : Gt := fun T => T.a.a.g
def ay : Gt := fun T => T.a.a.h
def az : Gt := fun T => T.a.b.a
def aL : Gt := fun T => T.a.b.b
def aD : Gt := fun T => T.a.b.c
def bj : Gt := fun T => T.a.b.d
def bo : Gt := fun T => T.a.b.e
def bf : Gt := fun T => T.a.b.f
def bt : Gt := fun T => T.a.b.g
def bq : Gt := fun T => T.a.b.h
def bw : Gt := fun T => T.a.c.a
def bA : Gt := fun T => T.a.c.b
def cd : Gt := fun T => T.a.c.c
def bO : Gt := fun T => T.a.c.d
def bS : Gt := fun T => T.a.c.e
def cg : Gt := fun T => T.a.c.f
def ce : Gt := fun T => T.a.c.g
def cu : Gt := fun T => T.a.c.h
def ct : Gt := fun T => T.a.d.a
def cB : Gt := fun T => T.a.d.b
def cG : Gt := fun T => T.a.d.c
def cU : Gt := fun T => T.a.d.d
def cR : Gt := fun T => T.a.d.e
def dg : Gt := fun T => T.a.d.f
def de : Gt := fun T => T.a.d.g
def dh : Gt := fun T => T.a.d.h
def dV : Gt := fun T => T.a.e.a
def dA : Gt := fun T => T.a.e.b
def dC : Gt := fun T => T.a.e.c
def dx : Gt := fun T => T.a.e.d
def dF : Gt := fun T => T.a.e.e
def dH : Gt := fun T => T.a.e.f
def dP : Gt := fun T => T.a.e.g
def dK : Gt := fun T => T.a.e.h
def eI : Gt := fun T => T.a.f.a
def fo : Gt := fun T => T.a.f.b
def fg : Gt := fun T => T.a.f.c
def fa : Gt := fun T => T.a.f.d
def eu : Gt := fun T => T.a.f.e
def eH : Gt := fun T => T.a.f.f
def eK : Gt := fun T => T.a.f.g
def eY : Gt := fun T => T.a.f.h
def eB : Gt := fun T => T.a.g.a
def gK : Gt := fun T => T.a.g.b
def fP : Gt := fun T => T.a.g.c
def gc : Gt := fun T => T.a.g.d
def gE : Gt := fun T => T.a.g.e
def fY : Gt := fun T => T.a.g.f
def gg : Gt := fun T => T.a.g.g
def gJ : Gt := fun T => T.a.g.h
def gD : Gt := fun T => T.a.h.a
def gV : Gt := fun T => T.a.h.b
def gF : Gt := fun T => T.a.h.c
def i6 : Gt := fun T => T.a.h.d
def gI : Gt := fun T => T.a.h.e
def im : Gt := fun T => T.a.h.f
def hZ : Gt := fun T => T.a.h.g
def iz : Gt := fun T => T.a.h.h
def eD : Gt := fun T => T.b.a.a
def ef : Gt := fun T => T.b.a.b
def el : Gt := fun T => T.b.a.c
def eF : Gt := fun T => T.b.a.d
def dL : Gt := fun T => T.b.a.e
def dI : Gt := fun T => T.b.a.f
def fc : Gt := fun T => T.b.a.g
def eL : Gt := fun T => T.b.a.h
def fh : Gt := fun T => T.b.b.a
def fq : Gt := fun T => T.b.b.b
def eR : Gt := fun T => T.b.b.c
def dz : Gt := fun T => T.b.b.d
def fR : Gt := fun T => T.b.b.e
def fF : Gt := fun T => T.b.b.f
def fE : Gt := fun T => T.b.b.g
def fD : Gt := fun T => T.b.b.h
def fQ : Gt := fun T => T.b.c.a
def ic : Gt := fun T => T.b.c.b
def ib : Gt := fun T => T.b.c.c
def eE : Gt := fun T => T.b.c.d
def gp : Gt := fun T => T.b.c.e
def gy : Gt := fun T => T.b.c.f
def gX : Gt := fun T => T.b.c.g
def ir : Gt := fun T => T.b.c.h
def iq : Gt := fun T => T.b.d.a
def ip : Gt := fun T => T.b.d.b
def ia : Gt := fun T => T.b.d.c
def jx : Gt := fun T => T.b.d.d
def io : Gt := fun T => T.b.d.e
def iU : Gt := fun T => T.b.d.f
def hP : Gt := fun T => T.b.d.g
def li : Gt := fun T => T.b.d.h
def iT : Gt := fun T => T.b.e.a
def jw : Gt := fun T => T.b.e.b
def kC : Gt := fun T => T.b.e.c
def iJ : Gt := fun T => T.b.e.d
def iS : Gt := fun T => T.b.e.e
def jN : Gt := fun T => T.b.e.f
def kz : Gt := fun T => T.b.e.g
def j0 : Gt := fun T => T.b.e.h
def gW : Gt := fun T => T.b.f.a
def iR : Gt := fun T => T.b.f.b
def jZ : Gt := fun T => T.b.f.c
def ky : Gt := fun T => T.b.f.d
def kw : Gt := fun T => T.b.f.e
def jY : Gt := fun T => T.b.f.f
def jM : Gt := fun T => T.b.f.g
def jv : Gt := fun T => T.b.f.h
def lh : Gt := fun T => T.b.g.a
def jX : Gt := fun T => T.b.g.b
def lg : Gt := fun T => T.b.g.c
def lf : Gt := fun T => T.b.g.d
def ld : Gt := fun T => T.b.g.e
def la : Gt := fun T => T.b.g.f
def kZ : Gt := fun T => T.b.g.g
def mw : Gt := fun T => T.b.g.h
def kv : Gt := fun T => T.b.h.a
def mt : Gt := fun T => T.b.h.b
def mr : Gt := fun T => T.b.h.c
def mq : Gt := fun T => T.b.h.d
def mp : Gt := fun T => T.b.h.e
def ku : Gt := fun T => T.b.h.f
def mY : Gt := fun T => T.b.h.g
def n9 : Gt := fun T => T.b.h.h
def mo : Gt := fun T => T.c.a.a
def mX : Gt := fun T => T.c.a.b
def n8 : Gt := fun T => T.c.a.c
def pS : Gt := fun T => T.c.a.d
def pR : Gt := fun T => T.c.a.e
def pQ : Gt := fun T => T.c.a.f
def pP : Gt := fun T => T.c.a.g
def pO : Gt := fun T => T.c.a.h
def pN : Gt := fun T => T.c.b.a
def se : Gt := fun T => T.c.b.b
def sd : Gt := fun T => T.c.b.c
def zP : Gt := fun T => T.c.b.d
def sa : Gt := fun T => T.c.b.e
def vQ : Gt := fun T => T.c.b.f
def r9 : Gt := fun T => T.c.b.g
def r8 : Gt := fun T => T.c.b.h
def vP : Gt := fun T => T.c.c.a
def vO : Gt := fun T => T.c.c.b
def r7 : Gt := fun T => T.c.c.c
def vN : Gt := fun T => T.c.c.d
def zO : Gt := fun T => T.c.c.e
def Tn : Gt := fun T => T.c.c.f
def zN : Gt := fun T => T.c.c.g
def zM : Gt := fun T => T.c.c.h
def Tl : Gt := fun T => T.c.d.a
def zL : Gt := fun T => T.c.d.b
def Tk : Gt := fun T => T.c.d.c
def pM : Gt := fun T => T.c.d.d
def zK : Gt := fun T => T.c.d.e
def zJ : Gt := fun T => T.c.d.f
def zI : Gt := fun T => T.c.d.g
def zH : Gt := fun T => T.c.d.h
def Tj : Gt := fun T => T.c.e.a
def Ti : Gt := fun T => T.c.e.b
def zG : Gt := fun T => T.c.e.c
def zF : Gt := fun T => T.c.e.d
def zD : Gt := fun T => T.c.e.e
def r6 : Gt := fun T => T.c.e.f
def Th : Gt := fun T => T.c.e.g
def g247 : Gt := fun T => T.c.e.h
def Tg : Gt := fun T => T.c.f.a
def Tf : Gt := fun T => T.c.f.b
def Te : Gt := fun T => T.c.f.c
def g253 : Gt := fun T => T.c.f.d
def g254 : Gt := fun T => T.c.f.e
def g255 : Gt := fun T => T.c.f.f
def g256 : Gt := fun T => T.c.f.g
def g257 : Gt := fun T => T.c.f.h
def g260 : Gt := fun T => T.c.g.a
def g261 : Gt := fun T => T.c.g.b
def g262 : Gt := fun T => T.c.g.c
def ju : Pt := fun v T => Q.ua (Q.ua (Q.ua (fun _ => v))) T
def eg : Pt := fun v T => Q.ua (Q.ua (Q.ub (fun _ => v))) T
def bx : Pt := fun v T => Q.ua (Q.ua (Q.uc (fun _ => v))) T
def bu : Pt := fun v T => Q.ua (Q.ua (Q.ud (fun _ => v))) T
def aF : Pt := fun v T => Q.ua (Q.ua (Q.ue (fun _ => v))) T
def aC : Pt := fun v T => Q.ua (Q.ua (Q.uf (fun _ => v))) T
def aB : Pt := fun v T => Q.ua (Q.ua (Q.ug (fun _ => v))) T
def aG : Pt := fun v T => Q.ua (Q.ua (Q.uh (fun _ => v))) T
def aJ : Pt := fun v T => Q.ua (Q.ub (Q.ua (fun _ => v))) T
def aV : Pt := fun v T => Q.ua (Q.ub (Q.ub (fun _ => v))) T
def bb : Pt := fun v T => Q.ua (Q.ub (Q.uc (fun _ => v))) T
def bc : Pt := fun v T => Q.ua (Q.ub (Q.ud (fun _ => v))) T
def bi : Pt := fun v T => Q.ua (Q.ub (Q.ue (fun _ => v))) T
def bh : Pt := fun v T => Q.ua (Q.ub (Q.uf (fun _ => v))) T
def bz : Pt := fun v T => Q.ua (Q.ub (Q.ug (fun _ => v))) T
def bl : Pt := fun v T => Q.ua (Q.ub (Q.uh (fun _ => v))) T
def br : Pt := fun v T => Q.ua (Q.uc (Q.ua (fun _ => v))) T
def bD : Pt := fun v T => Q.ua (Q.uc (Q.ub (fun _ => v))) T
def bK : Pt := fun v T => Q.ua (Q.uc (Q.uc (fun _ => v))) T
def bP : Pt := fun v T => Q.ua (Q.uc (Q.ud (fun _ => v))) T
def bW : Pt := fun v T => Q.ua (Q.uc (Q.ue (fun _ => v))) T
def bT : Pt := fun v T => Q.ua (Q.uc (Q.uf (fun _ => v))) T
def bY : Pt := fun v T => Q.ua (Q.uc (Q.ug (fun _ => v))) T
def bZ : Pt := fun v T => Q.ua (Q.uc (Q.uh (fun _ => v))) T
def ci : Pt := fun v T => Q.ua (Q.ud (Q.ua (fun _ => v))) T
def cp : Pt := fun v T => Q.ua (Q.ud (Q.ub (fun _ => v))) T
def cz : Pt := fun v T => Q.ua (Q.ud (Q.uc (fun _ => v))) T
def cC : Pt := fun v T => Q.ua (Q.ud (Q.ud (fun _ => v))) T
def cI : Pt := fun v T => Q.ua (Q.ud (Q.ue (fun _ => v))) T
def cL : Pt := fun v T => Q.ua (Q.ud (Q.uf (fun _ => v))) T
def cP : Pt := fun v T => Q.ua (Q.ud (Q.ug (fun _ => v))) T
def cX : Pt := fun v T => Q.ua (Q.ud (Q.uh (fun _ => v))) T
def db : Pt := fun v T => Q.ua (Q.ue (Q.ua (fun _ => v))) T
def dn : Pt := fun v T => Q.ua (Q.ue (Q.ub (fun _ => v))) T
def dj : Pt := fun v T => Q.ua (Q.ue (Q.uc (fun _ => v))) T
def dt : Pt := fun v T => Q.ua (Q.ue (Q.ud (fun _ => v))) T
def dD : Pt := fun v T => Q.ua (Q.ue (Q.ue (fun _ => v))) T
def du : Pt := fun v T => Q.ua (Q.ue (Q.uf (fun _ => v))) T
def dB : Pt := fun v T => Q.ua (Q.ue (Q.ug (fun _ => v))) T
def dJ : Pt := fun v T => Q.ua (Q.ue (Q.uh (fun _ => v))) T
def dM : Pt := fun v T => Q.ua (Q.uf (Q.ua (fun _ => v))) T
def dY : Pt := fun v T => Q.ua (Q.uf (Q.ub (fun _ => v))) T
def ei : Pt := fun v T => Q.ua (Q.uf (Q.uc (fun _ => v))) T
def dW : Pt := fun v T => Q.ua (Q.uf (Q.ud (fun _ => v))) T
def ep : Pt := fun v T => Q.ua (Q.uf (Q.ue (fun _ => v))) T
def ew : Pt := fun v T => Q.ua (Q.uf (Q.uf (fun _ => v))) T
def eo : Pt := fun v T => Q.ua (Q.uf (Q.ug (fun _ => v))) T
def eS : Pt := fun v T => Q.ua (Q.uf (Q.uh (fun _ => v))) T
def eZ : Pt := fun v T => Q.ua (Q.ug (Q.ua (fun _ => v))) T
def fd : Pt := fun v T => Q.ua (Q.ug (Q.ub (fun _ => v))) T
def ft : Pt := fun v T => Q.ua (Q.ug (Q.uc (fun _ => v))) T
def fk : Pt := fun v T => Q.ua (Q.ug (Q.ud (fun _ => v))) T
def fx : Pt := fun v T => Q.ua (Q.ug (Q.ue (fun _ => v))) T
def fz : Pt := fun v T => Q.ua (Q.ug (Q.uf (fun _ => v))) T
def fU : Pt := fun v T => Q.ua (Q.ug (Q.ug (fun _ => v))) T
def gh : Pt := fun v T => Q.ua (Q.ug (Q.uh (fun _ => v))) T
def ge : Pt := fun v T => Q.ua (Q.uh (Q.ua (fun _ => v))) T
def fT : Pt := fun v T => Q.ua (Q.uh (Q.ub (fun _ => v))) T
def gu : Pt := fun v T => Q.ua (Q.uh (Q.uc (fun _ => v))) T
def gA : Pt := fun v T => Q.ua (Q.uh (Q.ud (fun _ => v))) T
def gM : Pt := fun v T => Q.ua (Q.uh (Q.ue (fun _ => v))) T
def gS : Pt := fun v T => Q.ua (Q.uh (Q.uf (fun _ => v))) T
def gR : Pt := fun v T => Q.ua (Q.uh (Q.ug (fun _ => v))) T
def gL : Pt := fun v T => Q.ua (Q.uh (Q.uh (fun _ => v))) T
def dX : Pt := fun v T => Q.ub (Q.ua (Q.ua (fun _ => v))) T
def ek : Pt := fun v T => Q.ub (Q.ua (Q.ub (fun _ => v))) T
def dO : Pt := fun v T => Q.ub (Q.ua (Q.uc (fun _ => v))) T
def ec : Pt := fun v T => Q.ub (Q.ua (Q.ud (fun _ => v))) T
def eC : Pt := fun v T => Q.ub (Q.ua (Q.ue (fun _ => v))) T
def dN : Pt := fun v T => Q.ub (Q.ua (Q.uf (fun _ => v))) T
def dS : Pt := fun v T => Q.ub (Q.ua (Q.ug (fun _ => v))) T
def ee : Pt := fun v T => Q.ub (Q.ua (Q.uh (fun _ => v))) T
def ej : Pt := fun v T => Q.ub (Q.ub (Q.ua (fun _ => v))) T
def er : Pt := fun v T => Q.ub (Q.ub (Q.ub (fun _ => v))) T
def e9 : Pt := fun v T => Q.ub (Q.ub (Q.uc (fun _ => v))) T
def eJ : Pt := fun v T => Q.ub (Q.ub (Q.ud (fun _ => v))) T
def eO : Pt := fun v T => Q.ub (Q.ub (Q.ue (fun _ => v))) T
def e7 : Pt := fun v T => Q.ub (Q.ub (Q.uf (fun _ => v))) T
def fe : Pt := fun v T => Q.ub (Q.ub (Q.ug (fun _ => v))) T
def fK : Pt := fun v T => Q.ub (Q.ub (Q.uh (fun _ => v))) T
def gm : Pt := fun v T => Q.ub (Q.uc (Q.ua (fun _ => v))) T
def f0 : Pt := fun v T => Q.ub (Q.uc (Q.ub (fun _ => v))) T
def fV : Pt := fun v T => Q.ub (Q.uc (Q.uc (fun _ => v))) T
def gk : Pt := fun v T => Q.ub (Q.uc (Q.ud (fun _ => v))) T
def gN : Pt := fun v T => Q.ub (Q.uc (Q.ue (fun _ => v))) T
def gj : Pt := fun v T => Q.ub (Q.uc (Q.uf (fun _ => v))) T
def fJ : Pt := fun v T => Q.ub (Q.uc (Q.ug (fun _ => v))) T
def gx : Pt := fun v T => Q.ub (Q.uc (Q.uh (fun _ => v))) T
def gi : Pt := fun v T => Q.ub (Q.ud (Q.ua (fun _ => v))) T
def gw : Pt := fun v T => Q.ub (Q.ud (Q.ub (fun _ => v))) T
def gU : Pt := fun v T => Q.ub (Q.ud (Q.uc (fun _ => v))) T
def hO : Pt := fun v T => Q.ub (Q.ud (Q.ud (fun _ => v))) T
def gT : Pt := fun v T => Q.ub (Q.ud (Q.ue (fun _ => v))) T
def hY : Pt := fun v T => Q.ub (Q.ud (Q.uf (fun _ => v))) T
def g9 : Pt := fun v T => Q.ub (Q.ud (Q.ug (fun _ => v))) T
def ig : Pt := fun v T => Q.ub (Q.ud (Q.uh (fun _ => v))) T
def iF : Pt := fun v T => Q.ub (Q.ue (Q.ua (fun _ => v))) T
def iD : Pt := fun v T => Q.ub (Q.ue (Q.ub (fun _ => v))) T
def iP : Pt := fun v T => Q.ub (Q.ue (Q.uc (fun _ => v))) T
def iO : Pt := fun v T => Q.ub (Q.ue (Q.ud (fun _ => v))) T
def iN : Pt := fun v T => Q.ub (Q.ue (Q.ue (fun _ => v))) T
def iM : Pt := fun v T => Q.ub (Q.ue (Q.uf (fun _ => v))) T
def jb : Pt := fun v T => Q.ub (Q.ue (Q.ug (fun _ => v))) T
def jt : Pt := fun v T => Q.ub (Q.ue (Q.uh (fun _ => v))) T
def js : Pt := fun v T => Q.ub (Q.uf (Q.ua (fun _ => v))) T
def ja : Pt := fun v T => Q.ub (Q.uf (Q.ub (fun _ => v))) T
def i9 : Pt := fun v T => Q.ub (Q.uf (Q.uc (fun _ => v))) T
def jG : Pt := fun v T => Q.ub (Q.uf (Q.ud (fun _ => v))) T
def jr : Pt := fun v T => Q.ub (Q.uf (Q.ue (fun _ => v))) T
def jF : Pt := fun v T => Q.ub (Q.uf (Q.uf (fun _ => v))) T
def jE : Pt := fun v T => Q.ub (Q.uf (Q.ug (fun _ => v))) T
def jW : Pt := fun v T => Q.ub (Q.uf (Q.uh (fun _ => v))) T
def jV : Pt := fun v T => Q.ub (Q.ug (Q.ua (fun _ => v))) T
def kp : Pt := fun v T => Q.ub (Q.ug (Q.ub (fun _ => v))) T
def kS : Pt := fun v T => Q.ub (Q.ug (Q.uc (fun _ => v))) T
def lM : Pt := fun v T => Q.ub (Q.ug (Q.ud (fun _ => v))) T
def kR : Pt := fun v T => Q.ub (Q.ug (Q.ue (fun _ => v))) T
def ko : Pt := fun v T => Q.ub (Q.ug (Q.uf (fun _ => v))) T
def kn : Pt := fun v T => Q.ub (Q.ug (Q.ug (fun _ => v))) T
def kQ : Pt := fun v T => Q.ub (Q.ug (Q.uh (fun _ => v))) T
def kP : Pt := fun v T => Q.ub (Q.uh (Q.ua (fun _ => v))) T
def kO : Pt := fun v T => Q.ub (Q.uh (Q.ub (fun _ => v))) T
def kN : Pt := fun v T => Q.ub (Q.uh (Q.uc (fun _ => v))) T
def mN : Pt := fun v T => Q.ub (Q.uh (Q.ud (fun _ => v))) T
def mM : Pt := fun v T => Q.ub (Q.uh (Q.ue (fun _ => v))) T
def ml : Pt := fun v T => Q.ub (Q.uh (Q.uf (fun _ => v))) T
def mj : Pt := fun v T => Q.ub (Q.uh (Q.ug (fun _ => v))) T
def lL : Pt := fun v T => Q.ub (Q.uh (Q.uh (fun _ => v))) T
def lK : Pt := fun v T => Q.uc (Q.ua (Q.ua (fun _ => v))) T
def mi : Pt := fun v T => Q.uc (Q.ua (Q.ub (fun _ => v))) T
def mh : Pt := fun v T => Q.uc (Q.ua (Q.uc (fun _ => v))) T
def mg : Pt := fun v T => Q.uc (Q.ua (Q.ud (fun _ => v))) T
def mf : Pt := fun v T => Q.uc (Q.ua (Q.ue (fun _ => v))) T
def mL : Pt := fun v T => Q.uc (Q.ua (Q.uf (fun _ => v))) T
def nR : Pt := fun v T => Q.uc (Q.ua (Q.ug (fun _ => v))) T
def rr : Pt := fun v T => Q.uc (Q.ua (Q.uh (fun _ => v))) T
def pJ : Pt := fun v T => Q.uc (Q.ub (Q.ua (fun _ => v))) T
def pI : Pt := fun v T => Q.uc (Q.ub (Q.ub (fun _ => v))) T
def rq : Pt := fun v T => Q.uc (Q.ub (Q.uc (fun _ => v))) T
def rp : Pt := fun v T => Q.uc (Q.ub (Q.ud (fun _ => v))) T
def rn : Pt := fun v T => Q.uc (Q.ub (Q.ue (fun _ => v))) T
def rm : Pt := fun v T => Q.uc (Q.ub (Q.uf (fun _ => v))) T
def rl : Pt := fun v T => Q.uc (Q.ub (Q.ug (fun _ => v))) T
def rk : Pt := fun v T => Q.uc (Q.ub (Q.uh (fun _ => v))) T
def rj : Pt := fun v T => Q.uc (Q.uc (Q.ua (fun _ => v))) T
def ri : Pt := fun v T => Q.uc (Q.uc (Q.ub (fun _ => v))) T
def rh : Pt := fun v T => Q.uc (Q.uc (Q.uc (fun _ => v))) T
def vd : Pt := fun v T => Q.uc (Q.uc (Q.ud (fun _ => v))) T
def yW : Pt := fun v T => Q.uc (Q.uc (Q.ue (fun _ => v))) T
def yV : Pt := fun v T => Q.uc (Q.uc (Q.uf (fun _ => v))) T
def yU : Pt := fun v T => Q.uc (Q.uc (Q.ug (fun _ => v))) T
def yT : Pt := fun v T => Q.uc (Q.uc (Q.uh (fun _ => v))) T
def yS : Pt := fun v T => Q.uc (Q.ud (Q.ua (fun _ => v))) T
def yR : Pt := fun v T => Q.uc (Q.ud (Q.ub (fun _ => v))) T
def yQ : Pt := fun v T => Q.uc (Q.ud (Q.uc (fun _ => v))) T
def yP : Pt := fun v T => Q.uc (Q.ud (Q.ud (fun _ => v))) T
def va : Pt := fun v T => Q.uc (Q.ud (Q.ue (fun _ => v))) T
def u9 : Pt := fun v T => Q.uc (Q.ud (Q.uf (fun _ => v))) T
def u7 : Pt := fun v T => Q.uc (Q.ud (Q.ug (fun _ => v))) T
def yO : Pt := fun v T => Q.uc (Q.ud (Q.uh (fun _ => v))) T
def yN : Pt := fun v T => Q.uc (Q.ue (Q.ua (fun _ => v))) T
def yM : Pt := fun v T => Q.uc (Q.ue (Q.ub (fun _ => v))) T
def yL : Pt := fun v T => Q.uc (Q.ue (Q.uc (fun _ => v))) T
def yK : Pt := fun v T => Q.uc (Q.ue (Q.ud (fun _ => v))) T
def yJ : Pt := fun v T => Q.uc (Q.ue (Q.ue (fun _ => v))) T
def K2 : Pt := fun v T => Q.uc (Q.ue (Q.uf (fun _ => v))) T
def yI : Pt := fun v T => Q.uc (Q.ue (Q.ug (fun _ => v))) T
def yH : Pt := fun v T => Q.uc (Q.ue (Q.uh (fun _ => v))) T
def yG : Pt := fun v T => Q.uc (Q.uf (Q.ua (fun _ => v))) T
def K0 : Pt := fun v T => Q.uc (Q.uf (Q.ub (fun _ => v))) T
def KZ : Pt := fun v T => Q.uc (Q.uf (Q.uc (fun _ => v))) T
def KY : Pt := fun v T => Q.uc (Q.uf (Q.ud (fun _ => v))) T
def s254 : Pt := fun v T => Q.uc (Q.uf (Q.ue (fun _ => v))) T
def s255 : Pt := fun v T => Q.uc (Q.uf (Q.uf (fun _ => v))) T
def s256 : Pt := fun v T => Q.uc (Q.uf (Q.ug (fun _ => v))) T
def s257 : Pt := fun v T => Q.uc (Q.uf (Q.uh (fun _ => v))) T
def s260 : Pt := fun v T => Q.uc (Q.ug (Q.ua (fun _ => v))) T
def s261 : Pt := fun v T => Q.uc (Q.ug (Q.ub (fun _ => v))) T
def s262 : Pt := fun v T => Q.uc (Q.ug (Q.uc (fun _ => v))) T
def s263 : Pt := fun v T => Q.uc (Q.ug (Q.ud (fun _ => v))) T
end
noncomputable def al := kc (.int .i64 0)
noncomputable def bE := kc (.int .i64 1)
noncomputable def bQ := kc (.bool false)
noncomputable def cQ := kc (.bool true)
end Go.Proofs.YtopigipibioclaaGreatDoor.Ev

namespace Go.Proofs.YtopigipibioclaaGreatDoor.Ev
open Go
set_option linter.all false
theorem uC {α : Type} {o : Option α} {k : α → R} {r : AV × Heap} (h : ga o k = some r) : ∃ v, o = some v ∧ k v = some r := by
 cases o with
 | none => cases h
 | some v => exact ⟨v, rfl, h⟩
theorem aho {v : AV} {k : IntKind → Int → R} {r : AV × Heap} (h : tV v k = some r) : ∃ a x, v = .int a x ∧ k a x = some r := by
 cases v <;> first | (cases h; done) | exact ⟨_, _, rfl, h⟩
theorem amn {a b : IntKind} {k : R} {r : AV × Heap} (h : x1 a b k = some r) : a = b ∧ k = some r := by
 cases a <;> cases b <;> first | (cases h; done) | exact ⟨rfl, h⟩
theorem nM {b : Bool} {k : R} {r : AV × Heap} (h : @Bool.rec (fun _ => R) none k b = some r) : b = true ∧ k = some r := by
 cases b
 ·cases h
 ·exact ⟨rfl, h⟩
theorem xB (a b : Int) : XQ a b = a + b := by cases a <;> cases b <;> rfl
theorem vC (a b : Int) : MM a b = a * b := by cases a <;> cases b <;> rfl
theorem u5 (a b : Int) : KU a b = a - b := by
 cases a with
 | negSucc m => rfl
 | ofNat m =>
  cases b with
  | negSucc n => rfl
  | ofNat n =>
   show @Bool.rec (fun _ => Int) (Int.sub (.ofNat m) (.ofNat n)) (.ofNat (Nat.sub m n)) (Nat.ble n m) = _
   cases h : Nat.ble n m with
   | false => rfl
   | true =>
    have c := Nat.le_of_ble_eq_true h
    show Int.ofNat (m - n) = (m : Int) - (n : Int)
    rw [Int.ofNat_eq_natCast]
    omega
theorem Ya (a b : Int) : MN a b = decide (a < b) := by
 cases a with
 | ofNat m =>
  cases b with
  | ofNat n =>
   show Nat.ble (Nat.succ m) n = _
   cases h : Nat.ble (Nat.succ m) n with
   | true => have := Nat.le_of_ble_eq_true h; symm; simp; omega
   | false =>
    symm; simp
    have h2 : ¬ (Nat.succ m ≤ n) := fun c => by rw [Nat.ble_eq_true_of_le c] at h; cases h
    omega
  | negSucc n => symm; show decide _ = false; simp; omega
 | negSucc m =>
  cases b with
  | ofNat n => symm; show decide _ = true; simp; omega
  | negSucc n =>
   show Nat.ble (Nat.succ n) m = _
   cases h : Nat.ble (Nat.succ n) m with
   | true => have := Nat.le_of_ble_eq_true h; symm; simp; omega
   | false =>
    symm; simp
    have h2 : ¬ (Nat.succ n ≤ m) := fun c => by rw [Nat.ble_eq_true_of_le c] at h; cases h
    omega
theorem sn (a b : Int) : eqI a b = (a == b) := by
 cases a with
 | ofNat m =>
  cases b with
  | ofNat n =>
   show Nat.beq m n = _
   cases h : Nat.beq m n with
   | true => have := Nat.eq_of_beq_eq_true h; subst this; symm; simp
   | false =>
    have h2 : m ≠ n := fun e => by subst e; rw [Nat.beq_refl] at h; cases h
    symm; simp; omega
  | negSucc n => symm; show (Int.ofNat m == Int.negSucc n) = false; simp
 | negSucc m =>
  cases b with
  | ofNat n => symm; show (Int.negSucc m == Int.ofNat n) = false; simp
  | negSucc n =>
   show Nat.beq m n = _
   cases h : Nat.beq m n with
   | true => have := Nat.eq_of_beq_eq_true h; subst this; symm; simp
   | false =>
    have h2 : m ≠ n := fun e => by subst e; rw [Nat.beq_refl] at h; cases h
    symm; simp; omega
theorem akx (b : Bool) : notF b = !b := by cases b <;> rfl
theorem aij (k : IntKind) (x : Int) : o7 k x = k.wrap x := by
 cases k <;> first | rfl | skip
 ·cases x with
  | ofNat n =>
   show @Bool.rec (fun _ => Int) (IntKind.wrap .i64 (.ofNat n)) (.ofNat n) (Nat.ble n 9223372036854775807) = _
   cases h : Nat.ble n 9223372036854775807 with
   | false => rfl
   | true =>
    have := Nat.le_of_ble_eq_true h
    exact (IntWalk.i64_in (.ofNat n) (by rw [Int.ofNat_eq_natCast]; omega)).symm
  | negSucc n =>
   show @Bool.rec (fun _ => Int) (IntKind.wrap .i64 (.negSucc n)) (.negSucc n) (Nat.ble n 9223372036854775807) = _
   cases h : Nat.ble n 9223372036854775807 with
   | false => rfl
   | true =>
    have := Nat.le_of_ble_eq_true h
    exact (IntWalk.i64_in (.negSucc n) (by omega)).symm
 ·cases x with
  | ofNat n =>
   show Int.ofNat (Nat.mod n 18446744073709551616) = IntKind.wrap .u64 (.ofNat n)
   simp [IntKind.wrap, IntKind.bits, IntKind.signed]
   rfl
  | negSucc n => rfl
/-! ### Pure ones -/
def i5 (f : PV) (op : AOp) : Prop := ∀ (T : Tq) (k : KA) (r : AV × Heap), f T k = some r → ∃ v, bJ (evq T) op = some v ∧ k v = some r
theorem xF {f : IntKind → Int → Int → AV} {op : BinOp} {x y : Src} (hf : ∀ k a b, jz op .int (.int k a) (.int k b) = some (f k a b)) : i5 (kM f (co x) (co y)) (.bin op .int x y) := by
 intro T k r h
 unfold kM at h
 obtain ⟨a, m, h1, h⟩ := aho h
 obtain ⟨b, n, h2, h⟩ := aho h
 obtain ⟨c, hk⟩ := amn h
 subst c
 refine ⟨f a m n, ?_, hk⟩
 have e1 : evq T x = .int a m := h1
 have e2 : evq T y = .int a n := h2
 simp only [bJ, e1, e2]
 exact hf a m n
theorem u3 {x y : Src} : i5 (iL (co x) (co y)) (.bin .add .int x y) := xF fun k a b => by simp [jz, qL, aij, xB]
theorem uP {x y : Src} : i5 (fH (co x) (co y)) (.bin .sub .int x y) := xF fun k a b => by simp [jz, qL, aij, u5]
theorem uR {x y : Src} : i5 (iC (co x) (co y)) (.bin .mul .int x y) := xF fun k a b => by simp [jz, qL, aij, vC]
theorem uS {x y : Src} : i5 (bF (co x) (co y)) (.bin .lss .int x y) := xF fun k a b => by simp [jz, qL, Ya]
theorem uW {x y : Src} : i5 (cY (co x) (co y)) (.bin .gtr .int x y) := xF fun k a b => by simp [jz, qL, Ya]
theorem aju (a b : Int) : (!decide (b < a)) = decide (a ≤ b) := by
 by_cases h : a ≤ b
 ·have : ¬ b < a := by omega
  simp [h]
 ·have : b < a := by omega
  simp [this]
theorem uT {x y : Src} : i5 (fC (co x) (co y)) (.bin .leq .int x y) := xF fun k a b => by simp only [jz, qL, Ya, akx, aju, if_true]
theorem uX {x y : Src} : i5 (e6 (co x) (co y)) (.bin .geq .int x y) := xF fun k a b => by simp only [jz, qL, Ya, akx, aju, if_true]
theorem uZ {x y : Src} : i5 (bk (co x) (co y)) (.bin .eql .int x y) := xF fun k a b => by simp [jz, qL, sn]
theorem uQ {x y : Src} : i5 (cJ (co x) (co y)) (.bin .neq .int x y) := xF fun k a b => by simp [jz, qL, sn, akx, bne]
theorem uU {x : Src} : i5 (eN (co x)) (.len x) := by
 intro T k r h
 unfold eN at h
 have e : co x T = evq T x := rfl
 rw [e] at h
 simp only [bJ]
 generalize evq T x = v at h ⊢
 cases v <;> first | (cases h; done) | exact ⟨_, rfl, h⟩
theorem yD {off : Nat} {x : Src} : i5 (bX off (co x)) (.fieldAddr off x) := by
 intro T k r h
 unfold bX at h
 have e : co x T = evq T x := rfl
 rw [e] at h
 simp only [bJ]
 generalize evq T x = v at h ⊢
 cases v <;> first | (cases h; done) | exact ⟨_, rfl, h⟩
theorem YO : ∀ (l : List AV) (n : Nat) (k : KA) (r : AV × Heap), vz l n k = some r → ∃ v, l[n]? = some v ∧ k v = some r
 | [], n, k, r, h => by cases h
 | a :: l, 0, k, r, h => ⟨a, rfl, h⟩
 | a :: l, n + 1, k, r, h => by
  obtain ⟨v, h1, h2⟩ := YO l n k r h
  exact ⟨v, by simpa using h1, h2⟩
theorem uY {i : Nat} {x : Src} : i5 (cA i (co x)) (.extract i x) := by
 intro T k r h
 unfold cA at h
 have e : co x T = evq T x := rfl
 rw [e] at h
 simp only [bJ]
 generalize evq T x = v at h ⊢
 cases v <;> first | (cases h; done) | exact YO _ _ _ _ h
theorem amz {v : AV} {a b : R} {r : AV × Heap} (h : pv v a b = some r) : (v = .bool true ∧ a = some r) ∨ (v = .bool false ∧ b = some r) := by
 cases v <;> first | (cases h; done) | skip
 rename_i c
 cases c
 ·exact .inr ⟨rfl, h⟩
 ·exact .inl ⟨rfl, h⟩
theorem qZ {c a b : Src} : i5 (ba (co c) (co a) (co b)) (.pick c a b) := by
 intro T k r h
 unfold ba at h
 rcases amz h with ⟨hc, h⟩ | ⟨hc, h⟩
 ·have hc : evq T c = .bool true := hc
  exact ⟨evq T a, by simp [bJ, hc], h⟩
 ·have hc : evq T c = .bool false := hc
  exact ⟨evq T b, by simp [bJ, hc], h⟩
theorem am2 {v : AV} {k : Nat → R} {r : AV × Heap} (h : yg v k = some r) : ∃ n, i7 v = some n ∧ k n = some r := by
 cases v <;> first | (cases h; done) | skip
 rename_i a x
 cases x with
 | ofNat n => exact ⟨n, rfl, h⟩
 | negSucc n => cases h
theorem uV {size : Nat} {x y : Src} : i5 (bU size (co x) (co y)) (.indexAddr size x y) := by
 intro T k r h
 unfold bU at h
 obtain ⟨i, hi, h⟩ := am2 h
 have hi : i7 (evq T y) = some i := hi
 have e : co x T = evq T x := rfl
 rw [e] at h
 simp only [bJ, hi, Option.bind_eq_bind, Option.bind_some]
 generalize evq T x = v at h ⊢
 cases v <;> first | (cases h; done) | skip
 ·obtain ⟨h1, h⟩ := nM h
  have h1 := Nat.le_of_ble_eq_true h1
  exact ⟨_, if_pos (by omega), h⟩
 ·obtain ⟨h1, h⟩ := nM h
  obtain ⟨h2, h⟩ := nM h
  have h1 := Nat.le_of_ble_eq_true h1
  have h2 := Nat.eq_of_beq_eq_true h2
  exact ⟨_, if_pos ⟨by omega, h2⟩, h⟩
/-! ### Those of the memory -/
theorem Xz (l : List AV) : mn l = l.length := by
 induction l with
 | nil => rfl
 | cons a l ih => show Nat.succ (mn l) = _; rw [ih]; rfl
theorem aiq : ∀ (n : Nat) (l : List AV), pm n l = l.drop n
 | 0, l => rfl
 | n + 1, [] => by show ([] : List AV) = _; simp
 | n + 1, a :: l => by show pm n l = _; rw [aiq n l]; rfl
theorem ah3 : ∀ (n : Nat) (l : List AV), pa n l = l.take n
 | 0, l => by show ([] : List AV) = _; simp
 | n + 1, [] => by show ([] : List AV) = _; simp
 | n + 1, a :: l => by show a :: pa n l = _; rw [ah3 n l]; rfl
theorem aop (l m : List AV) : xz l m = l ++ m := by
 induction l with
 | nil => rfl
 | cons a l ih => show a :: xz l m = _; rw [ih]; rfl
theorem an7 (v : AV) : vw v = v.one := by cases v <;> rfl
theorem ajs (l : List AV) : Yd l = l.all AV.one := by
 induction l with
 | nil => rfl
 | cons a l ih =>
  show @Bool.rec (fun _ => Bool) false (Yd l) (vw a) = _
  rw [an7, ih, List.all_cons]
  cases a.one <;> rfl
theorem YU (v : AV) : Cx v = v.cells := by cases v <;> rfl
theorem adq {n o : Nat} {a cs : List AV} {k : List AV → R} {r : AV × Heap} (h : XJ n o a cs k = some r) :
  a.length = n ∧ o + n ≤ cs.length ∧ a.all AV.one = true ∧ k (cs.take o ++ a ++ cs.drop (o + n)) = some r := by
 unfold XJ at h
 obtain ⟨h1, h⟩ := nM h
 obtain ⟨h2, h⟩ := nM h
 obtain ⟨h3, h⟩ := nM h
 rw [Xz] at h1 h2
 rw [ajs] at h3
 rw [aop, aop, ah3, aiq, ← List.append_assoc] at h
 exact ⟨Nat.eq_of_beq_eq_true h1, Nat.le_of_ble_eq_true h2, h3, h⟩
theorem Zb {e : Ent} {k : List AV → Nat → Bool → R} {r : AV × Heap} (h : XK e k = some r) : ∃ cs ty a, e = .cells cs ty a ∧ k cs ty a = some r := by
 cases e <;> first | (cases h; done) | exact ⟨_, _, _, rfl, h⟩
theorem ak2 {v : AV} {H : Heap} {k : KA} {r : AV × Heap} (h : tU v H k = some r) : ∃ u, jJ H none v = some u ∧ k u = some r := by
 cases v <;> first | (cases h; done) | skip
 ·obtain ⟨u, h1, h2⟩ := YO _ _ _ _ h
  exact ⟨u, h1, h2⟩
 ·obtain ⟨e, he, h⟩ := uC h
  obtain ⟨cs, ty, a, hc, h⟩ := Zb h
  obtain ⟨u, h1, h2⟩ := YO _ _ _ _ h
  exact ⟨u, by simp only [jJ, he, hc, pA, h1], h2⟩
theorem ag1 {m o : Nat} {cs : List AV} {k : KA} {r : AV × Heap} (h : o9 m cs o k = some r) : ∃ u, pA cs o (some m) = some u ∧ k u = some r := by
 unfold o9 at h
 obtain ⟨h1, h⟩ := nM h
 rw [Xz] at h1
 rw [ah3, aiq] at h
 exact ⟨_, if_pos (Nat.le_of_ble_eq_true h1), h⟩
theorem ajl {v : AV} {m : Nat} {H : Heap} {k : KA} {r : AV × Heap} (h : aob v m H k = some r) : ∃ u, jJ H (some m) v = some u ∧ k u = some r := by
 cases v <;> first | (cases h; done) | skip
 ·exact ag1 h
 ·obtain ⟨e, he, h⟩ := uC h
  obtain ⟨cs, ty, a, hc, h⟩ := Zb h
  obtain ⟨u, h1, h2⟩ := ag1 h
  exact ⟨u, by simp only [jJ, he, hc, h1], h2⟩
theorem aid {v x : AV} {m : Nat} {H : Heap} {k : Heap → R} {r : AV × Heap} (h : alx v m x H k = some r) : ∃ H', pz H m v x = some H' ∧ k H' = some r := by
 cases v <;> first | (cases h; done) | skip
 obtain ⟨e, he, h⟩ := uC h
 obtain ⟨cs, ty, a, hc, h⟩ := Zb h
 obtain ⟨hr, h⟩ := nM h
 obtain ⟨h1, h2, h3, hk⟩ := adq h
 rw [YU] at h1 h3 hk
 subst hc
 subst hr
 exact ⟨_, by simp only [pz, he]; exact if_pos ⟨h1, h2, h3⟩, hk⟩
theorem apf : ∀ (l : List AV) (n : Nat) (v : AV), yF l n v = l.set n v
 | [], n, v => rfl
 | a :: l, 0, v => rfl
 | a :: l, n + 1, v => by show a :: yF l n v = _; rw [apf l n v]; rfl
theorem ajn {v : AV} (h : v.one = true) : v.cells = [v] := by cases v <;> first | rfl | (simp [AV.one] at h)
theorem ajf {v x : AV} {H : Heap} {k : Heap → R} {r : AV × Heap} (h : an1 v x H k = some r) : ∃ H', pz H 1 v x = some H' ∧ k H' = some r := by
 cases v <;> first | (cases h; done) | skip
 rename_i b o
 obtain ⟨e, he, h⟩ := uC h
 obtain ⟨cs, ty, a, hc, h⟩ := Zb h
 obtain ⟨hr, h⟩ := nM h
 obtain ⟨h1, h⟩ := nM h
 obtain ⟨h2, hk⟩ := nM h
 rw [an7] at h1
 rw [Xz] at h2
 have h2 := Nat.le_of_ble_eq_true h2
 subst hc
 subst hr
 refine ⟨_, ?_, hk⟩
 simp only [pz, he, ajn h1]
 rw [if_pos ⟨rfl, by omega, by simp [h1]⟩, apf, List.set_eq_take_append_cons_drop, if_pos (by omega)]
 simp
theorem aew {T : Tq} : ∀ (ps : List ((Nat × Nat) × Src)) (cs : List AV) (k : List AV → R) (r : AV × Heap), pi (ps.map fun q => (q.1, co q.2)) T cs k = some r →
  ∃ ds, iV cs (ps.map fun p => (p.1, evq T p.2)) = some ds ∧ k ds = some r
 | [], cs, k, r, h => ⟨cs, rfl, h⟩
 | ((o, n), x) :: ps, cs, k, r, h => by
  have h : XJ n o (Cx (evq T x)) cs (fun cs => pi (ps.map fun q => (q.1, co q.2)) T cs k) = some r := h
  obtain ⟨h1, h2, h3, hk⟩ := adq h
  rw [YU] at h1 h3 hk
  obtain ⟨ds, e1, e2⟩ := aew ps _ k r hk
  refine ⟨ds, ?_, e2⟩
  simp only [List.map_cons, iV]
  rw [if_pos ⟨h1, h2, h3⟩]
  exact e1
theorem aoz {z : List AV} {ps : List ((Nat × Nat) × Src)} : i5 (cT z (ps.map fun q => (q.1, co q.2))) (.build z ps) := by
 intro T k r h
 obtain ⟨ds, h1, h2⟩ := aew ps z _ r h
 exact ⟨.agg ds, by simp only [bJ, h1, Option.bind_eq_bind, Option.bind_some], h2⟩
end Go.Proofs.YtopigipibioclaaGreatDoor.Ev
