/- A part. -/
import Derived.Test.YtiigaeehghcjiaaGreatA0
import Derived.Test.YtiigaeehghcjiaaGreatPoly14
import Derived.Test.YtiigaeehghcjiaaGreatKit
import Derived.Test.YtiigaeehghcjiaaGreatProg
import Derived.KernelRfl
namespace Go.Proofs.YtiigaeehghcjiaaGreat.Ev
open Go
set_option maxRecDepth 1000000
set_option maxHeartbeats 8000000
set_option linter.all false
def look:List (Nat × au)->Nat->Option au
 | [],_=>none
 | p :: r,f=>if f=p.1 then some p.2 else look r f
def FV:∀ {L:List (Nat × au)} {f:Nat} {a:au},look L f=some a->(f,a)∈L
 | p :: r,f,a,h=>by
  unfold look at h;split at h
  ·rename_i e; cases h; subst e; exact WH ..
  ·exact SO _ (FV h)
def ap {f:Nat} {fn:Func} {a:au} (b:Tryz.prog.funcs[f]? = some fn) (hc:SX Tryz.prog fn=some a:=by kernel_rfl) (he:a.ext.isNone=true:=by rfl):GX Tryz.prog f a:=Nm b hc he
abbrev Rw (l:List (Nat × au)):Prop:=∀ p∈l,GX Tryz.prog p.1 p.2
def KS:Rw []:=fun p hp=>by cases hp
def Ww {f:Nat} {a:au} {l:List (Nat × au)} (h:GX Tryz.prog f a) (hl:Rw l):Rw ((f,a) :: l):=List.forall_mem_cons.2 ⟨h,hl⟩
def UH:List (Nat × au):=[(ol,c_facetroomlaw24_DimsPoints),(fQ,jV),(gF,ky),(dQ,ik),(Vd,VK),(nM,yM),(U4,U8),(lz,yN),(vS,U7),(nL,yL),(VB,VP),(vp,GG),(gG,kz),(eY,iX),(iP,mg),(dR,il),(ph,CZ),(fP,jU),(fO,jT),(pR,wm)]
def UG:List (Nat × au):=[(Vf,VE),(Vi,VA),(U6,Vz),(jI,rW),(gf,qI),(dC,mi),(jJ,rX),(i9,qH),(fo,mh),(rx,yJ),(dO,ii),(iL,l8),(g8,rV),(Vc,Vo),(ul,Be),(gA,kn),(gy,km),(fS,jX),(e9,tQ),(ly,yH)]
def UF:List (Nat × au):=[(oL,c_dual_points),(ru,yI),(fM,jR),(ry,yK),(fR,jW),(eZ,tP),(ni,Bn),(rv,c_dual_cons),(Vn,VD),(da,fw),(cR,fk),(aO,fF),(gW,lH),(dj,iW),(Au,GI),(pM,vV),(iN,mc),(gB,ko),(eI,iJ),(bQ,cW)]
def UE:List (Nat × au):=[(eH,iI),(rt,yG),(rA,c_cone_Gens),(bO,cU),(kO,px),(pV,wt),(fN,jS),(gZ,rU),(gY,rT),(aY,bH),(aX,bF),(eF,iH),(bP,cV),(eE,iG),(uo,Bh),(sJ,CS),(pN,vW),(dm,fI),(lV,qG),(dF,gN)]
def UD:List (Nat × au):=[(pS,Bi),(iO,mf),(eC,iF),(eB,iD),(nI,yB),(lS,du),(nj,c_cone_checked),(rz,yQ),(ux,Bx),(db,c_P_cone_under_add),(nh,rR),(oH,tK),(dz,dD),(jK,rY),(ca,dr),(cd,dt),(bp,bY),(jD,vX),(oB,tD),(oA,tC)]
def UC:List (Nat × au):=[(wU,CQ),(kY,Vw),(pL,vU),(nK,Vg),(gL,nW),(br,eh),(gc,U3),(ee,el),(fg,fj),(eR,eT),(cS,cT),(nk,rZ),(dM,dW),(fD,fE),(cy,gq),(gC,kr),(cj,dw),(nf,rP),(mr,wh),(gI,kD)]
def UB:List (Nat × au):=[(jh,c_P_cone_under_cut),(iQ,c_P_cone_under_fold),(oF,tH),(jg,nz),(um,Bg),(wW,CT),(dl,fG),(ri,yw),(rk,yy),(nJ,yE),(fZ,gm),(jp,jv),(iT,iY),(dN,dX),(gV,ig),(lW,qJ),(gD,kv),(cB,dZ),(pY,Bv),(lB,yO)]
def UA:List (Nat × au):=[(fp,mj),(nN,yP),(pW,Br),(Vj,Bs),(nH,yz),(cI,eA),(cC,s8),(gM,c_P_rows_form_put),(rl,yA),(pQ,Vy),(ng,rQ),(mZ,Bf),(oC,tE),(bg,bT),(pP,vZ),(lU,qF),(xd,CX),(rf,yr),(gU,ie),(gE,kw)]
def Uz:List (Nat × au):=[(rm,c_sat_Signs),(uw,Bu),(rh,yv),(wV,CR),(m6,rN),(oG,tJ),(cA,dY),(oD,tF),(nd,rO),(oE,tG),(cw,fH),(rj,yx),(iM,U9),(oJ,tN),(wZ,CV),(wY,CU),(pO,vY),(xe,CY),(oy,tx),(ft,pw)]
def Uy:List (Nat × au):=[(rg,yu),(pU,wq),(rr,yF),(xc,CW),(ut,Bm),(Av,GJ),(oI,tM),(pT,wn),(jH,nZ),(jE,nU),(oK,tO),(xg,C0),(kN,pu),(jF,nV),(ur,Bk),(rp,yC),(oM,tT),(uv,Bp),(dP,ij),(At,GH)]
def Tq:List (Nat × au):=[(gH,kC),(g9,lJ),(hZ,lM),(uu,Bo),(uq,Bj),(U5,rS),(cL,eU),(jG,nY),(rq,yD),(bh,dH)]
def UW:Rw UH:=Ww (ap Tryz.func4)<|Ww (ap Tryz.func5)<|Ww (ap Tryz.func6)<|Ww (ap Tryz.func11)<|Ww (ap Tryz.func12)<|Ww (ap Tryz.func7)<|Ww (ap Tryz.func13)<|Ww (ap Tryz.func8)<|Ww (ap Tryz.func14)<|Ww (ap Tryz.func10)<|Ww (ap Tryz.func15)<|Ww (ap Tryz.func16)<|Ww (ap Tryz.func17)<|Ww (ap Tryz.func19)<|Ww (ap Tryz.func18)<|Ww (ap Tryz.func20)<|Ww (ap Tryz.func21)<|Ww (ap Tryz.func22)<|Ww (ap Tryz.func37)<|Ww (ap Tryz.func23)<|KS
def UV:Rw UG:=Ww (ap Tryz.func38)<|Ww (ap Tryz.func39)<|Ww (ap Tryz.func40)<|Ww (ap Tryz.func24)<|Ww (ap Tryz.func27)<|Ww (ap Tryz.func26)<|Ww (ap Tryz.func28)<|Ww (ap Tryz.func32)<|Ww (ap Tryz.func31)<|Ww (ap Tryz.func30)<|Ww (ap Tryz.func35)<|Ww (ap Tryz.func34)<|Ww (ap Tryz.func36)<|Ww (ap Tryz.func41)<|Ww (ap Tryz.func42)<|Ww (ap Tryz.func43)<|Ww (ap Tryz.func9)<|Ww (ap Tryz.func44)<|Ww (ap Tryz.func45)<|Ww (ap Tryz.func46)<|KS
def UU:Rw UF:=Ww (ap Tryz.func48)<|Ww (ap Tryz.func47)<|Ww (ap Tryz.func49)<|Ww (ap Tryz.func50)<|Ww (ap Tryz.func51)<|Ww (ap Tryz.func52)<|Ww (ap Tryz.func53)<|Ww (ap Tryz.func54)<|Ww (ap Tryz.func60)<|Ww (ap Tryz.func25)<|Ww (ap Tryz.func29)<|Ww (ap Tryz.func59)<|Ww (ap Tryz.func57)<|Ww (ap Tryz.func58)<|Ww (ap Tryz.func62)<|Ww (ap Tryz.func61)<|Ww (ap Tryz.func63)<|Ww (ap Tryz.func33)<|Ww (ap Tryz.func65)<|Ww (ap Tryz.func64)<|KS
def UT:Rw UE:=Ww (ap Tryz.func67)<|Ww (ap Tryz.func68)<|Ww (ap Tryz.func69)<|Ww (ap Tryz.func70)<|Ww (ap Tryz.func71)<|Ww (ap Tryz.func72)<|Ww (ap Tryz.func73)<|Ww (ap Tryz.func74)<|Ww (ap Tryz.func76)<|Ww (ap Tryz.func77)<|Ww (ap Tryz.func78)<|Ww (ap Tryz.func80)<|Ww (ap Tryz.func79)<|Ww (ap Tryz.func81)<|Ww (ap Tryz.func75)<|Ww (ap Tryz.func86)<|Ww (ap Tryz.func87)<|Ww (ap Tryz.func83)<|Ww (ap Tryz.func85)<|Ww (ap Tryz.func84)<|KS
def US:Rw UD:=Ww (ap Tryz.func88)<|Ww (ap Tryz.func89)<|Ww (ap Tryz.func55)<|Ww (ap Tryz.func56)<|Ww (ap Tryz.func66)<|Ww (ap Tryz.func90)<|Ww (ap Tryz.func94)<|Ww (ap Tryz.func95)<|Ww (ap Tryz.func96)<|Ww (ap Tryz.func97)<|Ww (ap Tryz.func98)<|Ww (ap Tryz.func99)<|Ww (sw rfl rfl So100.extOK)<|Ww (ap Tryz.func101)<|Ww (ap Tryz.func103)<|Ww (ap Tryz.func106)<|Ww (ap Tryz.func104)<|Ww (ap Tryz.func105)<|Ww (ap Tryz.func119)<|Ww (ap Tryz.func121)<|KS
def UR:Rw UC:=Ww (ap Tryz.func120)<|Ww (ap Tryz.func93)<|Ww (ap Tryz.func122)<|Ww (ap Tryz.func117)<|Ww (ap Tryz.func118)<|Ww (ap Tryz.func108)<|Ww (ap Tryz.func109)<|Ww (ap Tryz.func110)<|Ww (ap Tryz.func111)<|Ww (ap Tryz.func112)<|Ww (ap Tryz.func113)<|Ww (ap Tryz.func114)<|Ww (ap Tryz.func115)<|Ww (ap Tryz.func116)<|Ww (ap Tryz.func123)<|Ww (ap Tryz.func82)<|Ww (ap Tryz.func91)<|Ww (ap Tryz.func92)<|Ww (ap Tryz.func126)<|Ww (ap Tryz.func127)<|KS
def UQ:Rw UB:=Ww (ap Tryz.func130)<|Ww (ap Tryz.func131)<|Ww (ap Tryz.func132)<|Ww (ap Tryz.func134)<|Ww (ap Tryz.func133)<|Ww (ap Tryz.func102)<|Ww (ap Tryz.func139)<|Ww (ap Tryz.func148)<|Ww (ap Tryz.func147)<|Ww (ap Tryz.func125)<|Ww (ap Tryz.func141)<|Ww (ap Tryz.func142)<|Ww (ap Tryz.func143)<|Ww (ap Tryz.func144)<|Ww (ap Tryz.func145)<|Ww (ap Tryz.func146)<|Ww (ap Tryz.func107)<|Ww (ap Tryz.func124)<|Ww (ap Tryz.func129)<|Ww (ap Tryz.func128)<|KS
def UP:Rw UA:=Ww (ap Tryz.func149)<|Ww (ap Tryz.func150)<|Ww (ap Tryz.func152)<|Ww (ap Tryz.func151)<|Ww (ap Tryz.func153)<|Ww (ap Tryz.func155)<|Ww (ap Tryz.func154)<|Ww (ap Tryz.func156)<|Ww (ap Tryz.func160)<|Ww (ap Tryz.func162)<|Ww (ap Tryz.func161)<|Ww (ap Tryz.func157)<|Ww (ap Tryz.func158)<|Ww (ap Tryz.func136)<|Ww (ap Tryz.func137)<|Ww (ap Tryz.func173)<|Ww (ap Tryz.func175)<|Ww (ap Tryz.func174)<|Ww (ap Tryz.func172)<|Ww (ap Tryz.func140)<|KS
def UO:Rw Uz:=Ww (ap Tryz.func176)<|Ww (ap Tryz.func177)<|Ww (ap Tryz.func179)<|Ww (ap Tryz.func178)<|Ww (ap Tryz.func180)<|Ww (ap Tryz.func181)<|Ww (sw rfl rfl Ok182.extOK_insert)<|Ww (ap Tryz.func183)<|Ww (ap Tryz.func184)<|Ww (ap Tryz.func186)<|Ww (ap Tryz.func159)<|Ww (ap Tryz.func138)<|Ww (ap Tryz.func193)<|Ww (ap Tryz.func192)<|Ww (ap Tryz.func190)<|Ww (ap Tryz.func191)<|Ww (ap Tryz.func194)<|Ww (ap Tryz.func197)<|Ww (ap Tryz.func185)<|Ww (ap Tryz.func199)<|KS
def UN:Rw Uy:=Ww (ap Tryz.func171)<|Ww (ap Tryz.func205)<|Ww (ap Tryz.func206)<|Ww (ap Tryz.func208)<|Ww (ap Tryz.func207)<|Ww (ap Tryz.func209)<|Ww (ap Tryz.func201)<|Ww (ap Tryz.func202)<|Ww (sw rfl rfl (Gh Tryz.func203 (by kernel_rfl) (by kernel_rfl) (by kernel_rfl) (by kernel_rfl)))<|Ww (sw rfl rfl (Gg Tryz.func204 (by kernel_rfl) (by kernel_rfl) (by kernel_rfl) (by kernel_rfl)))<|Ww (ap Tryz.func211)<|Ww (ap Tryz.func212)<|Ww (ap Tryz.func198)<|Ww (ap Tryz.func214)<|Ww (ap Tryz.func215)<|Ww (ap Tryz.func213)<|Ww (ap Tryz.func217)<|Ww (ap Tryz.func218)<|Ww (ap Tryz.func219)<|Ww (ap Tryz.func220)<|KS
def Up:Rw Tq:=Ww (ap Tryz.func221)<|Ww (ap Tryz.func222)<|Ww (ap Tryz.func223)<|Ww (ap Tryz.func225)<|Ww (ap Tryz.func224)<|Ww (ap Tryz.func226)<|Ww (ap Tryz.func227)<|Ww (ap Tryz.func228)<|Ww (ap Tryz.func229)<|Ww (ap Tryz.func230)<|KS
def Sf:List (Nat × au):=UH++UG++UF++UE++UD++UC++UB++UA++Uz++Uy++Tq
def Pr {l m:List (Nat × au)} (h:Rw l) (h2:Rw m):Rw (l++m):=fun p hp=>(WQ.1 hp).elim (h p) (h2 p)
def P8:Rw Sf:=(Pr (Pr (Pr (Pr (Pr (Pr (Pr (Pr (Pr (Pr UW UV) UU) UT) US) UR) UQ) UP) UO) UN) Up)
def tabOK:Kd Tryz.prog (look Sf):=fun _ _ h=>P8 _ (FV h)
theorem code:Code (look Sf):=by constructor <;> kernel_rfl
end Go.Proofs.YtiigaeehghcjiaaGreat.Ev
