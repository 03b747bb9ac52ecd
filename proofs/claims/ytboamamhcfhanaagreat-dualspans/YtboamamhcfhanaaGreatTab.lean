/- A part. -/
import Derived.Test.YtboamamhcfhanaaGreatN54
import Derived.Test.YtboamamhcfhanaaGreatKit
import Derived.Test.YtboamamhcfhanaaGreatProg
import Derived.KernelRfl
namespace Go.Proofs.YtboamamhcfhanaaGreat.Ev
open Go
set_option maxRecDepth 1000000
set_option maxHeartbeats 8000000
set_option linter.all false
def look:List (Nat × aq)->Nat->Option aq
 | [],_=>none
 | p :: r,f=>if f=p.1 then some p.2 else look r f
theorem AA:∀ {L:List (Nat × aq)} {f:Nat} {a:aq},look L f=some a->(f,a)∈L
 | p :: r,f,a,h=>by
  unfold look at h
  split at h
  ·rename_i e; cases h; subst e; exact List.mem_cons_self ..
  ·exact List.mem_cons_of_mem _ (AA h)
theorem am {f:Nat} {fn:Func} {a:aq} (hf:Tryz.prog.funcs[f]? = some fn) (hc:L9 Tryz.prog fn=some a:=by kernel_rfl) (he:a.ext.isNone=true:=by rfl):Br Tryz.prog f a:=GN hf hc he
abbrev Rw (l:List (Nat × aq)):Prop:=∀ p∈l,Br Tryz.prog p.1 p.2
theorem IN:Rw []:=fun p hp=>by cases hp
theorem bu {f:Nat} {a:aq} {l:List (Nat × aq)} (h:Br Tryz.prog f a) (hl:Rw l):Rw ((f,a) :: l):=List.forall_mem_cons.2 ⟨h,hl⟩
def NC:List (Nat × aq):=[(dj,cY),(fh,c_facetroomlaw21_DualSpans),(fM,fR),(eh,ij),(ee,dq),(ph,ym),(eK,iz),(dy,fQ),(cW,ig),(fd,fu),(sZ,tQ),(g9,ic),(rS,yd),(iw,iA),(qh,wD),(kz,tE),(fg,jj),(fe,ji),(dS,gQ),(gf,jA)]
def NB:List (Nat × aq):=[(vD,Bb),(dg,fw),(O4,il),(dJ,pX),(jf,tO),(lC,c_dual_points),(oj,tP),(fZ,jx),(eM,iB),(pg,ye),(mE,rq),(dZ,ie),(hZ,ik),(lD,pW),(qq,wM),(ol,c_dual_cons),(iY,pK),(lh,pM),(Qp,rt),(mF,wE)]
def NA:List (Nat × aq):=[(dx,fP),(vF,Be),(mD,rp),(j8,oK),(y6,pY),(OP,fV),(bD,OE),(dz,fU),(oi,tN),(Qh,c_cone_Gens),(bC,cy),(iQ,mo),(mM,rA),(P7,jy),(eN,iC),(kZ,pL),(rR,yc),(mC,rn),(fO,fT),(cx,cz)]
def Nz:List (Nat × aq):=[(fN,Pj),(qj,wH),(kD,tK),(kC,tG),(mJ,wI),(bS,cP),(kg,c_cone_checked),(oo,tV),(qx,wT),(cC,c_P_cone_under_add),(ke,oO),(ly,pS),(cS,OH),(h9,oQ),(bR,cN),(cX,iD),(nV,tz),(nX,tD),(cL,cO),(aX,bM)]
def Ny:List (Nat × aq):=[(gV,rr),(bT,cQ),(ka,oM),(cj,O5),(jD,rx),(eQ,iG),(Pt,c_P_cone_under_cut),(gg,c_P_cone_under_fold),(lv,pQ),(gF,kn),(qi,wF),(rT,yf),(jr,ny),(rX,yj),(nS,tu),(cG,dW),(cm,dr),(mQ,wS),(jg,tT),(OW,jB)]
def Nx:List (Nat × aq):=[(kE,tU),(mO,wP),(mP,wQ),(cr,du),(Oy,dt),(eR,c_P_rows_form_put),(nY,tF),(mI,rv),(Qb,oN),(lp,pN),(aS,bF),(mH,ru),(fY,jw),(lA,pU),(rV,yh),(rU,yg),(nZ,c_sat_Signs),(qw,wR),(nU,tx),(lx,QQ)]
def Nw:List (Nat × aq):=[(ck,OL),(lq,pO),(j9,oL),(lu,pP),(b9,OY),(nW,tC),(mL,rz),(oh,tM),(rW,yi),(qp,wL),(vG,Bf),(lz,pT),(Qt,ry),(g8,Qk),(PA,kN),(rY,yl),(kY,pJ),(dR,mm),(nT,tw),(PB,kO)]
def Nv:List (Nat × aq):=[(qm,wK),(QA,tH),(lB,pV),(rZ,yn),(iP,ml),(fc,oP),(lH,pZ),(qv,wO),(de,ft),(vE,Bc),(eP,iF),(fj,jk),(fk,jl),(mN,wN),(qk,wJ),(cu,dH),(gZ,kQ),(PC,kP),(QB,tJ),(aT,OJ)]
theorem NQ:Rw NC:=bu (am Tryz.func3)<|bu (am Tryz.func4)<|bu (am Tryz.func5)<|bu (am Tryz.func6)<|bu (am Tryz.func7)<|bu (am Tryz.func8)<|bu (am Tryz.func10)<|bu (am Tryz.func9)<|bu (am Tryz.func11)<|bu (am Tryz.func12)<|bu (am Tryz.func13)<|bu (am Tryz.func14)<|bu (am Tryz.func15)<|bu (am Tryz.func16)<|bu (am Tryz.func18)<|bu (am Tryz.func17)<|bu (am Tryz.func20)<|bu (am Tryz.func21)<|bu (am Tryz.func19)<|bu (am Tryz.func22)<|IN
theorem NP:Rw NB:=bu (am Tryz.func23)<|bu (am Tryz.func24)<|bu (am Tryz.func25)<|bu (am Tryz.func26)<|bu (am Tryz.func27)<|bu (am Tryz.func29)<|bu (am Tryz.func28)<|bu (am Tryz.func31)<|bu (am Tryz.func30)<|bu (am Tryz.func32)<|bu (am Tryz.func33)<|bu (am Tryz.func34)<|bu (am Tryz.func35)<|bu (am Tryz.func36)<|bu (am Tryz.func37)<|bu (am Tryz.func38)<|bu (am Tryz.func39)<|bu (am Tryz.func40)<|bu (am Tryz.func42)<|bu (am Tryz.func41)<|IN
theorem NO:Rw NA:=bu (am Tryz.func45)<|bu (am Tryz.func48)<|bu (am Tryz.func47)<|bu (am Tryz.func46)<|bu (am Tryz.func49)<|bu (am Tryz.func51)<|bu (am Tryz.func50)<|bu (am Tryz.func53)<|bu (am Tryz.func54)<|bu (am Tryz.func55)<|bu (am Tryz.func56)<|bu (am Tryz.func57)<|bu (am Tryz.func58)<|bu (am Tryz.func60)<|bu (am Tryz.func59)<|bu (am Tryz.func44)<|bu (am Tryz.func43)<|bu (am Tryz.func61)<|bu (am Tryz.func63)<|bu (am Tryz.func62)<|IN
theorem NN:Rw Nz:=bu (am Tryz.func64)<|bu (am Tryz.func65)<|bu (am Tryz.func66)<|bu (am Tryz.func52)<|bu (am Tryz.func69)<|bu (am Tryz.func70)<|bu (am Tryz.func73)<|bu (am Tryz.func74)<|bu (am Tryz.func75)<|bu (am Tryz.func76)<|bu (am Tryz.func77)<|bu (am Tryz.func78)<|bu (oY rfl rfl So79.extOK)<|bu (am Tryz.func80)<|bu (am Tryz.func82)<|bu (am Tryz.func83)<|bu (am Tryz.func68)<|bu (am Tryz.func67)<|bu (am Tryz.func84)<|bu (am Tryz.func85)<|IN
theorem NM:Rw Ny:=bu (am Tryz.func86)<|bu (am Tryz.func71)<|bu (am Tryz.func72)<|bu (am Tryz.func90)<|bu (am Tryz.func92)<|bu (am Tryz.func93)<|bu (am Tryz.func96)<|bu (am Tryz.func97)<|bu (am Tryz.func98)<|bu (am Tryz.func100)<|bu (am Tryz.func99)<|bu (am Tryz.func81)<|bu (am Tryz.func87)<|bu (am Tryz.func89)<|bu (am Tryz.func88)<|bu (am Tryz.func106)<|bu (am Tryz.func91)<|bu (am Tryz.func95)<|bu (am Tryz.func94)<|bu (am Tryz.func111)<|IN
theorem NL:Rw Nx:=bu (am Tryz.func112)<|bu (am Tryz.func114)<|bu (am Tryz.func113)<|bu (am Tryz.func116)<|bu (am Tryz.func115)<|bu (am Tryz.func117)<|bu (am Tryz.func120)<|bu (am Tryz.func122)<|bu (am Tryz.func121)<|bu (am Tryz.func118)<|bu (am Tryz.func103)<|bu (am Tryz.func104)<|bu (am Tryz.func110)<|bu (am Tryz.func109)<|bu (am Tryz.func107)<|bu (am Tryz.func108)<|bu (am Tryz.func143)<|bu (am Tryz.func144)<|bu (am Tryz.func145)<|bu (am Tryz.func146)<|IN
theorem NK:Rw Nw:=bu (oY rfl rfl Ok147.extOK_insert)<|bu (am Tryz.func148)<|bu (am Tryz.func149)<|bu (am Tryz.func151)<|bu (am Tryz.func119)<|bu (am Tryz.func105)<|bu (am Tryz.func138)<|bu (am Tryz.func139)<|bu (am Tryz.func141)<|bu (am Tryz.func140)<|bu (am Tryz.func142)<|bu (am Tryz.func134)<|bu (am Tryz.func135)<|bu (oY rfl rfl (AR Tryz.func136 (by kernel_rfl) (by kernel_rfl) (by kernel_rfl) (by kernel_rfl)))<|bu (oY rfl rfl (AQ Tryz.func137 (by kernel_rfl) (by kernel_rfl) (by kernel_rfl) (by kernel_rfl)))<|bu (am Tryz.func162)<|bu (am Tryz.func150)<|bu (am Tryz.func164)<|bu (am Tryz.func133)<|bu (am Tryz.func158)<|IN
theorem NJ:Rw Nv:=bu (am Tryz.func159)<|bu (am Tryz.func157)<|bu (am Tryz.func168)<|bu (am Tryz.func169)<|bu (am Tryz.func163)<|bu (am Tryz.func166)<|bu (am Tryz.func171)<|bu (am Tryz.func172)<|bu (am Tryz.func173)<|bu (am Tryz.func174)<|bu (am Tryz.func175)<|bu (am Tryz.func176)<|bu (am Tryz.func177)<|bu (am Tryz.func179)<|bu (am Tryz.func178)<|bu (am Tryz.func180)<|bu (am Tryz.func181)<|bu (am Tryz.func132)<|bu (am Tryz.func182)<|bu (am Tryz.func183)<|IN
def Lo:List (Nat × aq):=NC++NB++NA++Nz++Ny++Nx++Nw++Nv
theorem Lw {l m:List (Nat × aq)} (h:Rw l) (h2:Rw m):Rw (l++m):=fun p hp=>(List.mem_append.1 hp).elim (h p) (h2 p)
theorem Jt:Rw Lo:=(Lw (Lw (Lw (Lw (Lw (Lw (Lw NQ NP) NO) NN) NM) NL) NK) NJ)
theorem tabOK:Eb Tryz.prog (look Lo):=fun _ _ h=>Jt _ (AA h)
theorem code:Code (look Lo):=by constructor <;> kernel_rfl
end Go.Proofs.YtboamamhcfhanaaGreat.Ev
