/- A part. -/
import Derived.Test.YteaefaohjlmjdaaGreatA0
import Derived.Test.YteaefaohjlmjdaaGreatN101
import Derived.Test.YteaefaohjlmjdaaGreatKit
import Derived.Test.YteaefaohjlmjdaaGreatProg
import Derived.KernelRfl
namespace Go.Proofs.YteaefaohjlmjdaaGreat.Ev
open Go
set_option maxRecDepth 1000000
set_option maxHeartbeats 8000000
set_option linter.all false
def look:List (Nat × aA)->Nat->Option aA
 | [],_=>none
 | p :: r,f=>if f=p.1 then some p.2 else look r f
def GI:∀ {L:List (Nat × aA)} {f:Nat} {a:aA},look L f=some a->(f,a)∈L
 | p :: r,f,a,h=>by
  unfold look at h;split at h
  ·rename_i e; cases h; subst e; exact Al ..
  ·exact tZ _ (GI h)
def az {f:Nat} {fn:Func} {a:aA} (b:Tryz.prog.funcs[f]? = some fn) (hc:TN Tryz.prog fn=some a:=by kernel_rfl) (he:a.ext.isNone=true:=by rfl):Ia Tryz.prog f a:=Oe b hc he
abbrev Rw (l:List (Nat × aA)):Prop:=∀ p∈l,Ia Tryz.prog p.1 p.2
def Nj:Rw []:=fun p hp=>by cases hp
def bp {f:Nat} {a:aA} {l:List (Nat × aA)} (h:Ia Tryz.prog f a) (hl:Rw l):Rw ((f,a) :: l):=List.forall_mem_cons.2 ⟨h,hl⟩
def VE:List (Nat × aA):=[(l3,c_facetroomlaw23_ImageGrows),(fI,jM),(gy,ke),(fH,jL),(fF,jJ),(dQ,h9),(kU,zY),(y8,Wj),(Wg,WE),(Wd,Wu),(BG,HF),(uM,Cq),(iC,lO),(gm,jY),(eY,iP),(iD,lP),(pa,Ed),(fD,jH),(fG,jK),(lB,qP)]
def VD:List (Nat × aA):=[(x9,zJ),(rH,zR),(oD,uy),(fj,su),(iL,c_image_moved),(pW,xp),(il,xo),(rL,Ac),(pS,xh),(gn,qa),(wG,VZ),(pR,xg),(ik,xf),(zn,V8),(Wc,Wt),(BI,HH),(A4,wS),(BM,HK),(gq,jZ),(fK,jO)]
def VC:List (Nat × aA):=[(e9,uC),(kW,Aa),(oF,c_dual_points),(rJ,Ab),(fE,jI),(cm,ly),(mN,VY),(ya,D9),(rz,zB),(V3,DW),(ry,zA),(cZ,fm),(rA,zC),(fS,qO),(fJ,jN),(eZ,uB),(mR,CB),(rK,c_dual_cons),(rM,Ad),(rD,zL)]
def VB:List (Nat × aA):=[(yc,Ea),(uR,CA),(zi,V7),(pT,Cw),(BL,HJ),(eE,ir),(eD,iq),(eJ,iy),(bR,cX),(eI,tn),(rI,zZ),(rO,c_cone_Gens),(bP,cV),(kw,pu),(pX,xu),(dO,gZ),(cI,dW),(vz,uj),(rv,zy),(pK,wR)]
def VA:List (Nat × aA):=[(oh,ul),(nW,uk),(xT,DU),(lA,qN),(xZ,D7),(ru,zx),(js,wU),(eH,tk),(bQ,cW),(eF,iu),(uN,Cu),(gP,sw),(gO,sv),(aX,bL),(aW,bJ),(pM,wT),(dG,kV),(oC,ux),(VW,Wk),(eh,lx)]
def Vz:List (Nat × aA):=[(cF,fV),(cA,ft),(gt,j8),(ck,dw),(mS,c_cone_checked),(rN,Ah),(uV,CI),(da,c_P_cone_under_add),(mP,sq),(oy,uu),(dE,dF),(jA,V2),(cd,dt),(nB,zP),(iB,wz),(oB,uw),(xX,DZ),(xW,DY),(dq,fq),(cj,du)]
def Vy:List (Nat × aA):=[(bj,bZ),(Wb,Wq),(gu,j9),(lV,xe),(gB,kh),(iY,c_P_cone_under_cut),(iG,c_P_cone_under_fold),(oo,ur),(iX,ng),(pN,Ct),(xV,DX),(pV,xm),(rG,zQ),(xY,D6),(uQ,Cz),(BJ,HI),(oA,uv),(pU,xl),(jx,nP),(jt,nL)]
def Vx:List (Nat × aA):=[(gw,ka),(p8,CH),(wy,Af),(fg,lS),(nE,Ag),(pY,CE),(A5,CF),(nz,zH),(cN,ee),(cJ,dX),(gD,c_P_rows_form_put),(rB,zI),(pQ,xd),(mO,so),(mJ,Cr),(oi,um),(bg,bV),(pP,xc),(ju,nM),(uP,Cy)]
def Vw:List (Nat × aA):=[(rE,zM),(rC,c_sat_Signs),(uU,CG),(rx,zz),(xU,DV),(mL,sf),(ot,ut),(cH,dV),(oj,uo),(mM,sj),(ol,uq),(gN,sr),(pO,wW),(yd,Ec),(nV,ui),(fh,pq),(oE,uA),(ye,Ee),(kv,po),(oG,uD)]
def Vv:List (Nat × aA):=[(uT,CD),(dN,gY),(BH,HG),(gA,kg),(gQ,lq),(gR,lu),(uS,CC),(uO,Cx),(cQ,eU),(jw,nO),(jv,nN),(rF,zN),(bh,dJ)]
def VT:Rw VE:=bp (az Tryz.func6)<|bp (az Tryz.func17)<|bp (az Tryz.func18)<|bp (az Tryz.func19)<|bp (az Tryz.func27)<|bp (az Tryz.func9)<|bp (az Tryz.func22)<|bp (az Tryz.func11)<|bp (az Tryz.func13)<|bp (az Tryz.func28)<|bp (az Tryz.func26)<|bp (az Tryz.func29)<|bp (az Tryz.func20)<|bp (az Tryz.func15)<|bp (az Tryz.func49)<|bp (az Tryz.func50)<|bp (az Tryz.func36)<|bp (az Tryz.func12)<|bp (az Tryz.func38)<|bp (az Tryz.func52)<|Nj
def VS:Rw VD:=bp (az Tryz.func56)<|bp (az Tryz.func57)<|bp (az Tryz.func53)<|bp (az Tryz.func58)<|bp (az Tryz.func59)<|bp (az Tryz.func60)<|bp (az Tryz.func61)<|bp (az Tryz.func62)<|bp (az Tryz.func39)<|bp (az Tryz.func40)<|bp (az Tryz.func42)<|bp (az Tryz.func43)<|bp (az Tryz.func44)<|bp (az Tryz.func72)<|bp (az Tryz.func73)<|bp (az Tryz.func75)<|bp (az Tryz.func74)<|bp (az Tryz.func51)<|bp (az Tryz.func47)<|bp (az Tryz.func78)<|Nj
def VQ:Rw VC:=bp (az Tryz.func79)<|bp (az Tryz.func80)<|bp (az Tryz.func82)<|bp (az Tryz.func81)<|bp (az Tryz.func41)<|bp (az Tryz.func99)<|bp (az Tryz.func100)<|bp (az Tryz.func101)<|bp (az Tryz.func102)<|bp (az Tryz.func68)<|bp (az Tryz.func69)<|bp (az Tryz.func54)<|bp (az Tryz.func71)<|bp (az Tryz.func103)<|bp (az Tryz.func89)<|bp (az Tryz.func90)<|bp (az Tryz.func91)<|bp (az Tryz.func92)<|bp (az Tryz.func83)<|bp (az Tryz.func84)<|Nj
def VP:Rw VB:=bp (az Tryz.func66)<|bp (az Tryz.func67)<|bp (az Tryz.func111)<|bp (az Tryz.func112)<|bp (az Tryz.func93)<|bp (az Tryz.func87)<|bp (az Tryz.func88)<|bp (az Tryz.func116)<|bp (az Tryz.func115)<|bp (az Tryz.func117)<|bp (az Tryz.func118)<|bp (az Tryz.func119)<|bp (az Tryz.func120)<|bp (az Tryz.func121)<|bp (az Tryz.func122)<|bp (az Tryz.func10)<|bp (az Tryz.func137)<|bp (az Tryz.func64)<|bp (az Tryz.func138)<|bp (az Tryz.func139)<|Nj
def VO:Rw VA:=bp (az Tryz.func94)<|bp (az Tryz.func98)<|bp (az Tryz.func97)<|bp (az Tryz.func106)<|bp (az Tryz.func107)<|bp (az Tryz.func110)<|bp (az Tryz.func104)<|bp (az Tryz.func135)<|bp (az Tryz.func134)<|bp (az Tryz.func136)<|bp (az Tryz.func124)<|bp (az Tryz.func123)<|bp (az Tryz.func125)<|bp (az Tryz.func126)<|bp (az Tryz.func127)<|bp (az Tryz.func128)<|bp (az Tryz.func146)<|bp (az Tryz.func65)<|bp (az Tryz.func145)<|bp (az Tryz.func147)<|Nj
def VN:Rw Vz:=bp (az Tryz.func148)<|bp (az Tryz.func109)<|bp (az Tryz.func133)<|bp (az Tryz.func149)<|bp (az Tryz.func150)<|bp (az Tryz.func151)<|bp (az Tryz.func152)<|bp (az Tryz.func153)<|bp (az Tryz.func154)<|bp (az Tryz.func155)<|bp (sO rfl rfl So156.extOK)<|bp (az Tryz.func157)<|bp (az Tryz.func159)<|bp (az Tryz.func105)<|bp (az Tryz.func142)<|bp (az Tryz.func141)<|bp (az Tryz.func143)<|bp (az Tryz.func144)<|bp (az Tryz.func140)<|bp (az Tryz.func170)<|Nj
def VM:Rw Vy:=bp (az Tryz.func160)<|bp (az Tryz.func180)<|bp (az Tryz.func169)<|bp (az Tryz.func181)<|bp (az Tryz.func182)<|bp (az Tryz.func185)<|bp (az Tryz.func186)<|bp (az Tryz.func187)<|bp (az Tryz.func188)<|bp (az Tryz.func70)<|bp (az Tryz.func158)<|bp (az Tryz.func171)<|bp (az Tryz.func172)<|bp (az Tryz.func174)<|bp (az Tryz.func173)<|bp (az Tryz.func175)<|bp (az Tryz.func176)<|bp (az Tryz.func177)<|bp (sO rfl rfl (Ha Tryz.func178 (by kernel_rfl) (by kernel_rfl) (by kernel_rfl) (by kernel_rfl)))<|bp (sO rfl rfl (G9 Tryz.func179 (by kernel_rfl) (by kernel_rfl) (by kernel_rfl) (by kernel_rfl)))<|Nj
def VL:Rw Vx:=bp (az Tryz.func193)<|bp (az Tryz.func184)<|bp (az Tryz.func183)<|bp (az Tryz.func197)<|bp (az Tryz.func198)<|bp (az Tryz.func200)<|bp (az Tryz.func199)<|bp (az Tryz.func201)<|bp (az Tryz.func203)<|bp (az Tryz.func202)<|bp (az Tryz.func204)<|bp (az Tryz.func205)<|bp (az Tryz.func207)<|bp (az Tryz.func206)<|bp (az Tryz.func95)<|bp (az Tryz.func108)<|bp (az Tryz.func191)<|bp (az Tryz.func192)<|bp (az Tryz.func194)<|bp (az Tryz.func195)<|Nj
def VK:Rw Vw:=bp (az Tryz.func196)<|bp (az Tryz.func219)<|bp (az Tryz.func220)<|bp (az Tryz.func221)<|bp (az Tryz.func55)<|bp (az Tryz.func222)<|bp (az Tryz.func223)<|bp (sO rfl rfl Ok224.extOK_insert)<|bp (az Tryz.func225)<|bp (az Tryz.func226)<|bp (az Tryz.func228)<|bp (az Tryz.func218)<|bp (az Tryz.func96)<|bp (az Tryz.func236)<|bp (az Tryz.func227)<|bp (az Tryz.func238)<|bp (az Tryz.func241)<|bp (az Tryz.func242)<|bp (az Tryz.func237)<|bp (az Tryz.func244)<|Nj
def VJ:Rw Vv:=bp (az Tryz.func245)<|bp (az Tryz.func246)<|bp (az Tryz.func247)<|bp (az Tryz.func248)<|bp (az Tryz.func249)<|bp (az Tryz.func250)<|bp (az Tryz.func252)<|bp (az Tryz.func251)<|bp (az Tryz.func253)<|bp (az Tryz.func254)<|bp (az Tryz.func217)<|bp (az Tryz.func255)<|bp (az Tryz.func256)<|Nj
def S2:List (Nat × aA):=VE++VD++VC++VB++VA++Vz++Vy++Vx++Vw++Vv
def QY {l m:List (Nat × aA)} (h:Rw l) (h2:Rw m):Rw (l++m):=fun p hp=>(Eu.1 hp).elim (h p) (h2 p)
def QS:Rw S2:=(QY (QY (QY (QY (QY (QY (QY (QY (QY VT VS) VQ) VP) VO) VN) VM) VL) VK) VJ)
def tabOK:Lf Tryz.prog (look S2):=fun _ _ h=>QS _ (GI h)
theorem code:Code (look S2):=by constructor <;> kernel_rfl
end Go.Proofs.YteaefaohjlmjdaaGreat.Ev
