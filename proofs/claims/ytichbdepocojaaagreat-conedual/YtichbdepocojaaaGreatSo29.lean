/- A part. -/
import Derived.Test.YtichbdepocojaaaGreatEvDraw5
import Derived.Test.YtichbdepocojaaaGreatProg
import Derived.KernelRfl
import Derived.Shelf.SlSortCmp.NoneTotal
import Derived.Ground.SlsfProg
import Derived.Test.YtichbdepocojaaaGreatN45
import Derived.Test.YtichbdepocojaaaGreatCode
namespace Go.Proofs.YtichbdepocojaaaGreat.Ev.So29
open Go Go.RowKit Go.Sort Go.Shelf Go.Lib Go.Proofs.YtichbdepocojaaaGreat.Ev
set_option linter.all false
set_option maxRecDepth 100000
def Au:Go.Shelf.Ren:=⟨fun | 6=>29 | 15=>62 | 14=>61 | 28=>99 | 29=>100 | 20=>91 | 21=>92 | 22=>93 | 23=>94 | 24=>95 | 25=>96 | 26=>97 | 27=>98 | 46=>117 | 47=>118 | 48=>119 | 49=>120 | 50=>121 | 57=>132 | n=>n,fun | 22=>22 | 24=>30 | 25=>61 | 3=>3 | 39=>95 | 0=>0 | 53=>130 | 55=>69 | 4=>4 | 46=>123 | 45=>122 | 50=>127 | 5=>5 | 9=>9 | 66=>147 | 70=>151 | 76=>160 | 77=>161 | n=>n,fun | n=>n⟩
theorem Fw:Go.Proofs.SlLaysF.n6 Tryz.prog Au:={
 mixed:=by kernel_rfl
 f6:=⟨Tryz.f29.name,by decide,Tryz.func29.trans (congrArg some (by kernel_rfl))⟩
 f14:=⟨Tryz.f61.name,by decide,Tryz.func61.trans (congrArg some (by kernel_rfl))⟩
 f15:=Tryz.func62.trans (congrArg some (by kernel_rfl))
 f20:=⟨Tryz.f91.name,by decide,Tryz.func91.trans (congrArg some (by kernel_rfl))⟩
 f21:=⟨Tryz.f92.name,by decide,Tryz.func92.trans (congrArg some (by kernel_rfl))⟩
 f22:=⟨Tryz.f93.name,by decide,Tryz.func93.trans (congrArg some (by kernel_rfl))⟩
 f23:=⟨Tryz.f94.name,by decide,Tryz.func94.trans (congrArg some (by kernel_rfl))⟩
 f24:=⟨Tryz.f95.name,by decide,Tryz.func95.trans (congrArg some (by kernel_rfl))⟩
 f25:=⟨Tryz.f96.name,by decide,Tryz.func96.trans (congrArg some (by kernel_rfl))⟩
 f26:=⟨Tryz.f97.name,by decide,Tryz.func97.trans (congrArg some (by kernel_rfl))⟩
 f27:=⟨Tryz.f98.name,by decide,Tryz.func98.trans (congrArg some (by kernel_rfl))⟩
 f28:=Tryz.func99.trans (congrArg some (by kernel_rfl))
 f29:=Tryz.func100.trans (congrArg some (by kernel_rfl))
 f46:=⟨Tryz.f117.name,by decide,Tryz.func117.trans (congrArg some (by kernel_rfl))⟩
 f47:=Tryz.func118.trans (congrArg some (by kernel_rfl))
 f48:=Tryz.func119.trans (congrArg some (by kernel_rfl))
 f49:=⟨Tryz.f120.name,by decide,Tryz.func120.trans (congrArg some (by kernel_rfl))⟩
 f50:=⟨Tryz.f121.name,by decide,Tryz.func121.trans (congrArg some (by kernel_rfl))⟩
 f57:=⟨Tryz.f132.name,by decide,Tryz.func132.trans (congrArg some (by kernel_rfl))⟩
 t0:=Tryz.underlying0
 a0:=Tryz.isAgg0
 z0:=Tryz.sizeOf0
 v0:=Tryz.zeroValue0
 t3:=Tryz.underlying3
 a3:=Tryz.isAgg3
 z3:=Tryz.sizeOf3
 v3:=Tryz.zeroValue3
 t4:=Tryz.underlying4
 a4:=Tryz.isAgg4
 z4:=Tryz.sizeOf4
 v4:=Tryz.zeroValue4
 t5:=Tryz.underlying5
 a5:=Tryz.isAgg5
 z5:=Tryz.sizeOf5
 v5:=Tryz.zeroValue5
 t9:=Tryz.underlying9
 a9:=Tryz.isAgg9
 z9:=Tryz.sizeOf9
 v9:=Tryz.zeroValue9
 t22:=Tryz.underlying22
 a22:=Tryz.isAgg22
 z22:=Tryz.sizeOf22
 v22:=Tryz.zeroValue22
 a24:=Tryz.isAgg30
 z24:=Tryz.sizeOf30
 t25:=Tryz.underlying61
 a25:=Tryz.isAgg61
 z25:=Tryz.sizeOf61
 v25:=Tryz.zeroValue61
 t39:=Tryz.underlying95
 a39:=Tryz.isAgg95
 z39:=Tryz.sizeOf95
 v39:=Tryz.zeroValue95
 t45:=Tryz.underlying122
 a45:=Tryz.isAgg122
 z45:=Tryz.sizeOf122
 v45:=Tryz.zeroValue122
 t46:=Tryz.underlying123
 a46:=Tryz.isAgg123
 z46:=Tryz.sizeOf123
 v46:=Tryz.zeroValue123
 t50:=Tryz.underlying127
 a50:=Tryz.isAgg127
 z50:=Tryz.sizeOf127
 v50:=Tryz.zeroValue127
 t53:=Tryz.underlying130
 a53:=Tryz.isAgg130
 z53:=Tryz.sizeOf130
 v53:=Tryz.zeroValue130
 t55:=Tryz.underlying69
 a55:=Tryz.isAgg69
 z55:=Tryz.sizeOf69
 v55:=Tryz.zeroValue69
 t66:=Tryz.underlying147
 a66:=Tryz.isAgg147
 z66:=Tryz.sizeOf147
 v66:=Tryz.zeroValue147
 t70:=Tryz.underlying151
 a70:=Tryz.isAgg151
 z70:=Tryz.sizeOf151
 v70:=Tryz.zeroValue151
 t76:=Tryz.underlying160
 a76:=Tryz.isAgg160
 z76:=Tryz.sizeOf160
 v76:=Tryz.zeroValue160
 t77:=Tryz.underlying161
 a77:=Tryz.isAgg161
 z77:=Tryz.sizeOf161
 v77:=Tryz.zeroValue161 }
theorem J9:Bz Tryz.prog 29 [30]:=by
 refine ⟨⟨Tryz.f29,Tryz.func29,by kernel_rfl,by decide +kernel⟩,trivial,?_,?_,?_⟩
 ·intro g hg args w
  simp only [List.mem_cons,List.not_mem_nil,or_false] at hg
  subst hg
  exact enters_of Tryz.func30 (by kernel_rfl) rfl args w
 ·intro p cap fv w
  exact AnyF.slices_SortFunc_none { Fw with } p cap fv w
 ·intro k enc cf g cb blk cap w hg h1 hO hT hcmp hH hblk hsz
  have eg:∀ args w,(callFunc g args).run Tryz.prog w=.ok (.enter g args) w:=by
   intro args w
   simp only [List.mem_cons,List.not_mem_nil,or_false] at hg
   subst hg
   exact enters_of Tryz.func30 (by kernel_rfl) rfl args w
  have hs:(List.finRange (k+1)).toArray.size=k+1:=by simp
  have h:=Any.slices_SortFunc_total Fw enc h1 cf hO g cb blk 0 cap (List.finRange (k+1)).toArray w eg (by rw [hs]; exact hcmp) hH hblk (by rw [hs]; exact hsz) hT
  rw [hs] at h
  change Calls Tryz.prog 29 _ _ _ at h
  exact h
theorem extOK:ExtOK Tryz.prog 29 (.sortF 30 [30]):=J9
end Go.Proofs.YtichbdepocojaaaGreat.Ev.So29
namespace Go.Proofs.YtichbdepocojaaaGreat.Ev
open Go
set_option maxRecDepth 1000000
set_option linter.all false
def look:List (Nat × au)->Nat->Option au
 | [],_=>none
 | p :: r,f=>if f=p.1 then some p.2 else look r f
theorem y5:∀ {L:List (Nat × au)} {f:Nat} {a:au},look L f=some a->(f,a)∈L
 | p :: r,f,a,h=>by
  unfold look at h
  split at h
  ·rename_i e; cases h; subst e; exact List.mem_cons_self ..
  ·exact List.mem_cons_of_mem _ (y5 h)
theorem aq {f:Nat} {fn:Func} {a:au} (hf:Tryz.prog.funcs[f]? = some fn) (hc:K7 Tryz.prog fn=some a:=by kernel_rfl) (he:a.ext.isNone=true:=by rfl):Ac Tryz.prog f a:=Fp hf hc he
abbrev Rw (l:List (Nat × au)):Prop:=∀ p∈l,Ac Tryz.prog p.1 p.2
theorem HS:Rw []:=fun p hp=>by cases hp
theorem bM {f:Nat} {a:au} {l:List (Nat × au)} (h:Ac Tryz.prog f a) (hl:Rw l):Rw ((f,a) :: l):=List.forall_mem_cons.2 ⟨h,hl⟩
def MZ:List (Nat × au):=[(dD,c_facetroomlaw20_ConeDual),(e9,fl),(fc,fm),(fL,fO),(cQ,gX),(cP,gV),(ee,c_cone_Gens),(dr,ib),(oo,wH),(eA,uI),(ea,sj),(mr,qG),(i9,sC),(fJ,ph),(pu,uK),(pw,uM),(lM,wG),(e8,nS),(nu,zJ),(bO,gW)]
def MY:List (Nat × au):=[(bF,jd),(cN,gS),(fd,c_cone_checked),(i8,sB),(mp,uX),(ck,c_P_cone_under_add),(bU,cM),(fe,nU),(dt,ic),(iI,oZ),(mi,qz),(ir,uJ),(lO,zM),(dI,qp),(dQ,oX),(gL,nO),(jx,qF),(jw,qE),(gO,qB),(fI,pf)]
def MX:List (Nat × au):=[(da,ki),(jZ,uL),(aN,cH),(kZ,o0),(aP,bH),(mh,qv),(az,bw),(ju,qx),(cp,gT),(dy,ij),(aM,cG),(eB,c_P_cone_under_cut),(dV,c_P_cone_under_fold),(du,ie),(eZ,so),(jK,wD),(j8,uN),(gr,su),(dR,oY),(jl,mT)]
def MW:List (Nat × au):=[(jk,mS),(aQ,cu),(dK,c_P_rows_form_put),(gq,sn),(fy,qA),(e7,nR),(iJ,pa),(bg,dl),(cC,eh),(kF,se),(cO,gU),(iv,uW),(cS,sw),(cK,jr),(iZ,sA),(fY,uT),(iu,uU),(bj,dB),(bh,dm),(dw,ig)]
def MV:List (Nat × au):=[(gN,nQ),(kG,sf),(aR,eI),(kE,r9),(iM,pg),(bf,dj),(iK,pb),(gM,nP),(iL,pd),(iW,rZ),(lK,wE),(aC,ej),(kD,rY),(gJ,qm),(jL,wF),(gK,qq),(kH,c_sat_Signs),(mo,uV),(fS,mR),(iV,rX)]
def MU:List (Nat × au):=[(ot,wL),(oy,wM),(iH,oW),(cW,lZ),(jt,qw),(lP,wJ),(jM,wI),(cJ,jq),(iN,pj),(iO,pk),(lS,wN),(fx,lY),(fK,pi),(gP,qC),(co,kR),(cF,kN),(jv,qD),(iY,sv),(jN,wK),(ml,uQ)]
def MT:List (Nat × au):=[(ny,zN),(iP,pm),(mm,uS),(bE,fk),(nw,zL),(dx,ii),(dL,je),(dM,jf),(fX,uR),(mj,uO),(kI,sq),(eN,kO),(j9,uP),(bu,dN),(dJ,kQ),(eO,kP),(iX,sr),(dY,nT),(aJ,cV)]
theorem Nc:Rw MZ:=bM (aq Tryz.func3)<|bM (aq Tryz.func4)<|bM (aq Tryz.func5)<|bM (aq Tryz.func6)<|bM (aq Tryz.func7)<|bM (aq Tryz.func8)<|bM (aq Tryz.func9)<|bM (aq Tryz.func10)<|bM (aq Tryz.func11)<|bM (aq Tryz.func13)<|bM (aq Tryz.func12)<|bM (aq Tryz.func14)<|bM (aq Tryz.func15)<|bM (aq Tryz.func16)<|bM (aq Tryz.func17)<|bM (aq Tryz.func18)<|bM (aq Tryz.func19)<|bM (aq Tryz.func20)<|bM (aq Tryz.func22)<|bM (aq Tryz.func21)<|HS
theorem Nb:Rw MY:=bM (aq Tryz.func23)<|bM (aq Tryz.func24)<|bM (aq Tryz.func25)<|bM (aq Tryz.func26)<|bM (aq Tryz.func27)<|bM (aq Tryz.func28)<|bM (oe rfl rfl So29.extOK)<|bM (aq Tryz.func30)<|bM (aq Tryz.func31)<|bM (aq Tryz.func32)<|bM (aq Tryz.func34)<|bM (aq Tryz.func33)<|bM (aq Tryz.func40)<|bM (aq Tryz.func39)<|bM (aq Tryz.func36)<|bM (aq Tryz.func37)<|bM (aq Tryz.func41)<|bM (aq Tryz.func42)<|bM (aq Tryz.func43)<|bM (aq Tryz.func45)<|HS
theorem Na:Rw MX:=bM (aq Tryz.func46)<|bM (aq Tryz.func44)<|bM (aq Tryz.func47)<|bM (aq Tryz.func48)<|bM (aq Tryz.func49)<|bM (aq Tryz.func50)<|bM (aq Tryz.func51)<|bM (aq Tryz.func52)<|bM (aq Tryz.func54)<|bM (aq Tryz.func56)<|bM (aq Tryz.func55)<|bM (aq Tryz.func59)<|bM (aq Tryz.func60)<|bM (aq Tryz.func63)<|bM (aq Tryz.func64)<|bM (aq Tryz.func35)<|bM (aq Tryz.func68)<|bM (aq Tryz.func66)<|bM (aq Tryz.func38)<|bM (aq Tryz.func69)<|HS
theorem M9:Rw MW:=bM (aq Tryz.func70)<|bM (aq Tryz.func71)<|bM (aq Tryz.func74)<|bM (aq Tryz.func75)<|bM (aq Tryz.func77)<|bM (aq Tryz.func76)<|bM (aq Tryz.func72)<|bM (aq Tryz.func78)<|bM (aq Tryz.func79)<|bM (aq Tryz.func53)<|bM (aq Tryz.func82)<|bM (aq Tryz.func58)<|bM (aq Tryz.func57)<|bM (aq Tryz.func85)<|bM (aq Tryz.func86)<|bM (aq Tryz.func88)<|bM (aq Tryz.func87)<|bM (aq Tryz.func90)<|bM (aq Tryz.func89)<|bM (aq Tryz.func101)<|HS
theorem M8:Rw MV:=bM (aq Tryz.func102)<|bM (aq Tryz.func65)<|bM (aq Tryz.func106)<|bM (aq Tryz.func67)<|bM (aq Tryz.func107)<|bM (oe rfl rfl Ok108.extOK_insert)<|bM (aq Tryz.func109)<|bM (aq Tryz.func110)<|bM (aq Tryz.func114)<|bM (aq Tryz.func112)<|bM (aq Tryz.func113)<|bM (aq Tryz.func73)<|bM (aq Tryz.func80)<|bM (aq Tryz.func81)<|bM (aq Tryz.func84)<|bM (aq Tryz.func83)<|bM (aq Tryz.func115)<|bM (aq Tryz.func116)<|bM (aq Tryz.func103)<|bM (aq Tryz.func104)<|HS
theorem M7:Rw MU:=bM (aq Tryz.func105)<|bM (aq Tryz.func128)<|bM (aq Tryz.func111)<|bM (aq Tryz.func131)<|bM (aq Tryz.func130)<|bM (aq Tryz.func122)<|bM (aq Tryz.func123)<|bM (aq Tryz.func125)<|bM (aq Tryz.func124)<|bM (aq Tryz.func143)<|bM (aq Tryz.func144)<|bM (aq Tryz.func129)<|bM (aq Tryz.func133)<|bM (aq Tryz.func134)<|bM (oe rfl rfl (zn Tryz.func135 (by kernel_rfl) (by kernel_rfl) (by kernel_rfl) (by kernel_rfl)))<|bM (oe rfl rfl (zm Tryz.func136 (by kernel_rfl) (by kernel_rfl) (by kernel_rfl) (by kernel_rfl)))<|bM (aq Tryz.func137)<|bM (aq Tryz.func138)<|bM (aq Tryz.func140)<|bM (aq Tryz.func139)<|HS
theorem M6:Rw MT:=bM (aq Tryz.func141)<|bM (aq Tryz.func149)<|bM (aq Tryz.func150)<|bM (aq Tryz.func151)<|bM (aq Tryz.func152)<|bM (aq Tryz.func153)<|bM (aq Tryz.func154)<|bM (aq Tryz.func155)<|bM (aq Tryz.func157)<|bM (aq Tryz.func156)<|bM (aq Tryz.func145)<|bM (aq Tryz.func146)<|bM (aq Tryz.func147)<|bM (aq Tryz.func159)<|bM (aq Tryz.func160)<|bM (aq Tryz.func100)<|bM (aq Tryz.func161)<|bM (aq Tryz.func158)<|bM (aq Tryz.func162)<|HS
def J7:List (Nat × au):=MZ++MY++MX++MW++MV++MU++MT
theorem K5 {l m:List (Nat × au)} (h:Rw l) (h2:Rw m):Rw (l++m):=fun p hp=>(List.mem_append.1 hp).elim (h p) (h2 p)
theorem HN:Rw J7:=(K5 (K5 (K5 (K5 (K5 (K5 Nc Nb) Na) M9) M8) M7) M6)
theorem tabOK:Cw Tryz.prog (look J7):=fun _ _ h=>HN _ (y5 h)
theorem code:Code (look J7):=by constructor <;> kernel_rfl
end Go.Proofs.YtichbdepocojaaaGreat.Ev
