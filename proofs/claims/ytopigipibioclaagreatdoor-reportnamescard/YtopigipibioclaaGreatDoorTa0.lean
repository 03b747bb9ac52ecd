/-
The code of the law's functions, printed by program off the translation.
-/
import Derived.Test.YtopigipibioclaaGreatDoorEvSlots
namespace Go.Proofs.YtopigipibioclaaGreatDoor.Ev
open Go
noncomputable section
set_option maxRecDepth 1000000
set_option linter.all false
def dy a b := dq (dl 0 [] a) b
def dw a b := dq (da 0 [] a) b
def qr a b c := cq (aq a b) c
def w1 (a : Gt) : Tq → List AV := fun T => [a T]
def w2 (a b : Gt) : Tq → List AV := fun T => [a T,b T]
def w3 (a b c : Gt) : Tq → List AV := fun T => [a T,b T,c T]
def ax a0 a1 a2 b := oq (aA a0 a1 a2) b
def aa a0 a1 b := oq (om a0 a1) b
def bd a0 a1 a2 a3 b := oq (og a0 a1 a2 a3) b
def bL a0 a1 a2 a3 b := oq (ox a0 a1 a2 a3) b
def nU a0 a1 a2 a3 b := oq (oa a0 a1 a2 a3) b
def ap a0 a1 b := oq (ol a0 a1) b
def jH a0 a1 a2 b := oq (b5 a0 a1 a2) b
def mP a0 a1 a2 b := oq (oe a0 a1 a2) b
def aH a0 a1 a2 b := oq (bM a0 a1 a2) b
def cN a0 a1 a2 a3 b := oq (ot a0 a1 a2 a3) b
def aI a0 a1 a2 b c := oq (oP (ba a0 a1 a2) b) c
def aP a0 b c := oq (oP (eN a0) b) c
def aY a0 a1 a2 b c := oq (oP (bU a0 a1 a2) b) c
def ai a0 a1 b c := oq (oP (cA a0 a1) b) c
def aT a0 a1 b c := oq (oP (iL a0 a1) b) c
def aw a0 a1 b c := oq (oP (bX a0 a1) b) c
def fm a0 a1 b c := oq (oP (bk a0 a1) b) c
def fW a0 a1 b c := oq (oP (e6 a0 a1) b) c
def iH a0 a1 b c := oq (oP (bF a0 a1) b) c
def ed a0 a1 b c := oq (oP (fH a0 a1) b) c
def fp a0 a1 b c := oq (oP (cJ a0 a1) b) c
def mQ a0 a1 b c := oq (oP (cY a0 a1) b) c
def lN a0 a1 b c := oq (oP (iC a0 a1) b) c
def X8 : List AV := [(.int .u8 0),(.int .u8 0),(.int .u8 0),(.int .u8 0),(.int .u8 0),(.int .u8 0),(.int .u8 0),(.int .u8 0),(.int .u8 0),(.int .u8 1),(.int .u8 1),(.int .u8 1),(.int .u8 1),(.int .u8 1),(.int .u8 0),(.int .u8 0),(.int .u8 0),(.int .u8 0),(.int .u8 0),(.int .u8 0),(.int .u8 0),(.int .u8 0),(.int .u8 0),(.int .u8 0),(.int .u8 0),(.int .u8 0),(.int .u8 0),(.int .u8 0),(.int .u8 0),(.int .u8 0),(.int .u8 0),(.int .u8 0),(.int .u8 1),(.int .u8 0),(.int .u8 0),(.int .u8 0),(.int .u8 0),(.int .u8 0),(.int .u8 0),(.int .u8 0),(.int .u8 0),(.int .u8 0),(.int .u8 0),(.int .u8 0),(.int .u8 0),(.int .u8 0),(.int .u8 0),(.int .u8 0),(.int .u8 0),(.int .u8 0),(.int .u8 0),(.int .u8 0),(.int .u8 0),(.int .u8 0),(.int .u8 0),(.int .u8 0),(.int .u8 0),(.int .u8 0),(.int .u8 0),(.int .u8 0),(.int .u8 0),(.int .u8 0),(.int .u8 0),(.int .u8 0),(.int .u8 0),(.int .u8 0),(.int .u8 0),(.int .u8 0),(.int .u8 0),(.int .u8 0),(.int .u8 0),(.int .u8 0),(.int .u8 0),(.int .u8 0),(.int .u8 0),(.int .u8 0),(.int .u8 0),(.int .u8 0),(.int .u8 0),(.int .u8 0),(.int .u8 0),(.int .u8 0),(.int .u8 0),(.int .u8 0),(.int .u8 0),(.int .u8 0),(.int .u8 0),(.int .u8 0),(.int .u8 0),(.int .u8 0),(.int .u8 0),(.int .u8 0),(.int .u8 0),(.int .u8 0),(.int .u8 0),(.int .u8 0),(.int .u8 0),(.int .u8 0),(.int .u8 0),(.int .u8 0),(.int .u8 0),(.int .u8 0),(.int .u8 0),(.int .u8 0),(.int .u8 0),(.int .u8 0),(.int .u8 0),(.int .u8 0),(.int .u8 0),(.int .u8 0),(.int .u8 0),(.int .u8 0),(.int .u8 0),(.int .u8 0),(.int .u8 0),(.int .u8 0),(.int .u8 0),(.int .u8 0),(.int .u8 0),(.int .u8 0),(.int .u8 0),(.int .u8 0),(.int .u8 0),(.int .u8 0),(.int .u8 0),(.int .u8 0),(.int .u8 0),(.int .u8 0),(.int .u8 0),(.int .u8 0),(.int .u8 0),(.int .u8 0),(.int .u8 0),(.int .u8 0),(.int .u8 0),(.int .u8 0),(.int .u8 0),(.int .u8 0),(.int .u8 0),(.int .u8 0),(.int .u8 0),(.int .u8 0),(.int .u8 0),(.int .u8 0),(.int .u8 0),(.int .u8 0),(.int .u8 0),(.int .u8 0),(.int .u8 0),(.int .u8 0),(.int .u8 0),(.int .u8 0),(.int .u8 0),(.int .u8 0),(.int .u8 0),(.int .u8 0),(.int .u8 0),(.int .u8 0),(.int .u8 0),(.int .u8 0),(.int .u8 0),(.int .u8 0),(.int .u8 0),(.int .u8 0),(.int .u8 0),(.int .u8 0),(.int .u8 0),(.int .u8 0),(.int .u8 0),(.int .u8 0),(.int .u8 0),(.int .u8 0),(.int .u8 0),(.int .u8 0),(.int .u8 0),(.int .u8 0),(.int .u8 0),(.int .u8 0),(.int .u8 0),(.int .u8 0),(.int .u8 0),(.int .u8 0),(.int .u8 0),(.int .u8 0),(.int .u8 0),(.int .u8 0),(.int .u8 0),(.int .u8 0),(.int .u8 0),(.int .u8 0),(.int .u8 0),(.int .u8 0),(.int .u8 0),(.int .u8 0),(.int .u8 0),(.int .u8 0),(.int .u8 0),(.int .u8 0),(.int .u8 0),(.int .u8 0),(.int .u8 0),(.int .u8 0),(.int .u8 0),(.int .u8 0),(.int .u8 0),(.int .u8 0),(.int .u8 0),(.int .u8 0),(.int .u8 0),(.int .u8 0),(.int .u8 0),(.int .u8 0),(.int .u8 0),(.int .u8 0),(.int .u8 0),(.int .u8 0),(.int .u8 0),(.int .u8 0),(.int .u8 0),(.int .u8 0),(.int .u8 0),(.int .u8 0),(.int .u8 0),(.int .u8 0),(.int .u8 0),(.int .u8 0),(.int .u8 0),(.int .u8 0),(.int .u8 0),(.int .u8 0),(.int .u8 0),(.int .u8 0),(.int .u8 0),(.int .u8 0),(.int .u8 0),(.int .u8 0),(.int .u8 0),(.int .u8 0),(.int .u8 0),(.int .u8 0),(.int .u8 0),(.int .u8 0),(.int .u8 0),(.int .u8 0),(.int .u8 0),(.int .u8 0),(.int .u8 0),(.int .u8 0),(.int .u8 0),(.int .u8 0),(.int .u8 0),(.int .u8 0),(.int .u8 0),(.int .u8 0),(.int .u8 0),(.int .u8 0)]
def cM : AV := .bool false
def aE : AV := .int .i64 0
def pY := qr 2 (aa ah bu<|oe (.bin .eql .sl (.t 3) (.c .nilSl)) 1 aF)<|ak aS (qr 1 (om (kc .nilSl) bx)<|cx 0) (ck)
def di : AV := .str ⟨#[]⟩
def d5z := cE 1000000 (qr 1 (oP (bF az ay) aV)<|cq (ak aL (ck) (cx 1))<|cq (aQ 3 (qr 2 (aa az bb<|om aD aC)<|qr 6 (aa aj bc<|aa ah bi<|aa aN bh<|aY 2 bo bf bz<|aH 2 bt bl<|b5 bj (w1 bq) br)<|ak bw (qr 2 (aa aN bD<|om bA aF)<|cx 0) (ck)))<|aq 2 (aT az bE bK<|om cd aJ))
def oj := aq 3 (aa ah aB<|aP aW aG<|om al aJ)
def d7z := cE 1000000 (qr 1 (oP (bF az ay) aV)<|cq (ak aL (ck) (cx 1))<|cq (aQ 3 (qr 2 (aa az bb<|om aD aC)<|qr 6 (aa aj bc<|aa ah bi<|aa aN bh<|aY 1 bo bf bz<|ap bt bl<|b5 bj (w1 bq) br)<|ak bw (qr 2 (aa aN bD<|om bA aF)<|cx 0) (ck)))<|aq 2 (aT az bE bK<|om cd aJ))
def d8 := qr 5 (aa ah bb<|aP aD bc<|aa aj bi<|aP bo bh<|oP (cJ bj bf) bz)<|ak bt (qr 1 (om bQ aB)<|cx 0) (ck)
def d9 := aq 1 (om (kc (.int .i64 (-1))) aF)
def iY := kc (.int .i64 2)
def jU := fun T => [aN T,aW T]
def jT := aq 1 (om bQ aF)
def jp := aq 1 (om al bx)
def mH := kc (.int .i64 8)
def je : Src := .c (.int .i64 1)
def jD := aq 1 (om al aF)
def lT : AV := .int .u64 0
def ye := aq 2 (aa aW bc<|oP (cJ bj al) bi)
def kK : List AV := [(.int .u8 0),.nilSl]
def nI := aq 1 (om (kc .nilSl) aF)
def d21 := cE 1000000 (qr 1 (oP (bF az ay) aV)<|cq (ak aL (ck) (cx 1))<|cq (aQ 3 (qr 3 (aY 1 aW az bb<|ap aD bc<|om bj aF)<|qr 3 (aa aS bi<|ax 479 (w1 bo) bh<|om bf aC)<|qr 2 (aa aN bz<|oP (cJ bt al) bl)<|ak bq (qr 2 (aa aN br<|om bw bx)<|cx 0) (ck)))<|aq 2 (aT az bE bD<|om bA aJ))
def kJ := kc (.int .u8 1)
def d23 := cE 1000000 (qr 1 (oP (bF az ay) aV)<|cq (ak aL (ck) (cx 1))<|cq (aQ 3 (qr 2 (aa az bb<|om aD aC)<|qr 6 (aa aj bc<|aa ah bi<|aa aN bh<|aY 7 bo bf bz<|aH 7 bt bl<|b5 bj (w1 bq) br)<|ak bw (qr 2 (aa aN bD<|om bA aF)<|cx 0) (ck)))<|aq 2 (aT az bE bK<|om cd aJ))
def d24 := cE 1000000 (qr 1 (oP (bF az ay) aV)<|cq (ak aL (ck) (cx 1))<|cq (aQ 3 (qr 2 (aa az bb<|om aD aC)<|qr 6 (aa aj bc<|aa ah bi<|aa aN bh<|aY 6 bo bf bz<|aH 6 bt bl<|b5 bj (w1 bq) br)<|ak bw (qr 2 (aa aN bD<|om bA aF)<|cx 0) (ck)))<|aq 2 (aT az bE bK<|om cd aJ))
def fG : List AV := [cM,cM,.nilSl,cM,cM,.nilSl]
def eG : AV := .int .u8 0
def em : List AV := [cM,.nilSl]
def gG : List AV := [aE,.nilSl,.nilSl]
def fu := kc .nilSl
def pu : List AV := [cM,cM,cM,.nilSl,cM,cM,.nilSl,.nilSl,.nilSl]
def d31 := aq 5 (aH 6 aK aG<|aH 6 aM aJ<|oq (ob 215 6 [cM,cM,.nilSl,cM,cM,.nilSl,cM,cM,.nilSl,cM,cM,.nilSl] 2 [((0,6),ay),((6,6),az)] 2 aV)<|ax 195 (w1 aL) bb<|om aD aB)
def qi : List AV := [cM,cM,.nilSl,cM,cM,.nilSl,.nilSl]
def d33 := aq 12 (aa ah bu<|aP aM aF<|mQ aS al aC<|aa aN aB<|bd aW true aG (om ah aG)<|bd aW true aJ (om ah aJ)<|oq (og aW true aV (oP (eN az) aV))<|oq (og aW true bb (oP (fH aL bE) bb))<|oq (og aW true bc (oP (bU 1 ay aD) bc))<|bd aW true bi (ol bj bi)<|oq (og aW true bh (oP (bk bo (kc lT)) bh))<|oP (ba aW bf bQ) bz)
def d34 := cq oj<|aQ 1 (cE 1000000 (qr 1 (oP (bF az ay) aV)<|cq (ak aL (ck) (cx 1))<|cq (aQ 3 (qr 2 (aa az bb<|om aD aC)<|qr 6 (aa aj bc<|aa ah bi<|aa aN bh<|aY 4 bo bf bz<|aH 4 bt bl<|b5 bj (w1 bq) br)<|ak bw (qr 2 (aa aN bD<|om bA aF)<|cx 0) (ck)))<|aq 2 (aT az bE bK<|om cd aJ)))
def d35 := cq oj<|aQ 1 (cE 1000000 (qr 1 (oP (bF az ay) aV)<|cq (ak aL (ck) (cx 1))<|cq (aQ 3 (qr 2 (aa az bb<|om aD aC)<|qr 6 (aa aj bc<|aa ah bi<|aa aN bh<|aY 3 bo bf bz<|aH 3 bt bl<|b5 bj (w1 bq) br)<|ak bw (qr 2 (aa aN bD<|om bA aF)<|cx 0) (ck)))<|aq 2 (aT az bE bK<|om cd aJ)))
def ll := fun T => [aW T]
def l5 : List AV := [aE,cM,.nilSl]
def d38 := aq 10 (aa aM aB<|mQ aW al aG<|aa ay aJ<|bd az true aV (om ah aV)<|bd az true bb (om aM bb)<|oq (og az true bc (oP (fH aD bE) bc))<|oq (og az true bi (oP (bU 1 aL bj) bi))<|bd az true bh (ol bo bh)<|oq (og az true bz (oP (bk bf (kc lT)) bz))<|oP (ba az bt bQ) bl)
def kI := kc (.int .u8 3)
def oy := aq 1 (om bQ bx)
def mz := fun T => [bj T]
def Bb := aq 3 (aa ah bc<|aP bj bi<|om al bh)
def uA := aq 1 (om bQ aB)
def uz := qr 1 (om mH bx)<|cx 0
def m7 := kc (.int .u8 2)
def d46 := aq 5 (aa aK cz<|aH 2 az cC<|aH 2 aL cI<|jH cG (w2 cU cR) cL<|oe (.un .not (.t 29)) 4 cP)
def jO : List AV := [.nilSl,cM]
def nH := fun T => [aD T]
def m6 := fun T => [az T]
def kH : List AV := [eG,di,aE,.nilSl,aE]
def m5 : List AV := [aE,aE,eG,aE,eG,.nilSl,aE]
def j1 := aq 1 (om fu bx)
def qJ : List AV := [eG,di,.nilSl,.nilSl,.nilSl,.nilSl,aE]
def Cu := aq 4 (bL 215 ah 0 bx<|bL 215 aj 1 bu<|oq (oa 215 fG 2 aF)<|om al aC)
def Ct := aq 4 (bL 211 ah 0 bx<|bL 211 aj 1 bu<|oq (oa 211 em 2 aF)<|om al aC)
def d56 := aq 11 (ap aj aC<|aH 2 aM aB<|jH aN ll aG<|ax 344 (w1 ay) aJ<|fp az al aV<|aa aL bb<|bd aD false bc (ol aK bc)<|bd aD false bi (bM 2 aM bi)<|oq (og aD false bh (b5 bj (w1 bo) bh))<|aI aD cQ bf bz<|om bt aF)
def d57 := qr 5 (aH 2 aK aG<|aH 2 aM aJ<|oq (ob 211 2 [cM,.nilSl,cM,.nilSl] 2 [((0,2),ay),((2,2),az)] 2 aV)<|ax 457 (w1 aL) bb<|om aD aB)<|cq ye<|ak bo (qr 4 (oq (oP (cT em []) bh)<|aa aW bz<|cN 2 aS bf np<|om bt aC)<|cx 0) (ck)
def d58 := qr 5 (aa ah aV<|aa aj bb<|oq (ob 209 1 [.nilSl,.nilSl] 2 [((0,1),aL),((1,1),aD)] 2 bc)<|ax 535 mz bi<|om bo aB)<|qr 2 (aa aW bh<|oP (cJ bf al) bz)<|ak bt (qr 3 (aa aW bl<|aa fu aF<|om bq aC)<|cx 0) (ck)
def UP := aq 3 (bL 323 ah 0 bx<|bL 323 aj 1 bu<|oa 323 l5 2 aF)
def d60 := cq d31<|cq ye<|ak bo (qr 4 (oq (oP (cT fG []) bh)<|aa aW bz<|cN 6 aS bf np<|om bt aC)<|cx 0) (ck)
def qI := fun T => [az T,aL T]
def d62 := aq 5 (ap aj aF<|aH 5 aK aC<|jH aS (w1 aN) aB<|oq (oe (.un .not (.t 6)) 3 aG)<|om ay bu)
def d63 := aq 8 (aa az gS<|aa im gR<|bd hZ true gL (om aL gL)<|aI hZ iz bQ dX<|aa eD ek<|bd ef true dO (om bo dO)<|oq (og ef true ec (oP (bk el bE) ec))<|oP (ba ef eF bQ) eC)
def Cr := aq 3 (aa ah bl<|aP bq br<|om al bD)
def d65 := aq 1 (oa 342 [aE,aE,aE,cM,aE,aE,aE,cM,aE,aE,aE,cM,aE,aE,aE,cM,aE,aE,aE,cM,aE,aE,aE,cM,aE,aE,aE,cM,aE,aE,aE,cM,aE,aE,aE,cM,aE,aE,aE,cM,aE,aE,aE,cM,aE,aE,aE,cM] 0 ju)
def uy := kc (.int .u64 4294967296)
def su : AV := .int .i64 (-1)
def yd := aq 2 (aa fu aF<|om al aC)
def d69 := aQ 1 (cE 1000000 (cq (cq d33<|ak bt (ck) (cx 1))<|aQ 3 (aq 6 (aa ah bl<|aa ah br<|aP bw bD<|ed bA bE bK<|oq (oe (.slice 1 (.t 15) none (some (.t 18)) none) 4 bP)<|om bO ju))))
def d70 := aq 7 (aH 6 aS bc<|aa aj bi<|aH 2 aW bh<|aH 2 ay bz<|oq (ob 123 2 [cM,.nilSl,cM,.nilSl] 2 [((0,2),bf),((2,2),bt)] 4 bl)<|ax 171 (w3 bj bo bq) br<|om bw bb)
def ux : List AV := [eG,.nilSl,.nilSl,aE]
def yc : List AV := [aE,.nilSl,aE,aE,aE,.nilSl]
def yb := aq 1 (oP (bF bA bw) bK)
def ya := aq 1 (oP (bF bf bo) bz)
def pt := fun T => [ay T]
def x9 := aq 1 (oP (bF az ay) aV)
def pq := fun T => [bw T]
def d78 := qr 8 (aa ah ew<|aa aM eo<|aa aS eS<|aa aN eZ<|aY 1 eY eB fd<|ap gK ft<|aY 1 eH eK fk<|dk gc fP np)<|aq 3 (aa aM fx<|aT gE bE fz<|om fY bu)
def Cq := kc (.int .i64 70)
def uw := fun T => [cg T,ce T]
def vT : List AV := [eG,aE,eG,.nilSl]
def hX : List AV := [.nilSl]
def d83 := aq 7 (aa ah bu<|ax 115 (w1 aM) aF<|aa aS aC<|bd aN false aB (om ah aB)<|oq (og aN false aG (aA 116 ll aG))<|aI aN cQ ay aJ<|om az bx)
def pp := kc (.int .u8 6)
def qH := fun T => [aN T]
def d86 := qr 4 (oq (oP (cT gG []) bh)<|aa aW bz<|cN 3 aS bf np<|om bt aC)<|cx 0
def d87 := aq 5 (aH 3 aK aG<|aH 3 aM aJ<|oq (ob 284 3 [aE,.nilSl,.nilSl,aE,.nilSl,.nilSl] 2 [((0,3),ay),((3,3),az)] 2 aV)<|ax 320 (w1 aL) bb<|om aD aB)
def d88 := aq 7 (ap aS bb<|iH aD al bc<|aa bj bi<|bd bo false bh (ol aS bh)<|oq (og bo false bz (oP (cY bf mH) bz))<|aI bo cQ bt bl<|om bq aV)
def zT : AOp := .iface 407 (.c (.int .i64 2))
def Tp := aq 2 (aa aS aG<|oP (cJ ay al) aJ)
def d91 := qr 2 (aa aj aG<|oP (cJ ay al) aJ)<|ak az (aq 6 (aa aK bb<|ax 172 nH bc<|aa bj aV<|ai 0 aL bi<|ai 1 aL bh<|ot 3 aM bo np)) (ck)
def zS : List AV := [aE,aE,.nilSl,.nilSl,.nilSl]
def qG : AOp := .nilCheck (.t 4)
def d94 := aq 7 (aa ah bu<|aa ah aF<|aP aS aC<|aa ah aB<|aP aW aG<|oq (oe (.slice 1 (.t 3) none (some (.t 5)) (some (.t 7))) 5 aJ)<|om az bx)
def lQ := bX 0 aM
def x8 := fun T => [bq T,bw T]
def Cp := aq 1 (oP (bF ce cg) bZ)
def Co := aq 1 (oP (bF aL az) bb)
def uv : AOp := .nilCheck (.t 12)
def d100 := aQ 7 (cq (aX 10 (dy (om aS dt)<|dy (om aN dD)<|dy (oP (bU 1 dx dF) du)<|dy (ol dH dB)<|dy (om aS dJ)<|dy (om aN dM)<|dy (oP (fH eI bE) dY)<|dy (oP (bU 1 dK fo) ei)<|dy (ol fg dW)<|dy (oP (cJ dP fa) ep)<|cw) (cn) [])<|ak eu d78 (ck))
def Xq := qr 3 (aH 6 aj aG<|ax 33 pt aJ<|om az aF)<|qr 2 (aa aS aV<|oP (cJ aL al) bb)<|ak aD (qr 3 (aa aS bc<|aa fu bx<|om bj bu)<|cx 0) (ck)
def qz := aT bA bE cX<|om dh bD
def lB := kc (.int .u8 8)
def lA := kc (.int .u8 4)
def Xp := aq 8 (aa bt jt<|aa aj js<|ed j0 gW ja<|aa aK i9<|aa bt jG<|ed jZ ky jr<|aa iR br<|om kw bD)
def xr := aq 3 (aa ah aJ<|aP az aV<|om al bb)
def lV := fun T => [bt T]
def kF : List AV := [.nilSl,.nilSl]
def Xo := aq 7 (aH 6 aj bh<|ax 175 (w1 bf) bz<|aa bt bi<|ai 0 bo bl<|ai 1 bo br<|aa bq aC<|om bw aB)
def ji := ol bf bz
def jh := ol bj bi
def o3 := fun T => [ct T,cB T]
def B3 := aq 3 (bL 211 ah 0 bx<|bL 211 aj 1 bu<|oa 211 em 2 aF)
def B2 := aq 3 (bL 123 ah 0 bx<|bL 123 aj 1 bu<|oa 123 em 2 aF)
def xq := qr 2 (aa aN bD<|om bA aF)<|cx 0
def xp := qr 2 (aa fu aF<|om mH aC)<|cx 0
def jg := bX 0 aj
def nE := ak bt (ck) (cx 1)
def nD := ak aL (ck) (cx 1)
def Xn := qr 3 (aa ah aB<|aP aW aG<|oP (bF ay iY) aJ)<|ak az (qr 2 (aa ah aV<|om aL bx)<|cx 0) (ck)
def jS : AV := .int .i64 1
def tM := aq 2 (aa al bx<|om al bu)
def tL := aq 2 (aa fu bx<|om al bu)
def qy : Src := .c (.fn (.func 52) [] [])
def Xm := qr 1 (om bE aC)<|aQ 5 (cE 1000000 (cq (qr 4 (aa aN cL<|aa aS cP<|aP de cX<|oP (bF dg dh) db)<|ak dV (ck) (cx 5))<|cq d100<|aq 3 (aa aN dn<|aT dA bE dj<|om dC aC)))
def Xl : List AV := [cM,cM,.nilSl,cM,cM,.nilSl,cM,cM,.nilSl,cM,cM,.nilSl]
def nC := kc (.int .i64 4)
def mF := fun T => [bq T]
def mE := fun T => [bo T]
def nB := aq 1 (om cQ aB)
def mD : AOp := .nilCheck (.t 5)
def lz := bM 6 aS cI
def Xk := aq 7 (aa aK gh<|ed gJ bE ge<|aa bj fT<|aa aj gu<|ed gV gF gA<|ed gD i6 gM<|om gI bc)
def Xj := aq 3 (oq (oP (cT [aE,aE,aE,cM] [((0,1),iY)]) bx)<|oq (oa 240 [aE,aE,aE,cM] 1 eg)<|ot 4 aj aK np)
def tK := aq 1 (oP (bF aD aL) bc)
def jf := bX 2 aj
def Xi := aq 6 (aa aj bY<|aa ay bZ<|aY 3 ce cu ci<|aH 3 ct cp<|oq (oa 284 gG 4 aV)<|ot 3 aL cB np)
def Xh := aq 6 (aa aj bY<|aa ay bZ<|aY 2 ce cu ci<|aH 2 ct cp<|oq (oa 211 em 4 aV)<|ot 2 aL cB np)
def nA : AOp := .nilCheck (.t 10)
def nz : Src := .c (.int .u64 32)
def jR := ol dx dD
def jQ := ol cd bP
def mC : AOp := .un .not (.t 7)
def gd : Src := .c aE
def oZ := ak cd (ck) (cx 1)
def oY := ak aD (ck) (cx 1)
def Xg := aq 4 (aa ah fT<|aa aM gu<|oq (oe (.slice 1 (.t 57) none (some (.t 58)) none) 2 gA)<|om i6 bx)
def Xf := aq 4 (aa ah cz<|aa aM cC<|oq (oe (.slice 1 (.t 26) (some (.t 27)) none none) 2 cI)<|om cR aF)
def tJ : List AV := [.nilSl,.nilSl,.nilSl,.nilSl]
def iX := kc lT
def qx := fun T => [cB T,cG T]
def qw := fun T => [cd T,bO T]
def qv := fun T => [bo T,bt T]
def Xe := aq 4 (aa ah bY<|ax 122 (w1 ce) bZ<|oq (oe (.field none 2 (.t 23)) 2 ci)<|om ct bc)
def tH : AV := .int .i64 64
def xn := cT [aE,aE,aE,cM] [((2,1),bE)]
def lU := bM 6 aM cz
def jy := bX 2 aM
def ny := kc (.int .i64 6)
def nw := fun T => [cd T]
def nu := fun T => [bA T]
def nr := fun T => [aS T]
def ka := ol bq br
def oX := aq 1 (om al aB)
def qu : List AV := [di,.nilSl,.nilSl,aE]
def Xd := qr 4 (aa aW bz<|aa ah bl<|aP bq br<|oP (bF bt bw) bD)<|ak bA (ck) (cx 1)
def Xc := qr 4 (aa aM bb<|aa ah bc<|aP bj bi<|oP (bF aD bo) bh)<|ak bf (ck) (cx 1)
def Xb := aq 5 (aa ah bc<|aY 3 bj al bi<|aH 3 bo bh<|oq (oa 323 l5 3 aC)<|ot 3 aN bf np)
def Xa := aq 3 (aa aD jF<|oq (oe (.bin .quo .int (.t 109) (.c (.int .i64 8))) 1 jE)<|om jM bK)
def B1 := aq 2 (aa az dj<|oe (.un .not (.t 34)) 1 dt)
def tG : Src := .c (.int .u64 4294967295)
def jP := bX 3 aj
def nq := kc (.int .u8 7)
def nm := kc (.int .u8 5)
def oW := kc (.int .i64 10)
def oV : AOp := .nilCheck (.t 26)
def W9 : AOp := .iface 9 (.c (.str ⟨#[99,97,110,110,111,116,32,98,101,32,110,101,103,97,116,105,118,101]⟩))
def kE := cT em []
def tF := aq 1 (oa 123 em 0 bx)
def W8 := aq 4 (aa aj bD<|aP bA bK<|oq (oP (cY cd (kc (.int .i64 60))) bP)<|om bO br)
def xm := aq 2 (aa aN bh<|om bf aF)
def B0 : List AV := [eG,di,aE,.nilSl,aE,eG,di,aE,.nilSl,aE]
def BZ := aq 3 (aa aj bW<|aP bS bT<|om al bY)
def BY := aq 3 (aa aj aB<|aP aW aG<|om al aJ)
def BX := aq 3 (aa ah aV<|aP aL bb<|om al bc)
def j2 := bX 1 aM
def mB := bX 0 aK
def oU := kc (.int .u64 1)
def oS := fun T => [cB T]
def oR := fun T => [cg T]
def qt := fun T => [bS T]
def oQ := fun T => [bO T]
def oO := fun T => [aL T]
def W7 := aq 5 (aa ah cI<|aa aW cL<|aY 3 cR dg cP<|aH 3 de cX<|ot 3 aN dh np)
def xl := aq 1 (oP (bF dg cR) cP)
def xk := aq 1 (oP (bF bj aD) bi)
def xj := qr 1 (om mH aB)<|cx 0
def xi := qr 1 (om mH aF)<|cx 0
def ly := om ah bb
def lx := ol cR cL
def lw := ol cu ci
def lq := ol ce bZ
def lp := ol cg bY
def qq := oP (bX 0 bj) bi
def tE := fun T => [cU T,cR T]
def tD := fun T => [bq T,bA T]
def tC := fun T => [bo T,bf T]
def tz := fun T => [bj T,bo T]
def tx := fun T => [aL T,bj T]
def W6 := aq 4 (aa ah bz<|aa aM bl<|ax 121 (w2 bt bq) br<|om bw bb)
def BW := aq 2 (aa aW bb<|oP (cJ aD al) bc)
def BV := aq 2 (aa aN bz<|oP (cJ bt al) bl)
def qp := aq 1 (om fu aB)
def BU := qr 2 (aa fu aB<|om bQ aG)<|cx 0
def BT := qr 2 (aa fu aF<|om Cq aC)<|cx 0
def BS := qr 2 (aa fu aF<|om iY aC)<|cx 0
def W5 := aq 4 (aY 5 ay aL bc<|aH 5 bj bi<|oq (oa 185 kH 2 aB)<|ot 5 aW bo np)
def W4 := qr 3 (aa aW bb<|aa aK bc<|oP (bF aD bj) bi)<|ak bo (ck) (cx 1)
def xh := aT az bE bK<|om cd aJ
def oN := kc (.int .u8 9)
def BR := aq 2 (oq (oa 284 gG 0 aF)<|om al aC)
def kD := bX 1 aj
def nk := bM 6 aS bY
def nj := bM 6 aM bZ
def ln := kc .nilFn
def W3 := aq 4 (bL 284 ah 0 bx<|bL 284 aj 1 bu<|oq (oa 284 gG 2 aF)<|om al aC)
def qo := kc (.int .i64 16)
def qm : AOp := .nilCheck (.t 33)
def oM : List AV := [cM,cM,.nilSl]
def lS := cT gG []
def lR := cT fG []
def W2 := aa ah bP<|aa aM bW<|ax 121 (w2 bO bS) bT<|om cg bb
def BQ := aq 2 (aH 2 aN bh<|ot 2 aS bf np)
def ql := kc (.int .i64 3)
def qk := fun T => [cU T]
def BP := aq 2 (bL 211 ah 0 eg<|om al bx)
def BO := aq 2 (bL 185 ah 0 bx<|om bQ bu)
def ni := cq uA<|cx 0
def nh : AV := .str ⟨#[59]⟩
def qj : AOp := .nilCheck (.t 3)
def tw := ak cu (ck) (cx 1)
def tu := ak bo (ck) (cx 1)
def tq := ak bj (ck) (cx 1)
def oL := bM 6 aM bW
def oK := bM 6 aK bT
def W0 := aq 4 (aa bA mM<|aa cd ml<|fW mp ku mj<|om mY aJ)
def WZ := aq 4 (aa bw kS<|aa cd lM<|fW lg lf kR<|om ld aJ)
def WY := qr 2 (aa aD bD<|oP (e6 bA al) bK)<|ak cd (ck) (cx 1)
def mA : List AV := [eG,.nilFn]
def ng := om iX aB
def nf := kc .nilIf
def tn := cJ bw al
def tj := oP (eN bo) bh
def xg := fun T => [ce T,cu T]
def xf := fun T => [cd T,bS T]
def xe := fun T => [bw T,cd T]
def xc := fun T => [aW T,ay T]
def WX := aq 4 (aa aK bP<|aa aj bW<|ed bO bS bT<|om cg bb)
def oJ := cq jT<|cx 0
def ti : AOp := .nilCheck (.t 18)
def tg : AOp := .nilCheck (.t 11)
def oI : AV := .int .i64 90
def WW := aq 3 (aa bw jW<|aa bA jV<|oP (bF jv lh) kp)
def BN := aq 2 (aa al eg<|om al bx)
def BM := aq 2 (aa az bb<|om aD aC)
def WV : List AV := [aE,cM,.nilSl,aE,cM,.nilSl,aE,cM,.nilSl,aE,cM,.nilSl]
def xb := cT em [((0,1),cQ)]
def ne : List AV := [aE,.nilSl]
def nc := om ah bz
def nb := ol fo ei
def na := ol bO bW
def m9 := ol bA bK
def BL := oa 240 [aE,aE,aE,cM] 4 bu
def tf := oa 211 em 6 aC
def te := fun T => [eK T]
def td := fun T => [dh T]
def tc := fun T => [cR T]
def s9 := fun T => [cu T]
def WU := aq 2 (aa aD bY<|oP (fC ce (kc (.int .i64 12))) bZ)
def s8 : AOp := .nilCheck (.t 6)
def WT := aq 3 (bL 284 ah 0 bx<|bL 284 aj 1 bu<|om bQ aF)
def WS := aq 3 (aa ah aG<|aP ay aJ<|oP (bF az bE) aV)
def BJ := aq 1 (oP (bF cR cU) cL)
def BI := aq 1 (oP (bF cU cG) cI)
def BH := aq 1 (oP (bF bq bt) br)
def BF := qr 1 (om Cq aF)<|cx 0
def BE := qr 1 (om Cq bx)<|cx 0
def WR := qr 3 (aa aW bh<|aa bQ aF<|om bf aC)<|cx 0
def BD := aT bf bE cp<|om cB bh
def xa := kc (.int .i64 1024)
def w9 := cJ bo al
def m8 := bX 0 ay
def WQ := aq 3 (aY 1 gJ gV gA<|ap i6 gM<|om gI bz)
def oH := om ah cz
def oG := om ah bW
def oF := om ah br
def oE := ol gK ft
def oD := ol bw bD
def oC := ol bt bl
def oB := kc .nilPtr
def WP := aq 3 (aH 2 aj aC<|ax 401 qH aB<|om aW aF)
def w8 := aq 1 (om bE bu)
def sZ : AOp := .iface 407 je
def WO := aq 3 (bL 43 ah 0 eg<|aa fu bx<|om al bu)
def WN := aq 3 (aa aj aJ<|aT az bE aV<|om aL aB)
def WM := aq 3 (aa ah bW<|ax 456 qt bT<|om cg bx)
def WL := qr 2 (aH 3 aK aV<|ot 3 aS aL np)<|cx 0
def WK := cT [aE,aE,aE,cM] [((0,1),bE),((3,1),cQ)]
def w7 := ba aD cQ bf
def WJ := ob 215 6 Xl 2 [((0,6),aL),((6,6),aD)] 2 bc
def w6 := oP (eN ay) aJ
def w5 := kc (.str ⟨#[91]⟩)
def BC := kc (.int .i64 32)
def wZ := cq oj<|aQ 1 d5z
def wY : AOp := .nilCheck (.t 57)
def wX : AOp := .nilCheck (.t 48)
def wW : AOp := .nilCheck (.t 32)
def wV : AOp := .nilCheck (.t 14)
def sY := bM 6 aS br
def sX := bM 6 aM bl
def sW := bM 6 aM bz
def WI := aq 2 (oq (oP (bk bt m7) br)<|om bw bl)
def WH := aa bt kN<|aT mr bE mN<|om mq eg
def WG := aq 3 (aa aj bD<|aP bA bK<|om al bP)
def WF := aq 3 (aa aj aG<|aP ay aJ<|om al aV)
def WE := aq 3 (aa ah cp<|aP cB cz<|om al cC)
def WD := aq 3 (aa ah bW<|aP bS bT<|om al bY)
def WC := aq 3 (aa ah aG<|aP ay aJ<|om al aV)
def WB := aq 3 (aa ah aF<|aP aS aC<|om aN bu)
def WA := aq 3 (aa ah bu<|aP aM aF<|om aS bx)
def sV := bX 1 aK
def oA := bX 0 aS
def Wy := oP (cT [aE,aE,aE,cM] [((3,1),cQ)]) bu
def BB := oP (bU 1 bS cg) bY
def BA := oP (bU 1 bw bA) bK
def Bz := oP (cY fq al) e9
def wU := kc (.int .u8 48)
def wT := kc (.int .u8 45)
def By := kc (.int .u8 11)
def wS := fun T => [dC T]
def wR := fun T => [cG T]
def wQ := fun T => [bf T]
def wP := fun T => [aM T]
def Bx := aq 1 (om (kc di) aF)
def wO : AOp := .un .not (.t 28)
def wN : AOp := .un .not (.t 22)
def wM : AOp := .un .not (.t 17)
def wL : AOp := .un .not (.t 12)
def wK : Src := .c (.int .i64 8)
def wJ : Src := .c (.int .i64 2)
def Wx := aq 2 (bL 284 ah 0 bu<|oa 284 gG 1 aB)
def Ww := aq 2 (bL 215 ah 0 eg<|oa 323 l5 1 bx)
def Wv := aq 2 (bL 211 aj 0 aF<|oa 211 em 1 aC)
def Wu := aq 2 (bL 211 ah 0 eg<|oa 211 em 1 bx)
def lm : List AV := [.nilFn]
def wI := cA 0 aL
def qh := om al bu
def qg := ol i6 gM
def qf := ol eI dY
def qe := ol dg cP
def qd := ol cU cI
def qc := ol cG cC
def qb := ol bS bT
def qa := ol ah bu
def Bw := fun T => [fP T,gE T]
def Bv := fun T => [dK T,eI T]
def Bu := fun T => [dV T,dC T]
def Bt := fun T => [dV T,dA T]
def Bs := fun T => [de T,dh T]
def Br := fun T => [dg T,de T]
def Bq := fun T => [cR T,dh T]
def Bp := fun T => [cu T,ct T]
def Bo := fun T => [ce T,ct T]
def Bn := fun T => [bS T,ce T]
def Bl := fun T => [bO T,cg T]
def Bk := fun T => [bf T,bt T]
def Bj := fun T => [aD T,bj T]
def Bi := fun T => [aL T,aD T]
def Bh := fun T => [aN T,ay T]
def Bg := fun T => [aS T,aN T]
def Wt := aq 2 (bL 74 ah 0 eg<|oa 248 ux 1 bx)
def Ws := aq 2 (bL 74 ah 0 eg<|oa 185 kH 1 bx)
def Wr := aq 2 (aa bo fd<|oP (bk gK iY) ft)
def Wq := aq 2 (aa aD bD<|oP (cJ bA al) bK)
def Wp := aq 2 (aa ay bz<|oP (cJ bt al) bl)
def Wo := aq 2 (aa aW bh<|oP (cJ bf al) bz)
def Wn := aq 2 (aa aM cI<|oP (bk cR al) cL)
def Wm := qr 2 (aa aN bK<|om cd bx)<|cx 0
def Wl := qr 2 (aa aN br<|om bw bx)<|cx 0
def p9 : AV := .int .u8 2
def p8 : AV := .int .u8 1
def pZ : AV := .bool true
def Wk := aa ay cX<|ed dh bE db<|om dV aG
def Wj := aa aW bK<|aT cd bE bP<|om bO aB
def Wi := aa aW bh<|aT bf bE bz<|om bt aB
def Wh := aa aM dM<|ed eI bE dY<|om fo bu
def Wg := aa aM bz<|aT bt bE bl<|om bq bu
def Wf : AOp := .slice 1 (.t 54) (some (.t 55)) none none
def Bf := cT vT [((0,1),kJ)]
def Be := oP (bk bf al) bz
def We := fun T => [n9 T,mX T,n8 T,pS T]
def Wd := fun T => [la T,kZ T,mw T,kv T]
def Wc := fun T => [li T,iT T,jw T,kC T]
def Wb := fun T => [iq T,ip T,ia T,jx T]
def Wa := aq 2 (aH 3 aN db<|ot 3 aS dV np)
def V9 := aq 2 (aH 3 aM bz<|ot 3 aW bt np)
def V8 := aq 2 (aH 3 aM bb<|ot 3 aS aD np)
def pX := bX 1 aW
def pW := bX 1 aS
def V7 := aq 2 (bL 439 ah 0 bu<|om bQ aF)
def V6 := aq 2 (bL 292 ah 0 bu<|om bQ aF)
def V5 := aq 2 (bL 292 ah 0 eg<|om bQ bx)
def V4 := aq 2 (bL 284 ah 0 bx<|om al aF)
def V3 := aq 2 (bL 215 ah 0 eg<|om bQ bx)
def V2 := aq 2 (bL 211 ah 0 eg<|om bQ bx)
def V1 := aq 2 (oq (om iX aF)<|om iX aC)
def Bd := oP (cA 1 aL) bY
def Bc := kc (.int .i64 4096)
def V0 := aq 2 (bL 5 ah 0 eg<|om ln bx)
def VZ := aq 2 (bL 43 ah 0 bx<|om bQ aF)
def Ba := ak dg (ck) (cx 1)
def A9 := ak bw (ck) (cx 1)
def VY := cT [aE,aE,aE,cM] [((1,1),iY)]
def wH := bM 6 aM bc
def wG := bM 6 aK bh
def wF := bM 2 cu ci
def sU := om cQ aC
def sS := om al aC
def sR := om aM bD
def sQ := om aK cp
def sP := om aj bz
def sO := om ah dJ
def sN := om ah dB
def sM := om ah dn
def sL := om ah cL
def sK := om ah bD
def sJ := om ah bh
def sI := ol eH eo
def sH := ol dC dt
def sG := ol dV dn
def sF := ol dh db
def sE := ol bo bh
def sD := ol aD bc
def sC := ol az aV
def sB := ol ah aC
def VX := ob 9 1 [di] 1 [((0,1),ay)] 2 aJ
def VW := ob 289 1 hX 1 [((0,1),aW)] 1 aG
def A8 := oP (bX 7 bO) bW
def A7 := oP (bX 3 bS) bT
def A6 := oP (bX 0 cd) bP
def VV := fun T => [cG T,cU T,cR T,de T]
def VU := fun T => [bf T,bA T,cd T,bO T]
def A5 := aq 1 (om cQ aF)
def A4 := aq 1 (om bE aB)
def A3 := aq 1 (om fu aJ)
def VT := aq 2 (aa bq jb<|om kz aV)
def VS := aq 2 (aa bf hY<|om iU eg)
def VQ := aq 2 (aw 0 aN bl<|ol bq br)
def VP := aq 2 (aw 0 aj bu<|ol aM aF)
def wE := cJ cg al
def wD := ol eE gN
def wC := ol fD gm
def wB := ol el ec
def A2 := oP (eN dx) dD
def A1 := oP (eN cU) cI
def A0 := oP (eN ct) cp
def pV := kc tH
def AZ := kc (.str ⟨#[45]⟩)
def AY := kc (.str ⟨#[40]⟩)
def AX := kc (.int .i64 30)
def VO := fun T => [aN T,aE,aW T,aL T]
def VN := aq 2 (aa al aB<|om nf aG)
def VM := aq 2 (aa al bx<|om nf bu)
def VL := aq 2 (aa ay br<|oP tn bD)
def VK := aq 2 (aa aN br<|oP tn bD)
def VJ := aq 1 (oP (bF dz eR) eO)
def AW := cq oj<|aQ 1 d7z
def wA := cq oy<|cx 0
def wz := cq jp<|cx 0
def AU : AOp := .nilCheck (.t 69)
def AT : AOp := .nilCheck (.t 58)
def AS : AOp := .nilCheck (.t 47)
def AR : AOp := .nilCheck (.t 35)
def AQ : AOp := .nilCheck (.t 27)
def AP : AOp := .nilCheck (.t 24)
def AO : AOp := .nilCheck (.t 17)
def AN : AOp := .nilCheck (.t 15)
def VI : Src := .c (.str ⟨#[97,114,114,97,121]⟩)
def VH := fun T => [dI T,fc T,eL T]
def VG := aq 2 (aa aD bi<|om bo aC)
def VF := aq 2 (aa aW bl<|om bq aG)
def VE := aq 2 (aa aN bz<|om bt aF)
def VD := aq 2 (aa aM bY<|om ce bx)
def VC := aq 2 (aa aM bb<|om aD bx)
def VB := aq 2 (aa ah gM<|om gI bx)
def VA := aq 2 (aa ah bP<|om bO aF)
def Vz := aq 2 (ap aM aC<|om aN bx)
def Vy : AOp := .bin .neq .bool (.t 26) (.t 28)
def sA := bX 4 aj
def sw := bX 0 aN
def AM := oa 215 fG 2 aJ
def AL := oa 215 fG 0 bx
def AK := oa 211 em 8 aC
def AJ := oa 211 em 3 aG
def AI := oa 211 em 0 aF
def Vx := oP (cT l5 [((1,2),aL)]) bb
def ow := kc su
def AH := fun T => [gE T]
def AG := fun T => [eH T]
def AF := fun T => [fo T]
def AE := fun T => [dV T]
def AD := fun T => [ct T]
def Vw := qr 1 (om nC aJ)<|cx 0
def AC : AOp := .un .not (.t 45)
def AB : AOp := .un .not (.t 29)
def AA : AOp := .un .not (.t 20)
def Az : AOp := .un .not (.t 15)
def Ay : AOp := .nilCheck (.t 9)
def Ax : AOp := .nilCheck (.t 8)
def Aw : Src := .c (.int .u64 1)
def Vv := oP (ba dz gX bQ) gx
def Vu := aq 1 (oP (bF gI i6) gS)
def Vt := aq 1 (oP (bF gV gD) gu)
def Vr := aq 1 (oP (bF fY gE) fU)
def Vq := aq 1 (oP (bF eB eY) fd)
def Vp := aq 1 (oP (bF eK eH) eS)
def Vo := aq 1 (oP (bF dx dC) dD)
def Vn := aq 1 (oP (bF de dg) cX)
def Vm := aq 1 (oP (bF cB ct) cz)
def Vl := aq 1 (oP (bF bO cd) bW)
def Vk := aq 1 (oP (bF bo bj) bh)
def Vj := qr 1 (om Cq aJ)<|cx 0
def Vi := qr 1 (om mH aJ)<|cx 0
def Vh := qr 1 (om iY aJ)<|cx 0
def wy : AV := .int .u8 10
def Vg : Src := .c (.str ⟨#[112,114,111,99]⟩)
def Vf : Src := .c (.str ⟨#[109,97,105,110]⟩)
def Ve : AOp := .bin .eql .bool (.t 6) (.t 8)
def Vd := aT bq bE cP<|om de bl
def Vc := aT aD bE bP<|om bO bb
def Vb := aT aD bE bK<|om cd bb
def Va := aT aL bE cP<|om de aV
def U9 := aT az bE bD<|om bA aJ
def U8 := fun T => [gc T,gE T,fY T]
def U7 := fun T => [eB T,gK T,fP T]
def U6 := fun T => [fa T,eu T,eH T]
def U5 := fun T => [fo T,fg T,fa T]
def U4 := fun T => [dH T,dP T,eI T]
def U3 := fun T => [dF T,dH T,dP T]
def U2 := fun T => [de T,dh T,dV T]
def U1 := fun T => [ct T,cB T,cG T]
def U0 := fun T => [cg T,ce T,ct T]
def UZ := fun T => [aD T,bj T,bo T]
def Av : AOp := .un .not (.t 6)
def UY : AV := .str ⟨#[109,97,105,110,123]⟩
def UX : List AV := [.nilFn,.nilFn,.nilFn,.nilFn]
def UW := aq 1 (om (kc .nilMap) ju)
def Au := bM 2 ay dN
def wx := om cd bP
def ww := om aj bW
def wv := om aj bD
def wu := om aj bb
def wr := om ah eS
def wq := om ah cC
def wo := om ah ci
def wn := om ah bK
def wm := om ah bi
def wl := om ah bc
def wk := om ah aV
def wj := ol gg gh
def wi := ol eK eS
def wh := ol dK dM
def wg := ol dP dJ
def wc := ol dH dB
def wb := ol dF du
def wa := ol de cX
def v8 := ol ct cp
def v7 := ol aK aV
def v6 := ol aj aC
def v2 := ol ah aF
def UV := oP (ba bO dg bQ) cP
def UU := oP (bU 1 ic ib) gk
def UT := oP (bU 1 fR fE) fK
def ou := kc eG
def US := kc (.fn (.func 297) [] [])
def oo : Src := .t 102
def vZ : AV := .int .u8 3
def UR : Src := .c (.fn (.func 262) [] [])
def UQ : Src := .c (.fn (.func 257) [] [])
def UO : Src := .c (.fn (.func 252) [] [])
def UN : Src := .c (.fn (.func 242) [] [])
def UM := aa bt mL<|om pQ bx
def UL := oa 76 [eG,di,aE] 0 bx
def UK : Src := .c (.str ⟨#[118,97,114]⟩)
def UJ : Src := .c (.fn (.func 60) [] [])
def UI : Src := .c (.fn (.func 59) [] [])
def UH : Src := .c (.fn (.func 58) [] [])
def UG : Src := .c (.fn (.func 57) [] [])
def UF : Src := .c (.fn (.func 55) [] [])
def UE : Src := .c (.fn (.func 53) [] [])
def At := bM 6 gg gh
def As := bM 6 bo bh
def Ar := bM 6 aM aV
def Aq := bM 6 aj bz
def Ap := bM 5 cu ci
def Ao := bM 3 aM aG
def Am := bM 2 aM bW
def Al := bM 2 aM bc
def UD := fun T => [fQ T,gp T]
def UC := fun T => [eL T,fh T]
def UB := fun T => [eF T,dL T]
def UA := aq 1 (oa 323 l5 0 aF)
def Uz := aq 1 (oa 123 em 0 aB)
def vY := bX 6 aN
def vX := bX 3 aM
def vW := bX 2 aK
def vV := bX 1 aN
def Uy := oP (fH ic bE) fV
def Ux := oP (fH fF bE) fe
def Uw := oP (bU 3 dg de) cX
def Uv := oP (bU 3 cg ce) bZ
def Uu := oP (bU 1 fa eu) ew
def Ut := oP (bU 1 dP eI) dY
def Us := oP (bU 1 dx dH) eZ
def Ur := oP (bU 1 dA dC) eS
def Uq := oP (bU 1 ct cG) cC
def Up := oP (bU 1 bS ce) bZ
def Uo := fun T => [iz T,eD T]
def vU : Src := .c .nilIf
def Ak := cJ cd al
def Aj := cJ bq al
def Ai := cJ az aD
def Ah := cY bO al
def Ag := ol fq e9
def Af := ol eF eC
def Ae := ol eD ek
def Un := oP (cY bt BC) bl
def Um := oP (cY aL By) bb
def Ul := kc (.str ⟨#[124,124]⟩)
def Uk := fun T => [i6 T,gI T]
def Uj := fun T => [gc T,gE T]
def Ui := fun T => [fg T,eu T]
def Uh := fun T => [fo T,fg T]
def Ug := fun T => [eI T,fo T]
def Uf := fun T => [dH T,dP T]
def Ue := fun T => [dA T,dF T]
def Ud := fun T => [dA T,dC T]
def Uc := fun T => [dh T,dV T]
def Ub := fun T => [de T,dV T]
def Ua := fun T => [cU T,dg T]
def T9 := fun T => [cG T,cU T]
def T8 := fun T => [cu T,cR T]
def T7 := fun T => [bO T,bS T]
def T6 := fun T => [bw T,bA T]
def T5 := fun T => [aW T,az T]
def pU : Src := .t 101
def Ad : AV := .str ⟨#[33]⟩
def Ac : AV := .int .i64 63
def Ab : AV := .int .i64 24
def Aa : AV := .int .i64 10
def pT : Src := .c cM
def TZ : List AV := [cM,.nilSl,cM,.nilSl]
def TY := cT vT [((0,1),m7)]
def TX := oP (fH dK bE) dM
def TW := oP (fH dF bE) du
def TV := oP (fH cB bE) cz
def TU := oP (fH cg bE) bY
def TT := oP (bF aN kJ) aB
def TR := oP (cY cd bO) bW
def TQ := oP (cY bw bA) bK
def TP := oP (cY bj al) bi
def TO := oP (bk bO ct) cp
def TN := oP (bk bq kJ) br
def TM := oP (iL aL bE) bb
def TL : List AV := [.nilSl,.nilSl,.nilSl]
def z8 := om ah gj
def z7 := om ah f0
def z6 := oP wI bT
def zZ := oP sV bc
def zY := oP w9 bh
def zX := oP mB bz
def zW := oP mB bc
def zV := oP jg aJ
def TK := oP (bX 0 eF) eC
def TJ := kc (.str ⟨#[62,62]⟩)
def TI := kc (.str ⟨#[62,61]⟩)
def TH := kc (.str ⟨#[61,61]⟩)
def TG := kc (.str ⟨#[60,61]⟩)
def TF := kc (.str ⟨#[60,60]⟩)
def TE := kc (.str ⟨#[38,38]⟩)
def TD := kc (.str ⟨#[33,61]⟩)
def zU : AV := .int .i64 6
def TC := kc (.int .i64 2048)
def TB := aq 1 (om ow bx)
def TA := aq 1 (om pV bx)
def Tz := ak gg (ck) (cx 5)
def Ty := ak dh (ck) (cx 1)
def Tx := ak de (ck) (cx 5)
def Tw := ak de (ck) (cx 1)
def Tv := ak cR (ck) (cx 5)
def Tu := ak cG (ck) (cx 1)
def Tt := ak bq (ck) (cx 1)
def Ts := ak bf (ck) (cx 1)
def j3 : FFn := ⟨0,41,[(0,none)],qr 1 (om bQ ju)<|qr 4 (ax 5 (fun _ => []) aF<|oq (aA 4 (fun T => [UY,aS T]) aC)<|oq (oa 27 zS 2 eg)<|ot 5 aj aN np)<|qr 4 (ax 5 (fun _ => []) aB<|oq (aA 4 (fun T => [(.str ⟨#[109,97,105,110,123,120,61,49,59,125]⟩),aW T]) aG)<|oq (oa 27 zS 2 bx)<|ot 5 aK ay np)<|qr 4 (oq (oP (cT [aE,aE,aE,aE] []) aJ)<|oq (aA 4 (fun T => [UY,az T]) aV)<|oq (oa 27 zS 2 bu)<|ot 5 aM aL np)<|qr 32 (ax 6 (fun _ => []) bb<|aa aD bc<|oq (og bj true bi (oP jg bi))<|bd bj true bh sE<|oq (og bj true bz (oP (bk bf (kc oI)) bz))<|aI bj bt bQ bl<|aa bq br<|oq (og bw true bD (oP kD bD))<|bd bw true bK m9<|oq (og bw true bP (oP (bk cd (kc (.int .i64 5))) bP))<|aI bw bO bQ bW<|aa bS bT<|oq (og cg true bY (oP mB bY))<|bd cg true bZ lq<|oq (og cg true ci (oP (bk cu (kc (.int .i64 110))) ci))<|aI cg ct bQ cp<|aa cB cz<|oq (og cG true cC (oP sV cC))<|bd cG true cI qd<|oq (og cG true cL (oP (bk cR (kc (.int .i64 5))) cL))<|aI cG dg bQ cP<|aa de cX<|oq (og dh true db (oP lQ db))<|bd dh true dn sG<|oq (og dh true dj (oP (bk dA iY) dj))<|aI dh dC bQ dt<|aa dx dD<|oq (og dF true du (oP j2 du))<|bd dF true dB wc<|oq (og dF true dJ (oP (bk dP al) dJ))<|aI dF dK bQ dM<|om eI ju)<|cx 0⟩
def j4 : FFn := ⟨2,78,[(4,(some (some 5)))],qr 3 (bL 9 ah 0 bx<|bL 30 aj 1 bu<|oa 27 zS 2 aF)<|qr 4 (oq (oP (cT [aE,aE,.nilSl,.nilSl,.nilSl,.nilSl,.nilSl,.nilSl,.nilSl,aE,.nilSl,aE,aE,aE,.nilSl] []) bz)<|bL 45 bt 1 bl<|nU 33 [.nilPtr] 2 aC<|dk aN bq np)<|qr 8 (oq (oe (.mkfn (.func 7) [] [(.t 3)]) 0 br)<|oq (oe (.mkfn (.func 9) [] [(.t 2),(.t 5)]) 1 bD)<|oq (oe (.mkfn (.func 11) [] [(.t 5)]) 2 bK)<|oq (oe (.mkfn (.func 13) [] [(.t 5)]) 3 bP)<|oq (oe (.mkfn (.func 15) [] [(.t 5),(.t 3)]) 4 bW)<|oq (oe (.mkfn (.func 17) [] [(.t 5),(.t 3)]) 5 bT)<|oq (ob 47 1 [.nilFn,.nilFn,.nilFn,.nilFn,.nilFn,.nilFn] 6 [((0,1),bw),((1,1),bA),((2,1),cd),((3,1),bO),((4,1),bS),((5,1),cg)] 6 bY)<|om ce aB)<|cq (qr 3 (aa aW bZ<|aP cu ci<|om al cp)<|aQ 1 (cE 1000000 (cq Vm<|cq Tu<|cq (aQ 3 (qr 3 (aY 1 cu cB cC<|ap cU cI<|om cR aJ)<|qr 7 (aa az cP<|jH de (fun _ => []) cX<|aa dh cL<|ai 0 dg db<|ai 1 dg dn<|aa dV aV<|om dA bb)<|qr 2 (aa aD dj<|oP (cJ dC al) dt)<|ak dx (qr 4 (aa aD dD<|aa aL du<|oq (oP (cT zS [((0,1),dF),((1,1),dH)]) dB)<|ot 5 aS dP np)<|cx 0) (ck)))<|aq 2 (aT cB bE dJ<|om dK cp))))<|qr 2 (mP (.mkmap) 0 dM<|om eI bc)<|cq (qr 7 (ap aN dY<|oq (oe (.nilCheck (.t 41)) 1 ei)<|aw 9 fg dW<|aw 5 fa ep<|ap eu ew<|aP eH eo<|om al eS)<|aQ 5 (cE 1000000 (qr 1 (oP (bF eY eK) eZ)<|cq (ak eB (ck) (cx 5))<|cq (aQ 7 (qr 6 (aa eY fd<|aY 7 eH eY ft<|aH 7 fP fk<|oq (oa 64 m5 3 bh)<|aa gK bi<|ot 7 bf gc np)<|cq (qr 5 (aa bj fx<|aw 0 bf fz<|ap fY fU<|oq (oe (.lookup .int aE (.t 52) (.t 54) false) 3 gh)<|oP (bk gJ al) ge)<|ak gD (aX 14 (dy (ol aN fT)<|dy (ol aN gu)<|dy (oe AT 2 gA)<|dy (oP (bX 0 i6) gM)<|dy (oP (bX 4 gI) gS)<|dy (ol im gR)<|dy (ol aN gL)<|dy (om bo dX)<|dw (aA 19 Uo ek)<|dw (oe (.append 3 24 67 [aE,eG,aE] (.t 62) (.t 65)) 9 dO)<|dy (oe wY 10 ec)<|dy TK<|dy (oP (bX 4 dL) dN)<|dw (dk dI el np)<|cw) (cj (cm gV 2 [] (ol aN fT))<|cj (cm gV 1 [] (ol aN fT))<|cj (cm gF 2 [] (ol aN gu))<|cj (cm hZ 2 [] (ol im gR))<|cn) []) (ck))<|aq 4 (aa bj dS<|aw 0 bf ee<|ap eL ej<|oe (.mapUpd .int (.t 70) (.t 72) je) 3 np)))<|aq 2 (aT eY bE er<|om fq eS))))<|qr 5 (ap aN e9<|oq (oe (.nilCheck (.t 74)) 1 eJ)<|aw 0 dz eO<|aH 5 fR e7<|ot 5 aS fF np)<|cx 0⟩
def j5 : FFn := ⟨0,2,[(0,(some (some 4)))],qr 1 (oa 30 [aE,aE,aE,aE] 0 ju)<|qr 2 (oq (oP (cT [aE,aE,aE,aE] [((0,1),bE),((2,1),bE),((3,1),(kc (.int .i64 100)))]) eg)<|ot 4 ah aj np)<|cx 0⟩
def j6 : FFn := ⟨0,41,[(0,none)],qr 1 (om bQ ju)<|qr 4 (ax 5 (fun _ => []) bu<|oq (aA 4 (fun T => [(.str ⟨#[118,97,114,32,120,59,109,97,105,110,123,119,104,105,108,101,40,120,60,51,41,123,120,61,120,43,49,59,125,97,115,115,101,114,116,40,120,61,61,51,41,59,125]⟩),aM T]) aF)<|oq (oa 27 zS 2 eg)<|ot 5 aj aS np)<|qr 4 (ax 5 (fun _ => []) aC<|oq (aA 4 (fun T => [(.str ⟨#[118,97,114,32,120,59,109,97,105,110,123,105,110,112,117,116,32,120,59,120,61,49,47,120,59,125]⟩),aN T]) aB)<|oq (oa 27 zS 2 bx)<|ot 5 aK aW np)<|qr 35 (aw 0 aj aG<|ap ay aJ<|fm az al aV<|aa aL bb<|oq (og aD true bc (oP sA bc))<|bd aD true bi jh<|oq (og aD true bh tj)<|oq (og aD true bz Be)<|aI aD bt bQ bl<|aa bq br<|oq (og bw true bD (oP jP bD))<|bd bw true bK m9<|oq (og bw true bP (oP (eN cd) bP))<|oq (og bw true bW (oP Ah bW))<|aI bw bS bQ bT<|aa cg bY<|oq (og ce true bZ (oP mB bZ))<|bd ce true ci lw<|oq (og ce true cp (oP (bk ct al) cp))<|aI ce cB bQ cz<|aa cG cC<|oq (og cU true cI (oP (bX 4 aK) cI))<|bd cU true cL lx<|oq (og cU true cP (oP (eN dg) cP))<|oq (og cU true cX (oP (bk de bE) cX))<|aI cU dh bQ db<|aa dV dn<|oq (og dA true dj (oP (bX 4 aK) dj))<|bd dA true dt sH<|oq (og dA true dD (oP (bU 3 dx al) dD))<|bd dA true du (bM 3 dF du)<|oq (og dA true dB (oP (cT [aE,eG,aE] [((0,1),bE),((1,1),kI),((2,1),(kc (.int .i64 19)))]) dB))<|oq (og dA true dJ (oe (.eqAgg false 3 (.t 37) (.t 38)) 32 dJ))<|aI dA dK bQ dM<|om eI ju)<|cx 0⟩
def j7 : FFn := ⟨1,5,[(1,none),(2,none)],cq BN<|qr 4 (aH 4 ah bu<|ax 8 wP aF<|aa al eg<|om aS bx)<|cx 0⟩
def j8 : FFn := ⟨1,18,[(2,none)],qr 2 (bL 30 ah 0 eg<|om al bx)<|qr 5 (aw 3 aj aC<|ap aN aB<|oq (oe (.min [(.t 6),(.c (.int .i64 65537))]) 2 aG)<|aw 3 aj aJ<|dk az ay np)<|cq (cq (aX 8 (dw (aA 20 (fun _ => []) bb)<|dq (dl 1 [] (bM 4 aj bc))<|dw (aA 18 (fun T => [aD T,.nilSl,bj T]) bi)<|dy (om bo aV)<|dy (oP wI bh)<|dy (oP (cA 1 aL) bz)<|dy (om bf bu)<|dy (om bt aF)<|cw) (cj (cm bj 1 [] (bM 4 aj bc))<|cn) [])<|qr 2 (aa aS bl<|oP (bk bq iY) br)<|ak bw (qr 2 (aa aS bD<|om bA bx)<|cx 0) (ck))<|cq jp<|cx 0⟩
def j9 : FFn := ⟨2,13,[(2,none),(3,none)],cq tM<|cq (aX 12 (dy v6<|dy (ol ah aB)<|dw (aA 10 ll aG)<|dy (om ay aF)<|dy (oP (cA 0 aS) aJ)<|dy (oP (cA 1 aS) aV)<|dy (oP (cA 2 aS) bb)<|dy (oe mD 7 bc)<|dy (oP (bX 5 bj) bi)<|dw (ot 4 bo az np)<|dy (om aL bx)<|dy (om aD bu)<|cw) (cj (cm aN 1 [] v6)<|cn) [])<|cx 0⟩
def j11 : FFn := ⟨1,10,[(1,none),(2,none)],cq BN<|qr 9 (ap ah bu<|oq (oe qj 1 aF)<|aw 5 aS aC<|aH 4 aN aB<|ax 12 ll aG<|ai 0 ay aJ<|ai 1 ay aV<|aa az eg<|om aL bx)<|cx 0⟩
def j12 : FFn := ⟨1,110,[(2,none),(3,none)],qr 3 (bL 39 ah 0 eg<|aa al bx<|om al bu)<|cq (qr 3 (aH 4 aj bc<|ax 24 mz bi<|om bo bu)<|qr 2 (aa aM bh<|oP (cJ bf al) bz)<|ak bt (qr 3 (aa aM bl<|aa al bx<|om bq bu)<|cx 0) (ck))<|cq (qr 16 (aw 0 aj br<|ap bw bD<|aP bA bK<|oq (oP (cY cd (kc (.int .i64 12))) bP)<|aa bO bW<|oq (og bS false bT (oP kD bT))<|bd bS false bY lp<|oq (og bS false bZ (oP (eN ce) bZ))<|oq (og bS false ci (oP (cY cu nC) ci))<|aI bS cQ ct cp<|aa cB cz<|oq (og cG false cC (oP jf cC))<|bd cG false cI qd<|oq (og cG false cL (oP (eN cR) cL))<|oq (og cG false cP (oP (cY dg mH) cP))<|oP (ba cG cQ de) cX)<|ak dh (qr 2 (aa al bx<|om nC bu)<|cx 0) (ck))<|qr 5 (mP (.mkmap) 0 db<|oq (oP (cT [.nilMap,aE,aE] [((0,1),dV)]) dn)<|bL 84 dA 2 dj<|nU 81 [.nilPtr] 3 aF<|dk aS dC np)<|cq (qr 4 (aw 0 aj dt<|ap dx dD<|aP dF du<|om al dB)<|aQ 1 (cE 1000000 (qr 1 (oP (bF dP dH) dJ)<|cq (ak dK (ck) (cx 1))<|cq (aQ 3 (qr 4 (aY 2 dF dP dM<|aH 2 eI dY<|oq (oa 86 [di,aE] 2 aB)<|ot 2 aW fo np)<|aq 7 (ap aS ei<|aw 0 aW dW<|ap fa ep<|aw 1 aW ew<|ap eH eo<|oq (oP (cT [eG,aE] [((0,1),kJ)]) eS)<|aA 25 (fun T => [fg T,eu T,eK T,eY T]) eZ)))<|aq 2 (aT dP bE fd<|om gK dB))))<|cq (qr 4 (aw 1 aj ft<|ap fP fk<|aP gc fx<|om al fz)<|aQ 5 (cE 1000000 (cq Vr<|cq Tz<|cq (aQ 7 (qr 4 (aY 3 gc fY gh<|aH 3 gJ ge<|oq (oa 91 [di,aE,aE] 2 aJ)<|ot 3 az gD np)<|qr 7 (ap aS fT<|aw 0 az gu<|ap gF gA<|aw 2 az gM<|ap gI gS<|oq (oP (cT [eG,aE] [((0,1),m7)]) gR)<|aA 25 (fun T => [gV T,i6 T,im T,hZ T]) gL)<|aq 12 (ap aS dX<|aw 1 az ek<|ap ef dO<|fW el bE ec<|aa eF eC<|oq (og dL true dN (oP (bX 1 az) dN))<|bd dL true dS (ol dI dS)<|oq (og dL true ee (oP (fC fc qo) ee))<|aI dL eL bQ ej<|aw 2 az er<|ap fq e9<|aA 26 (fun T => [eD T,fh T,eR T,(.int .i64 113)]) eJ)))<|aq 2 (aT fY bE eO<|om fR fz))))<|cq (qr 4 (aw 2 aj e7<|ap fF fe<|aP fE fK<|om al gm)<|aQ 9 (cE 1000000 (qr 1 (oP (bF fQ fD) f0)<|cq (ak ic (ck) (cx 9))<|cq (aQ 11 (qr 4 (aY 4 fE fQ fV<|aH 4 ib gk<|oq (oa 94 qu 2 bb)<|ot 4 aD eE np)<|aq 7 (ap aS gN<|aw 0 aD gj<|ap gy fJ<|aw 3 aD gx<|ap ir gi<|oq (oP (cT [eG,aE] [((0,1),lA)]) gw)<|aA 25 (fun T => [gp T,gX T,iq T,ip T]) gU)))<|aq 2 (aT fQ bE hO<|om jx gm))))<|cq (qr 5 (aw 2 aj gT<|ap io hY<|oq (oe (.mkfn (.func 28) [] [(.t 4)]) 2 g9)<|ax 27 (w2 iU hP) ig<|oe (.un .not (.t 95)) 4 iF)<|ak iT (aX 5 (dy (ol aS iD)<|dw (aA 30 (w1 jw) iP)<|dy (oP jP iO)<|dq (dl 1 [] (ol iJ iN))<|dw (b5 kC (w1 iS) iM)<|cw) (cj (cm iS 1 [] (ol iJ iN))<|cn) []) (ck))<|cq (aX 10 (dy (ol aS jb)<|dy (oe (.nilCheck oo) 1 jt)<|dy (oP (bX 1 j0) js)<|dy (ol gW ja)<|dy (ol aS i9)<|dy (oe (.nilCheck (.t 106)) 5 jG)<|dy (oP (bX 2 ky) jr)<|dy (ol kw jF)<|dy (om iR bx)<|dy (om jY bu)<|cw) (cn) [])<|cx 0⟩
def j13 : FFn := ⟨1,14,[(1,none),(2,none)],cq BN<|cq (aX 13 (dy v2<|dy sB<|dy (oe mD 2 aB)<|dy (oP (bX 5 aW) aG)<|dy (bM 4 ay aJ)<|dw (aA 14 m6 aV)<|dy (om aL bu)<|dy (oP (cA 0 aM) bb)<|dy (oP (cA 1 aM) bc)<|dy (oe qG 9 bi)<|dy (oP (bX 9 bo) bh)<|dw (ot 6 bf aD np)<|dy (om bj bx)<|cw) (cj (cm aS 1 [] v2)<|cn) [])<|cx 0⟩
def j14 : FFn := ⟨1,96,[(2,(some (some 6))),(3,none)],qr 3 (bL 39 ah 0 eg<|oq (oa 43 yc 1 bx)<|om al bu)<|qr 7 (aH 4 aj bc<|ax 31 mz bi<|aa bo bb<|ai 0 aD bh<|ai 1 aD bz<|cN 4 aj bf np<|om bt aF)<|cq (qr 2 (aa aS bl<|oP Aj br)<|ak bw (qr 4 (oq (oP (cT yc []) bD)<|aa aS bK<|cN 6 aK bA np<|om cd bu)<|cx 0) (ck))<|qr 9 (aw 0 aj bP<|ap bO bW<|aP bS bT<|oq (oP (cT yc [((0,1),cg),((2,1),iY),((4,1),bE)]) bY)<|mP (.mkmap) 4 bZ<|mP (.mkmap) 5 ci<|oq (oP (cT [aE,.nilSl,aE,aE,aE,.nilSl,.nilMap,.nilMap] [((0,6),ce),((6,1),cu),((7,1),ct)]) cp)<|bL 105 cB 7 cz<|om cG aC)<|cq (qr 4 (aw 0 aj cC<|ap cU cI<|aP cR cL<|om al cP)<|aQ 1 (cE 1000000 (cq Vn<|cq Ty<|cq (aQ 3 (qr 6 (aa de db<|aY 2 cR de dn<|aH 2 dA dj<|oq (oa 86 [di,aE] 3 aG)<|aa dV aB<|ot 2 ay dC np)<|aX 8 (dy (om aN dt)<|dy (oe AR 1 dD)<|dy (oP (bX 6 dF) du)<|dy wc<|dy (oP m8 dJ)<|dy wh<|dy (om aW dY)<|dw (oe (.mapUpd .str (.t 38) (.t 40) (.t 41)) 7 np)<|cw) (cn) []))<|aq 2 (aT de bE ei<|om fg cP))))<|cq (qr 4 (aw 1 aj dW<|ap fa ep<|aP eu ew<|om al eo)<|aQ 5 (cE 1000000 (cq Vp<|cq (ak eY (ck) (cx 5))<|cq (aQ 7 (qr 6 (aa eK eZ<|aY 3 eu eK fd<|aH 3 gK ft<|oq (oa 91 [di,aE,aE] 3 aV)<|aa eB aJ<|ot 3 aL fP np)<|cq (aX 8 (dy (om aN fk)<|dy (oe (.nilCheck (.t 51)) 1 fx)<|dy (oP (bX 7 gE) fz)<|dy (ol fY fU)<|dy (oP (bX 0 aL) gh)<|dy (ol gJ ge)<|dy (om az fT)<|dw (oe (.mapUpd .str (.t 54) (.t 56) (.t 57)) 7 np)<|cw) (cn) [])<|aX 14 (dy (om aN gu)<|dy (om aN gA)<|dy (oe (.nilCheck (.t 59)) 2 gM)<|dy (oP (bX 0 gI) gS)<|dy (oP (bX 1 im) gR)<|dy (ol hZ gL)<|dy (oP (bX 1 aL) dX)<|dy Ae<|dq (dm 8 (ob 3 1 [aE] 1 [((0,1),ef)] 8 dO))<|dq (da 0 [(8,0)] (oe (.append 1 8 3 [aE] (.t 63) (.t 66)) 9 ec))<|dy (oe AT 10 eC)<|dy (oP (bX 0 dL) dN)<|dy (oP (bX 1 dI) dS)<|dw (dk fc eF np)<|cw) (cn) []))<|aq 2 (aT eK bE ee<|om eL eo))))<|qr 4 (aa aN ej<|aw 3 aj er<|ap fq e9<|aA 32 (fun T => [fh T,eR T,aE,jS,aE]) eJ)<|cq (qr 15 (aa aN eO<|oq (oe (.nilCheck (.t 76)) 1 e7)<|aw 0 fF fe<|aw 5 fE fK<|ap fD gm<|aP fQ f0<|oq (oP (cY ic TC) fV)<|aa ib gk<|bd eE false gN (om aN gN)<|oq (og eE false gj (oe (.nilCheck (.t 84)) 9 gj))<|oq (og eE false fJ (oP (bX 0 gy) fJ))<|oq (og eE false gx (oP (bX 2 gX) gx))<|bd eE false gi (ol ir gi)<|oq (og eE false gw (oP (cY iq Bc) gw))<|oP (ba eE cQ ip) gU)<|ak ia (qr 3 (oq (oP (cT yc []) hO)<|cN 6 aK jx np<|om (kc (.int .i64 9)) bu)<|cx 0) (ck))<|qr 6 (aa aN gT<|oq (oe (.nilCheck (.t 92)) 1 hY)<|aw 0 iU g9<|aH 6 hP ig<|cN 6 aK li np<|om al bu)<|cx 0⟩
def j15 : FFn := ⟨2,18,[(2,none),(3,none)],cq tM<|cq (aX 16 (dy sB<|dy (ol ah aB)<|dy (oe s8 2 aG)<|dy (oP (bX 9 ay) aJ)<|dy (bM 6 az aV)<|dy (oP jg bb)<|dy sD<|dw (aA 16 tx bi)<|dy (om bo aF)<|dy (oP (cA 0 aS) bh)<|dy (oP (cA 1 aS) bz)<|dy (oe mD 11 bl)<|dy (oP (bX 0 bq) br)<|dy (oP (bX 2 bw) bD)<|dw (dk bA bf np)<|dy (om bt bu)<|cw) (cj (cm aN 1 [] sB)<|cn) [])<|cx 0⟩
def j16 : FFn := ⟨2,107,[(4,none),(5,none)],qr 3 (bL 43 ah 0 bx<|aa fu aF<|om al aC)<|cq (qr 3 (aH 6 aK bP<|ax 33 oQ bW<|om bS aB)<|qr 2 (aa aW bT<|oP wE bY)<|ak ce (qr 3 (aa aW bZ<|aa fu aF<|om cu aC)<|cx 0) (ck))<|cq (qr 6 (aa aj ci<|iH ct bE cp<|aa cB cz<|bd cG false cC (om aj cC)<|oq (og cG false cI (oP (cY cU ny) cI))<|oP (ba cG cQ cR) cL)<|ak dg BS (ck))<|qr 5 (aw 0 aK cP<|ap de cX<|oq (oe (.mksl 109 1 8 [.nilPtr] (.t 31) (.t 31)) 2 db)<|nU 108 hX 3 aG<|dk ay dV np)<|cq (qr 3 (ap ay dn<|aP dA dj<|om al dt)<|aQ 1 (cE 1000000 (cq Vo<|cq (ak dF (ck) (cx 1))<|cq (aQ 3 (qr 2 (aa dx du<|om dH aJ)<|aq 7 (ap ay dB<|aa az dJ<|aa az dM<|oq (ob 3 1 [aE] 1 [((0,1),eI)] 3 dY)<|bL 40 fo 4 ei<|aY 1 dP dK dW<|dk fa fg np)))<|aq 2 (aT dx bE ep<|om eu dt))))<|cq (qr 4 (aw 5 aK ew<|ap eH eo<|aP eK eS<|om al eZ)<|aQ 5 (cE 1000000 (cq Vq<|cq (ak gK (ck) (cx 5))<|cq (aQ 7 (qr 4 (aY 7 eK eB ft<|aH 7 fP fk<|oq (oa 64 m5 2 bb)<|ot 7 aD gc np)<|qr 1 (oa 40 hX 0 bc)<|cq (qr 2 (aH 7 aD fx<|aA 34 AH fz)<|aQ 9 (gq 1000000 false 107 (.rangeFunc (.t 53) [54] (.region [ ⟨(some 12),.mv (.t 54),none⟩]) (.block 5 (.draw [ ⟨(some 55),.load none (.t 11),none,[(11,none)],0,[(0,[])]⟩,⟨(some 56),.load none (.t 7),none,[(7,none)],0,[(0,[])]⟩,⟨(some 57),.mv (.t 12),none,[(12,none)],0,[(0,[])]⟩,⟨(some 58),.indexAddr 1 (.t 56) (.t 57),none,[(56,(some 1)),(57,(some 2))],0,[(0,[])]⟩,⟨(some 59),.load none (.t 58),none,[(58,(some 3))],0,[(0,[])]⟩,⟨(some 60),.nilCheck (.t 59),none,[(59,(some 4))],0,[(0,[])]⟩,⟨(some 61),.load none (.t 60),none,[(60,(some 5))],0,[(0,[])]⟩,⟨(some 62),.append 1 8 3 [aE] (.t 55) (.t 61),none,[(55,(some 0)),(61,(some 6))],2,[(0,[])]⟩,⟨none,.store 1 (.t 11) (.t 62),none,[(11,none),(62,(some 7))],2,[(1,[])]⟩] [])))))<|qr 2 (ap bj gL<|aA 35 (w1 iz) dX)<|cq (qr 3 (ap bj ek<|ax 36 (w1 ef) dO<|dk bj el np)<|qr 4 (ap bj ec<|aP eF eC<|aa aj dN<|oP (cY dL dI) dS)<|ak fc (cx 7) (ck))<|qr 4 (ap bj ee<|ax 37 (w1 eL) ej<|nU 40 hX 2 bh<|dk bf fh np)<|qr 3 (ap bf er<|aP fq e9<|om al eJ)<|aQ 13 (cE 1000000 (cq VJ<|cq (ak fR (ck) (cx 13))<|cq (aQ 15 (qr 3 (aY 1 fq dz e7<|ap fF fe<|om fE bl)<|aq 4 (ap ay fK<|aa bq gm<|aY 1 fD fQ f0<|dk ic bf np)))<|aq 2 (aT dz bE fV<|om ib eJ)))))<|aq 2 (aT eB bE gk<|om eE eZ))))<|qr 1 (om fu br)<|cq (qr 3 (ap ay gN<|aP gp gj<|om al fJ)<|aQ 17 (cE 1000000 (qr 1 (oP (bF gX gy) gx)<|cq (ak ir (ck) (cx 17))<|cq (aQ 19 (qr 5 (aa gX gi<|aY 1 gp gX gw<|ap ip gU<|aa iq bD<|om ia bK)<|qr 7 (aa cd hO<|oq (oe (.nilCheck (.t 91)) 1 gT)<|ap io hY<|aY 1 iU al g9<|ap hP ig<|aa bA iF<|oP (bk li iT) iD)<|ak jw (aq 8 (aa bw iP<|aa cd iO<|oq (oe (.nilCheck (.t 99)) 2 iN)<|ap iS iM<|ax 38 (w1 jN) jb<|oq (ob 40 1 hX 1 [((0,1),kz)] 5 jt)<|oq (oe (.append 1 24 40 hX (.t 98) (.t 103)) 6 js)<|om gW br)) (ck)))<|aq 2 (aT gX bE ja<|om iR fJ))))<|qr 3 (aa bw i9<|aa jZ aF<|om al aC)<|cx 0⟩
def j17 : FFn := ⟨2,22,[(2,none),(3,none)],cq tM<|cq (aX 20 (dy sB<|dy (ol ah aB)<|dy (oe s8 2 aG)<|dy (oP (bX 9 ay) aJ)<|dy (bM 6 az aV)<|dy (ol ah bb)<|dy (oe nA 6 bc)<|dy qq<|dy (oP (bX 2 bo) bh)<|dy ji<|dy (bM 4 aj bl)<|dw (aA 18 (w3 aL bt bq) br)<|dy (om bw aF)<|dy (oP (cA 0 aS) bD)<|dy (oP (cA 1 aS) bK)<|dy (oe mD 15 bP)<|dy (oP (bX 0 bO) bW)<|dy A7<|dw (dk cg bA np)<|dy (om cd bu)<|cw) (cj (cm aN 1 [] sB)<|cn) [])<|cx 0⟩
def j19 : FFn := ⟨2,56,[(4,none)],cq nI<|qr 10 (aa ah bb<|oq (oe nA 1 bc)<|aw 9 bj bi<|aw 5 bo bh<|ap bf bz<|aa aj bl<|aY 7 bt bq br<|aH 7 bw bD<|oq (oa 64 m5 8 aC)<|ot 7 aN bA np)<|cq (aX 25 (dy (om ah bP)<|dy (oe (.nilCheck (.t 19)) 1 bW)<|dy (oP (bX 9 bS) bT)<|dy (bM 6 cg bY)<|dy (om ah bZ)<|dy (oe (.nilCheck (.t 23)) 5 ci)<|dy (oP (bX 0 ct) cp)<|dy (oP (bX 2 cB) cz)<|dy qc<|dy (om aj cI)<|dy sL<|dy (oe (.nilCheck (.t 29)) 11 cP)<|dy (oP (bX 0 de) cX)<|dy (oP (bX 3 dh) db)<|dy sG<|dy (oP sw dj)<|dy sH<|dy (oP (bU 2 dA dx) dD)<|dy (bM 2 dF du)<|dw (aA 48 (fun T => [ce T,cU T,cR T,dH T]) dB)<|dy (om dP bK)<|dy (oP (cA 0 cd) dJ)<|dy (oP (cA 1 cd) dM)<|dy (om dK aB)<|dy (om eI aG)<|cw) (cn) [])<|cq (qr 3 (aa aW dY<|aP fo ei<|om al dW)<|aQ 1 (cE 1000000 (qr 1 (oP (bF fa fg) ep)<|cq (ak eu (ck) (cx 1))<|cq (aQ 3 (qr 3 (aY 1 fo fa ew<|ap eH eo<|om eK aV)<|aq 9 (aa aS eS<|aa aj eZ<|aa aL fd<|aw 6 aN ft<|ap fP fk<|oq (oP (cT [aE,eG,aE] [((0,1),eB),((1,1),gK),((2,1),gc)]) fx)<|oq (ob 67 3 [aE,eG,aE] 1 [((0,3),gE)] 6 fz)<|oq (oe (.append 3 24 67 [aE,eG,aE] (.t 47) (.t 53)) 7 fU)<|om gg aF)))<|aq 2 (aT fa bE gh<|om gJ dW))))<|cx 0⟩
def j20 : FFn := ⟨0,5,[(0,(some (some 6)))],qr 1 (oa 43 yc 0 ju)<|qr 5 (oq (oP Bf eg)<|oq (oP (cT m5 [((1,1),bE),((2,4),aj)]) bx)<|oq (ob 64 7 m5 1 [((0,7),aK)] 2 bu)<|oq (oP (cT yc [((2,1),iY),((4,1),bE),((5,1),aM)]) aF)<|ot 6 ah aS np)<|cx 0⟩
def j21 : FFn := ⟨1,43,[(2,none),(3,none),(4,none)],qr 3 (aa fu bx<|aa al bu<|om al aF)<|cq (qr 3 (aa ah aG<|oq (oe (.lenStr (.t 7)) 1 aJ)<|oP (cY az Bc) aV)<|ak aL (qr 3 (aa fu bx<|aa al bu<|om ql aF)<|cx 0) (ck))<|aQ 1 (cE 1000000 (aQ 3 (qr 7 (aa aM bb<|aa ah bc<|aa aM bi<|oq (oe (.sliceStr (.t 11) (some (.t 12)) none) 3 bh)<|oq (aA 49 (fun T => [bf T,(.fn (.func 50) [] [])]) bz)<|aT aD bt bl<|om bq bu)<|cq (qr 4 (aa aM br<|aa ah bD<|oq (oe (.lenStr (.t 17)) 2 bK)<|oP (bk bw cd) bP)<|ak bO (qr 4 (aa aK bW<|aa bS bx<|aa al bu<|om al aF)<|cx 0) (ck))<|qr 10 (aa ah bY<|aa aM bZ<|oq (oe (.sliceStr (.t 22) (some (.t 23)) none) 2 ci)<|ax 51 AD cp<|aa cB bT<|ai 0 cg cz<|ai 1 cg cC<|oq (oa 76 [eG,di,aE] 7 aC)<|cN 3 aN cG np<|om cU aB)<|cq (qr 2 (aa aW cI<|oP (cJ cR al) cL)<|ak dg (qr 5 (aa aM cP<|aa aW cX<|aa fu bx<|aa de bu<|om dh aF)<|cx 0) (ck))<|qr 3 (aa aM db<|aw 2 aN dn<|dk dA dV np)<|qr 5 (aa aK dj<|aH 3 aN dt<|oq (ob 76 3 [eG,di,aE] 1 [((0,3),dx)] 2 dD)<|oq (oe (.append 3 32 76 [eG,di,aE] (.t 34) (.t 36)) 3 du)<|om dH bx)<|aq 6 (aa aM dB<|aw 1 aN dJ<|ap dK dM<|oq (oe (.lenStr (.t 40)) 3 dY)<|aT dP fo ei<|om fg bu))))⟩
def j23 : FFn := ⟨1,48,[(2,(some (some 4)))],qr 1 (oa 39 tJ 0 bx)<|gq 1000000 false 48 (.scopeL (.seq (.scopeL (.skip) 0 (.skip))<|.seq (.block 0 (.loop (.block 1 (.block 2 (.seq (.region [ ⟨(some 4),.mv (.t 0),none⟩,⟨(some 5),.call qy [(.t 4),UK],none⟩,⟨(some 3),.mv (.t 5),none⟩])<|.cond (.t 3) (.draw [ ⟨(some 6),.fieldAddr 0 (.t 2),none,[(2,none)],0,[(0,[]),(1,[])]⟩,⟨(some 7),.load none (.t 6),none,[(6,(some 0))],0,[(0,[]),(1,[])]⟩,⟨(some 8),.mv (.t 0),none,[(0,none)],0,[(0,[])]⟩,⟨(some 9),.mv (.t 0),none,[(0,none)],0,[(0,[])]⟩,⟨(some 10),.mkfn (.func 54) [(.t 9)] [],none,[(9,(some 3))],0,[(0,[])]⟩,⟨(some 11),.call UE [(.t 8),(.c nh),pT,(.t 10)],none,[(8,(some 2)),(10,(some 4))],2,[(0,[])]⟩,⟨(some 12),.append 2 24 86 [di,aE] (.t 7) (.t 11),none,[(7,(some 1)),(11,(some 5))],2,[(1,[])]⟩,⟨(some 13),.fieldAddr 0 (.t 2),none,[(2,none)],0,[(2,[])]⟩,⟨none,.store 1 (.t 13) (.t 12),none,[(13,(some 7)),(12,(some 6))],2,[(2,[])]⟩] []) (.seq (.region [ ⟨(some 15),.mv (.t 0),none⟩,⟨(some 16),.call qy [(.t 15),VI],none⟩,⟨(some 14),.mv (.t 16),none⟩])<|.cond (.t 14) (.draw [ ⟨(some 17),.fieldAddr 1 (.t 2),none,[(2,none)],0,[(0,[]),(1,[])]⟩,⟨(some 18),.load none (.t 17),none,[(17,(some 0))],0,[(0,[]),(1,[])]⟩,⟨(some 19),.mv (.t 0),none,[(0,none)],0,[(0,[])]⟩,⟨(some 20),.mv (.t 0),none,[(0,none)],0,[(0,[])]⟩,⟨(some 21),.mkfn (.func 56) [(.t 20)] [],none,[(20,(some 3))],0,[(0,[])]⟩,⟨(some 22),.call UF [(.t 19),(.c nh),pT,(.t 21)],none,[(19,(some 2)),(21,(some 4))],2,[(0,[])]⟩,⟨(some 23),.append 3 32 91 [di,aE,aE] (.t 18) (.t 22),none,[(18,(some 1)),(22,(some 5))],2,[(1,[])]⟩,⟨(some 24),.fieldAddr 1 (.t 2),none,[(2,none)],0,[(2,[])]⟩,⟨none,.store 1 (.t 24) (.t 23),none,[(24,(some 7)),(23,(some 6))],2,[(2,[])]⟩] []) (.exit 0)))))))<|.seq (.block 3 (.loop (.seq (.seq (.region [ ⟨(some 25),.mv (.t 0),none⟩,⟨(some 26),.call qy [(.t 25),Vg],none⟩])<|.cond (.t 26) (.skip) (.exit 3))<|.block 4 (.draw [ ⟨(some 27),.fieldAddr 2 (.t 2),none,[(2,none)],0,[(0,[]),(1,[])]⟩,⟨(some 28),.load none (.t 27),none,[(27,(some 0))],0,[(0,[]),(1,[])]⟩,⟨(some 29),.mv (.t 0),none,[(0,none)],0,[(0,[])]⟩,⟨(some 30),.call UG [(.t 29)],none,[(29,(some 2))],2,[(0,[])]⟩,⟨(some 31),.buildSlice 94 4 qu 1 [((0,4),(.t 30))],none,[(30,(some 3))],1,[(1,[])]⟩,⟨(some 32),.append 4 72 94 qu (.t 28) (.t 31),none,[(28,(some 1)),(31,(some 4))],2,[(1,[4])]⟩,⟨(some 33),.fieldAddr 2 (.t 2),none,[(2,none)],0,[(2,[])]⟩,⟨none,.store 1 (.t 33) (.t 32),none,[(33,(some 6)),(32,(some 5))],2,[(2,[])]⟩] []))))<|.seq (.region [ ⟨(some 34),.mv (.t 0),none⟩,⟨(some 35),.buildSlice 9 1 [di] 1 [((0,1),Vf)],none⟩,⟨(some 36),.call UH [(.t 34),(.t 35)],none⟩])<|.seq (.region [ ⟨(some 37),.mv (.t 0),none⟩,⟨(some 38),.call UI [(.t 37)],none⟩,⟨(some 39),.fieldAddr 3 (.t 2),none⟩,⟨none,.store 1 (.t 39) (.t 38),none⟩])<|.seq (.seq (.region [ ⟨(some 40),.mv (.t 0),none⟩,⟨(some 41),.nilCheck (.t 40),none⟩,⟨(some 42),.fieldAddr 0 (.t 41),none⟩,⟨(some 43),.load none (.t 42),none⟩,⟨(some 44),.len (.t 43),none⟩,⟨(some 45),.bin .gtr .int (.t 44) je,none⟩])<|.cond (.t 45) (.region [ ⟨(some 46),.mv (.t 0),none⟩,⟨(some 47),.call UJ [(.t 46),(.c oI)],none⟩]) (.skip))<|.ret) 0 (.seq (.skip)<|.seq (.block 0 (.loop (.block 1 (.block 2 (.seq (.region [ ⟨(some 4),.mv (.t 0),none⟩,⟨(some 5),.call qy [(.t 4),UK],none⟩,⟨(some 3),.mv (.t 5),none⟩])<|.cond (.t 3) (.draw [ ⟨(some 6),.fieldAddr 0 (.t 2),none,[(2,none)],0,[(0,[]),(1,[])]⟩,⟨(some 7),.load none (.t 6),none,[(6,(some 0))],0,[(0,[]),(1,[])]⟩,⟨(some 8),.mv (.t 0),none,[(0,none)],0,[(0,[])]⟩,⟨(some 9),.mv (.t 0),none,[(0,none)],0,[(0,[])]⟩,⟨(some 10),.mkfn (.func 54) [(.t 9)] [],none,[(9,(some 3))],0,[(0,[])]⟩,⟨(some 11),.call UE [(.t 8),(.c nh),pT,(.t 10)],none,[(8,(some 2)),(10,(some 4))],2,[(0,[])]⟩,⟨(some 12),.append 2 24 86 [di,aE] (.t 7) (.t 11),none,[(7,(some 1)),(11,(some 5))],2,[(1,[])]⟩,⟨(some 13),.fieldAddr 0 (.t 2),none,[(2,none)],0,[(2,[])]⟩,⟨none,.store 1 (.t 13) (.t 12),none,[(13,(some 7)),(12,(some 6))],2,[(2,[])]⟩] []) (.seq (.region [ ⟨(some 15),.mv (.t 0),none⟩,⟨(some 16),.call qy [(.t 15),VI],none⟩,⟨(some 14),.mv (.t 16),none⟩])<|.cond (.t 14) (.draw [ ⟨(some 17),.fieldAddr 1 (.t 2),none,[(2,none)],0,[(0,[]),(1,[])]⟩,⟨(some 18),.load none (.t 17),none,[(17,(some 0))],0,[(0,[]),(1,[])]⟩,⟨(some 19),.mv (.t 0),none,[(0,none)],0,[(0,[])]⟩,⟨(some 20),.mv (.t 0),none,[(0,none)],0,[(0,[])]⟩,⟨(some 21),.mkfn (.func 56) [(.t 20)] [],none,[(20,(some 3))],0,[(0,[])]⟩,⟨(some 22),.call UF [(.t 19),(.c nh),pT,(.t 21)],none,[(19,(some 2)),(21,(some 4))],2,[(0,[])]⟩,⟨(some 23),.append 3 32 91 [di,aE,aE] (.t 18) (.t 22),none,[(18,(some 1)),(22,(some 5))],2,[(1,[])]⟩,⟨(some 24),.fieldAddr 1 (.t 2),none,[(2,none)],0,[(2,[])]⟩,⟨none,.store 1 (.t 24) (.t 23),none,[(24,(some 7)),(23,(some 6))],2,[(2,[])]⟩] []) (.exit 0)))))))<|.seq (.block 3 (.loop (.seq (.seq (.region [ ⟨(some 25),.mv (.t 0),none⟩,⟨(some 26),.call qy [(.t 25),Vg],none⟩])<|.cond (.t 26) (.skip) (.exit 3))<|.block 4 (.draw [ ⟨(some 27),.fieldAddr 2 (.t 2),none,[(2,none)],0,[(0,[]),(1,[])]⟩,⟨(some 28),.load none (.t 27),none,[(27,(some 0))],0,[(0,[]),(1,[])]⟩,⟨(some 29),.mv (.t 0),none,[(0,none)],0,[(0,[])]⟩,⟨(some 30),.call UG [(.t 29)],none,[(29,(some 2))],2,[(0,[])]⟩,⟨(some 31),.buildSlice 94 4 qu 1 [((0,4),(.t 30))],none,[(30,(some 3))],1,[(1,[])]⟩,⟨(some 32),.append 4 72 94 qu (.t 28) (.t 31),none,[(28,(some 1)),(31,(some 4))],2,[(1,[4])]⟩,⟨(some 33),.fieldAddr 2 (.t 2),none,[(2,none)],0,[(2,[])]⟩,⟨none,.store 1 (.t 33) (.t 32),none,[(33,(some 6)),(32,(some 5))],2,[(2,[])]⟩] []))))<|.seq (.region [ ⟨(some 34),.mv (.t 0),none⟩,⟨(some 35),.buildSlice 9 1 [di] 1 [((0,1),Vf)],none⟩,⟨(some 36),.call UH [(.t 34),(.t 35)],none⟩])<|.seq (.region [ ⟨(some 37),.mv (.t 0),none⟩,⟨(some 38),.call UI [(.t 37)],none⟩,⟨(some 39),.fieldAddr 3 (.t 2),none⟩,⟨none,.store 1 (.t 39) (.t 38),none⟩])<|.seq (.seq (.region [ ⟨(some 40),.mv (.t 0),none⟩,⟨(some 41),.nilCheck (.t 40),none⟩,⟨(some 42),.fieldAddr 0 (.t 41),none⟩,⟨(some 43),.load none (.t 42),none⟩,⟨(some 44),.len (.t 43),none⟩,⟨(some 45),.bin .gtr .int (.t 44) je,none⟩])<|.cond (.t 45) (.region [ ⟨(some 46),.mv (.t 0),none⟩,⟨(some 47),.call UJ [(.t 46),(.c oI)],none⟩]) (.skip))<|.ret))⟩
def j24 : FFn := ⟨1,28,[(2,none)],qr 2 (bL 39 ah 0 eg<|om al bx)<|qr 2 (nU 147 lm 0 bu<|dk aM (kc (.fn (.func 61) [] [])) np)<|qr 15 (aw 0 aj aC<|ap aN aB<|ap aM aG<|ax 63 xc aJ<|aa az aV<|oq (og aL true bb (oP jP bb))<|bd aL true bc sD<|oq (og aL true bi (aA 64 (fun T => [bj T,(.fn (.func 65) [] [])]) bi))<|aI aL bo bQ bh<|aa bf bz<|oq (og bt true bl (oP kD bl))<|bd bt true br ka<|oq (og bt true bD (aA 66 (fun T => [bw T,(.fn (.func 67) [] [])]) bD))<|aI bt bA bQ bK<|om cd aF)<|cq (qr 9 (aa aS bP<|oq (oe (.un .not (.t 19)) 1 bW)<|aa bS bT<|oq (og cg false bY (oP jf bY))<|bd cg false bZ lq<|oq (og cg false ci (oe (.mkfn (.func 69) [] [(.t 3)]) 5 ci))<|oq (og cg false cp (aA 68 Bp cp))<|oq (og cg false cz (oe (.un .not (.t 25)) 7 cz))<|oP (ba cg cQ cG) cC)<|ak cU uz (ck))<|cq jp<|cx 0⟩
def j25 : FFn := ⟨4,32,[],qr 1 (ox 89 aM 0 aG)<|qr 12 (aa ah bc<|oq (oe tg 1 bi)<|aw 0 bo bh<|ap bf bz<|aa aj bl<|oq (oe (.lookup .str (.agg [eG,aE]) (.t 14) (.t 15) true) 5 br)<|aa bw bb<|ai 0 aD bD<|ai 1 aD bK<|oq (oa 89 [eG,aE] 9 aJ)<|cN 2 az bA np<|om cd aV)<|qr 5 (aa ah bP<|aa aL bW<|oq (oe AA 2 bT)<|aa aK bY<|aA 26 (fun T => [bO T,cg T,ce T,(.int .i64 111)]) bZ)<|qr 2 (aa aL ci<|oe (.un .not (.t 24)) 1 cp)<|ak cB (aX 7 (dy oH<|dy (oe oV 1 cC)<|dy (oP (bX 0 cU) cI)<|dy lx<|dy (om aj cP)<|dy (bM 2 ay cX)<|dw (oe (.mapUpd .str (.t 29) (.t 30) (.t 31)) 6 np)<|cw) (cn) []) (ck)⟩
def j26 : FFn := ⟨4,14,[],qr 2 (aa aj aJ<|oe (.un .not (.t 8)) 1 aV)<|ak aL (aq 4 (aa ah bb<|aa aK bc<|aa aM bi<|aA 70 UZ bh)) (ck)⟩
def j27 : FFn := ⟨2,9,[(4,none)],cq jT<|qr 5 (aa ah aC<|aa aj aB<|ax 71 jU aG<|fW ay al aJ<|om az aF)<|cx 0⟩
def j30 : FFn := ⟨1,6,[(2,none)],qr 2 (bL 81 ah 0 eg<|om ln bx)<|qr 1 (oa 98 lm 0 bu)<|qr 2 (oq (oe (.mkfn (.func 72) [] [(.t 1),(.t 3)]) 0 aF)<|dk aM aS np)<|cq Vz<|cx 0⟩
def j31 : FFn := ⟨1,57,[(2,(some (some 4))),(3,none)],qr 3 (bL 39 ah 0 eg<|nU 39 tJ 1 bx<|om al bu)<|cq (qr 7 (aH 4 aj bc<|ax 12 mz bi<|aa bo bb<|ai 0 aD bh<|ai 1 aD bz<|aa bf aF<|om bt aC)<|qr 2 (aa aN bl<|oP Aj br)<|ak bw (qr 4 (oq (oP (cT tJ []) bD)<|aa aN bK<|cN 4 aK bA np<|om cd bu)<|cx 0) (ck))<|qr 7 (mP (.mkmap) 0 bP<|aw 0 aj bW<|ap bS bT<|ax 76 oR bY<|oq (oP (cT [.nilMap,aE,.nilSl,aE] [((0,1),bO),((2,1),ce)]) bZ)<|bL 166 cu 5 ci<|om ct aB)<|cq (qr 4 (aw 2 aj cp<|ap cB cz<|aP cG cC<|om al cI)<|aQ 1 (cE 1000000 (cq BJ<|cq Ba<|cq (aQ 3 (qr 4 (aY 4 cG cR cP<|aH 4 de cX<|oq (oa 94 qu 2 aJ)<|ot 4 az dh np)<|aX 8 (dy (om aW db)<|dy (oe wW 1 dn)<|dy (oP (bX 0 dA) dj)<|dy sH<|dy (oP (bX 0 az) dD)<|dy wb<|dy (bM 4 az dB)<|dw (oe (.mapUpd .str (.t 35) (.t 37) (.t 38)) 7 np)<|cw) (cn) []))<|aq 2 (aT cR bE dJ<|om dK cI))))<|qr 6 (aa aW dM<|aw 3 aj dY<|ap fo ei<|mP (.mkmap) 3 dW<|ax 77 (w3 eI fg fa) ep<|om eu aV)<|cq (qr 2 (aa aW ew<|aA 78 AG eo)<|ak eK (qr 3 (oq (oP (cT tJ []) eS)<|cN 4 aK eY np<|om (kc (.int .i64 9)) bu)<|cx 0) (ck))<|cq (aX 11 (dy (om aW eZ)<|dy (oe wX 1 fd)<|dy (oP (bX 2 gK) ft)<|dy (ol fP fk)<|dy (oP kD fx)<|dy (ol gE fz)<|dw (aA 79 (w1 fY) fU)<|dy (om aL gh)<|dy (oP (cT tJ [((0,1),gc),((1,1),gg),((3,1),gJ)]) ge)<|dw (ot 4 aK gD np)<|dy qh<|cw) (cj (cm gc 1 [] (ol fP fk))<|cn) [])<|cx 0⟩
def j32 : FFn := ⟨5,51,[],cq (qr 3 (aa aj bh<|aP bf bz<|oP (bk bt al) bl)<|ak bq (qr 6 (aa ah br<|aa aK bD<|aa aM bK<|aa aS bP<|oq (oP Bf bW)<|aA 80 (fun T => [bw T,bA T,cd T,bO T,bS T,.nilSl]) bT)<|cx 0) (ck))<|cq (qr 7 (aa aj bY<|aa aj bZ<|aP cu ci<|ed ct bE cp<|oq (oe (.slice 7 (.t 22) none (some (.t 25)) none) 4 cz)<|aP cG cC<|om al cI)<|aQ 1 (cE 1000000 (cq BJ<|cq Ba<|cq (aQ 3 (qr 4 (aY 7 cG cR cP<|aH 7 de cX<|oq (oa 152 qJ 2 bc)<|ot 7 bj dh np)<|qr 3 (aa ah db<|ax 81 AE dn<|om dA bi)<|qr 5 (aa ah dj<|aH 7 bj dt<|aa aK dD<|aa bo du<|aA 82 (fun T => [dC T,dx T,dF T,dH T]) dB)<|aq 2 (aa bo dJ<|om dK bx)))<|aq 2 (aT cR bE dM<|om eI cI))))<|aq 10 (aa ah dY<|aa aj ei<|aa aj dW<|aP fa ep<|ed eu bE ew<|aY 7 fg eH eo<|aH 7 eK eS<|aa aK eZ<|aa aM fd<|aA 82 (fun T => [fo T,eY T,eB T,gK T]) ft)⟩
def j33 : FFn := ⟨1,118,[(2,none)],qr 2 (bL 43 ah 0 eg<|om al bx)<|qr 31 (aw 0 aj aV<|ap aL bb<|iH aD al bc<|aa bj bi<|oq (og bo false bh (oP jg bh))<|bd bo false bz ji<|oq (og bo false bl Un)<|aI bo cQ bq br<|aa bw bD<|oq (og bA false bK (oP kD bK))<|bd bA false bP jQ<|oq (og bA false bW (oP (eN bO) bW))<|oq (og bA false bT (oP (cY bS nC) bT))<|aI bA cQ cg bY<|aa ce bZ<|oq (og cu false ci (oP jf ci))<|bd cu false cp v8<|oq (og cu false cz (oP (bF cB iY) cz))<|aI cu cQ cG cC<|aa cU cI<|oq (og cR false cL (oP jf cL))<|bd cR false cP qe<|oq (og cR false cX (oP (cY de Bc) cX))<|aI cR cQ dh db<|aa dV dn<|oq (og dA false dj (oP (bX 5 aj) dj))<|bd dA false dt sH<|oq (og dA false dD A2)<|oq (og dA false du (oP (cY dF TC) du))<|aI dA cQ dH dB<|om dP bu)<|cq (qr 29 (aa aM dJ<|aa dK dM<|oq (og eI false dY (oP jP dY))<|bd eI false ei nb<|oq (og eI false dW (oP jf dW))<|bd eI false ep (ol fa ep)<|oq (og eI false ew (aA 83 Ui ew))<|oq (og eI false eo (oe AC 7 eo))<|aI eI cQ eK eS<|aa eY eZ<|oq (og eB false fd (oP sA fd))<|bd eB false ft oE<|oq (og eB false fk (oP jf fk))<|bd eB false fx (ol gc fx)<|oq (og eB false fz (aA 83 Bw fz))<|oq (og eB false fU (oe (.un .not (.t 53)) 15 fU))<|aI eB cQ gg gh<|aa gJ ge<|oq (og gD false fT (oP jP fT))<|bd gD false gu (ol gV gu)<|oq (og gD false gA (oP sA gA))<|bd gD false gM qg<|oq (og gD false gS (oP (bk gF gI) gS))<|aI gD cQ im gR<|aa hZ gL<|oq (og iz false dX (oP kD dX))<|bd iz false ek Ae<|oq (og iz false dO (aA 84 (fun T => [ef T,(.fn (.func 85) [] [])]) dO))<|oP (ba iz cQ el) ec)<|ak eF uz (ck))<|cq (qr 4 (aw 5 aj eC<|ap dL dN<|oq (oe (.mkfn (.func 87) [] [(.t 1)]) 2 dS)<|aA 86 (w2 dI fc) ee)<|ak eL uz (ck))<|qr 3 (aH 6 aj ej<|ax 89 (w1 fh) er<|om fq aF)<|cq (gq 1000000 false 118 (.rangeM [⟨(some 74),.mv (.t 4),none⟩] (.t 74) 75 76 77 0 1 78 [ ⟨(some 79),.extract 0 (.t 78),none⟩,⟨(some 80),.extract 1 (.t 78),none⟩,⟨(some 5),.mv (.t 79),none⟩,⟨(some 6),.mv (.t 80),none⟩] (.seq (.seq (.region [ ⟨(some 81),.mv (.t 5),none⟩,⟨(some 82),.fieldAddr 4 (.t 1),none⟩,⟨(some 83),.load none (.t 82),none⟩,⟨(some 84),.bin .eql .int (.t 81) (.t 83),none⟩,⟨(some 85),.mv (.t 84),none⟩,⟨(some 86),.mv (.t 6),(some (85,false))⟩,⟨(some 87),.call (.c (.fn (.func 90) [] [])) [(.t 86)],(some (85,false))⟩,⟨(some 88),.un .not (.t 87),(some (85,false))⟩,⟨(some 89),.pick (.t 85) (.c pZ) (.t 88),none⟩])<|.cond (.t 89) (.seq (.region [ ⟨(some 2),.mv wK,none⟩])<|.ret) (.skip))<|.seq (.region [ ⟨(some 90),.mv (.t 5),none⟩,⟨(some 7),.mv (.t 90),none⟩])<|.seq (.region [ ⟨(some 91),.fieldAddr 5 (.t 1),none⟩,⟨(some 92),.load none (.t 91),none⟩,⟨(some 93),.len (.t 92),none⟩,⟨(some 94),.mv gd,none⟩])<|.block 2 (.loop (.seq (.region [ ⟨(some 95),.bin .lss .int (.t 94) (.t 93),none⟩])<|.seq (.cond (.t 95) (.skip) (.exit 2))<|.seq (.block 3 (.seq (.seq (.region [ ⟨(some 96),.mv (.t 4),none⟩,⟨(some 97),.mv (.t 7),none⟩,⟨(some 98),.lookup .int .nilSl (.t 96) (.t 97) false,none⟩,⟨(some 8),.mv (.t 98),none⟩])<|.seq (.region [ ⟨(some 99),.mv (.t 8),none⟩,⟨(some 100),.len (.t 99),none⟩,⟨(some 101),.bin .eql .int (.t 100) je,none⟩,⟨(some 102),.mv pU,none⟩,⟨(some 103),.mv (.t 8),(some (102,true))⟩,⟨(some 104),.indexAddr 7 (.t 103) gd,(some (102,true))⟩,⟨(some 105),.fieldAddr 2 (.t 104),(some (102,true))⟩,⟨(some 106),.fieldAddr 0 (.t 105),(some (102,true))⟩,⟨(some 107),.load none (.t 106),(some (102,true))⟩,⟨(some 108),.bin .eql .int (.t 107) (.c p8),(some (102,true))⟩,⟨(some 109),.pick oo (.t 108) pT,none⟩])<|.cond (.t 109) (.region [ ⟨(some 110),.mv (.t 8),none⟩,⟨(some 111),.indexAddr 7 (.t 110) gd,none⟩,⟨(some 112),.fieldAddr 1 (.t 111),none⟩,⟨(some 113),.load none (.t 112),none⟩,⟨(some 7),.mv (.t 113),none⟩]) (.exit 2))<|.seq (.region [ ⟨(some 114),.mv (.t 7),none⟩,⟨(some 115),.mv (.t 5),none⟩,⟨(some 116),.bin .eql .int (.t 114) (.t 115),none⟩])<|.cond (.t 116) (.seq (.region [ ⟨(some 2),.mv wK,none⟩])<|.ret) (.skip)))<|.region [ ⟨(some 117),.bin .add .int (.t 94) je,none⟩,⟨(some 94),.mv (.t 117),none⟩]))) [79,80,5,6,81,82,83,84,85,86,87,88,89,2,90,7,91,92,93,94,95,96,97,98,8,99,100,101,102,103,104,105,106,107,108,109,110,111,112,113,7,114,115,116,2,117,94]))<|cq jp<|cx 0⟩
def j34 : FFn := ⟨1,4,[(2,none)],qr 2 (bL 64 ah 0 eg<|om ln bx)<|qr 2 (oq (oe (.mkfn (.func 91) [] [(.t 1)]) 0 bu)<|om aM bx)<|cx 0⟩
def j35 : FFn := ⟨1,11,[],cq WA<|aq 6 (aa ah aC<|aa aK aB<|aa aK aG<|oq (oe (.conv .u64 (.t 7)) 3 aJ)<|ax 94 m6 aV<|aA 93 VO bb)⟩
def j36 : FFn := ⟨1,61,[(2,none)],cq j1<|cq Xn<|cq (cq w8<|aQ 1 (cE 1000000 (cq Xc<|cq (aQ 3 (cq (aX 10 (dy oF<|dy sR<|dy BA<|dy jQ<|dy oG<|dy (om aM bT)<|dy TU<|dy Up<|dy lw<|dy TO<|cw) (cn) [])<|ak cB (cq Xf<|cq Xm<|qr 4 (aa ah fU<|aa aM gh<|oq (oe Wf 2 ge)<|oe (.clear 1 [aE] (.t 56)) 3 np)<|cq Xg<|cx 0) (ck)))<|aq 3 Wg)))<|cq VB<|cx 0⟩
def j37 : FFn := ⟨1,9,[(2,none)],cq j1<|cq d94<|cx 0⟩
def j38 : FFn := ⟨1,8,[(2,none)],cq j1<|cq pY<|qr 4 (oq (ob 3 1 [] 0 [] 0 aC)<|aa ah aB<|oq (oe (.append 1 8 3 [aE] (.t 5) (.t 6)) 2 aG)<|om ay bx)<|cx 0⟩
def j39 : FFn := ⟨2,48,[(4,none),(5,none)],qr 3 (bL 43 ah 0 bx<|aa oB aF<|om al aC)<|cq (qr 3 (aH 6 aK aJ<|ax 33 m6 aV<|om aL aB)<|cq BW<|ak bj (qr 3 (aa aW bi<|aa oB aF<|om bo aC)<|cx 0) (ck))<|cq (qr 5 (aw 0 aK bh<|ap bf bz<|aa aj bl<|oq (aA 95 (fun T => [bt T,zU,bq T]) br)<|oP tn bD)<|ak bA (qr 2 (aa oB aF<|om mH aC)<|cx 0) (ck))<|qr 5 (aH 6 aK bK<|aa aj bP<|oq (oP (cT [aE,.nilSl,aE,aE,aE,.nilSl,.nilSl,.nilSl,cM,.nilSl,.nilSl,.nilSl,.nilFn] [((0,6),cd),((6,1),bO)]) bW)<|bL 125 bS 3 bT<|om cg aG)<|qr 10 (aa ay bZ<|aH 6 aK ci<|aa aj cp<|ax 96 o3 cz<|aa cG bY<|ai 0 ce cC<|ai 1 ce cI<|oq (oe (.nilCheck (.t 23)) 7 cL)<|aw 8 dg cP<|ot 2 de cU np)<|qr 9 (aa ay db<|aH 6 aK dn<|ax 97 (w1 dA) dj<|aa dC cX<|ai 0 dh dt<|ai 1 dh dD<|oq (oe wW 6 du)<|aw 10 dH dB<|dk dP dx np)<|qr 9 (aa ay dM<|aH 6 aK dY<|ax 98 AF ei<|aa fg dJ<|ai 0 dK dW<|ai 1 dK ep<|oq (oe (.nilCheck (.t 40)) 6 ew)<|aw 11 eH eo<|dk eK fa np)<|qr 3 (aa ay eS<|aa eY aF<|om al aC)<|cx 0⟩
def j40 : FFn := ⟨1,26,[(2,none)],qr 2 (bL 30 ah 0 eg<|om bQ bx)<|qr 1 (om (kc (.fn (.func 99) [] [])) bu)<|qr 23 (aa aM aF<|aw 0 aj aC<|ap aN aB<|oq (b5 aS (fun T => [aW T,jS,zU]) aG)<|aa ay aJ<|bd az true aV (om aM aV)<|oq (og az true bb (oP kD bb))<|bd az true bc sD<|oq (og az true bi (b5 aL (fun T => [bj T,aE,(.int .i64 16)]) bi))<|aI az bo bQ bh<|aa bf bz<|bd bt true bl (om aM bl)<|oq (og bt true br (oP jf br))<|bd bt true bD oD<|oq (og bt true bK (b5 bq (fun T => [bA T,aE,(.int .i64 8)]) bK))<|aI bt cd bQ bP<|aa bO bW<|bd bS true bT (om aM bT)<|oq (og bS true bY (oP jP bY))<|bd bS true bZ lq<|oq (og bS true ci (b5 cg (fun T => [cu T,jS,(.int .i64 65536)]) ci))<|aI bS ct bQ cp<|om cB bx)<|cx 0⟩
def j42 : FFn := ⟨1,7,[],qr 3 (ap ah eg<|ed aj bE bx<|dk ah aK np)<|qr 2 (ap ah bu<|oP (bF aM al) aF)<|ak aS (aq 3 (oq (oP (cT [] []) aC)<|oq (oe (.iface 120 (.t 5)) 1 aB)<|oe (.panic (.t 6)) 2 np)) (ck)⟩
def j43 : FFn := ⟨2,48,[(4,none)],cq nI<|cq (qr 2 (aa aj aV<|oP (bF aL al) bb)<|ak aD (aq 2 (oq (oe W9 0 bc)<|oe (.panic (.t 11)) 1 np)) (ck))<|qr 11 (aa ah bh<|aP bf bz<|oq (oe (.conv .u64 (.t 14)) 2 bl)<|aa aj br<|oq (oe (.conv .u64 (.t 16)) 4 bD)<|ax 100 tD bK<|aa cd bi<|ai 0 bo bP<|ai 1 bo bW<|aa bO aC<|om bS aB)<|cq (qr 6 (aa aN bT<|oq (oP (cY cg iX) bY)<|aa ce bZ<|bd cu false ci (om aW ci)<|oq (og cu false cp (oP (cY ct (kc (.int .u64 9223372036854775807))) cp))<|oP (ba cu cQ cB) cz)<|ak cG (aq 2 (oq (oe (.iface 9 (.c (.str ⟨#[116,104,101,32,114,101,115,117,108,116,32,111,102,32,40,108,101,110,40,120,41,32,42,32,99,111,117,110,116,41,32,111,118,101,114,102,108,111,119,115]⟩))) 0 cC)<|oe (.panic (.t 27)) 1 np)) (ck))<|qr 4 (aa aW cI<|oq (oe (.conv .i64 (.t 28)) 1 cL)<|oq (oe (.mksl 123 2 32 em (.t 29) (.t 29)) 2 cP)<|om de aG)<|qr 4 (aa ay cX<|aa ah db<|oq (oe (.copy 2 (.t 31) (.t 32)) 2 dn)<|om dA aJ)<|cq (aQ 1 (cE 1000000 (cq (qr 4 (aa az dj<|aa ay dt<|aP dx dD<|oP (bF dC dF) du)<|ak dH (ck) (cx 1))<|aQ 3 (aX 10 (dy (om az dB)<|dy (om ay dJ)<|dy (om az dM)<|dy (oe (.slice 2 (.t 39) (some (.t 40)) none none) 3 dY)<|dy (om ay ei)<|dy (om az dW)<|dy (oe (.slice 2 (.t 42) none (some (.t 43)) none) 6 ep)<|dw (oe (.copy 2 (.t 41) (.t 44)) 7 ew)<|dy (oP (iL dP eH) eo)<|dy (om eK aJ)<|cw) (cn) []))))<|qr 2 (aa ay eS<|om eY aF)<|cx 0⟩
def j44 : FFn := ⟨2,79,[],qr 2 (mP (.mkmap) 0 bb<|om aD aF)<|qr 1 sU<|aQ 1 (cE 1000000 (cq (qr 1 (om aN bc)<|ak bj (ck) (cx 1))<|aQ 3 (qr 1 (om bQ aC)<|qr 6 (aa ah bi<|oq (oe uv 1 bh)<|aw 10 bf bz<|ap bt bl<|aP bq br<|om al bD)<|aQ 5 (cE 1000000 (cq yb<|cq (ak cd (ck) (cx 5))<|cq (aQ 7 (qr 3 (aY 1 bq bA bP<|ap bO bW<|om bS aG)<|qr 5 (aa ah bT<|aa ay bY<|ax 101 uw bZ<|oq (oa 123 em 3 aJ)<|ot 2 az cu np)<|cq (cq (aX 10 (dy wo<|dy (bM 2 az cp)<|dy oH<|dy (oe oV 3 cC)<|dy (oP (bX 7 cU) cI)<|dy lx<|dy (om ay cP)<|dy (oP (bU 2 dg de) cX)<|dy (bM 2 dh db)<|dw (aA 102 (w3 ct cB dV) dn)<|cw) (cn) [])<|ak dA (cx 7) (ck))<|qr 1 sU<|qr 5 (aa aS dj<|aa ay dt<|oq (oe (.lookup .int aE (.t 34) (.t 35) false) 2 dD)<|aT dF bE du<|oe (.mapUpd .int (.t 34) (.t 35) (.t 37)) 4 np)<|cq (aX 12 (dy sN<|dy sO<|dy (oe (.nilCheck (.t 39)) 2 dM)<|dy (oP (bX 7 eI) dY)<|dy nb<|dy (om ay dW)<|dy (oP (bU 2 fg fa) ep)<|dy (bM 2 eu ew)<|dy (bM 2 az eo)<|dw (aA 103 (w3 dP eH eK) eS)<|dq (dm 10 (oa 123 em 10 aV))<|dq (da 0 [(10,0)] (ot 2 aL eY np))<|cw) (cn) [])<|cq (qr 14 (aa aS eZ<|aa ay fd<|oq (oe (.lookup .int aE (.t 48) (.t 49) false) 2 ft)<|aa aj fk<|oq (oP (iL gc iY) fx)<|fW fP gE fz<|aa fY fU<|bd gg true gh (om ah gh)<|oq (og gg true ge (oe (.nilCheck (.t 55)) 8 ge))<|oq (og gg true fT (oP (bX 11 gD) fT))<|bd gg true gu (ol gV gu)<|bd gg true gA (om ay gA)<|oq (og gg true gM (aA 104 (w2 gF i6) gM))<|oP (ba gg gI bQ) gS)<|ak im (aX 10 (dy (om ah gR)<|dy (oe (.nilCheck (.t 62)) 1 gL)<|dy (oP (bX 7 iz) dX)<|dy Ae<|dy (om ay dO)<|dy (oP (bU 2 ef el) ec)<|dy (bM 2 eF eC)<|dy (bM 2 aL dN)<|dw (aA 105 (w2 dL dI) dS)<|dw (ot 2 aL fc np)<|cw) (cn) []) (ck))<|aX 8 (dy (om ah ee)<|dy (oe (.nilCheck (.t 71)) 1 ej)<|dy (oP (bX 7 fh) er)<|dy Ag<|dy (om ay eJ)<|dy (bM 2 aL eO)<|dy (oP (bU 2 eR dz) e7)<|dw (ot 2 fF fR np)<|cw) (cn) []))<|aq 2 (aT bA bE fe<|om fE bD))))))⟩
def j45 : FFn := ⟨1,8,[(2,none)],cq j1<|cq pY<|qr 4 (oq (ob 123 2 [] 0 [] 0 aC)<|aa ah aB<|oq (oe (.append 2 32 123 em (.t 5) (.t 6)) 2 aG)<|om ay bx)<|cx 0⟩
def j46 : FFn := ⟨1,31,[],qr 6 (aa ah aF<|oq (oe qG 1 aC)<|aw 10 aN aB<|ap aW aG<|aP ay aJ<|om al aV)<|aQ 1 (cE 1000000 (cq Co<|cq oY<|cq (aQ 3 (qr 3 (aY 1 ay aL bc<|ap bj bi<|om bo bu)<|aX 18 (dy sJ<|dy (oe (.nilCheck (.t 13)) 1 bz)<|dy (oP (bX 7 bt) bl)<|dy ka<|dy sR<|dy wn<|dy (oe ti 6 bP)<|dy A8<|dy qb<|dy (om aM bY)<|dy (oP (bU 2 cg ce) bZ)<|dy wF<|dy (om ah cp)<|dy (om aM cz)<|dw (aA 101 qx cC)<|dw (aA 106 (w2 ct cU) cI)<|dy (oP (bU 2 bw bA) cL)<|dw (ot 2 dg cR np)<|cw) (cj (cm bw 2 [] ka)<|cj (cm bw 1 [] ka)<|cj (cm cg 2 [] qb)<|cj (cm ct 2 [] wF)<|cn) []))<|aq 2 Va))⟩
def j47 : FFn := ⟨2,69,[(4,none)],cq jT<|cq (cq (aX 15 (dy wk<|dy ly<|dy (oe nA 2 bc)<|dy (oP (bX 8 bj) bi)<|dy (bM 2 bo bh)<|dy sP<|dy (om ah bl)<|dy (oe AN 7 br)<|dy (oP (bX 0 bw) bD)<|dy (oP (bX 3 bA) bK)<|dy jQ<|dy (oP (bU 2 bt bO) bW)<|dy (bM 2 bS bT)<|dw (aA 102 (w3 aL bf cg) bY)<|dy (oe wN 14 bZ)<|cw) (cn) [])<|ak cu oJ (ck))<|cq (qr 7 (aa ah ci<|oq (oe AP 1 cp)<|aw 0 cB cz<|aw 5 cG cC<|ap cU cI<|aP cR cL<|om al cP)<|aQ 1 (cE 1000000 (cq Vn<|cq Ty<|cq (aQ 3 (qr 6 (aa de db<|aY 7 cR de dn<|aH 7 dA dj<|oq (oa 64 m5 3 aB)<|aa dV aC<|ot 7 aW dC np)<|cq (qr 6 (aa aj dt<|aw 0 aW dD<|ap dF du<|aY 2 dx dH dB<|aw 0 dP dJ<|ol dK dM)<|ak eI (cx 3) (ck))<|cq (aX 21 (dy (om ah ei)<|dy (oe (.nilCheck (.t 42)) 1 dW)<|dy (oP (bX 0 fa) ep)<|dy (bM 6 eu ew)<|dy (om ah eo)<|dy (oe (.nilCheck (.t 46)) 5 eS)<|dy (oP (bX 6 eY) eZ)<|dy (ol eB fd)<|dy (om aN ft)<|dy (om aj fk)<|dy (oP (bX 0 aW) fx)<|dy (ol gE fz)<|dy (oP (bU 2 gc fY) fU)<|dy (bM 2 gg gh)<|dw (aA 107 (fun T => [eH T,gK T,fP T,gJ T]) ge)<|dy (om gD dY)<|dy (oP (cA 0 fo) fT)<|dy (oP (cA 1 fo) gu)<|dq (dm 18 (oa 123 em 18 aG))<|dq (da 0 [(18,0)] (ot 2 ay gV np))<|dy (om gF aJ)<|cw) (cn) [])<|cq (aX 9 (dy (om ah gA)<|dy (bM 2 ay gM)<|dy (om aj gS)<|dy (oP pX gR)<|dy (ol hZ gL)<|dy (oP (bU 2 im iz) dX)<|dy (bM 2 eD ek)<|dw (aA 102 (w3 i6 gI ef) dO)<|dy (oe (.un .not (.t 66)) 8 ec)<|cw) (cn) [])<|ak eF oJ (ck)))<|aq 2 (aT de bE eC<|om dL cP))))<|cq A5<|cx 0⟩
def j48 : FFn := ⟨4,111,[(8,none),(9,none)],qr 4 (bL 43 ah 0 aF<|bL 123 aM 1 aG<|aa fu aJ<|om al aV)<|qr 12 (aH 6 aS bW<|aa aj bT<|aa aK bY<|aH 2 ay bZ<|ax 108 (fun T => [bS T,cg T,ce T,cu T]) ci<|aa ct bP<|ai 0 bO cp<|ai 1 bO cz<|ai 2 bO cC<|aa cB bb<|aa cG bc<|om cU aV)<|cq (qr 6 (aa aL cI<|fp cR al cL<|aa dg cP<|bd de false cX (om bj cX)<|oq (og de false db (oe (.un .not (.t 31)) 4 db))<|oP (ba de cQ dV) dn)<|ak dA (qr 3 (aa aL dj<|aa fu aJ<|om dC aV)<|cx 0) (ck))<|cq (qr 6 (aa aD dt<|oq (oe AR 1 dD)<|aw 7 dF du<|aw 0 dH dB<|ap dP dJ<|oP (bk dK nq) dM)<|ak eI (qr 3 (oq (ob 5 1 [eG] 1 [((0,1),kJ)] 0 dY)<|aa fo aJ<|om al aV)<|cx 0) (ck))<|cq (qr 7 (aa aD ei<|oq (oe (.nilCheck (.t 42)) 1 dW)<|aw 7 fa ep<|aw 3 eu ew<|ap eH eo<|aP eK eS<|om al eZ)<|aQ 1 (cE 1000000 (cq Vq<|cq (ak gK (ck) (cx 1))<|cq (aQ 3 (qr 6 (aa eB ft<|aY 5 eK eB fk<|aH 5 gc fx<|oq (oa 185 kH 3 bh)<|aa fP bi<|ot 5 bf gE np)<|qr 5 (aa aD fz<|aH 5 bf fU<|ax 109 (fun T => [fY T,.nilSl,gg T]) gh<|oq (oa 218 pu 3 bz)<|ot 9 bt gJ np)<|cq (qr 5 (aa az ge<|aw 8 bt fT<|ap gV gu<|oq (oe (.append 1 1 5 [eG] (.t 56) (.t 58)) 3 gA)<|om i6 aJ)<|qr 2 (aw 0 bt gM<|ol gI gS)<|ak im (cx 1) (ck))<|qr 10 (aa bo gR<|fm hZ bE gL<|aa iz dX<|bd eD true ek (om aD ek)<|oq (og eD true dO (oe (.nilCheck (.t 65)) 4 dO))<|oq (og eD true ec (oP (bX 7 el) ec))<|oq (og eD true eC TK)<|bd eD true dN (ol dL dN)<|oq (og eD true dS (oP (bk dI lA) dS))<|oP (ba eD fc bQ) ee)<|ak eL (cq (aX 17 (dy (oP pW er)<|dy Ag<|dy (om aD eJ)<|dy (oe (.nilCheck (.t 75)) 3 eO)<|dy (oP (bX 7 fR) e7)<|dy (oP (bX 1 fF) fe)<|dy (ol fE fK)<|dy (oP (bU 1 eR fD) gm)<|dy (ol fQ f0)<|dy Uy<|dw (aA 110 (fun T => [aE,ib T]) gk)<|dy (om eE ej)<|dy (oP (cA 0 fh) gN)<|dy (oP (cA 1 fh) gj)<|dq (dm 14 (oa 215 fG 14 bl))<|dq (da 0 [(14,0)] (ot 6 bq gp np))<|dy (om gy br)<|cw) (cn) [])<|cq (aX 17 (dy (om aD gx)<|dy (om aD gi)<|dy (oe (.nilCheck (.t 88)) 2 gw)<|dy (oP (bX 7 ip) gU)<|dy (oP (bX 3 ia) hO)<|dy (ol jx gT)<|dy (oP (bU 5 io al) hY)<|dy (bM 5 iU g9)<|dw (aA 109 (fun T => [ir T,.nilSl,hP T]) ig)<|dy (oe (.field (some 6) 1 (.t 95)) 9 iF)<|dq (dl 1 [] (bM 6 bq iD))<|dw (aA 111 (w2 iT jw) iP)<|dy (om kC fJ)<|dy (oP (cA 0 gX) iO)<|dy (oP (cA 1 gX) iN)<|dy (om iJ bD)<|dy (om iS bK)<|cw) (cj (cm jw 1 [] (bM 6 bq iD))<|cn) [])<|qr 2 (aa bA iM<|oe (.un .not pU) 1 jb)<|ak kz (aq 4 (aa az jt<|oq (ob 5 1 [eG] 1 [((0,1),nm)] 1 js)<|oq (oe (.append 1 1 5 [eG] (.t 103) (.t 104)) 2 ja)<|om iR aJ)) (ck)) (ck)))<|aq 2 (aT eB bE i9<|om jZ eZ))))<|qr 2 (aa az jG<|aA 112 (w1 ky) jr)<|qr 4 (aa az jF<|ax 113 (w1 jY) jE<|aa jM aJ<|om al aV)<|cx 0⟩
def j49 : FFn := ⟨2,20,[(4,none)],cq jD<|cq (qr 2 (aa ah aG<|oe (.rangeS (.t 7)) 1 aJ)<|aQ 1 (cE 1000000 (qr 2 (oq (oe (.nextS (.t 8)) 0 aV)<|oP wI bb)<|cq oY<|aQ 3 (qr 4 (ai 1 aL bc<|ai 2 aL bi<|aa bj aC<|om bo aB)<|qr 4 (aa aj bh<|aa aW bz<|jH bf lV bl<|oe Az 3 br)<|ak bw xq (ck)))))<|qr 3 (aa ah bK<|oq (oe (.lenStr (.t 18)) 1 bP)<|om bO aF)<|cx 0⟩
def j50 : FFn := ⟨1,17,[(2,none)],cq oy<|qr 15 (aa ah bu<|oq (oP (bk aM (kc (.int .i32 32))) aF)<|aa aS aC<|bd aN false aB (om ah aB)<|oq (og aN false aG (oP (bk aW (kc (.int .i32 9))) aG))<|aI aN cQ ay aJ<|aa az aV<|bd aL false bb ly<|oq (og aL false bc (oP (bk aD (kc (.int .i32 10))) bc))<|aI aL cQ bj bi<|aa bo bh<|bd bf false bz nc<|oq (og bf false bl (oP (bk bt (kc (.int .i32 13))) bl))<|aI bf cQ bq br<|om bw bx)<|cx 0⟩
def j51 : FFn := ⟨1,66,[(2,(some (some 3))),(3,none)],qr 2 (oq UL<|om al bu)<|qr 3 (aa ah bb<|oq (aA 49 (fun T => [aD T,(.fn (.func 114) [] [])]) bc)<|om bj aF)<|qr 3 (aa ah bi<|oq (aA 49 (fun T => [bo T,(.fn (.func 116) [] [])]) bh)<|om bf aC)<|cq (aQ 1 (qr 3 (aa aN bl<|mQ bq al br<|om bw bz)<|ak bt (qr 9 (aa ah bK<|aa aN bP<|oq (oe (.sliceStr (.t 18) none (some (.t 19))) 2 bW)<|oq (aA 117 (fun T => [bS T,Aa,tH]) bT)<|aa cg bD<|ai 0 bA bY<|ai 1 bA bZ<|aa ce aB<|om cu aG)<|cq (cq (aX 15 (dy (om ay ci)<|dy (oe (.bin .neq .ifc (.t 24) vU) 1 cp)<|dy (om cB cz)<|dy (og cG false cC (om aW cC))<|dw (og cG false cI (aA 118 (fun T => [cU T,Aa]) cI))<|dy (og cG false cL sL)<|dy (og cG false cP (om aN cP))<|dy (og cG false cX (oe (.sliceStr (.t 29) none (some (.t 30))) 7 cX))<|dy (og cG false db (oe (.bin .neq .str (.t 28) (.t 31)) 8 db))<|dy (oP (ba cG cQ dV) dn)<|dy (om dA dj)<|dy (og dC false dt (om aN dt))<|dy (og dC false dD (om aS dD))<|dy (og dC false du (oP (bF dx dF) du))<|dy (oP (ba dC cQ dH) dB)<|cw) (cn) [])<|ak dP (qr 3 (aH 3 aK dJ<|cN 3 aK dK np<|om (kc (.int .i64 81)) bu)<|cx 0) (ck))<|qr 6 (aa ah dM<|aa aN dY<|oq (oe (.sliceStr (.t 40) none (some (.t 41))) 2 ei)<|oq (oP (cT [eG,di,aE] [((0,1),m7),((1,1),fg)]) dW)<|cN 3 aK fa np<|om al bu)<|cx 0) (qr 3 (aa aS ew<|oq (oP (cY eH qo) eo)<|om eK ep)<|ak eu (qr 3 (aH 3 aK eS<|cN 3 aK eY np<|om (kc (.int .i64 82)) bu)<|cx 0) (qr 3 (aa aS fd<|mQ gK al ft<|om fP eZ)<|ak eB (qr 6 (aa ah fk<|aa aS fx<|oq (oe (.sliceStr (.t 51) none (some (.t 52))) 2 fz)<|oq (oP (cT [eG,di,aE] [((0,1),kJ),((1,1),fY)]) fU)<|cN 3 aK gg np<|om al bu)<|cx 0) (ck)))))<|cq (qr 2 (ax 119 (fun _ => []) gh<|om al ge)<|aQ 3 (cE 1000000 (qr 1 (oP (bF gD (kc (.int .i64 25))) fT)<|cq (ak gV (ck) (cx 3))<|cq (aQ 5 (qr 2 (oq (oe (.indexAgg 25 1 none (.t 55) (.t 56)) 0 gu)<|om gF aV)<|qr 3 (aa ah gA<|aa aL gM<|aA 120 Uk gS)<|ak im (qr 4 (aa aL gR<|oq (oP (cT [eG,di,aE] [((0,1),kI),((1,1),hZ)]) gL)<|cN 3 aK iz np<|om al bu)<|cx 0) (ck)))<|aq 2 (aT gD bE dX<|om eD ge))))<|qr 3 (aH 3 aK ek<|cN 3 aK ef np<|om (kc (.int .i64 80)) bu)<|cx 0⟩
def j52 : FFn := ⟨2,15,[(4,none)],cq jT<|qr 6 (aa ah aB<|aa aj aG<|oq VX<|ax 121 T5 aV<|fm aL al bb<|om aD aC)<|cq (qr 1 (om aN bc)<|ak bj (aq 2 (aa ah bi<|aA 122 mE bh)) (ck))<|cq VE<|cx 0⟩
def j53 : FFn := ⟨4,27,[(8,none)],cq A3<|cq (qr 6 (aa aK aV<|aa aL bb<|bd aD true bc wl<|bd aD true bi (om aj bi)<|oq (og aD true bh (aA 52 tz bh))<|oP (ba aD bf bQ) bz)<|ak bt (cq A3<|cx 0) (ck))<|aQ 1 (cE 1000000 (aQ 3 (qr 6 (aa az bl<|aa aM br<|jH bw (fun _ => []) bD<|oq (ob 86 2 [di,aE] 1 [((0,2),bA)] 3 bK)<|oq (oe (.append 2 24 86 [di,aE] (.t 15) (.t 18)) 4 bP)<|om bO aJ)<|qr 3 (aa ah bW<|oq (aA 52 (fun T => [bS T,(.str ⟨#[44]⟩)]) bT)<|oe (.un .not (.t 21)) 2 bY)<|ak ce (qr 4 (aa ah bZ<|aa aj ci<|oq (ob 9 1 [di] 1 [((0,1),ct)] 2 cp)<|aA 58 (w2 cu cB) cz)<|cx 0) (ck))))⟩
def j54 : FFn := ⟨1,16,[(2,(some (some 2)))],qr 1 (oa 86 [di,aE] 0 bx)<|cq (qr 3 (aa ah aF<|ax 123 nr aC<|oe (.un .not (.t 5)) 2 aB)<|ak aW (aq 2 (aa ah aG<|aA 60 (fun T => [ay T,oI]) aJ)) (ck))<|qr 4 (aa ah aV<|ax 122 oO bb<|oq (oa 76 [eG,di,aE] 2 bu)<|ot 3 aM aD np)<|qr 6 (aw 1 aM bc<|ap bj bi<|aw 2 aM bh<|ap bf bz<|oq (oP (cT [di,aE] [((0,1),bo),((1,1),bt)]) bl)<|ot 2 aK bq np)<|cx 0⟩
def j58 : FFn := ⟨2,19,[],cq BY<|aQ 1 (cE 1000000 (cq x9<|cq nD<|cq (aQ 3 (qr 3 (aY 1 aW az bb<|ap aD bc<|om bj aC)<|qr 4 (aa ah bi<|aa aN bh<|ax 52 tC bz<|oe (.un .not (.t 14)) 3 bl)<|ak bq (aq 2 (aa ah br<|aA 60 (fun T => [bw T,oI]) bD)) (ck)))<|aq 2 xh))⟩
def j59 : FFn := ⟨1,6,[(2,(some none))],qr 2 (bL 74 ah 0 eg<|oa 37 hX 1 bx)<|qr 3 (ap aj bu<|oq (oe (.mkfn (.func 126) [] [(.t 1),(.t 2)]) 1 aF)<|aA 125 (fun T => [aM T,(.str ⟨#[123]⟩),aS T]) aC)<|cx 0⟩
def j60 : FFn := ⟨2,14,[],aq 11 (aa aj aF<|aa ah aC<|oq (oe mD 2 aB)<|aw 0 aW aG<|ap ay aJ<|aY 3 az al aV<|aw 2 aL bb<|ap aD bc<|oq (oP (cT [aE,aE] [((0,1),aS),((1,1),bj)]) bi)<|oq (oe (.iface 73 (.t 12)) 9 bh)<|oe (.panic (.t 13)) 10 np)⟩
def j61 : FFn := ⟨1,6,[(2,none)],qr 2 (bL 86 ah 0 eg<|om bQ bx)<|qr 4 (aw 0 aj bu<|ap aM aF<|ax 62 nr aC<|om aN bx)<|cx 0⟩
def j62 : FFn := ⟨1,30,[(2,none)],cq oy<|qr 3 (aa ah aF<|oq (aA 49 (fun T => [aS T,(.fn (.func 128) [] [])]) aC)<|om aN bu)<|qr 25 (aa aM aB<|aa ah aG<|oq (oe (.lenStr (.t 7)) 2 aJ)<|fm aW az aV<|aa aL bb<|bd aD true bc (om aM bc)<|oq (og aD true bi TP)<|aI aD bo bQ bh<|aa bf bz<|bd bt true bl (om aM bl)<|oq (og bt true br (oP (fC bq qo) br))<|aI bt bw bQ bD<|aa bA bK<|bd cd true bP (om ah bP)<|oq (og cd true bW (oe (.indexStr (.t 19) gd) 14 bW))<|oq (og cd true bT (oe (.conv .i32 (.t 20)) 15 bT))<|oq (og cd true bY (aA 116 oR bY))<|oq (og cd true bZ (oe wN 17 bZ))<|aI cd cu bQ ci<|aa ct cp<|bd cB true cz oH<|oq (og cB true cC (aA 129 wR cC))<|oq (og cB true cI (oe (.un .not (.t 27)) 22 cI))<|aI cB cR bQ cL<|om dg bx)<|cx 0⟩
def j63 : FFn := ⟨2,9,[(4,none)],qr 2 (bL 147 aj 0 bu<|om bQ aF)<|qr 5 (aa ah aC<|oq (oe (.mkfn (.func 131) [] [(.t 3)]) 1 aB)<|ax 130 jU aG<|oq (oe mC 3 aJ)<|om az aF)<|cx 0⟩
def j64 : FFn := ⟨2,9,[(4,none)],qr 2 (bL 153 aj 0 bu<|om bQ aF)<|qr 5 (aa ah aC<|oq (oe (.mkfn (.func 133) [] [(.t 3)]) 1 aB)<|ax 132 jU aG<|oq (oe mC 3 aJ)<|om az aF)<|cx 0⟩
def j65 : FFn := ⟨1,95,[(2,none)],qr 2 (bL 152 ah 0 eg<|om bQ bx)<|cq (qr 8 (aw 0 aj aG<|ap ay aJ<|oq (oP (bF az kJ) aV)<|aa aL bb<|oq (og aD false bc (oP jg bc))<|bd aD false bi jh<|oq (og aD false bh (oP (cY bo oN) bh))<|oP w7 bz)<|ak bt wA (ck))<|cq (aX 6 (dw (aA 134 (fun _ => []) bl)<|dy (oP jg br)<|dq (dl 1 [] oD)<|dy (oe (.indexAgg 10 4 (some 4) (.t 15) (.t 17)) 3 bK)<|dq (dm 4 BL)<|dq (da 0 [(4,0)] (ot 4 aM cd np))<|cw) (cj (cm bA 1 [] oD)<|cn) [])<|cq (aX 13 (dy (oP jg bP)<|dy na<|dy (oP (bk bS nq) bT)<|dy (om cg bY)<|dy (og ce false bZ (oP jg bZ))<|dy (og ce false ci lw)<|dy (og ce false cp (oP (bk ct lB) cp))<|dy (oP (ba ce cQ cB) cz)<|dy (oP jg cC)<|dy qd<|dy (oP (bk cR nq) cL)<|dy (om cG aF)<|dy (om dg aC)<|cw) (cn) [])<|qr 45 (aw 3 aM cP<|ap de cX<|aw 1 aj db<|ap dV dn<|ax 135 (w2 dh dA) dj<|aa dC dt<|oq (og dx true dD (oP lQ dD))<|bd dx true du wb<|oq (og dx true dB (oP (bF dH al) dB))<|bd dx true dJ (om dP dJ)<|oq (og dK false dM (oP jf dM))<|bd dK false dY qf<|oq (og dK false ei (oP (eN fo) ei))<|oq (og dK false dW (oP lQ dW))<|bd dK false ep (ol fa ep)<|oq (og dK false ew (oP (bk fg eu) ew))<|oq (og dx true eo (oP (ba dK cQ eH) eo))<|aI dx eK bQ eS<|aa eY eZ<|oq (og eB true fd (oP jP fd))<|bd eB true ft oE<|oq (og eB true fk (oP (eN fP) fk))<|oq (og eB true fx (oP jy fx))<|bd eB true fz (ol gE fz)<|oq (og eB true fU (oP (bk gc fY) fU))<|aI eB gg bQ gh<|aa gJ ge<|bd gD true fT (om aS fT)<|bd gD true gu (om gV gu)<|oq (og gF false gA (oP sA gA))<|bd gF false gM qg<|oq (og gF false gS (oP (eN gI) gS))<|oq (og gF false gR (oP (bk im al) gR))<|oq (og gD true gL (oP (ba gF cQ hZ) gL))<|aI gD iz bQ dX<|aa eD ek<|bd ef true dO (om aN dO)<|bd ef true ec (om el ec)<|oq (og eF false eC (oP (bX 5 aj) eC))<|bd eF false dN (ol dL dN)<|oq (og eF false dS (oP (eN dI) dS))<|oq (og eF false ee (oP (bk fc al) ee))<|oq (og ef true ej (oP (ba eF cQ eL) ej))<|aI ef fh bQ er<|om fq aB)<|qr 22 (aa aW e9<|aa eR eJ<|oq (og dz true eO (oP jf eO))<|bd dz true e7 (ol fR e7)<|oq (og dz true fe (aA 136 (fun T => [fF T,(.fn (.func 137) [] [])]) fe))<|aI dz fE bQ fK<|aa fD gm<|oq (og fQ true f0 (oP jP f0))<|bd fQ true fV (ol ic fV)<|oq (og fQ true gk (aA 138 (fun T => [ib T,(.fn (.func 139) [] [])]) gk))<|aI fQ eE bQ gN<|aa gp gj<|oq (og gy true fJ (oP sA fJ))<|bd gy true gx (ol gX gx)<|oq (og gy true gi (aA 64 (fun T => [ir T,(.fn (.func 65) [] [])]) gi))<|aI gy iq bQ gw<|aa ip gU<|oq (og ia true hO (oP (bX 5 aj) hO))<|bd ia true gT (ol jx gT)<|oq (og ia true hY (aA 64 (fun T => [io T,(.fn (.func 65) [] [])]) hY))<|aI ia iU bQ g9<|om hP bx)<|cx 0⟩
def j66 : FFn := ⟨2,9,[(4,none)],qr 2 (bL 155 aj 0 bu<|om bQ aF)<|qr 5 (aa ah aC<|oq (oe (.mkfn (.func 141) [] [(.t 3)]) 1 aB)<|ax 140 jU aG<|oq (oe mC 3 aJ)<|om az aF)<|cx 0⟩
def j68 : FFn := ⟨2,9,[(4,none)],qr 2 (bL 97 aj 0 bu<|om bQ aF)<|qr 5 (aa ah aC<|oq (oe (.mkfn (.func 142) [] [(.t 3)]) 1 aB)<|ax 27 jU aG<|oq (oe mC 3 aJ)<|om az aF)<|cx 0⟩
def j70 : FFn := ⟨3,19,[],qr 5 (aa ah aB<|oq (oe s8 1 aG)<|aw 2 ay aJ<|ap az aV<|oP (bk aL al) bb)<|ak aD (aq 10 (aa ah bc<|aa ah bi<|aa aj bh<|aa aK bz<|oq (oe tg 4 bl)<|aw 1 bq br<|oq (dk bw bf np)<|oq (oe uv 7 bD)<|aw 2 bA bK<|dk cd bt np)) (ck)⟩
def j71 : FFn := ⟨2,19,[(4,none)],cq jD<|cq d34<|cq d9<|cx 0⟩
def j72 : FFn := ⟨3,67,[],cq WC<|aQ 1 (cE 1000000 (cq Co<|cq oY<|cq (aQ 3 (qr 4 (aY 7 ay aL bc<|aH 7 bj bi<|oq (oa 152 qJ 2 aC)<|ot 7 aN bo np)<|cq (qr 2 (aw 0 aN bh<|ol bf bz)<|aQ 5 (cq (cq WI<|ak bq (ck) (aq 2 (oq (oP (bk bt lA) bD)<|om bA bl)))<|ak bq (aq 6 (ap aj bK<|aw 1 aN bP<|ap bO bW<|aw 6 aN bT<|ap cg bY<|aA 73 (fun T => [cd T,bS T,p8,ce T]) bZ)) (qr 2 (oq (oP (bk bt kI) cp)<|om cB ci)<|ak ct (aq 6 (ap aj cz<|aw 1 aN cC<|ap cU cI<|aw 6 aN cL<|ap dg cP<|aA 73 (fun T => [cG T,cR T,p9,de T]) cX)) (qr 2 (oq (oP (bk bt oN) dn)<|om dA db)<|ak dV (qr 8 (ap aj dj<|aw 1 aN dt<|ap dx dD<|aw 6 aN du<|ap dH dB<|oq (aA 73 (fun T => [dC T,dF T,vZ,dP T]) dJ)<|oq (oa 89 [eG,aE] 6 aB)<|ot 2 aW dK np)<|aq 10 (ap aj dM<|aw 1 aW dY<|ap fo ei<|aw 2 aN dW<|ap fa ep<|aP eu ew<|fm fg eH eo<|aw 6 aN eS<|ap eY eZ<|aA 26 (fun T => [eI T,eK T,eB T,(.int .i64 114)]) fd)) (ck)))))<|qr 4 (ap aj ft<|aw 2 aN fk<|ap gc fx<|aA 74 Bw fz)<|qr 4 (ap aj fU<|aw 3 aN gh<|ap gJ ge<|aA 75 (w2 gg gD) fT)<|qr 4 (ap aK gu<|aw 4 aN gA<|ap i6 gM<|b5 gF (w1 gI) gS)<|aq 4 (ap aK gR<|aw 5 aN gL<|ap iz dX<|b5 hZ (w1 eD) ek)))<|aq 2 (aT aL bE dO<|om el aV)))⟩
def j73 : FFn := ⟨4,37,[(8,(some (some 2)))],qr 1 (oa 89 [eG,aE] 0 aJ)<|qr 12 (aa ah bi<|oq (oe uv 1 bh)<|aw 0 bf bz<|ap bt bl<|aa aj br<|oq (oe (.lookup .str (.agg [eG,aE]) (.t 15) (.t 16) true) 5 bD)<|aa bA bc<|ai 0 bj bK<|ai 1 bj bP<|oq (oa 89 [eG,aE] 9 aV)<|cN 2 aL cd np<|om bO bb)<|qr 9 (aa ah bW<|aa aD bT<|aa cg bY<|oq (og ce true bZ (oP (bX 0 aL) bZ))<|bd ce true ci lw<|oq (og ce true cp (oP (cJ ct lA) cp))<|aI ce cB bQ cz<|aa aM cC<|aA 26 (fun T => [bS T,cG T,cU T,(.int .i64 110)]) cI)<|qr 7 (aa ah cL<|aw 0 aL cP<|ap de cX<|aa aK db<|fm dh dV dn<|aa aM dj<|aA 26 (fun T => [dg T,dA T,dC T,(.int .i64 112)]) dt)<|qr 2 (aH 2 aL dD<|ot 2 az dF np)<|cx 0⟩
def j74 : FFn := ⟨2,35,[],cq BY<|aQ 1 (cE 1000000 (cq x9<|cq nD<|cq (aQ 3 (qr 4 (aY 5 aW az bb<|aH 5 aD bc<|oq (oa 185 kH 2 aC)<|ot 5 aN bj np)<|cq (qr 2 (aw 0 aN bi<|ol bo bh)<|aQ 5 (qr 2 (oq (oP (bk bf m7) bl)<|om bq bz)<|ak bt (aq 6 (aa ah br<|aw 1 aN bD<|ap bA bK<|aw 4 aN bP<|ap bO bW<|aA 73 (fun T => [bw T,cd T,p8,bS T]) bT)) (qr 2 (oq (oP (bk bf kI) bZ)<|om cu bY)<|ak ce (aq 6 (aa ah ci<|aw 1 aN cp<|ap cB cz<|aw 4 aN cC<|ap cU cI<|aA 73 (fun T => [ct T,cG T,p9,cR T]) cL)) (ck))))<|aq 4 (aa ah cP<|aw 3 aN cX<|ap dh db<|aA 74 Ub dn)))<|aq 2 (aT az bE dj<|om dC aJ)))⟩
def j75 : FFn := ⟨2,21,[],cq BY<|aQ 1 (cE 1000000 (cq x9<|cq nD<|cq (aQ 3 (qr 4 (aY 4 aW az bb<|aH 4 aD bc<|oq (oa 248 ux 2 aC)<|ot 4 aN bj np)<|qr 4 (aa ah bi<|aw 1 aN bh<|ap bf bz<|aA 74 qv bl)<|aq 4 (aa ah br<|aw 2 aN bD<|ap bA bK<|aA 75 xe bP)))<|aq 2 (aT az bE bW<|om bS aJ)))⟩
def j76 : FFn := ⟨1,8,[(2,none)],cq j1<|cq pY<|qr 4 (oq (ob 86 2 [] 0 [] 0 aC)<|aa ah aB<|oq (oe (.append 2 24 86 [di,aE] (.t 5) (.t 6)) 2 aG)<|om ay bx)<|cx 0⟩
def j77 : FFn := ⟨3,70,[(6,none)],cq qp<|cq (qr 3 (aa aj aV<|aP aL bb<|om al bc)<|aQ 1 (cE 1000000 (cq xk<|cq tu<|cq (aQ 3 (qr 4 (aY 7 aL bj bh<|aH 7 bf bz<|oq (oa 152 qJ 2 aJ)<|ot 7 az bt np)<|cq (qr 2 (aa ah bl<|aA 78 mF br)<|ak bw (cx 0) (ck))<|cq (qr 3 (aw 0 az bD<|ap bA bK<|oP (bk cd oN) bP)<|ak bO (qr 7 (aa aW bW<|aa ah bT<|aH 7 az bY<|aa aK bZ<|ax 143 (w3 cg ce cu) ci<|oq (oe (.append 7 128 152 qJ (.t 20) (.t 24)) 5 cp)<|om cB aB)<|cx 3) (ck))<|qr 8 (aa ah cz<|oq (oe oV 1 cC)<|aw 3 cU cI<|ap cR cL<|aT dg bE cP<|oq (oe oV 5 cX)<|aw 3 dh db<|dk dV de np)<|cq (qr 3 (aw 0 az dn<|ap dA dj<|oP (cJ dC kI) dt)<|ak dx (aq 6 (aa aK dD<|aw 1 az du<|ap dH dB<|ax 144 (w2 dF dP) dJ<|aw 1 az dM<|dk eI dK np)) (ck))<|cq (aX 14 (dy (oP (bX 2 az) dY)<|dy nb<|dy (om aK dW)<|dy (oe (.mkfn (.func 146) [(.t 43)] []) 3 ep)<|dw (aA 145 Ui ew)<|dy (oP (bX 3 az) eo)<|dq (dl 1 [] wi)<|dy (om aK eZ)<|dy (oe (.mkfn (.func 148) [(.t 48)] []) 8 fd)<|dw (aA 147 (w2 eY gK) ft)<|dy (oP (bX 2 az) fk)<|dw (dk gc eH np)<|dy (oP (bX 3 az) fx)<|dw (dk gE fP np)<|cw) (cj (cm eY 3 [] wi)<|cn) [])<|cq (aX 14 (dy (om ah fz)<|dy (oP (bX 4 az) fU)<|dy wj<|dy (om aK ge)<|dw (aA 77 (w3 fY gJ gD) fT)<|dy (om ah gu)<|dy (oP (bX 5 az) gA)<|dq (dl 1 [] qg)<|dy (om aK gS)<|dw (aA 77 (w3 gF gI im) gR)<|dy (oP (bX 4 az) gL)<|dw (dk iz gV np)<|dy (oP (bX 5 az) dX)<|dw (dk eD hZ np)<|cw) (cj (cm gI 3 [] qg)<|cn) [])<|aq 5 (aa aW ek<|aH 7 az dO<|oq (ob 152 7 qJ 1 [((0,7),el)] 2 ec)<|oq (oe (.append 7 128 152 qJ (.t 65) (.t 67)) 3 eC)<|om dL aB)))<|aq 2 (aT bj bE dN<|om dI bc))))<|cx 0⟩
def j78 : FFn := ⟨1,16,[(2,none)],cq oy<|qr 14 (aa ah bu<|oq (oe qj 1 aF)<|aw 3 aS aC<|ap aN aB<|oq (oP (cY aW (kc (.int .i64 256))) aG)<|aa ay aJ<|bd az false aV wk<|oq (og az false bb (oe Ay 7 bb))<|oq (og az false bc (oP (bX 2 aD) bc))<|bd az false bi jh<|oq (og az false bh tj)<|oq (og az false bz (oP (cY bf BC) bz))<|aI az cQ bt bl<|om bq bx)<|cx 0⟩
def j79 : FFn := ⟨1,8,[(2,none)],cq j1<|cq pY<|qr 4 (oq (ob 91 3 [] 0 [] 0 aC)<|aa ah aB<|oq (oe (.append 3 32 91 [di,aE,aE] (.t 5) (.t 6)) 2 aG)<|om ay bx)<|cx 0⟩
def j80 : FFn := ⟨6,32,[],qr 1 (ox 62 aS 0 bb)<|qr 5 (aa ah bi<|aa aN bh<|ax 149 tC bz<|aw 3 aD bl<|dk bq bt np)<|aX 17 (dy oF<|dy sK<|dy (oe AO 2 bK)<|dy A6<|dy (oP (bX 5 bO) bW)<|dy qb<|dy (om aj bY)<|dy (om aK bZ)<|dy (bM 4 aD ci)<|dy (om aM cp)<|dy (oP (cT m5 [((0,1),ce),((1,1),cu),((2,4),ct),((6,1),cB)]) cz)<|dq (dm 11 (ob 64 7 m5 1 [((0,7),cG)] 11 cC))<|dq (da 0 [(11,0)] (oe (.append 7 72 64 m5 (.t 21) (.t 27)) 12 cI))<|dy (oe (.nilCheck (.t 16)) 13 cL)<|dy (oP (bX 0 dg) cP)<|dy (oP (bX 5 de) cX)<|dw (dk dh cR np)<|cw) (cn) []⟩
def j81 : FFn := ⟨1,18,[(2,none)],cq jp<|qr 10 (aa ah bu<|oq (oe qj 1 aF)<|aw 0 aS aC<|aw 2 aN aB<|ap aW aG<|aT ay bE aJ<|oq (oe qj 6 aV)<|aw 0 aL bb<|aw 2 aD bc<|dk bj az np)<|qr 7 (aa ah bi<|oq (oe uv 1 bh)<|aw 0 bf bz<|aw 2 bt bl<|ap bq br<|ed bw bE bD<|om bA bx)<|cx 0⟩
def j82 : FFn := ⟨4,180,[],qr 1 (ox 152 aj 0 aC)<|cq VQ<|aQ 1 (qr 2 (oq (oP (bk bw kJ) bK)<|om cd bD)<|ak bA (aq 7 (aa ah bP<|aa aK bW<|aa aM bT<|aw 6 aN bY<|ap ce bZ<|oq (oP TY ci)<|aA 80 (fun T => [bO T,bS T,cg T,cu T,ct T,.nilSl]) cp)) (qr 2 (oq (oP (bk bw m7) cC)<|om cU cz)<|ak cG (aX 16 (dy (om ah cI)<|dy (om aK cL)<|dy (om aM cP)<|dy (oP vY cX)<|dy sF<|dy sM<|dy (oe qm 6 dj)<|dy (oP (bX 6 dC) dt)<|dy jR<|dy (oP vV du)<|dy wc<|dy (oe (.lookup .str aE (.t 36) (.t 38) false) 11 dJ)<|dy (oP (cT vT [((0,1),kI),((1,1),dK)]) dM)<|dy (oP (bX 2 aN) dY)<|dy nb<|dw (aA 80 (fun T => [cR T,dg T,de T,dV T,eI T,fg T]) dW)<|cw) (cn) []) (qr 2 (oq (oP (bk bw kI) ew)<|om eH ep)<|ak eu (aX 16 (dy (om ah eo)<|dy (om aK eS)<|dy (om aM eZ)<|dy (oP vY fd)<|dy oE<|dy (om ah fk)<|dy (oe (.nilCheck (.t 51)) 6 fx)<|dy (oP (bX 7 gE) fz)<|dy (ol fY fU)<|dy (oP vV gh)<|dy (ol gJ ge)<|dy (oe (.lookup .str aE (.t 54) (.t 56) false) 11 fT)<|dy (oP (cT vT [((0,1),lA),((1,1),gV)]) gu)<|dy (oP (bX 2 aN) gA)<|dy qg<|dw (aA 80 (fun T => [eK T,eY T,eB T,fP T,gF T,gI T]) gS)<|cw) (cn) []) (qr 2 (oq (oP (bk bw lA) gL)<|om iz gR)<|ak hZ (aX 14 (dy (om ah dX)<|dy (om aK ek)<|dy (om aM dO)<|dy (oP vY ec)<|dy Af<|dy (om ah dN)<|dy (oe AU 6 dS)<|dy (oP (bX 6 fc) ee)<|dy (ol eL ej)<|dy (oP vV er)<|dy Ag<|dy (oe (.lookup .str aE (.t 72) (.t 74) false) 11 eJ)<|dy (oP (cT vT [((0,1),nm),((1,1),dz)]) eO)<|dw (aA 80 (fun T => [eD T,ef T,el T,dL T,fR T,.nilSl]) e7)<|cw) (cn) []) (cq (qr 2 (oq (oP (bk bw nm) fK)<|om fD fe)<|ak fE (ck) (aq 2 (oq (oP (bk bw pp) gm)<|om fQ fe)))<|ak fE (qr 4 (aa ah f0<|ax 81 (w1 ic) fV<|aa ib aJ<|om lB aV)<|cq (qr 3 (aw 0 aN gk<|ap eE gN<|oP (bk gp pp) gj)<|ak gy (aq 1 (om nq aV)) (ck))<|qr 10 (aa ah fJ<|aw 3 aN gx<|ap ir gi<|aY 4 iq al gw<|aH 4 ip gU<|ax 150 (w2 gX ia) hO<|aa aK gT<|aa aM hY<|aa az g9<|b5 jx (w3 io iU hP) ig)<|aX 12 (dy (om ah iF)<|dy (om az iD)<|dy (om ah iP)<|dy (oe (.nilCheck (.t 98)) 3 iO)<|dy (oP (bX 0 iJ) iN)<|dy (oP (bX 4 iS) iM)<|dy (ol jN jb)<|dy (oP vY jt)<|dy (ol j0 js)<|dy (om aL ja)<|dy (oP (cT vT [((0,1),iR)]) i9)<|dw (aA 80 (fun T => [iT T,jw T,kz T,gW T,jZ T,.nilSl]) jG)<|cw) (cn) []) (qr 2 (oq (oP (bk bw nq) jF)<|om jY jr)<|ak kw (qr 6 (aa ah jE<|ax 81 (w1 jM) jW<|aa ah jV<|ax 81 (w1 lh) kp<|aa jv bb<|om jX bc)<|qr 10 (aa ah kS<|aw 3 aN lM<|ap lf kR<|aY 4 ld al ko<|aH 4 la kn<|ax 150 (w2 lg kZ) kQ<|aa aK kP<|aa aD kO<|aa bj kN<|b5 mw (w3 kv mt mr) mN)<|qr 8 (aa ah mM<|aw 4 aN ml<|ap ku mj<|aa aD lL<|aa aM lK<|aw 6 aN mi<|ap mX mh<|aA 32 (fun T => [mp T,mY T,n9 T,mo T,n8 T]) mg)<|aq 8 (aa ah mf<|aw 5 aN mL<|ap pQ nR<|aa bj rr<|aa aM pJ<|aw 6 aN pI<|ap se rq<|aA 32 (fun T => [pR T,pP T,pO T,pN T,sd T]) rp)) (qr 2 (oq (oP (bk bw lB) rm)<|om vQ rn)<|ak sa (qr 9 (aa ah rl<|ax 81 (w1 r9) rk<|aa ah rj<|ax 81 (w1 vP) ri<|aa ah rh<|ax 81 (w1 r7) vd<|aa r8 bi<|aa vO bh<|om vN bz)<|qr 7 (aa ah yW<|aa aK yV<|aa bo yU<|aw 6 aN yT<|ap zM yS<|oq (oP Bf yR)<|aA 80 (fun T => [zO T,Tn T,zN T,Tl T,zL T,.nilSl]) yQ)<|qr 7 (aa ah yP<|aa bo va<|aa bf u9<|aw 6 aN u7<|ap zI yO<|oq (oP TY yN)<|aA 80 (fun T => [pM T,zK T,zJ T,zH T,Tj T,.nilSl]) yM)<|qr 10 (aa ah yL<|aw 3 aN yK<|ap zF yJ<|aY 4 zD al K2<|aH 4 r6 yI<|ax 150 (w2 zG Th) yH<|aa bf yG<|aa bt K0<|aa aM KZ<|b5 g247 (w3 Tg Tf Te) KY)<|aq 8 (aa ah s254<|aw 4 aN s255<|ap g255 s256<|aa bt s257<|aa bo s260<|aw 6 aN s261<|ap g261 s262<|aA 32 (fun T => [g254 T,g256 T,g257 T,g260 T,g262 T]) s263)) (ck))))))))⟩
def j83 : FFn := ⟨2,12,[(4,none)],cq jT<|qr 8 (aa ah aC<|fW aN al aB<|aa aW aG<|bd ay true aJ (om ah aJ)<|bd ay true aV (om aj aV)<|oq (og ay true bb (oP (bF az aL) bb))<|aI ay aD bQ bc<|om bj aF)<|cx 0⟩
def j84 : FFn := ⟨2,9,[(4,none)],cq jT<|qr 5 (aa ah aC<|aa aj aB<|ax 151 jU aG<|fW ay al aJ<|om az aF)<|cx 0⟩
def j86 : FFn := ⟨2,9,[(4,none)],cq jT<|qr 5 (aa ah aC<|aa aj aB<|ax 152 jU aG<|fW ay al aJ<|om az aF)<|cx 0⟩
def j87 : FFn := ⟨2,25,[(3,none)],qr 2 (bL 64 ah 0 bx<|om bQ bu)<|qr 22 (aw 0 aK aF<|ap aS aC<|aw 2 aj aB<|ap aW aG<|ax 83 Bh aJ<|oq (oe (.un .not (.t 8)) 5 aV)<|aa aL bb<|oq (og aD false bc zZ)<|bd aD false bi jh<|oq (og aD false bh (oP jf bh))<|bd aD false bz ji<|oq (og aD false bl (aA 83 qv bl))<|oq (og aD false br (oe Az 12 br))<|aI aD cQ bw bD<|aa bA bK<|bd cd false bP (bM 6 aj bP)<|oq (og cd false bW (oP vW bW))<|bd cd false bT (bM 4 bS bT)<|oq (og cd false bY (aA 88 Bl bY))<|oq (og cd false bZ (oe wN 19 bZ))<|aI cd cQ cu ci<|om ct bu)<|cx 0⟩
def j88 : FFn := ⟨2,75,[(4,none)],qr 3 (bL 43 ah 0 bx<|bL 62 aj 1 bu<|om bQ aF)<|cq (aX 13 (dy (oP (cT [aE,aE,aE,aE,aE,aE,aE,aE,aE] [((3,1),bE),((4,1),iY),((6,1),iY)]) aJ)<|dy (oP mB aV)<|dy (ol aL bb)<|dy zW<|dy jh<|dy (oP sV bh)<|dy ji<|dy (oP (eN bt) bl)<|dy (oP (cT [aE,aE,aE,aE,aE,aE,aE,aE,aE] [((3,1),aD),((5,1),bo),((4,1),bq),((1,1),bE),((2,1),bE),((6,1),bE),((7,1),bE),((8,1),bE)]) br)<|dq (dm 9 (oa 262 [aE,aE,aE,aE,aE,aE,aE,aE,aE] 9 aC))<|dq (dm 10 (oa 262 [aE,aE,aE,aE,aE,aE,aE,aE,aE] 10 aB))<|dq (da 0 [(9,1),(10,0)] (ot 9 aN az np))<|dw (ot 9 aW bw np)<|cw) (cj (cm aD 1 [] (ol aL bb))<|cj (cm bo 1 [] jh)<|cj (cm bt 1 [] ji)<|cn) [])<|cq (cq (aX 28 (dy (oP lQ bD)<|dy m9<|dy (oP (bF cd kJ) bP)<|dy (om bO bW)<|dy (og bS false bT (oP lQ bT))<|dy (og bS false bY lp)<|dy (og bS false bZ (oP (cY ce lB) bZ))<|dy (oP (ba bS cQ cu) ci)<|dy (om ct cp)<|dy (og cB false cz (oP j2 cz))<|dy (og cB false cC qc)<|dy (og cB false cI (oP lQ cI))<|dy (og cB false cL lx)<|dy (og cB false cP (oe (.indexArr 9 1 (.t 6) (.t 29)) 13 cP))<|dy (og cB false cX wa)<|dw (og cB false db (aA 83 (w2 cU dh) db))<|dy (og cB false dn (oe (.un .not (.t 32)) 16 dn))<|dy (oP (ba cB cQ dA) dj)<|dy (om dC dt)<|dy (og dx false dD (oP vX dD))<|dy (og dx false du wb)<|dy (og dx false dB (oP (eN dH) dB))<|dy (og dx false dJ (oP lQ dJ))<|dy (og dx false dM wh)<|dy (og dx false dY (oe (.indexArr 9 1 (.t 5) (.t 40)) 24 dY))<|dy (og dx false ei nb)<|dy (og dx false dW (oP (cJ dP fg) dW))<|dy (oP (ba dx cQ fa) ep)<|cw) (cn) [])<|ak eu oJ (ck))<|cq (qr 23 (aw 0 aM ew<|ap eH eo<|oq (oP (cJ eK pp) eS)<|aa eY eZ<|oq (og eB true fd (oP jy fd))<|bd eB true ft oE<|oq (og eB true fk (oP (cJ fP ou) fk))<|aI eB gc bQ fx<|aa gE fz<|oq (og fY false fU (oP lQ fU))<|bd fY false gh wj<|oq (og fY false ge (oP (bk gJ pp) ge))<|bd fY false fT (om gD fT)<|oq (og gV true gu (oP jy gu))<|bd gV true gA (ol gF gA)<|oq (og gV true gM (oP (bF i6 kI) gM))<|bd gV true gS (om gI gS)<|oq (og im false gR (oP jy gR))<|bd im false gL (ol hZ gL)<|oq (og im false dX (oP (cY iz lB) dX))<|oq (og gV true ek (oP (ba im cQ eD) ek))<|oq (og fY false dO (oP (ba gV ef bQ) dO))<|oP (ba fY cQ el) ec)<|ak eF oJ (ck))<|qr 4 (aH 6 aK eC<|ax 153 (w1 dL) dN<|nU 245 lm 2 aG<|dk ay dI np)<|qr 6 (aw 3 aM dS<|ap fc ee<|oq (oe (.mkfn (.func 155) [] [(.t 7)]) 2 ej)<|ax 154 UC er<|oq (oe (.un .not (.t 73)) 4 e9)<|om eR aF)<|cx 0⟩
def j89 : FFn := ⟨1,26,[(2,none)],qr 2 (bL 43 ah 0 eg<|om (kc .nilMap) bx)<|qr 2 (mP (.mkmap) 0 aB<|om aW bu)<|cq (qr 4 (aw 5 aj aG<|ap ay aJ<|aP az aV<|om al bb)<|aQ 1 (cE 1000000 (cq tK<|cq tq<|cq (aQ 3 (qr 4 (aY 7 az aD bi<|aH 7 bo bh<|oq (oa 64 m5 2 aC)<|ot 7 aN bf np)<|aX 11 (dy (om aM bz)<|dy (oP sw bl)<|dy ka<|dy sR<|dy (oP sw bK)<|dy jQ<|dy (oe (.lookup .int .nilSl (.t 17) (.t 19) false) 6 bW)<|dy (bM 7 aN bT)<|dq (dm 8 (ob 64 7 m5 1 [((0,7),cg)] 8 bY))<|dq (da 0 [(8,0)] (oe (.append 7 72 64 m5 (.t 20) (.t 22)) 9 bZ))<|dw (oe (.mapUpd .int (.t 14) (.t 16) (.t 23)) 10 np)<|cw) (cj (cm bw 1 [] ka)<|cn) []))<|aq 2 (aT aD bE ci<|om ct bb))))<|qr 2 (aa aM cp<|om cB bx)<|cx 0⟩
def j90 : FFn := ⟨1,58,[(2,none)],cq oy<|cq (qr 3 (aa ah bu<|aP aM aF<|oP (bk aS bE) aC)<|ak aN (qr 7 (aa ah aB<|aY 7 aW al aG<|aw 2 ay aJ<|aw 0 az aV<|ap aL bb<|oq (oP (cJ aD pp) bc)<|om bj bx)<|cx 0) (ck))<|cq (aX 47 (dy wm<|dy tj<|dy (oP (bk bf iY) bz)<|dy (om bt bl)<|dy (og bq true br oF)<|dy (og bq true bD (oP (bU 7 bw al) bD))<|dy (og bq true bK (oP (bX 2 bA) bK))<|dy (og bq true bP A6)<|dy (og bq true bW na)<|dy (og bq true bT (oP (bk bS pp) bT))<|dy (oP (ba bq cg bQ) bY)<|dy (om ce bZ)<|dy (og cu true ci wo)<|dy (og cu true cp (oP (bU 7 ct bE) cp))<|dy (og cu true cz (oP (bX 2 cB) cz))<|dy (og cu true cC (oP (bX 0 cG) cC))<|dy (og cu true cI qd)<|dy (og cu true cL (oP (bk cR pp) cL))<|dy (oP (ba cu dg bQ) cP)<|dy (om de cX)<|dy (og dh true db (om ah db))<|dy (og dh true dn (oP (bU 7 dV bE) dn))<|dy (og dh true dj (oP (bX 2 dA) dj))<|dy (og dh true dt (oP (bX 2 dC) dt))<|dy (og dh true dD jR)<|dy (og dh true du (om ah du))<|dy (og dh true dB (oP (bU 7 dH al) dB))<|dy (og dh true dJ (oP (bX 2 dP) dJ))<|dy (og dh true dM (oP (bX 2 dK) dM))<|dy (og dh true dY qf)<|dw (og dh true ei (aA 156 AF ei))<|dy (og dh true dW (oP (bk dF fg) dW))<|dy (oP (ba dh fa bQ) ep)<|dy (om eu ew)<|dy (og eH true eo (om ah eo))<|dy (og eH true eS (oP (bU 7 eK al) eS))<|dy (og eH true eZ (oP (bX 2 eY) eZ))<|dy (og eH true fd (oP (bX 3 eB) fd))<|dy (og eH true ft oE)<|dy (og eH true fk (om ah fk))<|dy (og eH true fx (oP (bU 7 gc bE) fx))<|dy (og eH true fz (oP (bX 2 gE) fz))<|dy (og eH true fU (oP (bX 3 fY) fU))<|dy (og eH true gh wj)<|dw (og eH true ge (aA 157 (fun T => [fP T,gJ T,(.fn (.func 158) [] [])]) ge))<|dy (oP (ba eH gD bQ) fT)<|dy (om gV bx)<|cw) (cj (cm dF 1 [] (og dh true dD jR))<|cn) [])<|cx 0⟩
def j91 : FFn := ⟨2,27,[],qr 1 (ox 176 ah 0 bx)<|qr 1 (oa 183 lm 0 bu)<|qr 2 (oq (oe (.mkfn (.func 92) [] [(.t 2),(.t 3)]) 0 aF)<|dk aM aS np)<|qr 17 (ap aM aC<|aw 2 aj aB<|aw 3 aW aG<|ap ay aJ<|jH aN m6 aV<|aa aL bb<|oq (og aD true bc (oP jf bc))<|oq (og aD true bi qq)<|bd aD true bh sE<|oq (og aD true bz (oP (bk bf kI) bz))<|bd aD true bl (om bt bl)<|oq (og bq false br (oP jf br))<|oq (og bq false bD (oP (bX 0 bw) bD))<|bd bq false bK m9<|oq (og bq false bP (oP (bk cd nm) bP))<|oq (og aD true bW (oP (ba bq cQ bO) bW))<|oP (ba aD bS bQ) bT)<|ak cg (aq 5 (ap aK bY<|aw 2 aj bZ<|aw 1 cu ci<|ap ct cp<|b5 ce oS cz)) (ck)⟩
def j92 : FFn := ⟨3,31,[(4,none)],cq jT<|cq (cq WC<|aQ 1 (cE 1000000 (cq Co<|cq oY<|cq (aQ 3 (cq W5<|qr 17 (aw 0 aW bh<|ap bf bz<|oq (oP (bk bt m7) bl)<|aa bq br<|bd bw true bD (ol aj bD)<|oq (og bw true bK (oP (bX 2 aW) bK))<|bd bw true bP jQ<|oq (og bw true bW (b5 bA oQ bW))<|oq (og bw true bT (oe AA 8 bT))<|aI bw cg bQ bY<|aa ce bZ<|bd cu false ci (ol aK ci)<|oq (og cu false cp (oP (bX 3 aW) cp))<|bd cu false cz (ol cB cz)<|oq (og cu false cC (b5 ct wR cC))<|oq (og cu false cI (oe (.un .not (.t 27)) 15 cI))<|oP (ba cu cQ cR) cL)<|ak dg oJ (ck)))<|aq 2 Va)))<|cq A5<|cx 0⟩
def j93 : FFn := ⟨4,134,[],qr 1 (om cQ aJ)<|qr 1 (om cQ aV)<|aQ 1 (cE 1000000 (aQ 3 (cq WX<|cq (cq WU<|ak cu (qr 4 (aa ah ci<|aa aj cp<|aa aK cz<|aA 159 U1 cC)<|cx 0) (ck))<|cq (cq Wn<|ak dg (qr 4 (aa ah cP<|aa aj cX<|aa aK db<|aA 160 U2 dn)<|cx 0) (ck))<|cq (cq B1<|ak dx (qr 4 (aa ah dD<|aa aj du<|aa aK dB<|aA 161 U3 dJ)<|aq 3 Wh) (ck))<|qr 9 (aa ah dW<|aa aj ep<|aa aK ew<|ax 162 U6 eo<|aa eK ei<|ai 0 fg eS<|ai 1 fg eZ<|aa eY bc<|om eB bi)<|cq (cq Wr<|ak fP (qr 4 (aa ah fk<|aa aj fx<|aa aK fz<|aA 163 U8 fU)<|cq Xk<|aq 1 (om bE bi)) (ck))<|cq (cq d63<|ak dL (qr 4 (aa ah dN<|aa aj dS<|aa aK ee<|aA 164 VH ej)<|ak fh (cx 0) (ck)) (ck))<|cq (cq (aX 15 (dy (om aj er)<|dy Bz<|dy (om eR eJ)<|dy (og dz true eO (om ah eO))<|dy (og dz true e7 (om aj e7))<|dy (og dz true fe Ux)<|dy (og dz true fK UT)<|dy (og dz true gm wC)<|dy (og dz true f0 z7)<|dy (og dz true fV (om bj fV))<|dy (og dz true gk UU)<|dy (og dz true gN wD)<|dw (og dz true gj (aA 165 UD gj))<|dy (og dz true fJ (oe (.un .not (.t 85)) 13 fJ))<|dy Vv<|cw) (cn) [])<|ak ir (qr 6 (aa ah gi<|aa aj gw<|aa aK gU<|aa bj hO<|ax 166 Wb gT<|om io bh)<|cq VS<|cx 3) (ck))<|qr 10 (aa ah ig<|aa aj iF<|aa aK iD<|aa bj iP<|ax 167 Wc iO<|aa iJ g9<|ai 0 hP iN<|ai 1 hP iM<|aa iS bz<|om jN bl)<|cq VT<|cq Xp<|cq Xa<|cq WW<|ak jX (cq WZ<|qr 5 (aa ah ko<|aa aj kn<|aa bt kQ<|aa aM kP<|aA 93 Wd kO)<|aq 3 WH) (cq W0<|qr 6 (aa ah lL<|aa bt lK<|aT mo bE mi<|aa aK mh<|aa aM mg<|aA 93 We mf)<|aq 2 UM))))⟩
def j94 : FFn := ⟨1,8,[(2,none)],cq jp<|cq (ak bQ (qr 4 (aa ah bu<|oq (oe (.conv .u32 (.t 3)) 1 aF)<|ax 168 nr aC<|om aN bx)<|cx 0) (ck))<|qr 3 (aa ah aB<|ax 169 ll aG<|om ay bx)<|cx 0⟩
def j95 : FFn := ⟨3,91,[(6,none)],cq oX<|cq (qr 14 (aa ah bc<|iH bj al bi<|aa bo bh<|bd bf false bz nc<|oq (og bf false bl Un)<|aI bf cQ bq br<|aa bw bD<|bd bA false bK (om aj bK)<|oq (og bA false bP (oP (bF cd bE) bP))<|aI bA cQ bO bW<|aa bS bT<|bd cg false bY (om aj bY)<|oq (og cg false bZ (oP (cY ce ny) bZ))<|oP (ba cg cQ cu) ci)<|ak ct (qr 1 (om iY aB)<|cx 0) (ck))<|qr 2 (aa fu aG<|om fu aJ)<|cq (qr 3 (aa aK cp<|aP cB cz<|om al cC)<|aQ 1 (cE 1000000 (cq BI<|cq (ak cR (ck) (cx 1))<|cq (aQ 3 (qr 3 (aY 1 cB cU cL<|ap dg cP<|om de bb)<|cq (qr 14 (aa aD cX<|aP dh db<|iH dV bE dn<|aa dA dj<|bd dC false dt (om aD dt)<|oq (og dC false dD A2)<|bd dC false du (om aj du)<|oq (og dC false dB (oP (cY dF dH) dB))<|aI dC cQ dP dJ<|aa dK dM<|bd eI false dY (om aD dY)<|oq (og eI false ei (aA 170 AF ei))<|oq (og eI false dW (oe (.un .not (.t 42)) 12 dW))<|oP (ba eI cQ fa) ep)<|ak eu xj (ck))<|aq 11 (aa ay ew<|aa aD eo<|aY 1 eK al eS<|ap eY eZ<|oq (ob 3 1 [aE] 1 [((0,1),eB)] 4 fd)<|oq (oe (.append 1 8 3 [aE] (.t 45) (.t 49)) 5 ft)<|aa az fk<|aa aD fx<|oq (oe (.append 1 8 3 [aE] (.t 51) (.t 52)) 8 fz)<|aa fP aG<|om fY aJ)))<|aq 2 (aT cU bE fU<|om gg cC))))<|qr 2 (aa az gh<|aA 35 (w1 gJ) ge)<|cq (qr 34 (aa ay fT<|ax 170 (w1 gV) gu<|oq (oe (.un .not (.t 58)) 2 gA)<|aa i6 gM<|bd gI false gS (om az gS)<|oq (og gI false gR (aA 170 (w1 im) gR))<|oq (og gI false gL (oe (.un .not (.t 62)) 6 gL))<|aI gI cQ iz dX<|aa eD ek<|bd ef false dO (om az dO)<|oq (og ef false ec (oP (eN el) ec))<|bd ef false eC (om ah eC)<|oq (og ef false dN (oP (cJ eF dL) dN))<|aI ef cQ dI dS<|aa fc ee<|bd eL false ej (om ah ej)<|oq (og eL false er (oP (cY fh al) er))<|bd eL false e9 (om fq e9)<|bd eR true eJ (om az eJ)<|oq (og eR true eO (oP (bU 1 dz al) eO))<|bd eR true e7 (ol fR e7)<|oq (og eR true fe (oP (cJ fF al) fe))<|bd eR true fK (om fE fK)<|bd fD false gm (om az gm)<|bd fD false f0 z7<|oq (og fD false fV Uy)<|oq (og fD false gk (oP (bU 1 fQ ib) gk))<|bd fD false gN wD<|bd fD false gj z8<|oq (og fD false fJ (oP (fH gy bE) fJ))<|oq (og fD false gx (oP (cJ gp gX) gx))<|oq (og eR true gi (oP (ba fD cQ ir) gi))<|oq (og eL false gw (oP (ba eR iq bQ) gw))<|oP (ba eL cQ ip) gU)<|ak ia xj (ck))<|cq oX<|cx 0⟩
def j96 : FFn := ⟨2,56,[(4,(some (some 2))),(5,none)],qr 3 (bL 43 ah 0 bx<|oq (oa 123 em 1 aF)<|om al aC)<|cq (qr 4 (aH 6 aK bh<|aa aj bz<|ax 171 (fun T => [bf T,bt T,.nilSl]) bl<|om bq aB)<|qr 2 (aa aW br<|oP tn bD)<|ak bA (qr 4 (oq (oP kE bK)<|aa aW bP<|cN 2 aS cd np<|om bO aC)<|cx 0) (ck))<|qr 1 (oa 123 em 0 aG)<|cq (cq BZ<|aQ 1 (cE 1000000 (cq Cp<|cq tw<|cq (aQ 3 (qr 3 (aY 1 bS ce ci<|ap ct cp<|om cB aV)<|qr 9 (aa aL cC<|aP cU cI<|ax 172 tc cL<|aa dg cz<|ai 0 cG cP<|ai 1 cG cX<|oq (oa 284 gG 6 bb)<|cN 3 aD de np<|om dh bc)<|cq (qr 3 (aa aL db<|aP dV dn<|om al dj)<|aQ 5 (cE 1000000 (qr 1 (oP (bF dC dA) dt)<|cq (ak dx (ck) (cx 5))<|cq (aQ 7 (qr 2 (aa dC dD<|om dF bi)<|aX 11 (dy (bM 3 aD dB)<|dy (om aL dJ)<|dy (oP (eN dK) dM)<|dy (om bo dY)<|dw (aA 174 (fun T => [eI T,fo T,jS]) ei)<|dy (oP (cT jO [((0,1),fg),((1,1),cQ)]) dW)<|dw (aA 173 (w2 dP fa) ep)<|dy (om eu du)<|dy (oP (cA 0 dH) ew)<|dy (oP (cA 1 dH) eo)<|dw (ot 3 aD eH np)<|cw) (cj (cm dP 2 [] (bM 3 aD dB))<|cn) []))<|aq 2 (aT dC bE eS<|om eY dj))))<|aq 7 (aw 1 ay eZ<|ap eB fd<|aH 3 aD ft<|oq (ob 284 3 gG 1 [((0,3),fP)] 3 fk)<|oq (oe (.append 3 56 284 gG (.t 49) (.t 51)) 4 fx)<|aw 1 ay fz<|dk fY gE np)))<|aq 2 (aT ce bE fU<|om gg bY))))<|qr 3 (aH 2 ay gh<|cN 2 aS gJ np<|om al aC)<|cx 0⟩
def j97 : FFn := ⟨1,18,[(2,none),(3,none)],cq WO<|cq Xq<|cq Xo<|qr 3 (aa aN bD<|aa bA bx<|om al bu)<|cx 0⟩
def j98 : FFn := ⟨1,20,[(2,none),(3,none)],cq WO<|cq Xq<|cq Xo<|qr 5 (aa aW bD<|ax 177 nu bK<|ax 176 nw bP<|aa bO bx<|om al bu)<|cx 0⟩
def j99 : FFn := ⟨3,15,[(6,none)],cq uA<|qr 9 (aa ah aG<|aa aj aJ<|fW ay az aV<|aa aL bb<|bd aD true bc wl<|bd aD true bi (om aK bi)<|oq (og aD true bh (oP (fC bj bo) bh))<|aI aD bf bQ bz<|om bt aB)<|cx 0⟩
def Tb : FFn := ⟨2,30,[(4,none),(5,none)],cq V1<|cq (ak bQ (qr 10 (aa ah bc<|oq (oe (.conv .u32 (.t 11)) 1 bi)<|aa aj bh<|oq (oe (.conv .u32 (.t 13)) 3 bz)<|ax 178 qv bl<|aa bq bb<|ai 0 aD br<|ai 1 aD bD<|aa bw aB<|om bA aG)<|qr 6 (aa aW bK<|oq (oe (.conv .u64 (.t 18)) 1 bP)<|aa ay bW<|oq (oe (.conv .u64 (.t 20)) 3 bT)<|aa bO aF<|om cg aC)<|cx 0) (ck))<|qr 8 (aa ah bZ<|aa aj ci<|ax 179 Bp cp<|aa cB bY<|ai 0 ce cz<|ai 1 ce cC<|aa cG aJ<|om cU aV)<|qr 4 (aa az cI<|aa aL cL<|aa cR aF<|om dg aC)<|cx 0⟩
def Ta : FFn := ⟨2,80,[(4,(some (some 2)))],qr 1 (oa 123 em 0 aF)<|qr 3 (oq (oP xb bb)<|oq (oa 123 em 1 aC)<|ot 2 aN aD np)<|cq (qr 7 (aa aj bc<|aa ah bi<|oq (oe uv 2 bh)<|aw 0 bf bz<|aw 3 bt bl<|ap bq br<|oP (bk bj bw) bD)<|ak bA (aq 5 (aa ah bK<|oq (oe ti 1 bP)<|aw 8 bO bW<|aH 2 bS bT<|ot 2 aN cg np)) (ck))<|cq (qr 7 (aa ah bY<|oq (oe (.nilCheck (.t 22)) 1 bZ)<|aw 0 cu ci<|aw 5 ct cp<|ap cB cz<|aP cG cC<|om al cI)<|aQ 1 (cE 1000000 (cq BJ<|cq Ba<|cq (aQ 3 (qr 6 (aa cR cP<|aY 7 cG cR cX<|aH 7 dh db<|oq (oa 64 m5 3 aG)<|aa de aB<|ot 7 ay dV np)<|cq (cq (aX 15 (dy (oP (bX 1 ay) dn)<|dy (ol dA dj)<|dy (om aj dt)<|dy (oP (cJ dC dx) dD)<|dy (om dF du)<|dy (og dH false dB sN)<|dy (og dH false dJ (oe (.nilCheck (.t 38)) 6 dJ))<|dy (og dH false dM (oP (bX 7 dK) dM))<|dy (og dH false dY qf)<|dy (og dH false ei (oP m8 ei))<|dy (og dH false dW (ol fg dW))<|dy (og dH false ep (oP (bU 2 fo fa) ep))<|dy (og dH false ew (oP (bX 0 eu) ew))<|dy (og dH false eo sI)<|dy (oP (ba dH cQ eK) eS)<|cw) (cn) [])<|ak eY (cx 3) (ck))<|qr 5 (aa ah eZ<|oq (oe wX 1 fd)<|aw 12 gK ft<|ap fP fk<|b5 gc (fun _ => []) fx)<|cq (aX 24 (dy (om ah fU)<|dy (oe (.nilCheck (.t 54)) 1 gh)<|dy (oP (bX 0 gJ) ge)<|dy (bM 6 gD fT)<|dy (om ah gu)<|dy (oe AT 5 gA)<|dy (oP (bX 6 i6) gM)<|dy (ol gI gS)<|dy (om aW gR)<|dy (om ah gL)<|dy (oe (.nilCheck (.t 63)) 10 dX)<|dy (oP (bX 7 eD) ek)<|dy (ol ef dO)<|dy (oP m8 ec)<|dy Af<|dy (oP (bU 2 el dL) dN)<|dy (bM 2 dI dS)<|dw (aA 107 (fun T => [gV T,im T,hZ T,fc T]) ee)<|dy (om eL fz)<|dy (oP (cA 0 fY) ej)<|dy (oP (cA 1 fY) er)<|dq (dm 21 (oa 123 em 21 aJ))<|dq (da 0 [(21,0)] (ot 2 az fh np))<|dy (om fq aV)<|cw) (cn) [])<|aq 5 (aa ah e9<|aH 2 aN eJ<|aH 2 az eO<|ax 103 (w3 eR dz fR) e7<|ot 2 aN fF np)))<|aq 2 (aT cR bE fe<|om fE cI))))<|qr 2 (aH 2 aN fK<|ot 2 aS fD np)<|cx 0⟩
def S9 : FFn := ⟨3,24,[(6,none)],qr 3 (bL 123 aj 0 aF<|bL 123 aK 1 aC<|om bQ aB)<|cq (aX 16 (dy ly<|dy (oe nA 1 bc)<|dy qq<|dy As<|dy nc<|dy (oe wV 5 bl)<|dy (oP (bX 6 bq) br)<|dy oD<|dy (bM 2 aS bK)<|dy (bM 2 aN bP)<|dw (aA 180 VU bW)<|dy (om bS aV)<|dy z6<|dy Bd<|dy (om cg aG)<|dy (om ce aJ)<|cw) (cn) [])<|qr 2 (aa ay bZ<|om cu aB)<|cx 0⟩
def S8 : FFn := ⟨3,24,[(6,(some (some 2)))],qr 3 (bL 123 aj 0 aF<|bL 123 aK 1 aC<|oa 123 em 2 aB)<|cq (aX 17 (dy ly<|dy (oe nA 1 bc)<|dy qq<|dy As<|dy nc<|dy (oe wV 5 bl)<|dy (oP (bX 6 bq) br)<|dy oD<|dy (bM 2 aS bK)<|dy (bM 2 aN bP)<|dw (aA 181 VU bW)<|dy (om bS aV)<|dy z6<|dy Bd<|dq (dm 14 (oa 123 em 14 aG))<|dq (da 0 [(14,0)] (ot 2 ay cg np))<|dy (om ce aJ)<|cw) (cn) [])<|qr 2 (aH 2 ay bZ<|ot 2 aW cu np)<|cx 0⟩
def S7 : FFn := ⟨2,9,[(4,none)],cq jT<|qr 5 (aa ah aC<|aa aj aB<|ax 182 jU aG<|fW ay al aJ<|om az aF)<|cx 0⟩
def S6 : FFn := ⟨2,8,[(4,(some (some 2)))],cq B2<|qr 4 (aH 2 aK aC<|aH 2 aM aB<|oq (aA 183 (fun T => [aN T,aW T,(.fn (.func 184) [] [])]) aG)<|ot 2 aS ay np)<|cx 0⟩
def S5 : FFn := ⟨2,21,[(4,(some (some 2)))],cq B2<|cq (qr 6 (aw 0 aK aG<|ap ay aJ<|aa az aV<|oq (og aL false bb (oP lQ bb))<|bd aL false bc sD<|oP (ba aL cQ bj) bi)<|ak bo (qr 2 (oq (oP xb bh)<|ot 2 aS bf np)<|cx 0) (ck))<|qr 2 (oq (oa 4 [cM] 0 aC)<|dk aN bQ np)<|qr 6 (aH 2 aK bz<|aH 2 aM bl<|oq (oe (.mkfn (.func 187) [] [(.t 5)]) 2 br)<|ax 183 (w3 bt bq bw) bD<|oq (oa 123 em 4 aB)<|ot 2 aW bA np)<|cq (qr 1 (ol aN bK)<|ak cd (qr 2 (oq (oP xb bP)<|ot 2 aS bO np)<|cx 0) (ck))<|qr 2 (aH 2 aW bW<|ot 2 aS bS np)<|cx 0⟩
def S4 : FFn := ⟨4,40,[(8,(some (some 2))),(9,none)],qr 4 (bL 43 ah 0 aF<|bL 123 aM 1 aG<|oq (oa 123 em 2 aJ)<|om al aV)<|qr 12 (aH 6 aS bz<|aa aj bl<|aa aK br<|aH 2 ay bD<|ax 108 (fun T => [bt T,bq T,bw T,bA T]) bK<|aa cd bh<|ai 0 bf bP<|ai 1 bf bW<|ai 2 bf bT<|aa bO bb<|aa bS bc<|om cg bi)<|cq (aQ 1 (qr 3 (aa bo bZ<|fp cu al ci<|om ct bY)<|ak ce (qr 4 (oq (oP kE cp)<|aa bo cz<|cN 2 az cB np<|om cG aV)<|cx 0) (qr 3 (aa bj cI<|oq (oe wO 1 cL)<|om dg cC)<|ak cU (qr 3 (ax 189 (fun _ => []) cP<|cN 2 az de np<|om al aV)<|cx 0) (ck))))<|cq (aX 11 (dw (aA 190 (fun _ => []) cX)<|dy (om aD db)<|dy (oe wW 2 dn)<|dy (oP (bX 7 dA) dj)<|dy (oP (bX 0 dC) dt)<|dq (dl 1 [] jR)<|dy (oe (.lookup .int .nilFn (.t 31) (.t 36) false) 6 du)<|dy (om aD dB)<|dw (b5 dH (w1 dP) dJ)<|dw (ot 2 az dK np)<|dy (om al aV)<|cw) (cj (cm dF 2 [] jR)<|cn) [])<|cx 0⟩
def S3 : FFn := ⟨4,52,[(8,none),(9,none),(10,none)],qr 5 (bL 43 ah 0 aF<|bL 123 aM 1 aG<|aa oB aJ<|aa bQ aV<|om al bb)<|cq (qr 6 (aH 6 aS bz<|aa aj bl<|aH 2 ay br<|oq (ob 123 2 em 1 [((0,2),bw)] 3 bD)<|ax 171 (w3 bt bq bA) bK<|om cd bc)<|qr 2 (aa bj bP<|oP (cJ bO al) bW)<|ak bS (qr 4 (aa bj bT<|aa oB aJ<|aa bQ aV<|om cg bb)<|cx 0) (ck))<|cq (qr 9 (aa aK bY<|iH ce al bZ<|aa cu ci<|bd ct false cp sQ<|oq (og ct false cz (oP (bX 5 aS) cz))<|bd ct false cC qc<|oq (og ct false cI A1)<|oq (og ct false cL (oP (e6 cB cR) cL))<|oP (ba ct cQ dg) cP)<|ak de (qr 3 (aa oB aJ<|aa bQ aV<|om iY bb)<|cx 0) (ck))<|qr 9 (aH 6 aS db<|aa aj dn<|aH 2 ay dj<|ax 191 (w3 dV dA dC) dt<|aa dx cX<|ai 0 dh dD<|ai 1 dh du<|aa dF bi<|om dH bh)<|cq (aX 17 (dy (bM 6 aS dB)<|dy (om aj dJ)<|dy (oP (bX 5 aS) dM)<|dy qf<|dy (om aK ei)<|dy (oP (bU 7 fo fg) dW)<|dy (oP (bX 2 fa) ep)<|dy (bM 4 eu ew)<|dy (oP (bX 1 ay) eo)<|dy wi<|dy (om bo eZ)<|dy (oP (cT [aE,.nilSl,aE,aE,aE,.nilSl,.nilSl,eG,aE,eG,.nilSl,.nilSl,.nilSl] [((0,6),dP),((6,1),dK),((7,4),eH),((11,1),eY),((12,1),eB)]) fd)<|dq (dm 12 (ox 207 gK 12 ft))<|dy (om bf fk)<|dy (om fP aJ)<|dy (om gc aV)<|dy (om al bb)<|cw) (cn) [(12,4)])<|cx 0⟩
def S2 : FFn := ⟨3,24,[(6,(some (some 9)))],qr 2 (bL 185 aK 0 aC<|oa 218 pu 1 aB)<|cq (aX 17 (dy ly<|dy (oe nA 1 bc)<|dy qq<|dy As<|dy sP<|dy (om ah bl)<|dy (oe AN 6 br)<|dy (oP (bX 12 bw) bD)<|dy m9<|dy (bM 5 aN bP)<|dw (aA 192 (fun T => [bf T,bt T,cd T,bO T]) bW)<|dy (om bS aV)<|dy z6<|dy Bd<|dq (dm 14 (oa 218 pu 14 aG))<|dq (da 0 [(14,0)] (ot 9 ay cg np))<|dy (om ce aJ)<|cw) (cn) [])<|qr 2 (aH 9 ay bZ<|ot 9 aW cu np)<|cx 0⟩
def S1 : FFn := ⟨2,17,[(4,(some (some 6))),(5,none)],qr 2 (oq (oa 215 fG 0 aF)<|om al aC)<|cq (qr 3 (aa ah aB<|aa aj aG<|oP (cY aW ay) aJ)<|ak az (qr 3 (oq (oP lR aV)<|cN 6 aS aL np<|om iY aC)<|cx 0) (ck))<|qr 9 (aa ah bb<|ax 194 nH bc<|ax 193 mz bi<|aa aj bh<|ax 194 wQ bz<|ax 193 lV bl<|oq (oP (cT fG [((0,3),bo),((3,3),bq)]) br)<|cN 6 aS bw np<|om al aC)<|cx 0⟩
def SZ : FFn := ⟨2,28,[(4,none),(5,none)],qr 4 (bL 215 ah 0 bx<|bL 215 aj 1 bu<|aa bQ aF<|om al aC)<|cq (cq d31<|cq ye<|ak bo WR (ck))<|cq (aX 16 (dy sW<|dw (aA 197 lV bl)<|dq (dl 1 [] (bM 6 aK br))<|dw (aA 197 pq bD)<|dw (aA 196 tD bK)<|dy (oP (fC cd al) bP)<|dy (om bO bW)<|dy (og bS true bT oK)<|dw (og bS true bY (aA 198 oR bY))<|dq (dl 1 [] (og bS true bZ nj))<|dw (og bS true ci (aA 198 s9 ci))<|dw (og bS true cp (aA 196 Bo cp))<|dy (og bS true cz (oP (fC cB al) cz))<|dy (oP (ba bS cG bQ) cC)<|dy (om cU aF)<|dy sS<|cw) (cj (cm bw 5 [] (bM 6 aK br))<|cj (cm cu 2 [] (og bS true bZ nj))<|cn) [])<|cx 0⟩
def SY : FFn := ⟨1,11,[],cq WA<|aq 6 (aa ah aC<|aa aK aB<|aa aK aG<|oq (oe (.conv .u64 (.t 7)) 3 aJ)<|ax 94 m6 aV<|aA 199 VO bb)⟩
def SX : FFn := ⟨1,61,[(2,none)],cq j1<|cq Xn<|cq (cq w8<|aQ 1 (cE 1000000 (cq Xc<|cq (aQ 3 (cq (aX 10 (dy oF<|dy sR<|dy BA<|dy jQ<|dy oG<|dy (om aM bT)<|dy TU<|dy Up<|dy lw<|dy TO<|cw) (cn) [])<|ak cB (cq Xf<|cq Xm<|qr 4 (aa ah fU<|aa aM gh<|oq (oe Wf 2 ge)<|oe (.clear 1 [eG] (.t 56)) 3 np)<|cq Xg<|cx 0) (ck)))<|aq 3 Wg)))<|cq VB<|cx 0⟩
def SW : FFn := ⟨1,9,[(2,none)],cq oy<|cq d83<|cx 0⟩
def SV : FFn := ⟨1,21,[(2,none)],cq oy<|qr 19 (aa ah bu<|oq (oP (e6 aM (kc (.int .i32 97))) aF)<|aa aS aC<|bd aN true aB (om ah aB)<|oq (og aN true aG (oP (fC aW (kc (.int .i32 122))) aG))<|aI aN ay bQ aJ<|aa az aV<|bd aL false bb ly<|oq (og aL false bc (oP (e6 aD (kc (.int .i32 65))) bc))<|bd aL false bi (om bj bi)<|bd bo true bh sJ<|oq (og bo true bz (oP (fC bf (kc (.int .i32 90))) bz))<|oq (og aL false bl (oP (ba bo bt bQ) bl))<|aI aL cQ bq br<|aa bw bD<|bd bA false bK wn<|oq (og bA false bP (oP (bk cd (kc (.int .i32 95))) bP))<|aI bA cQ bO bW<|om bS bx)<|cx 0⟩
def SU : FFn := ⟨1,9,[(2,none)],cq oy<|qr 7 (aa ah bu<|oq (oP (e6 aM (kc (.int .i32 48))) aF)<|aa aS aC<|bd aN true aB (om ah aB)<|oq (og aN true aG (oP (fC aW (kc (.int .i32 57))) aG))<|aI aN ay bQ aJ<|om az bx)<|cx 0⟩
def ST : FFn := ⟨3,25,[(6,none),(7,none)],cq VN<|qr 9 (aa ah bb<|aa aj bc<|aa aK bi<|ax 200 UZ bh<|aa bf aV<|ai 0 aL bz<|ai 1 aL bl<|aa bt aJ<|om bq aG)<|cq (qr 2 (aa ay br<|oe (.bin .neq .ifc (.t 16) vU) 1 bD)<|ak bA (qr 8 (aa az bK<|aa ah bP<|aa aj bW<|aa aK bT<|aa ay bY<|oq (aA 201 (fun T => [(.str ⟨#[80,97,114,115,101,73,110,116]⟩),bO T,bS T,cg T,ce T]) bZ)<|aa cd aB<|om cu aG)<|cx 0) (ck))<|qr 3 (aa az ci<|aa ct aB<|om nf aG)<|cx 0⟩
def SS : FFn := ⟨2,8,[(4,none)],cq Bx<|qr 4 (aa ah aC<|aa aj aB<|ax 202 jU aG<|om ay aF)<|cx 0⟩
def SR : FFn := ⟨0,2,[(0,(some (some 25)))],qr 1 (oa 231 [di,di,di,di,di,di,di,di,di,di,di,di,di,di,di,di,di,di,di,di,di,di,di,di,di] 0 ju)<|qr 2 (oq (oP (cT [di,di,di,di,di,di,di,di,di,di,di,di,di,di,di,di,di,di,di,di,di,di,di,di,di] [((0,1),TF),((1,1),TJ),((2,1),TG),((3,1),TI),((4,1),TH),((5,1),TD),((6,1),TE),((7,1),Ul),((8,1),AY),((9,1),(kc (.str ⟨#[41]⟩))),((10,1),(kc (.str ⟨#[123]⟩))),((11,1),(kc (.str ⟨#[125]⟩))),((12,1),w5),((13,1),(kc (.str ⟨#[93]⟩))),((14,1),(kc nh)),((15,1),(kc (.str ⟨#[44]⟩))),((16,1),(kc (.str ⟨#[61]⟩))),((17,1),(kc (.str ⟨#[60]⟩))),((18,1),(kc (.str ⟨#[62]⟩))),((19,1),(kc (.str ⟨#[43]⟩))),((20,1),AZ),((21,1),(kc (.str ⟨#[42]⟩))),((22,1),(kc (.str ⟨#[47]⟩))),((23,1),(kc (.str ⟨#[37]⟩))),((24,1),(kc Ad))]) eg)<|ot 25 ah aj np)<|cx 0⟩
def SQ : FFn := ⟨2,8,[(4,none)],cq jT<|qr 4 (aa ah aC<|aa aj aB<|ax 203 jU aG<|om ay aF)<|cx 0⟩
def SP : FFn := ⟨2,22,[(4,none)],cq jD<|cq (qr 8 (aa ah aC<|oq (oe mD 1 aB)<|aw 0 aW aG<|ap ay aJ<|aY 3 az al aV<|aw 0 aL bb<|ap aD bc<|oP (bk bj m7) bi)<|ak bo (cq d9<|cx 0) (ck))<|qr 10 (aa aj bh<|aa ah bz<|oq (oe wV 2 bl)<|aw 0 bq br<|ap bw bD<|aY 3 bA al bK<|aw 1 cd bP<|ap bO bW<|ax 204 (w2 bf bS) bT<|om cg aF)<|cx 0⟩
def SO : FFn := ⟨1,19,[(2,(some (some 3)))],qr 1 UL<|qr 8 (aa ah aF<|oq (oe qG 1 aC)<|aw 0 aN aB<|ap aW aG<|aY 3 ay al aJ<|aH 3 az aV<|oq (oa 76 [eG,di,aE] 6 bu)<|ot 3 aM aL np)<|qr 9 (aa ah bb<|aa ah bc<|oq (oe tg 2 bi)<|aw 0 bo bh<|ap bf bz<|oq (oe (.slice 3 (.t 14) (some je) none none) 5 bl)<|oq (oe nA 6 br)<|aw 0 bw bD<|dk bA bq np)<|qr 2 (aH 3 aM bK<|ot 3 aK cd np)<|cx 0⟩
def SN : FFn := ⟨1,21,[(2,none)],cq oy<|qr 19 (aa ah bu<|oq (oe qj 1 aF)<|aw 0 aS aC<|ap aN aB<|aY 3 aW al aG<|aw 0 ay aJ<|ap az aV<|oq (oP (bk aL kJ) bb)<|aa aD bc<|bd bj true bi wm<|oq (og bj true bh (oe uv 10 bh))<|oq (og bj true bz (oP (bX 0 bf) bz))<|bd bj true bl oC<|oq (og bj true br (oP (bU 3 bq al) br))<|oq (og bj true bD (oP (bX 1 bw) bD))<|bd bj true bK m9<|oq (og bj true bP (aA 62 nw bP))<|aI bj bO bQ bW<|om bS bx)<|cx 0⟩
def SM : FFn := ⟨1,23,[(2,none)],cq jp<|cq (qr 8 (aa ah aC<|oq (oe mD 1 aB)<|aw 0 aW aG<|ap ay aJ<|aY 3 az al aV<|aw 0 aL bb<|ap aD bc<|oP (cJ bj m7) bi)<|ak bo (aq 2 (aa ah bh<|aA 60 (fun T => [bf T,oI]) bz)) (ck))<|qr 9 (aa ah br<|ax 122 pq bD<|oq (oe (.field none 1 (.t 17)) 2 bK)<|ax 205 nw bP<|aa bO bl<|ai 0 bq bW<|ai 1 bq bT<|aa bS bu<|om cg aF)<|cq VD<|cx 0⟩
def SL : FFn := ⟨3,40,[],cq (qr 12 (aa ah aB<|aa aj aG<|oq VX<|ax 121 T5 aV<|fm aL al bb<|aa aD bc<|bd bj true bi wm<|oq (og bj true bh (oe uv 7 bh))<|oq (og bj true bz (oP (bX 1 bf) bz))<|bd bj true bl oC<|oq (og bj true br (oP (bk bq (kc Ab)) br))<|oP (ba bj bw bQ) bD)<|ak bA (aq 2 (aa ah bK<|aA 60 (fun T => [cd T,(.int .i64 91)]) bP)) (ck))<|qr 4 (aa ah bW<|aa aj bT<|oq (ob 9 1 [di] 1 [((0,1),cg)] 2 bY)<|aA 58 Bn bZ)<|qr 8 (aa ah ci<|oq (oe AP 1 cp)<|aw 1 cB cz<|ap cG cC<|aT cU bE cI<|oq (oe AP 5 cL)<|aw 1 dg cP<|dk de cR np)<|qr 2 (aa aK cX<|b5 dh (fun _ => []) db)<|aq 8 (aa ah dn<|oq (oe qm 1 dj)<|aw 1 dC dt<|ap dx dD<|ed dF bE du<|oq (oe qm 5 dB)<|aw 1 dP dJ<|dk dK dH np)⟩
def SK : FFn := ⟨2,12,[],aQ 1 (cE 1000000 (cq (qr 3 (ap ah bx<|oq (aA 52 (fun T => [aK T,(.str ⟨#[125]⟩)]) bu)<|oe (.un .not (.t 3)) 2 aF)<|ak aS (ck) (cx 1))<|aQ 3 (gq 1000000 false 12 (.drawF [ ⟨(some 5),.load none (.t 1),none,[(1,none)],0,[(0,[]),(1,[])]⟩,⟨(some 6),.load none (.t 0),none,[(0,none)],0,[(0,[])]⟩,⟨(some 7),.call (.c (.fn (.func 127) [] [])) [(.t 6)],none,[(6,(some 1))],2,[(0,[])]⟩,⟨(some 8),.len (.t 5),none,[(5,(some 0))],0,[(0,[]),(1,[])]⟩,⟨(some 9),.buildSlice 152 7 qJ 1 [((0,7),(.c (.agg qJ)))],none,[],1,[(0,[]),(1,[])]⟩,⟨(some 10),.append 7 128 152 qJ (.t 5) (.t 9),none,[(5,(some 0)),(9,(some 4))],2,[(1,[4])]⟩,⟨(some 11),.indexAddr 7 (.t 10) (.t 8),none,[(10,(some 5)),(8,(some 3))],0,[(2,[])]⟩,⟨none,.store 7 (.t 11) (.t 7),none,[(11,(some 6)),(7,(some 2))],2,[(2,[])]⟩] [] ⟨none,.store 1 (.t 1) (.t 10),none,[(1,none),(10,(some 5))],2,[]⟩ [6,7]))))⟩
def SJ : FFn := ⟨1,67,[(2,(some (some 7)))],qr 1 (oa 152 qJ 0 bx)<|qr 10 (aa ah aB<|oq (oe s8 1 aG)<|aw 0 ay aJ<|ap az aV<|aY 3 aL al bb<|aw 2 aD bc<|ap bj bi<|oq (oP (cT qJ [((6,1),bo)]) bh)<|oq (oa 152 qJ 8 bu)<|ot 7 aM bf np)<|cq (cq (aX 15 (dw (aA 206 (fun _ => []) bl)<|dy oF<|dy (oe (.nilCheck (.t 16)) 2 bD)<|dy (oP (bX 0 bA) bK)<|dq (dl 1 [] jQ)<|dy (oP (bU 3 bO al) bW)<|dy (oP (bX 1 bS) bT)<|dq (dl 1 [] lp)<|dy (oe (.lookup .str (.agg mA) (.t 15) (.t 22) true) 8 bZ)<|dy (om cu bz)<|dy (oP (cA 0 bt) ci)<|dy (oP (cA 1 bt) cp)<|dq (dm 12 (oa 332 mA 12 aF))<|dq (da 0 [(12,0)] (ot 2 aS ct np))<|dy (om cB aC)<|cw) (cj (cm bO 1 [] jQ)<|cj (cm ce 1 [] lp)<|cn) [])<|qr 1 (om aN cz)<|ak cG (qr 2 (aa ah cC<|aA 122 qk cI)<|qr 4 (aw 0 aS cL<|ap dg cP<|aw 0 aM cX<|dk dh de np)<|qr 4 (aw 1 aS db<|ap dV dn<|aa ah dj<|b5 dA (w2 dC aM) dt)<|qr 2 (aH 7 aM dD<|ot 7 aK dF np)<|cx 0) (ck))<|qr 7 (aa ah du<|ax 54 (w1 dH) dB<|oq (oe (.field none 0 (.t 38)) 2 dJ)<|aw 0 aM dM<|oq (dk eI m7 np)<|aw 1 aM dY<|dk fo dK np)<|cq (qr 4 (aa ah ei<|oq (ob 9 1 [di] 1 [((0,1),w5)] 1 dW)<|ax 121 (w2 fg fa) ep<|oP (bk eu al) ew)<|ak eH (aq 7 (aa ah eo<|ax 207 te eS<|oq (ob 185 5 kH 1 [((0,5),eY)] 2 eZ)<|aw 0 aM fd<|oq (dk gK kI np)<|aw 2 aM ft<|dk fP eB np)) (ck))<|qr 3 (aa ah fk<|oq (ob 9 1 [di] 1 [((0,1),(kc (.str ⟨#[61]⟩)))] 1 fx)<|aA 58 Uj fz)<|cq (gq 1000000 false 67 (.drawF [ ⟨(some 54),.fieldAddr 2 (.t 3),none,[(3,none)],0,[(0,[]),(1,[])]⟩,⟨(some 55),.load none (.t 54),none,[(54,(some 0))],0,[(0,[]),(1,[])]⟩,⟨(some 56),.mv (.t 0),none,[(0,none)],0,[(0,[])]⟩,⟨(some 57),.call (.c (.fn (.func 208) [] [])) [(.t 56)],none,[(56,(some 2))],2,[(0,[])]⟩,⟨(some 58),.len (.t 55),none,[(55,(some 1))],0,[(0,[]),(1,[])]⟩,⟨(some 59),.buildSlice 185 5 kH 1 [((0,5),(.c (.agg kH)))],none,[],1,[(0,[]),(1,[])]⟩,⟨(some 60),.append 5 64 185 kH (.t 55) (.t 59),none,[(55,(some 1)),(59,(some 5))],2,[(1,[5])]⟩,⟨(some 61),.indexAddr 5 (.t 60) (.t 58),none,[(60,(some 6)),(58,(some 4))],0,[(2,[])]⟩,⟨none,.store 5 (.t 61) (.t 57),none,[(61,(some 7)),(57,(some 3))],2,[(2,[])]⟩,⟨(some 62),.fieldAddr 2 (.t 3),none,[(3,none)],0,[(2,[]),(3,[])]⟩] [] ⟨none,.store 1 (.t 62) (.t 60),none,[(62,(some 9)),(60,(some 6))],2,[]⟩ [7,8]))<|qr 3 (aa ah gL<|oq (ob 9 1 [di] 1 [((0,1),(kc nh))] 1 dX)<|aA 58 Uo ek)<|qr 2 (aH 7 aM dO<|ot 7 aK el np)<|cx 0⟩
def SI : FFn := ⟨1,9,[(2,none)],cq oy<|cq d83<|cx 0⟩
def SH : FFn := ⟨1,6,[(2,none)],cq oy<|qr 4 (oq (aA 210 (fun _ => [(.str ⟨#[118,97,114,32,97,114,114,97,121,32,112,114,111,99,32,109,97,105,110,32,115,107,105,112,32,105,110,112,117,116,32,97,115,115,117,109,101,32,97,115,115,101,114,116,32,105,102,32,101,108,115,101,32,119,104,105,108,101,32,99,97,108,108,32,116,114,117,101,32,102,97,108,115,101]⟩)]) bu)<|aa ah aF<|ax 209 (w2 aM aS) aC<|om aN bx)<|cx 0⟩
def SG : FFn := ⟨2,9,[(4,none)],cq jT<|qr 5 (aa ah aC<|aa aj aB<|ax 211 jU aG<|fW ay al aJ<|om az aF)<|cx 0⟩
def SF : FFn := ⟨2,8,[(3,none)],qr 2 (bL 86 ah 0 bx<|om bQ bu)<|qr 5 (ap aj aF<|aH 2 aK aC<|jH aS qH aB<|oq (oe Av 3 aG)<|om ay bu)<|cx 0⟩
def SE : FFn := ⟨2,9,[(4,none)],cq jT<|qr 5 (aa ah aC<|aa aj aB<|ax 212 jU aG<|fW ay al aJ<|om az aF)<|cx 0⟩
def SD : FFn := ⟨2,8,[(3,none)],qr 2 (bL 152 ah 0 bx<|om bQ bu)<|qr 5 (ap aj aF<|aH 7 aK aC<|jH aS qH aB<|oq (oe Av 3 aG)<|om ay bu)<|cx 0⟩
def SC : FFn := ⟨0,10,[(0,(some (some 40)))],qr 1 (oa 241 [aE,aE,aE,cM,aE,aE,aE,cM,aE,aE,aE,cM,aE,aE,aE,cM,aE,aE,aE,cM,aE,aE,aE,cM,aE,aE,aE,cM,aE,aE,aE,cM,aE,aE,aE,cM,aE,aE,aE,cM] 0 ju)<|qr 10 (oq (oP WK eg)<|oq (oP (cT [aE,aE,aE,cM] [((0,1),iY),((3,1),cQ)]) bx)<|oq Wy<|oq (oP xn aF)<|oq (oP xn aC)<|oq (oP xn aB)<|oq (oP xn aG)<|oq (oP (cT [aE,aE,aE,cM] [((0,1),ow),((3,1),cQ)]) aJ)<|oq (oP (cT [aE,aE,aE,cM,aE,aE,aE,cM,aE,aE,aE,cM,aE,aE,aE,cM,aE,aE,aE,cM,aE,aE,aE,cM,aE,aE,aE,cM,aE,aE,aE,cM,aE,aE,aE,cM,aE,aE,aE,cM] [((8,4),aj),((12,4),aK),((16,4),aM),((20,4),aS),((24,4),aN),((28,4),aW),((32,4),ay),((36,4),az)]) aV)<|ot 40 ah aL np)<|cx 0⟩
def SB : FFn := ⟨2,18,[(4,none)],cq jT<|qr 14 (aa ah aC<|aa aN aB<|bd aW true aG (om aj aG)<|oq (og aW true aJ (aA 62 pt aJ))<|aI aW az bQ aV<|aa aL bb<|bd aD false bc wl<|oq (og aD false bi (oe (.un .not (.t 11)) 7 bi))<|bd aD false bh (om bo bh)<|bd bf true bz sP<|oq (og bf true bl (oe (.bin .eql .str (.t 14) (.c di)) 10 bl))<|oq (og aD false br (oP (ba bf bq bQ) br))<|aI aD cQ bw bD<|om bA aF)<|cx 0⟩
def SA : FFn := ⟨2,9,[(4,none)],qr 2 (bL 245 aj 0 bu<|om bQ aF)<|qr 5 (aa ah aC<|oq (oe (.mkfn (.func 213) [] [(.t 3)]) 1 aB)<|ax 154 jU aG<|oq (oe mC 3 aJ)<|om az aF)<|cx 0⟩
def Sy : FFn := ⟨1,49,[(2,none)],qr 2 (bL 185 ah 0 eg<|om bQ bx)<|cq (qr 23 (aw 0 aj aF<|ap aS aC<|oq TT<|aa aW aG<|oq (og ay false aJ zV)<|bd ay false aV sC<|oq (og ay false bb Um)<|aI ay cQ aD bc<|aa bj bi<|oq (og bo false bh (oP jf bh))<|bd bo false bz ji<|oq (og bo false bl (oP (bF bt al) bl))<|aI bo cQ bq br<|aa bw bD<|oq (og bA false bK (oP jf bK))<|bd bA false bP jQ<|oq (og bA false bW (oP Ah bW))<|bd bA false bT (om bS bT)<|oq (og cg true bY (oP jg bY))<|bd cg true bZ lq<|oq (og cg true ci (oP (cJ cu kJ) ci))<|oq (og bA false cp (oP (ba cg ct bQ) cp))<|oP (ba bA cQ cB) cz)<|ak cG wA (ck))<|cq (aX 6 (dw (aA 214 (fun _ => []) cC)<|dy (oP jg cI)<|dq (dl 1 [] lx)<|dy (oe (.indexAgg 12 4 (some 4) (.t 27) (.t 29)) 3 cP)<|dq (dm 4 BL)<|dq (da 0 [(4,0)] (ot 4 aM de np))<|cw) (cj (cm dg 1 [] lx)<|cn) [])<|qr 19 (aw 3 aM cX<|ap dh db<|aw 1 aj dn<|ap dA dj<|ax 135 Bu dt<|aa dx dD<|oq (og dF true du (oP jP du))<|bd dF true dB wc<|oq (og dF true dJ (oP (eN dP) dJ))<|oq (og dF true dM (oP lQ dM))<|bd dF true dY qf<|oq (og dF true ei (oP (bk dK fo) ei))<|aI dF fg bQ dW<|aa fa ep<|oq (og eu true ew (oP jP ew))<|bd eu true eo sI<|oq (og eu true eS (aA 136 (fun T => [eK T,(.fn (.func 137) [] [])]) eS))<|aI eu eY bQ eZ<|om eB bx)<|cx 0⟩
def Sx : FFn := ⟨2,9,[(4,none)],qr 2 (bL 249 aj 0 bu<|om bQ aF)<|qr 5 (aa ah aC<|oq (oe (.mkfn (.func 216) [] [(.t 3)]) 1 aB)<|ax 215 jU aG<|oq (oe mC 3 aJ)<|om az aF)<|cx 0⟩
def Sw : FFn := ⟨1,40,[(2,none)],qr 2 (bL 248 ah 0 eg<|om bQ bx)<|cq (qr 8 (aw 0 aj aF<|ap aS aC<|oq TT<|aa aW aG<|oq (og ay false aJ zV)<|bd ay false aV sC<|oq (og ay false bb Um)<|oP (ba ay cQ aD) bc)<|ak bj wA (ck))<|cq (aX 6 (dw (aA 217 (fun _ => []) bi)<|dy (oP jg bh)<|dq (dl 1 [] ji)<|dy (oe (.indexAgg 12 4 (some 4) (.t 12) (.t 14)) 3 bl)<|dq (dm 4 BL)<|dq (da 0 [(4,0)] (ot 4 aM bq np))<|cw) (cj (cm bt 1 [] ji)<|cn) [])<|qr 25 (aw 1 aj br<|ap bw bD<|aP bA bK<|aw 0 aM bP<|ap bO bW<|fm cd bS bT<|aa cg bY<|oq (og ce true bZ (oP jf bZ))<|bd ce true ci lw<|oq (og ce true cp A0)<|oq (og ce true cz (oP j2 cz))<|bd ce true cC qc<|oq (og ce true cI (oP (bk cB cU) cI))<|aI ce cR bQ cL<|aa dg cP<|oq (og de true cX (oP kD cX))<|bd de true db sF<|oq (og de true dn (aA 136 (fun T => [dV T,(.fn (.func 137) [] [])]) dn))<|aI de dA bQ dj<|aa dC dt<|oq (og dx true dD (oP jf dD))<|bd dx true du wb<|oq (og dx true dB (aA 138 (fun T => [dH T,(.fn (.func 139) [] [])]) dB))<|aI dx dP bQ dJ<|om dK bx)<|cx 0⟩
def Sv : FFn := ⟨2,9,[(4,none)],cq jT<|qr 5 (aa ah aC<|aa aj aB<|ax 218 jU aG<|fW ay al aJ<|om az aF)<|cx 0⟩
def Su : FFn := ⟨2,16,[(4,none)],cq Bx<|cq (qr 8 (aa ah aJ<|aa aj aV<|oq (oe (.lookup .str di (.t 8) (.t 9) true) 2 bb)<|aa aD aG<|ai 0 ay bc<|ai 1 ay bi<|aa bj aC<|om bo aB)<|qr 1 (om aW bh)<|ak bf (cq VE<|cx 0) (ck))<|qr 2 (aa aj bl<|om bq aF)<|cx 0⟩
def St : FFn := ⟨2,20,[(4,none)],cq nI<|qr 3 (aa ah aB<|ax 220 ll aG<|om ay ju)<|cq (cq xr<|aQ 1 (cE 1000000 (cq tK<|cq tq<|cq (aQ 3 (cq VG<|aq 5 (aa aj bh<|aa ah bz<|aa aN bl<|aY 5 bt bq br<|b5 bf pq bD)))<|aq 2 Vb)))<|cq VA<|cx 0⟩
def Ss : FFn := ⟨2,28,[],cq (qr 5 (aa aj aF<|oq (oe qG 1 aC)<|aw 0 aN aB<|ap aW aG<|oP (bk ay m7) aJ)<|ak az (aq 10 (aa aj aV<|aa ah bb<|aa aj bc<|oq (oe tg 3 bi)<|aw 1 bo bh<|ap bf bz<|ax 144 (w2 aD bt) bl<|oq (oe Ay 7 br)<|aw 1 bw bD<|dk bA bq np)) (ck))<|aq 11 (aa aj bK<|aa aj bP<|oq (oe (.nilCheck (.t 19)) 2 bW)<|aw 3 bS bT<|ap cg bY<|aa ah bZ<|oq (oe (.mkfn (.func 146) [(.t 23)] []) 6 ci)<|ax 145 Bo cp<|oq (oe ti 8 cz)<|aw 3 cG cC<|dk cU cB np)⟩
def Sr : FFn := ⟨2,20,[(4,none)],cq nI<|qr 3 (aa ah aB<|ax 221 ll aG<|om ay ju)<|cq (cq xr<|aQ 1 (cE 1000000 (cq tK<|cq tq<|cq (aQ 3 (cq VG<|aq 5 (aa aj bh<|aa ah bz<|aa aN bl<|aY 4 bt bq br<|b5 bf pq bD)))<|aq 2 Vb)))<|cq VA<|cx 0⟩
def Sq : FFn := ⟨2,24,[],aX 22 (dy (om aj aF)<|dy (om aj aC)<|dy (om aj aB)<|dy (oe s8 3 aG)<|dy (oP (bX 1 ay) aJ)<|dy sC<|dy ly<|dy (oe (.mkfn (.func 146) [(.t 10)] []) 7 bc)<|dw (aA 145 tx bi)<|dy (om aj bh)<|dy (oe (.nilCheck (.t 13)) 10 bz)<|dy (oP (bX 2 bt) bl)<|dq (dl 1 [] ka)<|dy sK<|dy (oe (.mkfn (.func 148) [(.t 17)] []) 14 bK)<|dw (aA 147 xe bP)<|dy (oe qG 16 bW)<|dy (oP (bX 1 bS) bT)<|dw (dk cg bo np)<|dy (oe mD 19 bY)<|dy (oP (bX 2 ce) bZ)<|dw (dk cu bO np)<|cw) (cj (cm bw 3 [] ka)<|cn) []⟩
def Sp : FFn := ⟨2,45,[(4,none)],cq nI<|cq (cq WF<|aQ 1 (cE 1000000 (cq Co<|cq oY<|cq (aQ 3 (cq W5<|cq (qr 2 (aw 0 aW bh<|ol bf bz)<|aQ 5 (cq WI<|ak bq (aX 9 (dy sK<|dy (oe AO 1 bK)<|dy (oP (bX 6 cd) bP)<|dy na<|dy (oP pX bT)<|dy lp<|dy (oe (.lookup .str aE (.t 20) (.t 22) false) 6 bZ)<|dy (oP (bX 2 aW) ci)<|dw (dk ct cu np)<|cw) (cn) []) (qr 2 (oq (oP (bk bt kI) cz)<|om cG cp)<|ak cB (aX 9 (dy wq<|dy (oe AQ 1 cI)<|dy (oP (bX 7 cR) cL)<|dy qe<|dy (oP pX cX)<|dy sF<|dy (oe (.lookup .str aE (.t 30) (.t 32) false) 6 dn)<|dy (oP (bX 2 aW) dj)<|dw (dk dC dA np)<|cw) (cn) []) (ck))))<|qr 6 (aa ah dt<|aw 3 aW dD<|ap dF du<|ax 149 (w2 dx dH) dB<|aw 3 aW dJ<|dk dK dP np)<|aq 5 (aa aS dM<|aH 5 aW dY<|oq (ob 185 5 kH 1 [((0,5),fo)] 2 ei)<|oq (oe (.append 5 64 185 kH (.t 40) (.t 42)) 3 dW)<|om fa aF)))<|aq 2 (aT aL bE ep<|om eu aV))))<|cx 0⟩
end
end Go.Proofs.YtopigipibioclaaGreatDoor.Ev 