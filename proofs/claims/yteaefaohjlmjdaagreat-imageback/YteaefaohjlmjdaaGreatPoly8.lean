/- A part. -/
import Derived.Test.YteaefaohjlmjdaaGreatA0
import Derived.Test.YteaefaohjlmjdaaGreatN71
import Derived.Test.YteaefaohjlmjdaaGreatN39
import Derived.Test.YteaefaohjlmjdaaGreatArgs
import Derived.WideShapes
import Derived.Test.YteaefaohjlmjdaaGreatEvDraw5
import Derived.KernelRfl
import Derived.WalkKit
import Derived.ProofKit
import Derived.Test.YteaefaohjlmjdaaGreatProg
import Derived.Lib.Walk
import Derived.Lib.SliceRun
import Derived.Lib.JoinLaws
import Derived.Lib.AppendZeros
import Derived.Lib.AppendZerosOnto
import Derived.Lib.Overlaps
import Derived.Laws.Externs
import Derived.Laws.IdiomCopy
import Derived.Laws.NewBlocks
import Derived.Shelf.RegionOpenPlain
import Derived.Shelf.SlSortCmp.NoneTotal
import Derived.Ground.SlsfProg
import Derived.Test.YteaefaohjlmjdaaGreatKit
set_option linter.all false
namespace Go.Proofs.YteaefaohjlmjdaaGreat.Ev
open Go Nn
section
variable {tab:Nat->Option aA} {H:Heap} {n x:Nat} {a:List Int} {K:List (List Int × Bool)} {G:List (Nat × List Int)}
def Aq (n x:Nat) (a:List Int) (G:List (Nat × List Int)):nK n x a false 0 false 0 G=G.map (Lin.mvG x a 0):=by
 have h1:∀ g:Nat × List Int,dm x a false 0 false 0 g=[Lin.mvG x a 0 g]:=fun g=>by
  unfold dm
  have:fG false 0 false 0=[0]:=by decide
  rw [this]; split <;> rfl
 have h2:nd n x false false=[]:=rfl;unfold nK;rw [h2];have h3:∀ G:List (Nat × List Int),G.flatMap (dm x a false 0 false 0)=G.map (Lin.mvG x a 0):=fun G=>by
  induction G with
  | nil=>rfl
  | cons g G ih=>rw [YF,h1,ih]; rfl
 rw [h3];split <;> simp
def HX (h:PolyOK n 64 64 K G) (hn:n<=3) (hG:G.length<=9) (hal:a.length=n+1) (hab:Lin.Bd (2^64) a):PolyOK n (16*(16*(133+4)+4)) (16*(133+4)) (Lin.consP n (G.map (Lin.mvG x a 0))) (Lin.gensP n (Lin.consP n (G.map (Lin.mvG x a 0)))):=by
 have hv:=Lin.mv_valid (x:=x) (a:=a) (z:=0) h.own.valid;have vb:=Jh (n:=n) (x:=x) (rn:=false) (rn':=false) (lo:=0) (hi:=0) (e:=64) (ea:=64) (ez:=2) hn hal hab (fun y hy=>(h.rowG y hy).2) (Bt.zero 2) (Bt.zero 2);rw [Aq] at vb;have kb:=xI (m:=133) hn (fun y hy=>⟨(hv y hy).1,Lin.Bd.mono (Vx (by decide) (by decide)) (vb y hy)⟩);have gb:=sL hn kb;have l1:=Lin.span_len hv;have l2:=L6 hv;rw [Vc] at l1 l2;have l3:2^G.length<=2^9:=Vx (by decide) hG;exact ⟨Lin.own_span hv,zO,.inr ⟨zO,zO⟩,zO,fun c hc=>(kb c hc).2,fun x hx=>(gb x hx).2,zO,zO⟩
def AY (C:Code tab) (hw:Wf H) {v w vi:AV} (hp:PolyV H v n K G) (ho:PolyOK n 64 64 K G) (ha:RowV H w a) (hal:a.length=n+1) (hab:Lin.Bd (2^64) a) (hi':ItvV H vi false 0 false 0) (hx:x<n) (hn3:n<=3) (hG:G.length<=9) :
  Ans tab (.fn ko [v,.int .i64 (x:Int),w,vi]) H fun r H'=>(∃ vc vg,r=.tup [.agg [.int .i64 (n:Int),vc,vg],.int .i64 0]/\SlV conE t_api_Con H' vc (Lin.consP n (G.map (Lin.mvG x a 0)))/\SlV genE ai H' vg (Lin.gensP n (Lin.consP n (G.map (Lin.mvG x a 0)))))/\Kp H H':=by
 have ok:=HX (x:=x) ho hn3 hG hal hab;have l1:=ok.lenK;have h:=vG C (x:=x) (n:=n) (e:=64) (f:=64) (ea:=64) (ez:=2) hw hp ho ha hal hab hi' (JA (by decide)) (Bt.zero 2) (Bt.zero 2) hx hn3 zO zO ho.kinds (by rw [Aq]; exact .inl l1);rw [Aq] at h;exact h.mono fun r H' ⟨hs,hk⟩=>⟨P6 hs ok,hk⟩
def IA {l:List (List Int × Bool)} (h:∀ c∈l,c.1.length=n+1) (hn:n<=3) (hl:l.length<=9):(Lin.gensP n l).length<=1004:=by
 have t:=Lin.gens_told (Lin.eqs_len h) (Lin.ineqs_len h);have h1:=t.dd.count3 (Lin.ineqs_len h);have h2:=Ev.ech_len t.form;have h4:=rx (n:=n) l;have h3:(Lin.ineqsOf n l).length^(n+1-1)<=10^3:=Vn (WX (show _<=10 by omega) _) (Vx (by decide) zO);unfold Lin.gensP;split
 ·rw [Vr,Vc,Vc];omega
 ·simp
def NS (h:PolyOK n 64 64 K G) (hn:n<=3) (hK:K.length<=9) (hal:a.length=n+1) (hab:Lin.Bd (2^64) a):PolyOK n (16*(129+4)) (16*(16*(129+4)+4)) (Lin.consP n (Lin.gensP n (K.map (Lin.bkC x a)))) (Lin.gensP n (K.map (Lin.bkC x a))):=by
 have hrow:∀ c∈K.map (Lin.bkC x a),c.1.length=n+1/\Lin.Bd (2^129) c.1:=fun c hc=>by
  obtain ⟨q,hq,rfl⟩:=Va.1 hc;exact ⟨Lin.bk_len (h.own.rows q hq) hal,Rm (h.own.rows q hq) hal (h.rowK q hq).2 hab⟩
 have gb:=sL hn hrow;have kb:=xI hn gb;have hr:∀ c∈K.map (Lin.bkC x a),c.1.length=n+1:=fun c hc=>(hrow c hc).1;have l1:=Lin.own_len (n:=n) hr;have l2:=IA hr hn (by rw [Vc]; exact hK);rw [Vc] at l1;exact ⟨Lin.own_of hr,zO,.inl zO,zO,fun c hc=>(kb c hc).2,fun x hx=>(gb x hx).2,zO,zO⟩
end
section
variable {tab:Nat->Option aA} {H:Heap} {s1 s2:AV}
def Lo {v:AV} {d:Int} (h:Pf H v d):∃ x u w b,v=.tup [.agg [.int .i64 x,u,w],.bool b]/\One u/\One w:=by
 rcases h with ⟨_,rfl,x,u,w,rfl,hu,hw⟩ | ⟨n,p,K,G,-,-,rfl,⟨vc,vg,rfl,hc,hg⟩,-⟩
 ·exact ⟨_,_,_,_,rfl,hu,hw⟩
 ·exact ⟨_,_,_,_,rfl,hc.one,hg.one⟩
set_option maxHeartbeats 8000000 in
def law23_ImageBack (C:Code tab) (hw:Wf H) {d x:Int} {l:List wI} {row:List (Bool × List Nat)} (hs1:SlV conQE t_api_Con H s1 l) (hs2:SlV rawE aa H s2 row) (gl:∀ r∈l,iw r.1) (gr:iw row) (_ : -9223372036854775808<=d/\d<9223372036854775808) (_ : -9223372036854775808<=x/\x<9223372036854775808) :
  Ans tab (.fn dz [.int .i64 d,s1,.int .i64 x,s2]) H fun v H'=>v=.bool true/\Kp H H':=by
 have os2:=hs2.one;refine BP C.q0 rfl rfl (by decide) fun T hl g=>?_;have hl:T.length=132:=hl;have hrs:c_facetroomlaw23_ImageBack.results=[(8,none)]:=rfl;have g0:ad T 0=.int .i64 d:=g 0 (by simp);have g1:ad T 1=s1:=g 1 (by simp);have g2:ad T 2=.int .i64 x:=g 2 (by simp);have g3:ad T 3=s2:=g 3 (by simp);clear g;refine aS ?_;refine zW (aD hl @aC) ?_;refine aS ?_;refine zW hl ?_;refine AnsH.eq (FQ C zF) fun H2 hk2=>?_;obtain ⟨k2,_,w2⟩:=zT H zK hk2;refine zW (aD hl @aC) ?_;refine aS ?_;refine zW (aE hl g0 g1) ?_;refine AnsH.use (Ip C zF ((hs1.mono k2.sub).mono (Kp.sub (H:=H2) zK)) gl) ?_;rintro v3 H3 ⟨hm3,hk3⟩;obtain ⟨y,u,z,b,hv3,ou,oz⟩:=Lo hm3;obtain ⟨k3,_,w3⟩:=zT H2 zK hk3;have e3:Emp H3 H2.next (H2.next+9):=(Emp.start w2 (k:=9)).keep hk3
 have n3:=e3.1;have fA:=e3.2 (H2.next+6) zO zO;obtain ⟨G3,hG3⟩:∃ G3,G3=(H3.put (H2.next+6) (.cells [.int .i64 0,.nilSl,.nilSl] ak true)).put (H2.next+6) (.cells [.int .i64 y,u,z] ak true):=⟨_,rfl⟩
 have kG3:Kp H2 G3:=by rw [hG3]; exact zK
 have s3G:Sub H3 G3:=by rw [hG3]; exact (aJ fA).put fA _
 have wG3:=kG3.wf;have pA:G3.get (H2.next+6)=some (.cells [.int .i64 y,u,z] ak true):=by rw [hG3,ap]
 refine zW (aQ hl hv3 @mY @aC) ?_;rw [<- hG3];clear hG3;obtain ⟨P,hP⟩:∃ P,P=H2.next+6:=⟨_,rfl⟩
 rw [<- hP] at pA;rw [<- hP];have kA:Kp H G3:=k2.trans kG3;have hm3':Pf G3 v3 d:=by
  rcases hm3 with h | ⟨n,p,K,G,h1,h2,h3,h4,h5⟩
  ·exact .inl h
  ·exact .inr ⟨n,p,K,G,h1,h2,h3,h4.mono s3G,h5⟩
 clear hm3 hk3 e3 fA n3;refine jw (fun T'=>T'.length=132/\ad T' 0=.int .i64 d/\ad T' 1=s1/\ad T' 2=.int .i64 x/\ad T' 3=s2/\ad T' 9=.bool true/\ad T' 10=.ptr P 0/\ad T' 11=.bool b) (zV (bA hl g0 g1 g2 g3)) ?_;clear hl g0 g1 g2 g3;rintro T' ⟨hl,g0,g1,g2,g3,t9,t10,t11⟩;have ltP:=wG3 _ _ pA;refine aS ?_;rw [MH];rcases hm3' with ⟨_,h,-⟩ | ⟨n,p,K,G,rfl,hn3,h,hPV,hO,lK,lG⟩
 ·rw [hv3] at h;cases h;refine aF ?_;refine zX (iy hl t9 t10 t11 pA @al @im hrs) ?_;exact kA.up 14
 rw [hv3] at h;cases h;refine aF ?_;refine zX (jW hl g3 t9 t10 t11 pA @al @im hrs) ?_;refine AnsH.use (rv C (a:=0) (b:=0) zF (by decide) (by decide) (by decide)) ?_;rintro vi H4 ⟨hi4,hk4⟩;obtain ⟨k4,_,w4⟩:=zT G3 zK hk4;have pA4:=k4.get pA;obtain ⟨pl4,ph4,hvi4,hpl4,hph4⟩:=id hi4;have kB:Kp H H4:=kA.trans k4;refine zX (qz hl g3 t9 t10 t11 pA pA4 @al @im hrs) ?_;refine AnsH.eq (FO C (n:=n) zF ((hPV.mono k4.sub).mono (Kp.sub (H:=H4) zK)) (hs2.mono kB.sub) hi4) fun H5 hk5=>?_;obtain ⟨k45,_,_⟩:=zT H4 zK hk5;have k5:Kp G3 H5:=k4.trans k45;have le_k5:=k5.le;have w5:=k5.wf;have kC:Kp H H5:=kA.trans k5;have pA5:=k5.get pA
 generalize hbl:(jT K G || decide (4<n) || decide (6<K.length) || decide (4<G.length) || fW 5 1 row || (decide (1<(ag (0:Int).natAbs).length) || decide (1<(ag (0:Int).natAbs).length)))=bl
 cases bl with
 | true =>
  refine zX (iO hl g3 t9 t10 t11 pA pA4 pA5 @al @im hrs) ?_;exact kC.up 2
 | false =>
 simp only [WR,decide_eq_false_iff_not] at hbl;obtain ⟨⟨⟨⟨-,hK6⟩,hG4⟩,hrow⟩,-⟩:=hbl;refine zX (iO hl g2 g3 t9 t10 t11 pA pA4 pA5 @al @aC) ?_;have hgR:=lB hrow;have hbig:rV row:=⟨zO,fun z hz=>by have:=hgR.2 z hz; omega⟩
 have hPV5:=hPV.mono k5.sub;have hs5:=hs2.mono kC.sub;refine jw (fun T'=>T'.length=132/\ad T' 2=.int .i64 x/\ad T' 3=s2/\ad T' 10=.ptr P 0) (zV (aQ hl g2 g3 t10)) ?_;clear hl g0 g1 g2 g3 t9 t10 t11 pA pA4 hi4 hk4 hk5 hPV;rintro T ⟨hl,g2,g3,t10⟩;refine aS ?_;obtain ⟨vc,vg,hpe,hc5,hg5⟩:=hPV5;cases hpe;have n5:=k5.le;by_cases hbc:j8 n x=0/\jY n row=0
 case neg =>
  refine zW (bA hl g2 g3 t10 pA5) ?_;refine AnsH.use (AZ C (n:=n) zF ⟨_,_,rfl,hc5.mono (Kp.sub (H:=H5) zK),hg5.mono (Kp.sub (H:=H5) zK)⟩ hO (hs5.mono (Kp.sub (H:=H5) zK)) hbig zO) ?_;rintro _ H6 ⟨⟨c,hc0,rfl⟩,hk6⟩;obtain ⟨k6,_,w6⟩:=zT H5 zK hk6;have n6:H5.next+10<=H6.next:=hk6.le
  have kD:=kC.trans k6;refine zW (aE hl @mY @aC) ?_;refine aS ?_;refine zW (aQ hl hc0 @im hrs) ?_;exact zK
 case pos =>
 obtain ⟨hp0,hr0⟩:=hbc;unfold j8 at hp0;split at hp0
 case isTrue=>omega
 obtain ⟨xn,rfl⟩:∃ xn:Nat,x=(xn:Int):=⟨x.toNat,zO⟩
 have hxn:xn<n:=zO;unfold jY at hr0;split at hr0
 case isFalse=>omega
 rename_i hrok;split at hr0
 case isTrue=>omega
 rename_i hrl;clear hr0 hp0;have hrl:row.length=n+1:=zO;obtain ⟨hab,hrz⟩:=Qb gr hrow hrok;have hra:RowV H5 s2 (row.map ct):=SlV.int hs5 hrz;obtain ⟨a,ha⟩:∃ a,a=row.map ct:=⟨_,rfl⟩
 rw [<- ha] at hab hra;have hal:a.length=n+1:=by rw [ha,Vc,hrl]
 clear ha hrz hrok hrl hrow hbig hs5 hgR;refine zW (bA hl g2 g3 t10 pA5) ?_;refine AnsH.use (ts C (n:=n) (x:=xn) zF ⟨_,_,rfl,hc5.mono (Kp.sub (H:=H5) zK),hg5.mono (Kp.sub (H:=H5) zK)⟩ hO (hra.mono (Kp.sub (H:=H5) zK)) hal hab hxn hn3 zO zO) ?_;rintro v6 H6 ⟨hm6,hk6⟩;obtain ⟨k6,_,w6⟩:=zT H5 zK hk6;have n6:H5.next+10<=H6.next:=hk6.le
 have kD:=kC.trans k6;rcases hm6 with ⟨rfl,-⟩ | ⟨p,rfl,⟨vc6,vg6,rfl,hc6,hg6⟩,lG6,lK6⟩
 ·refine zW (aE hl @mY @aC) ?_;refine aS ?_;refine zW (aE hl @im hrs) ?_;exact zK
 have oc6:=hc6.one;have og6:=hg6.one;have f6:H6.get (H5.next+7)=none:=hk6.free (show H5.next+7<H5.next+10 by omega) (w5.fresh (b:=H5.next+7) zO);obtain ⟨G6,hG6⟩:∃ X,X=(H6.put (H5.next+7) (.cells [.int .i64 0,.nilSl,.nilSl] ak true)).put (H5.next+7) (.cells [.int .i64 (n:Int),vc6,vg6] ak true):=⟨_,rfl⟩
 have s6:Sub H6 G6:=by rw [hG6]; exact (aJ f6).put f6 _
 have kG6:Kp H5 G6:=by rw [hG6]; exact zK
 have pB6:G6.get (H5.next+7)=some (.cells [.int .i64 (n:Int),vc6,vg6] ak true):=by rw [hG6,ap]
 refine zW (aE hl @mY @aC) ?_;rw [<- hG6];clear hG6;obtain ⟨B,hB⟩:∃ X,X=H5.next+7:=⟨_,rfl⟩
 rw [<- hB] at pB6;rw [<- hB];have wG6:=kG6.wf;have ltB:=wG6 _ _ pB6;have kE:=kC.trans kG6;have pA6:=kG6.get pA5;refine jw (fun T'=>T'.length=132/\ad T' 2=.int .i64 (xn:Int)/\ad T' 3=s2/\ad T' 10=.ptr P 0/\ad T' 12=.ptr B 0/\ad T' 13=.int .i64 0) (zV (aQ hl g2 g3 t10)) ?_;clear hl g2 g3 t10 hk6 f6;rintro T ⟨hl,g2,g3,t10,t12,t13⟩;refine aS ?_;refine zW (aQ hl t12 t13 pB6) ?_;refine AnsH.eq (m6 C (n:=n) zF ⟨vc6,vg6,rfl,(hc6.mono s6).mono (Kp.sub (H:=G6) zK),(hg6.mono s6).mono (Kp.sub (H:=G6) zK)⟩) fun H7 hk7=>?_;obtain ⟨k7,_,w7⟩:=zT G6 zK hk7;have kF:=kE.trans k7;obtain ⟨GB,hGB⟩:∃ X,X=Lin.gensP n (K.map (Lin.bkC xn a)):=⟨_,rfl⟩
 have oB:Lin.Own n (Lin.consP n GB) GB:=by rw [hGB]; exact Lin.own_of (Lin.bk_rows hO.own.rows hal)
 have in1:Lin.inP (Lin.gensP n (Lin.consP n (GB.map (Lin.mvG xn a 0)))) K=true:=by rw [hGB]; exact Lin.back_in1 hO.own.rows hal hxn
 have in2:=Lin.back_in2 (x:=xn) (a:=a) hO.own hal hxn;rw [<- hGB] at hc6 hg6 ⊢;clear hGB
 generalize hgr:(jT (Lin.consP n GB) GB || decide (4<n))=gr'
 cases gr' with
 | true =>
  refine zW (aE hl @im hrs) ?_;exact zK
 | false =>
 rw [WR] at hgr;obtain ⟨⟨a1,a2⟩,a3,a4⟩:=pT hgr.1;have okB:PolyOK n 64 64 (Lin.consP n GB) GB:=⟨oB,zO,.inl zO,zO,fun c hc=>(a2 c hc).2,fun x hx=>(a4 x hx).2,zO,zO⟩
 refine zW (aD hl @aC) ?_;obtain ⟨G7,hG7⟩:∃ X,X=H7:=⟨_,rfl⟩
 have pB7:=k7.get pB6;have pA7:=k7.get pA6;have hcB:=(hc6.mono s6).mono k7.sub;have hgB:=(hg6.mono s6).mono k7.sub;have hra7:=hra.mono (kG6.sub.trans k7.sub);have hcA:=hc5.mono (kG6.sub.trans k7.sub);have hgA:=hg5.mono (kG6.sub.trans k7.sub);refine jw (fun T'=>T'.length=132/\ad T' 2=.int .i64 (xn:Int)/\ad T' 3=s2/\ad T' 10=.ptr P 0/\ad T' 12=.ptr B 0) (zV (bA hl g2 g3 t10 t12)) ?_;clear hl g2 g3 t10 t12 t13 hk7;rintro T ⟨hl,g2,g3,t10,t12⟩;refine aS ?_;refine aF ?_;refine zD (dL hl g2 g3 t12 pB7 @al) ?_;refine AnsH.use (rv C (a:=0) (b:=0) zF (by decide) (by decide) (by decide)) ?_;rintro vi H8 ⟨hi8,hk8⟩;obtain ⟨k8,_,w8⟩:=zT H7 zK hk8;have pB8:=k8.get pB7;obtain ⟨pl8,ph8,hvi8,hpl8,hph8⟩:=id hi8;refine zD (fy hl g2 g3 t12 pB7 pB8 @al) ?_;refine AnsH.use (AY C (n:=n) (x:=xn) w8 ⟨_,_,rfl,hcB.mono k8.sub,hgB.mono k8.sub⟩ okB (hra7.mono k8.sub) hal hab hi8 hxn hn3 a3) ?_;rintro _ H9 ⟨⟨vc9,vg9,rfl,hc9,hg9⟩,hk9⟩;have okF:=HX (x:=xn) okB hn3 a3 hal hab;have k89:Kp H8 H9:=hk9;have le_k89:=k89.le;have k9:Kp H7 H9:=k8.trans k89;have le_k9:=k9.le;have w9:=k9.wf;have e9:Emp H9 H7.next (H7.next+11):=((Emp.start w7 (k:=11)).keep hk8).keep hk9
 have n9:=e9.1;have oc9:=hc9.one;have og9:=hg9.one;have f9:=e9.2 (H7.next+8) zO zO;obtain ⟨G9,hG9⟩:∃ X,X=(H9.put (H7.next+8) (.cells [.int .i64 0,.nilSl,.nilSl] ak true)).put (H7.next+8) (.cells [.int .i64 (n:Int),vc9,vg9] ak true):=⟨_,rfl⟩
 have s9:Sub H9 G9:=by rw [hG9]; exact (aJ f9).put f9 _
 have kG9:Kp H7 G9:=by rw [hG9]; exact zK
 have wG9:=kG9.wf;have pF9:G9.get (H7.next+8)=some (.cells [.int .i64 (n:Int),vc9,vg9] ak true):=by rw [hG9]; exact ap _ _ _
 refine zD (jW hl g2 g3 t12 pB7 pB8 @mY @al @aC) ?_;rw [<- hG9];clear hG9;obtain ⟨F,hF⟩:∃ X,X=H7.next+8:=⟨_,rfl⟩
 rw [<- hF] at pF9;rw [<- hF];have pA9:=kG9.get pA7;have kI:=kF.trans kG9;refine jw (fun T'=>T'.length=132/\ad T' 2=.int .i64 (xn:Int)/\ad T' 3=s2/\ad T' 10=.ptr P 0/\ad T' 14=.ptr F 0/\ad T' 15=.int .i64 0) (zE (aQ hl g2 g3 t10)) ?_;clear hl g2 g3 t10 t12 hk8 hk9 e9 f9;rintro T ⟨hl,g2,g3,t10,t14,t15⟩;have hcF:=hc9.mono s9;have hgF:=hg9.mono s9;have hcA9:=hcA.mono kG9.sub;have hgA9:=hgA.mono kG9.sub;have hra9:=hra7.mono kG9.sub;refine aS ?_;refine zW (bA hl t10 t14 pF9 pA9) ?_;refine AnsH.eq (Jj C (n:=n) zF ⟨vc9,vg9,rfl,hcF.mono (Kp.sub (H:=G9) zK),hgF.mono (Kp.sub (H:=G9) zK)⟩ ⟨_,_,rfl,hcA9.mono (Kp.sub (H:=G9) zK),hgA9.mono (Kp.sub (H:=G9) zK)⟩ okF hO) fun HA hkA=>?_;rw [in1];have kAA:Kp G9 HA:=Kp.trans zK hkA;have wA:=kAA.wf;have kJ:=kI.trans kAA;refine zW (aD hl @aC) ?_;refine jw (fun T'=>T'.length=132/\ad T' 2=.int .i64 (xn:Int)/\ad T' 3=s2/\ad T' 10=.ptr P 0/\ad T' 15=.int .i64 0/\ad T' 16=.bool true/\ad T' 17=.int .i64 0) (zV (bA hl g2 g3 t10 t15)) ?_;clear hl g2 g3 t10 t14 t15 hkA;rintro T ⟨hl,g2,g3,t10,t15,t16,t17⟩;have pAA:=kAA.get pA9;have hcAA:=hcA9.mono kAA.sub;have hgAA:=hgA9.mono kAA.sub;have hraA:=hra9.mono kAA.sub;refine aS ?_;refine aF ?_;refine zD (dL hl g2 g3 t10 pAA @al) ?_;refine AnsH.use (rv C (a:=0) (b:=0) zF (by decide) (by decide) (by decide)) ?_;rintro vj HB ⟨hiB,hkB⟩;have kB2:Kp HA HB:=Kp.trans zK hkB;have wB:=kB2.wf;have pAB:=kB2.get pAA;obtain ⟨plB,phB,hviB,hplB,hphB⟩:=id hiB;refine zD (fy hl g2 g3 t10 pAA pAB @al) ?_;refine AnsH.use (AY C (n:=n) (x:=xn) wB ⟨_,_,rfl,hcAA.mono kB2.sub,hgAA.mono kB2.sub⟩ hO (hraA.mono kB2.sub) hal hab hiB hxn hn3 lG) ?_;rintro _ HC ⟨⟨vcC,vgC,rfl,hcC,hgC⟩,hkC⟩;have okQ:=HX (x:=xn) hO hn3 lG hal hab;have kC2:Kp HA HC:=kB2.trans hkC;have wC:=kC2.wf;have eC:Emp HC HA.next (HA.next+11):=((Emp.start wA (k:=11)).keep hkB).keep hkC
 have nC:=eC.1;have ocC:=hcC.one;have ogC:=hgC.one;have fC:=eC.2 (HA.next+8) zO zO;obtain ⟨GC,hGC⟩:∃ X,X=(HC.put (HA.next+8) (.cells [.int .i64 0,.nilSl,.nilSl] ak true)).put (HA.next+8) (.cells [.int .i64 (n:Int),vcC,vgC] ak true):=⟨_,rfl⟩
 have sC:Sub HC GC:=by rw [hGC]; exact (aJ fC).put fC _
 have kGC:Kp HA GC:=by rw [hGC]; exact zK
 have wGC:=kGC.wf;have pQC:GC.get (HA.next+8)=some (.cells [.int .i64 (n:Int),vcC,vgC] ak true):=by rw [hGC]; exact ap _ _ _
 refine zD (jW hl g2 g3 t10 pAA pAB @mY @al @aC) ?_;rw [<- hGC];clear hGC;obtain ⟨Q,hQ⟩:∃ X,X=HA.next+8:=⟨_,rfl⟩
 rw [<- hQ] at pQC;rw [<- hQ];have pAC:=kGC.get pAA;have kK:=kJ.trans kGC;refine jw (fun T'=>T'.length=132/\ad T' 2=.int .i64 (xn:Int)/\ad T' 3=s2/\ad T' 10=.ptr P 0/\ad T' 15=.int .i64 0/\ad T' 16=.bool true/\ad T' 17=.int .i64 0/\ad T' 18=.ptr Q 0/\ad T' 19=.int .i64 0) (zE (fy hl g2 g3 t10 t15 t16 t17)) ?_;clear hl g2 g3 t10 t15 t16 t17 hkB hkC eC fC;rintro T ⟨hl,g2,g3,t10,t15,t16,t17,t18,t19⟩;have hcQ:=hcC.mono sC;have hgQ:=hgC.mono sC;have hcP:=hcAA.mono kGC.sub;have hgP:=hgAA.mono kGC.sub;have hraC:=hraA.mono kGC.sub;refine aS ?_;refine zW (fy hl t15 t16 t17 t18 t19 pQC) ?_;refine AnsH.eq (m6 C (n:=n) zF ⟨vcC,vgC,rfl,hcQ.mono (Kp.sub (H:=GC) zK),hgQ.mono (Kp.sub (H:=GC) zK)⟩) fun HD hkD=>?_;have kD2:Kp GC HD:=Kp.trans zK hkD;have wD:=kD2.wf;have kL:=kK.trans kD2;have oQ:Lin.Own n (Lin.consP n (G.map (Lin.mvG xn a 0))) (Lin.gensP n (Lin.consP n (G.map (Lin.mvG xn a 0)))):=okQ.own;obtain ⟨KQ,hKQ⟩:∃ X,X=Lin.consP n (G.map (Lin.mvG xn a 0)):=⟨_,rfl⟩
 obtain ⟨GQ,hGQ⟩:∃ X,X=Lin.gensP n KQ:=⟨_,rfl⟩
 rw [<- hKQ] at in2 hcQ hgQ oQ ⊢;rw [<- hGQ] at hgQ oQ ⊢;clear okQ hcC hgC hGQ hKQ
 generalize hgr2:(jT KQ GQ || decide (4<n))=gr'
 cases gr' with
 | true =>
  refine zW (iy hl t15 t16 t17 t18 t19 @im hrs) ?_;exact zK
 | false =>
 rw [WR] at hgr2;obtain ⟨⟨b1,b2⟩,b3,b4⟩:=pT hgr2.1;have okQ:PolyOK n 64 64 KQ GQ:=⟨oQ,zO,.inl zO,zO,fun c hc=>(b2 c hc).2,fun x hx=>(b4 x hx).2,zO,zO⟩
 refine zW (fy hl t15 t16 t17 t18 t19 @aC) ?_;have pQD:=kD2.get pQC;have pAD:=kD2.get pAC;have hcQD:=hcQ.mono kD2.sub;have hgQD:=hgQ.mono kD2.sub;have hcPD:=hcP.mono kD2.sub;have hgPD:=hgP.mono kD2.sub;have hraD:=hraC.mono kD2.sub;refine jw (fun T'=>T'.length=132/\ad T' 2=.int .i64 (xn:Int)/\ad T' 3=s2/\ad T' 10=.ptr P 0/\ad T' 18=.ptr Q 0) (zV (bA hl g2 g3 t10 t18)) ?_;clear hl g2 g3 t10 t15 t16 t17 t18 t19 hkD;rintro T ⟨hl,g2,g3,t10,t18⟩;refine aS ?_;refine zW (bA hl g2 g3 t18 pQD) ?_;refine AnsH.use (ts C (n:=n) (x:=xn) zF ⟨_,_,rfl,hcQD.mono (Kp.sub (H:=HD) zK),hgQD.mono (Kp.sub (H:=HD) zK)⟩ okQ (hraD.mono (Kp.sub (H:=HD) zK)) hal hab hxn hn3 zO zO) ?_;rintro vE HE ⟨hmE,hkE⟩;have okR:=NS (x:=xn) okQ hn3 b1 hal hab;obtain ⟨vcE,vgE,rfl,hcE,hgE⟩:=JD hmE okR;have kE2:Kp HD HE:=Kp.trans zK hkE;have wE:=kE2.wf;have nE:HD.next+10<=HE.next:=hkE.le
 have ocE:=hcE.one;have ogE:=hgE.one;have fE:HE.get (HD.next+7)=none:=hkE.free (show HD.next+7<HD.next+10 by omega) (wD.fresh (b:=HD.next+7) zO);obtain ⟨GE,hGE⟩:∃ X,X=(HE.put (HD.next+7) (.cells [.int .i64 0,.nilSl,.nilSl] ak true)).put (HD.next+7) (.cells [.int .i64 (n:Int),vcE,vgE] ak true):=⟨_,rfl⟩
 have sE:Sub HE GE:=by rw [hGE]; exact (aJ fE).put fE _
 have kGE:Kp HD GE:=by rw [hGE]; exact zK
 have wGE:=kGE.wf;have pRE:GE.get (HD.next+7)=some (.cells [.int .i64 (n:Int),vcE,vgE] ak true):=by rw [hGE,ap]
 refine zW (aE hl @mY @aC) ?_;rw [<- hGE];clear hGE;obtain ⟨R,hR⟩:∃ X,X=HD.next+7:=⟨_,rfl⟩
 rw [<- hR] at pRE;rw [<- hR];have pAE:=kGE.get pAD;have kM:=kL.trans kGE;refine jw (fun T'=>T'.length=132/\ad T' 10=.ptr P 0/\ad T' 20=.ptr R 0/\ad T' 21=.int .i64 0) (zV (aD hl t10)) ?_;clear hl g2 g3 t10 t18 hkE fE;rintro T ⟨hl,t10,t20,t21⟩;have hcR:=hcE.mono sE;have hgR:=hgE.mono sE;have hcPE:=hcPD.mono kGE.sub;have hgPE:=hgPD.mono kGE.sub;refine aS ?_;refine zW (bA hl t10 t20 pRE pAE) ?_;refine AnsH.eq (Jj C (n:=n) zF ⟨_,_,rfl,hcPE.mono (Kp.sub (H:=GE) zK),hgPE.mono (Kp.sub (H:=GE) zK)⟩ ⟨vcE,vgE,rfl,hcR.mono (Kp.sub (H:=GE) zK),hgR.mono (Kp.sub (H:=GE) zK)⟩ hO okR) fun HF hkF=>?_;rw [in2];have kF2:Kp GE HF:=Kp.trans zK hkF;have wF:=kF2.wf;have kN:=kM.trans kF2;refine zW (aD hl @aC) ?_;refine jw (fun T'=>T'.length=132/\ad T' 21=.int .i64 0/\ad T' 22=.bool true/\ad T' 23=.int .i64 0) (zV (aD hl t21)) ?_;clear hl t10 t20 t21 hkF;rintro T ⟨hl,t21,t22,t23⟩;refine aS ?_;refine zW (bA hl t21 t22 t23 @aC) ?_;refine WC.wb ?_;refine zW (aD hl hrs) ?_;exact zK
end
end Go.Proofs.YteaefaohjlmjdaaGreat.Ev
namespace Go.Proofs.YteaefaohjlmjdaaGreat.Ev
open Go Go.WideShapes Nn
section
variable {HT:Type} {enc:TypeId × Value->HT} {P:Program} {w:World} {base base':Nat} {sp:Nat->Bool} {held:Bool} {μ:Mu} {F:Nat->Prop} {H:Heap}
end
open Go
def NZ {P:Program}:I4 P eH:=trivial
def Ql {P:Program} {w:World} (hG:GlobW w):HR P (fun _=>none) (fun c=>c<w.heap.size) (Heap.nil 0) w:=by
 have h:=Ns (P:=P) hG;refine ⟨h.dom,fun c hc=>hc,fun b e hb=>?_,h.inj,fun g cs hg=>(h.gl g cs hg).mono (fun _ _ h=>h) (fun c hc=>h.fb c hc) fun _ _=>rfl⟩;rw [Tr.nil_get] at hb; cases hb
def open_calls {P:Program} (hmix:P.follows .mixedOrders=true) {tab:Nat->Option aA} (ht:Kh P tab) {f:Nat} {afn:aA} (haf:tab f=some afn) (hext:afn.ext=none) {args:List AV} {vs:List Value} {w:World} (hG:GlobW w)
  (hl:LR (fun _=>none) (fun c=>c<w.heap.size) w args vs) (h:Ans tab (.fn f args) (Heap.nil 0) fun v _=>v=.bool true) :
  Calls P f vs.toArray w fun e w'=>e=.returned (.bool true)/\w'.os=w.os/\w'.output=w.output/\w.heap.size<=w'.heap.size/\∀ c,c<w.heap.size->w'.heap[c]? = w.heap[c]?:=by
 obtain ⟨v,H',⟨N,hN⟩,rfl⟩:=h;have h1:=hN (N+1) (N+1) zO zO;simp only [lx,jA,haf,hext] at h1;obtain ⟨-,ht2⟩:=ht f afn haf;obtain ⟨fn,hfn,hc⟩:=ht2 fun e h=>by rw [hext] at h; cases h
 obtain ⟨c1,c2,c3,c4,-⟩:=EG hc hext;have hH:=Ql (P:=P) hG;have hin:=qL (Aj NZ hmix ht N) hmix hfn c1 c2 c3 c4 h1 hl hH 0 (fence:=Fence.wide) (rd:=false) (.inl ⟨rfl,rfl⟩);refine (hin.calls fun k=>room_wide k).mono fun e w' ⟨u,he,μ',hv,_,hS⟩=>?_;cases hv;refine ⟨he,hS.os,hS.out,hS.size,fun c hc=>hS.keep c hc fun b L ⟨e,h,_⟩=>?_⟩;rw [Tr.nil_get] at h; cases h
def Om {w w':World} (h1:w'.os=w.os) (h2:w'.output=w.output) (h:∀ c,c<w.heap.size->w'.heap[c]? = w.heap[c]?) (may:MemPlace->Prop):w.keptBut w' may:=by
 refine ⟨h1,h2,fun i hi=>?_⟩;rw [h i hi];split
 ·rename_i e1 e2;cases e1.symm.trans e2;exact ⟨rfl,rfl,rfl,fun _ _=>rfl⟩
 ·rename_i e1 e2;cases e1.symm.trans e2;exact .inr ⟨rfl,rfl⟩
 ·rfl
section
open Go.ChangeShapes Go.WideShapes Go.ChangeAt Go.RowKit
variable {HT:Type} {enc:TypeId × Value->HT} {P:Program}
def stays {t:TypeId} (hl:laidOutB P=true) (hr:P.readableRec t=true) (hrow:t<P.types.size) {W W':World} {sp:Nat->Bool} {v:Value} {d:DataW HT} {ps:List MemPlace}
  (h:DataW.Trod enc P W 0 (fun _=>true) true t v d ps) (hk:∀ c,c<W.heap.size->W'.heap[c]? = W.heap[c]?) (hlt:∀ x∈ps,x.block<W.heap.size) (hs:∀ p∈ps,sp p.block=true):DataW.Trod enc P W' 0 sp true t v d ps :=
 WideElems.Trod_stays hl hr hrow h (fun p hp=>by
  have hb:=hk p.block (hlt p hp);cases p with
  | cell b o=>exact World.cell?_of_block (w:=W) hb
  | map b=>exact hb) hs
def post_kept {f:Func} {s:ChangeSpec} {apart fresh handsOn again:Bool} {W W':World} {args:Array Value} {v:Value} {ds gs:List (DataW HT)} {before:List MemPlace}
  (hW:DataW.Whole enc P f.params.toList s.vars apart W args.toList ds gs before)
  (hres:∀ (b:Nat) (sp:Nat->Bool) (hd:Bool),DataW.TrodAll enc P W' b sp hd f.resultTypes.toList (v.resultList f.resultTypes.size) (s.fn HT (ds++gs)).results [])
  (hargs:∀ sp:Nat->Bool,(∀ p∈before,sp p.block=true)->DataW.TrodAll enc P W' 0 sp true f.params.toList args.toList (s.fn HT (ds++gs)).args before)
  (hvars:∀ sp:Nat->Bool,DataW.TrodVars enc P W' sp s.vars (s.fn HT (ds++gs)).vars [])
  (h1:W'.os=W.os) (h2:W'.output=W.output) (hk:∀ c,c<W.heap.size->W'.heap[c]? = W.heap[c]?)
  (hok:∀ (j:Nat) (t:TypeId) (r:Value),f.resultTypes[j]? = some t->(v.resultList f.resultTypes.size)[j]? = some r->Value.okWide P W' .any 0 t r) :
  s.post enc P f apart fresh handsOn again W args v W':=by
 have hold:∀ p∈before,(fun b=>decide (b<W.heap.size)) p.block=true:=fun p hp=>by simpa using hW.lt p hp
 have hlt:∀ p∈before,p.block<W.heap.size:=fun p hp=>hW.lt p hp;refine ⟨ds,gs,before,[],before,[],hW,hres _ _ _,hargs _ hold,hvars _,Om h1 h2 hk _,fun _=>?_⟩;obtain ⟨_,_,_,_,e,hz,hn⟩:=hW;refine ⟨hok,_,_,([]++before)++[],⟨[]++before,[],trodAll_append (hargs _ (fun _ _=>rfl)) (hres _ _ _),hvars _,rfl,?_,?_⟩,?_⟩
 ·intro b off hp;have hp':MemPlace.cell b off∈before:=by simpa using hp
  have hb:=hlt _ hp';rw [World.frozen?_of_block (w:=W) (hk b hb)];exact hz b off hp'
 ·intro ha
  have:=hn ha
  simpa using this
 ·intro p hp _
  simpa using hp
end
end Go.Proofs.YteaefaohjlmjdaaGreat.Ev
namespace Go.Proofs.YteaefaohjlmjdaaGreat.Ins224
open Go Go.RowKit Go.Lib Go.Proofs
variable {P:Program}
theorem tS:Tryz.prog.underlying 153=some (.slice 24):=by kernel_rfl
theorem iE:(Tryz.prog.info? 24).map (fun i=>(i.zero,i.size,i.bytes))=some (some (Value.slice none 0 0),1,24):=by kernel_rfl
def zE:∀ w,(Go.sizeOf 24).run Tryz.prog w=.ok 1 w:=fun w=>by
 obtain ⟨i0,hi,h0,h1,h2⟩:=info_parts iE;simp [Go.sizeOf,typeInfo,hi,h1]
theorem tI:Tryz.prog.underlying 3=some (.int .i64):=by kernel_rfl
theorem Ea:Tryz.prog.follows .mixedOrders=true:=by kernel_rfl
def Dj (w:World) {o:Oper} {a:Act} {K:Act->World->Prop} {Q:Exit->Act->World->Prop} (d s:Operand) (t t':TypeId)
  (ho:o.op=.call { callee:=.builtin .copy,args:=#[d,s],argTypes:=#[t,t'] }) (v u:Value) (hd:a.eval d=v) (hs:a.eval s=u) {v':Value} {w':World}
  (hr:(Builtin.copy_ #[t,t'] o.type #[v,u]).run P w=.ok v' w') (h:K (a.put o.dst v') w'):o.wp P a w K Q:=by
 unfold Oper.wp execOp;simp only [ho,resolve,invoke,builtin,Sem.run_bind,Sem.run_pure,Result.andThen_ok,List.map_toArray,Ve,Vk,hd,hs,hr];exact h
def jK (w:World) {ops:Array Oper} {rest:List Oper} {o:Oper} {a:Act} {Q:Exit->Act->World->Prop} (hgd:o.guard=none) (d s:Operand) (t t':TypeId)
  (ho:o.op=.call { callee:=.builtin .copy,args:=#[d,s],argTypes:=#[t,t'] }) (v u:Value) (hd:a.eval d=v) (hs:a.eval s=u) {v':Value} {w':World}
  (hr:(Builtin.copy_ #[t,t'] o.type #[v,u]).run P w=.ok v' w') (h:wpList P ops Q rest (a.put o.dst v') w'):wpList P ops Q (o :: rest) a w :=
 wpList_plain hgd fun _ hK=>Dj w d s t t' ho v u hd hs hr (hK _ _ h)
def qI {ops:Array Oper} {o:Oper} {a:Act} {w:World} {K:Act->World->Prop} {Q:Exit->Act->World->Prop} {E:Prop}
  (hg:o.guard=none) (d x:Operand) (dT sT:TypeId) (hop:o.op=Op.call { callee:=Callee.builtin Builtin.copy,args:=#[d,x],argTypes:=#[dT,sT] })
  (v u:Value) (hd:a.eval d=v) (hx:a.eval x=u) {v':Value} {w':World} (hr:(Builtin.copy_ #[dT,sT] o.type #[v,u]).run P w=.ok v' w') (hK:K (a.put o.dst v') w') :
  if Region.wanted o (yielded ops a.tmps)=true then Oper.wp P o a w K Q else E:=by
 have hw:Region.wanted o (yielded ops a.tmps)=true:=by simp [Region.wanted,hg]
 rw [if_pos hw];unfold Oper.wp;simp [execOp,hop,resolve,invoke,builtin,hd,hx,hr,Result.andThen];exact hK
def qp (b:Nat) (vs:List Value) (o:Nat) (w:World) (h:∀ j,j<vs.length->(w.cell? ⟨b,o+j,none⟩).isSome=true) (k:Nat) (hk:(w.cell? ⟨b,k,none⟩).isSome=true):((w.setCells b o vs).cell? ⟨b,k,none⟩).isSome=true:=by
 by_cases hin:o<=k/\k<o+vs.length
 ·have:=World.cell?_setCells_in b vs o w h (k-o) zO
  rw [show o+(k-o)=k by omega] at this;rw [this]; rfl
 ·rw [World.cell?_setCells_out b vs o w ⟨b,k,none⟩ (fun _ _=>by show k<o\/o+vs.length<=k; omega)];exact hk
set_option maxHeartbeats 4000000 in
set_option maxRecDepth 100000 in
def shift (b off n c i vb voff m vc:Nat) (cs vs:List Value) (w:World) (hi:i<n) (hm:0<m) (hroom:n+m<=c) (hc63:n+m<=9223372036854775807) (hvb:vb≠b)
  (hcl:cs.length=n) (hvl:vs.length=m)
  (hcs:∀ j v,cs[j]? = some v->w.cell? ⟨b,off+j,none⟩=some v) (hsp:∀ j,j<n+m->(w.cell? ⟨b,off+j,none⟩).isSome=true) (hfz:∀ j,j<n+m->w.frozen? ⟨b,off+j,none⟩=false)
  (hvs:∀ j v,vs[j]? = some v->w.cell? ⟨vb,voff+j,none⟩=some v) (h1c:∀ v∈cs,v.oneCell'=true) (h1v:∀ v∈vs,v.oneCell'=true)
  (tA tB:TypeId) (kA kB:Nat) (hsa:w.shape? vb=some (tA,kA)) (hsb:w.shape? b=some (tB,kB)) (hkB:kB≠0) (hfa:w.frozen? ⟨vb,voff,none⟩=false) (hfe:w.frozen? ⟨vb,kA,none⟩=false) :
  Calls Tryz.prog 224 #[.slice (some ⟨b,off,none⟩) n c,.int .i64 i,.slice (some ⟨vb,voff,none⟩) m vc] w fun e w' =>
   e=.returned (.slice (some ⟨b,off,none⟩) (n+m) c)/\w'=(w.drew.setCells b (off+(i+m)) (cs.drop i)).setCells b (off+i) vs:=by
 have hz1:¬ ((m:Int)=0):=zO;have hz2:¬ ((i:Int)=(n:Int)):=zO;have hsz:(Tryz.prog.info? 24).map (·.size)=some 1:=by
  obtain ⟨i0,hi0,h0,h1,h2⟩:=info_parts iE;rw [hi0]; simp [h1]
 have hov:∀ lb cb,(callFunc 234 #[.slice (some ⟨vb,voff,none⟩) m vc,.slice (some ⟨b,off+(i+m),none⟩) lb cb]).run Tryz.prog w=.ok (.value (.bool false)) w:=fun lb cb=>by
  rw [run_callFunc_extern Tryz.func234 (by kernel_rfl) (by kernel_rfl) (by kernel_rfl) (e:=Extern.SlicesOverlaps.overlaps #[153,153] #[4]) (by kernel_rfl),
   Lib.run_overlaps_apart w 153 4 24 tS 1 zE ⟨vb,voff,none⟩ ⟨b,off+(i+m),none⟩ m vc lb cb hvb tA tB kA kB hsa hsb hkB hfa hfe]
  rfl
 have hdl:(cs.drop i).length=n-i:=by rw [Wu,hcl]
 have hw1:IntKind.i64.wrap ((i:Int)+(m:Int))=(i:Int)+(m:Int):=by rw [IntKind.wrap_i64]; omega
 have hb1:(0:Int)<=(i:Int)+(m:Int):=zO;have hin:i<=n:=zO;have htn:((i:Int)+(m:Int)).toNat=i+m:=zO;have hb2:¬ (c=i+m):=zO;have hb3:(i:Int)<=(n:Int)+(m:Int):=zO;have hb4:¬ (c=i):=zO;have hcp1:∀ ty dc sc,(Builtin.copy_ #[153,153] ty #[.slice (some ⟨b,off+(i+m),none⟩) (n+m-(i+m)) dc,.slice (some ⟨b,off+i,none⟩) (n+m-i) sc]).run Tryz.prog w.drew=.ok (goInt (cs.drop i).length) (w.drew.setCells b (off+(i+m)) (cs.drop i)):=fun ty dc sc =>
  run_copy_cells w.drew _ _ ty 24 b (off+(i+m)) (n+m-(i+m)) dc ⟨b,off+i,none⟩ (n+m-i) sc (cs.drop i) tS hsz (by rw [hdl]; simp only [ZW]; split <;> omega)
   (fun j v hj=>by rw [Addr.add_lit,Wb]; exact hcs (i+j) v (by rwa [Vw] at hj))
   (fun j hj=>by rw [Wb]; exact hsp _ zO) (fun j hj=>by rw [Wb]; exact hfz _ zO) (fun v hv=>h1c v (XN hv))
 obtain ⟨W1,hW1⟩:∃ W1,W1=w.drew.setCells b (off+(i+m)) (cs.drop i):=⟨_,rfl⟩
 have hsp1:∀ k,k<n+m->(W1.cell? ⟨b,off+k,none⟩).isSome=true:=fun k hk=>by
  rw [hW1];exact qp b _ _ _ (fun j hj=>by rw [Wb]; exact hsp _ zO) _ (hsp k hk)
 have hcp2:∀ (W:World),(∀ x,W.cell? x=W1.cell? x)->(∀ x,W.frozen? x=W1.frozen? x)->∀ ty dc,(Builtin.copy_ #[153,153] ty #[.slice (some ⟨b,off+i,none⟩) (n+m-i) dc,.slice (some ⟨vb,voff,none⟩) m vc]).run Tryz.prog W=.ok (goInt vs.length) (W.setCells b (off+i) vs):=fun W hWc hWf ty dc =>
  run_copy_cells W _ _ ty 24 b (off+i) (n+m-i) dc ⟨vb,voff,none⟩ m vc vs tS hsz (by rw [hvl]; simp only [ZW]; split <;> omega)
   (fun j v hj=>by
    rw [Addr.add_lit,hWc,hW1,World.cell?_setCells_out b _ _ _ _ (fun h _=>absurd h hvb)];exact hvs j v hj)
   (fun j hj=>by rw [hWc,Wb]; exact hsp1 _ zO) (fun j hj=>by rw [hWf,hW1,World.frozen?_setCells,Wb]; exact hfz _ zO) h1v
 rw [<- hW1] at hcp1;have mixed:=Ea
 go_enter Tryz.func224,Tryz.ntmps224
 go_wp2_with (simp only [hov])
 go_region_law_o (refine qI rfl _ _ 153 153 rfl _ _ (by simp [Act.eval,Act.put]) (by simp [Act.eval,Act.put]) (hcp1 _ _ _) ?_)
 go_wp2_with (at_builtin; refine jK _ rfl _ _ 153 153 rfl _ _ rfl rfl (hcp2 _ (fun _=>rfl) (fun _=>rfl) _ _) ?_)
 go_ret
 first | exact ⟨rfl,rfl⟩ | exact ⟨rfl,by rw [hW1]⟩
set_option maxHeartbeats 4000000 in
set_option maxRecDepth 100000 in
def end_room (b off n c vb voff m vc:Nat) (vs:List Value) (w:World) (hm:0<m) (hroom:n+m<=c) (hc63:n+m<=9223372036854775807)
  (hvl:vs.length=m) (hsp:∀ j,j<m->(w.cell? ⟨b,off+n+j,none⟩).isSome=true) (hfz:∀ j,j<m->w.frozen? ⟨b,off+n+j,none⟩=false)
  (hvs:∀ j v,vs[j]? = some v->w.cell? ⟨vb,voff+j,none⟩=some v) (h1v:∀ v∈vs,v.oneCell'=true) :
  Calls Tryz.prog 224 #[.slice (some ⟨b,off,none⟩) n c,.int .i64 n,.slice (some ⟨vb,voff,none⟩) m vc] w fun e w' =>
   e=.returned (.slice (some ⟨b,off,none⟩) (n+m) c)/\w'=w.setCells b (off+n) vs:=by
 have hz1:¬ ((m:Int)=0):=zO;have hsrc:Src Tryz.prog 1 153 (.slice (some ⟨vb,voff,none⟩) m vc) m vs w:=Src.ofSlice w tS ⟨vb,voff,none⟩ m vc vs zO (fun j u hj=>by rw [Addr.add_lit]; exact hvs j u hj) h1v;have mixed:=Ea
 go_enter Tryz.func224,Tryz.ntmps224
 go_wp2_with (at_builtin; refine wpList_append_room1 _ rfl _ _ 153 153 rfl 24 _ _ tS iE b off n c rfl _ rfl m vs hsrc hroom (by rw [hvl]; exact hsp) (by rw [hvl]; exact hfz) ?_)
 go_ret
 exact ⟨rfl,rfl⟩
set_option maxHeartbeats 4000000 in
set_option maxRecDepth 100000 in
def end_grow (base:Option Addr) (n c vb voff m vc:Nat) (cs vs:List Value) (w:World) (hm:0<m) (hnc:n<=c) (hroom:c<n+m) (hbig:(n+m)*24<=140737488355328)
  (hcl:cs.length=n) (hvl:vs.length=m) (hnil:base=none->n=0)
  (hcs:∀ a,base=some a->∀ j v,cs[j]? = some v->w.cell? (a.add j)=some v)
  (hvs:∀ j v,vs[j]? = some v->w.cell? ⟨vb,voff+j,none⟩=some v) (h1v:∀ v∈vs,v.oneCell'=true) :
  Calls Tryz.prog 224 #[.slice base n c,.int .i64 n,.slice (some ⟨vb,voff,none⟩) m vc] w fun e w' =>
   e=.returned (.slice (some ⟨w.heap.size,0,none⟩) (n+m) (grownCap w (n+m) c 24)) /\
   w'=w.drew.alloc (.cells ((cs++vs).toArray++Builtin.zeroCells (Value.slice none 0 0).cells (grownCap w (n+m) c 24-(n+m))) 24):=by
 obtain ⟨i0,hi0,hz0,hzs,hzb⟩:=info_parts iE;have hz1:¬ ((m:Int)=0):=zO;have hsrc:Src Tryz.prog i0.size 153 (.slice (some ⟨vb,voff,none⟩) m vc) m vs w:=by
  rw [hzs];exact Src.ofSlice w tS ⟨vb,voff,none⟩ m vc vs zO (fun j u hj=>by rw [Addr.add_lit]; exact hvs j u hj) h1v
 have hold:(Builtin.firstCells i0.size n (.slice base n c)).run Tryz.prog w.drew=.ok cs.toArray w.drew:=by
  rw [hzs];cases base with
  | none =>
   have h0:=hnil rfl;subst h0;rw [Wk.1 hcl];exact run_firstCells_none w.drew 1 0 0 c
  | some a=>exact run_firstCells_some w.drew 1 n a n c cs zO (fun j v hj=>hcs a rfl j v hj)
 have hrun:∀ ty,(Builtin.append_ #[153,153] ty #[.slice base n c,.slice (some ⟨vb,voff,none⟩) m vc]).run Tryz.prog w=_:=fun ty =>
  run_append_grow_src w 153 153 ty 24 i0 _ tS hi0 hz0 base n c cs hold _ m vs hsrc hroom zO (by rw [hzb]; exact growslice_fits hroom hbig)
 have mixed:=Ea
 go_enter Tryz.func224,Tryz.ntmps224
 cases base with
 | none =>
  have h0:=hnil rfl;subst h0
  go_wp2_with (at_builtin; refine Lib.wpList_append_run _ rfl _ _ _ _ rfl _ _ rfl rfl _ _ (hrun _) ?_)
  go_ret
  exact ⟨rfl,rfl⟩
 | some a =>
  obtain ⟨ab,ao,asp⟩:=a
  go_wp2_with (at_builtin; refine Lib.wpList_append_run _ rfl _ _ _ _ rfl _ _ rfl rfl _ _ (hrun _) ?_)
  all_goals (go_ret; exact ⟨rfl,rfl⟩)
set_option maxHeartbeats 4000000 in
set_option maxRecDepth 100000 in
def grow (b off n c i vb voff m vc:Nat) (cs vs:List Value) (w:World) (hi:i<n) (hm:0<m) (hnc:n<=c) (hroom:c<n+m) (hbig:(n+m)*24<=140737488355328)
  (hcl:cs.length=n) (hvl:vs.length=m)
  (hcs:∀ j v,cs[j]? = some v->w.cell? ⟨b,off+j,none⟩=some v)
  (hvs:∀ j v,vs[j]? = some v->w.cell? ⟨vb,voff+j,none⟩=some v) (h1c:∀ v∈cs,v.oneCell'=true) (h1v:∀ v∈vs,v.oneCell'=true) :
  Calls Tryz.prog 224 #[.slice (some ⟨b,off,none⟩) n c,.int .i64 i,.slice (some ⟨vb,voff,none⟩) m vc] w fun e w' =>
   e=.returned (.slice (some ⟨w.heap.size,0,none⟩) (n+m) (grownCap w (n+m) c 24)) /\
   w'=(((w.alloc (.cells ((cs.take i).toArray++Builtin.zeroCells (Value.slice none 0 0).cells (n+m-i)++Builtin.zeroCells (Value.slice none 0 0).cells (grownCap w (n+m) c 24-(n+m))) 24)).drew.setCells w.heap.size i vs).drew).setCells w.heap.size (i+m) (cs.drop i):=by
 obtain ⟨i0,hi0,hz0,hzs,hzb⟩:=info_parts iE;have hz1:¬ ((m:Int)=0):=zO;have hz2:¬ ((i:Int)=(n:Int)):=zO;have hz3:(c:Int)<(n:Int)+(m:Int):=zO;have hsz:(Tryz.prog.info? 24).map (·.size)=some 1:=by rw [hi0]; simp [hzs]
 have hbw:b<w.heap.size:=block_lt_of_cell (hcs 0 _ (U7 zO));have hvw:vb<w.heap.size:=block_lt_of_cell (hvs 0 _ (U7 zO));have hkk:(n:Int)+(m:Int)-(i:Int)=((n+m-i:Nat):Int):=zO;have hik:i+(n+m-i)=n+m:=zO;have hold:(Builtin.firstCells i0.size i (.slice (some ⟨b,off,none⟩) i c)).run Tryz.prog w.drew=.ok (cs.take i).toArray w.drew:=by
  rw [hzs];exact run_firstCells_some w.drew 1 i ⟨b,off,none⟩ i c (cs.take i) (by rw [VC]; omega) (fun j v hj=>by
   rw [Addr.add_lit];rw [Vv] at hj;split at hj
   ·exact hcs j v hj
   ·cases hj)
 have hrz:∀ ty,(Builtin.append_ #[153,3] ty #[.slice (some ⟨b,off,none⟩) i c,.int .i64 ((n:Int)+(m:Int)-(i:Int))]).run Tryz.prog w =
   .ok (.slice (some ⟨w.heap.size,0,none⟩) (n+m) (grownCap w (n+m) c 24)) (w.drew.alloc (.cells ((cs.take i).toArray++Builtin.zeroCells (Value.slice none 0 0).cells (n+m-i)++Builtin.zeroCells (Value.slice none 0 0).cells (grownCap w (n+m) c 24-(n+m))) 24)):=fun ty=>by
  have h:=Lib.run_append_grow_zeros w 153 3 ty 24 i0 _ .i64 .i64 tS tI hi0 hz0 (some ⟨b,off,none⟩) i c (cs.take i) hold (n+m-i) zO zO zO zO (by rw [hzb]; omega) (by rw [hzb,hik]; exact growslice_fits hroom hbig);rw [hik] at h;rw [hkk];exact h
 obtain ⟨G,hG⟩:∃ G,G=grownCap w (n+m) c 24:=⟨_,rfl⟩
 obtain ⟨ROW,hROW⟩:∃ ROW:Array Value,ROW=(cs.take i).toArray++Builtin.zeroCells (Value.slice none 0 0).cells (n+m-i)++Builtin.zeroCells (Value.slice none 0 0).cells (G-(n+m)):=⟨_,rfl⟩
 rw [<- hG] at hrz ⊢;rw [<- hROW] at hrz ⊢;have hRl:n+m<=ROW.size:=by
  rw [hROW];simp [Builtin.zeroCells,Value.cells];omega
 obtain ⟨W1,hW1⟩:∃ W1,W1=w.drew.alloc (.cells ROW 24):=⟨_,rfl⟩
 rw [<- hW1] at hrz;have hN:∀ j,j<n+m->(W1.cell? ⟨w.heap.size,j,none⟩).isSome=true:=fun j hj=>by
  rw [hW1,World.cell?_alloc_at (w:=w.drew) ROW _ w.heap.size j rfl,Wl zO]; rfl
 have hNf:∀ j,W1.frozen? ⟨w.heap.size,j,none⟩=false:=fun j=>by rw [hW1]; exact World.frozen?_alloc_at (w:=w.drew) ROW _ w.heap.size j rfl
 have hOb:∀ j v,w.cell? ⟨b,j,none⟩=some v->W1.cell? ⟨b,j,none⟩=some v:=fun j v h=>by rw [hW1,World.cell?_alloc_past (w:=w.drew) _ b j hbw]; exact h
 have hOv:∀ j v,w.cell? ⟨vb,j,none⟩=some v->W1.cell? ⟨vb,j,none⟩=some v:=fun j v h=>by rw [hW1,World.cell?_alloc_past (w:=w.drew) _ vb j hvw]; exact h
 have hcpA:∀ (W:World),(∀ x,W.cell? x=W1.cell? x)->(∀ x,W.frozen? x=W1.frozen? x)->∀ ty dc,(Builtin.copy_ #[153,153] ty #[.slice (some ⟨w.heap.size,i,none⟩) (n+m-i) dc,.slice (some ⟨vb,voff,none⟩) m vc]).run Tryz.prog W=.ok (goInt vs.length) (W.setCells w.heap.size i vs):=fun W hWc hWf ty dc =>
  run_copy_cells W _ _ ty 24 w.heap.size i (n+m-i) dc ⟨vb,voff,none⟩ m vc vs tS hsz (by rw [hvl]; simp only [ZW]; split <;> omega)
   (fun j v hj=>by rw [Addr.add_lit,hWc]; exact hOv _ v (hvs j v hj))
   (fun j hj=>by rw [hWc]; exact hN _ zO) (fun j hj=>by rw [hWf]; exact hNf _) h1v
 have hGn:n+m<=G:=by rw [hG]; exact grownCap_ge w _ _ _
 have hG63:G<=9223372036854775807:=by
  have:=grownCap_le_maxLen w (n+m) c 24 (by unfold maxLen; omega)
  rw [<- hG] at this;unfold maxLen at this;omega
 have hGi:¬ (G=i):=zO;have hGim:¬ (G=i+m):=zO;have hci:¬ (c=i):=zO;have hbN:b≠w.heap.size:=zO;have hdl:(cs.drop i).length=n-i:=by rw [Wu,hcl]
 have hcpB:∀ (W:World),(∀ x,W.cell? x=(W1.setCells w.heap.size i vs).cell? x)->(∀ x,W.frozen? x=(W1.setCells w.heap.size i vs).frozen? x)->∀ ty dc sc,(Builtin.copy_ #[153,153] ty #[.slice (some ⟨w.heap.size,i+m,none⟩) (n+m-(i+m)) dc,.slice (some ⟨b,off+i,none⟩) (n-i) sc]).run Tryz.prog W=.ok (goInt (cs.drop i).length) (W.setCells w.heap.size (i+m) (cs.drop i)):=fun W hWc hWf ty dc sc =>
  run_copy_cells W _ _ ty 24 w.heap.size (i+m) (n+m-(i+m)) dc ⟨b,off+i,none⟩ (n-i) sc (cs.drop i) tS hsz (by rw [hdl]; simp only [ZW]; split <;> omega)
   (fun j v hj=>by
    rw [Addr.add_lit,hWc,World.cell?_setCells_out _ _ _ _ _ (fun h _=>absurd h hbN),Wb];exact hOb _ v (hcs (i+j) v (by rwa [Vw] at hj)))
   (fun j hj=>by rw [hWc]; exact qp _ _ _ _ (fun t ht=>hN _ zO) _ (hN _ zO))
   (fun j hj=>by rw [hWf,World.frozen?_setCells]; exact hNf _) (fun v hv=>h1c v (XN hv))
 subst hW1;have hE1:∀ x,((w.alloc (.cells ROW 24)).drew).cell? x=(w.drew.alloc (.cells ROW 24)).cell? x:=fun x=>rfl;have hE2:∀ x,((w.alloc (.cells ROW 24)).drew).frozen? x=(w.drew.alloc (.cells ROW 24)).frozen? x:=fun x=>rfl;have hF1:∀ x,(((w.alloc (.cells ROW 24)).drew.setCells w.heap.size i vs).drew).cell? x=((w.drew.alloc (.cells ROW 24)).setCells w.heap.size i vs).cell? x:=fun x=>rfl;have hF2:∀ x,(((w.alloc (.cells ROW 24)).drew.setCells w.heap.size i vs).drew).frozen? x=((w.drew.alloc (.cells ROW 24)).setCells w.heap.size i vs).frozen? x:=fun x=>rfl;have hw1:IntKind.i64.wrap ((i:Int)+(m:Int))=(i:Int)+(m:Int):=by rw [IntKind.wrap_i64]; omega
 have hb1:(0:Int)<=(i:Int)+(m:Int):=zO;have hin:i<=n:=zO;have htn:((i:Int)+(m:Int)).toNat=i+m:=zO;have hb3:(i:Int)<=(n:Int):=zO;clear hkk hik hold hROW hG hRl;have mixed:=Ea
 go_enter Tryz.func224,Tryz.ntmps224
 go_wp2_with (first
  | (at_builtin; refine Lib.wpList_append_run _ rfl _ _ _ _ rfl _ _ rfl rfl _ _ (hrz _) ?_)
  | (at_builtin; refine jK _ rfl _ _ 153 153 rfl _ _ rfl rfl (hcpA _ hE1 hE2 _ _) ?_)
  | (at_builtin; refine jK _ rfl _ _ 153 153 rfl _ _ rfl rfl (hcpB _ (fun _=>rfl) (fun _=>rfl) _ _ _) ?_))
 go_region_law_o (refine qI rfl _ _ 153 153 rfl (.slice (some ⟨w.heap.size,i+m,none⟩) (n+m-(i+m)) (G-(i+m))) (.slice (some ⟨b,off+i,none⟩) (n-i) (c-i)) (by simp [Act.eval,Act.put]) (by simp [Act.eval,Act.put]) (hcpB _ hF1 hF2 3 (G-(i+m)) (c-i)) ?_)
 go_wp2
 go_ret
 exact ⟨rfl,rfl⟩
end Go.Proofs.YteaefaohjlmjdaaGreat.Ins224
namespace Go.Proofs.YteaefaohjlmjdaaGreat.Ev.Ok224
open Go Go.Proofs.YteaefaohjlmjdaaGreat.Ev
def tf (A:Array Value):Nat->List Value->Array Value
 | _,[]=>A
 | o,v :: r=>tf (A.setIfInBounds o v) (o+1) r
def iK:∀ (vs:List Value) (o:Nat) (A:Array Value),(tf A o vs).size=A.size
 | [],o,A=>rfl
 | v :: r,o,A=>by rw [tf,iK r]; simp
def oM:∀ (vs:List Value) (o:Nat) (A:Array Value) (j:Nat),j<A.size->(tf A o vs)[j]? = if o<=j/\j<o+vs.length then vs[j-o]? else A[j]?
 | [],o,A,j,hj=>by rw [tf,if_neg (by simp only [Xq]; omega)]
 | v :: r,o,A,j,hj=>by
  rw [tf,oM r (o+1) _ j (by simpa using hj)];by_cases h1:o+1<=j/\j<o+1+r.length
  ·rw [if_pos h1,if_pos (by simp; omega),show j-o=(j-(o+1))+1 by omega,WH]
  ·rw [if_neg h1];by_cases h2:j=o
   ·subst h2;rw [if_pos (by simp),Y3,Wv,Array.getElem?_setIfInBounds_self_of_lt hj]
   ·rw [if_neg (by simp; omega),Array.getElem?_setIfInBounds_ne zO]
def mZ (b:Nat):∀ (vs:List Value) (o:Nat) (w:World) (arr:Array Value) (ty:TypeId) (fr:Nat × Nat),w.heap[b]? = some (.cells arr ty fr) ->
  (w.setCells b o vs).heap[b]? = some (.cells (tf arr o vs) ty fr)/\(∀ c,c≠b->(w.setCells b o vs).heap[c]? = w.heap[c]?)/\(w.setCells b o vs).heap.size=w.heap.size /\
   Tp w (w.setCells b o vs)/\(w.setCells b o vs).os=w.os/\(w.setCells b o vs).output=w.output
 | [],o,w,arr,ty,fr,h=>⟨h,fun _ _=>rfl,rfl,Tp.same rfl rfl,rfl,rfl⟩
 | v :: r,o,w,arr,ty,fr,h=>by
  have h1:(w.setCell ⟨b,o,none⟩ v).heap[b]? = some (.cells (arr.setIfInBounds o v) ty fr):=by
   simp [World.setCell,Xa,h]
  obtain ⟨k1,k2,k3,k4,k5,k6⟩:=mZ b r (o+1) (w.setCell ⟨b,o,none⟩ v) _ ty fr h1;refine ⟨k1,fun c hc=>(k2 c hc).trans ?_,k3.trans ?_,(Tp.same rfl rfl).trans k4,k5,k6⟩
  ·simp [World.setCell,Xa,Ne.symm hc]
  ·simp [World.setCell]
def mQ (w:World) (ty:TypeId):∀ (vs:List Value) (o:Nat) (A:Array Value),(w.alloc (.cells A ty)).setCells w.heap.size o vs=w.alloc (.cells (tf A o vs) ty)
 | [],o,A=>rfl
 | v :: r,o,A=>by
  have h1:(w.alloc (.cells A ty)).setCell ⟨w.heap.size,o,none⟩ v=w.alloc (.cells (A.setIfInBounds o v) ty):=by
   simp only [World.setCell,World.alloc];congr 1
   apply Za
   intro j;rw [Xa];by_cases hj:w.heap.size=j
   ·subst hj; simp
   ·rw [if_neg hj,XV,XV,if_neg (Ne.symm hj),if_neg (Ne.symm hj)]
  rw [World.setCells,h1,mQ w ty r (o+1) _]; rfl
section
variable {P:Program} {μ:Mu} {F:Nat->Prop} {H:Heap} {w:World}
def AX {μ':Mu} {H':Heap} {w':World} (h:Stp (fun x=>x=H.next) P μ F { H with next:=H.next+1 } w μ' F H' w'):Stp sU P μ F H w μ' F H' w' :=
 ⟨h.mu,h.fr,h.size,h.keep,h.rw,Vn (VH _ _) h.next,fun b hb _ hn=>h.new b (Vq hb (VH _ _)) zO hn,h.rng,
  fun b e hb hl _=>h.old b e hb (Vq hl (VH _ _)) zO,h.alv,h.tape,h.os,h.out⟩
def JN {ty:Nat} {cs:List AV} {V:List Value} {A:Array Value} {w1:World} {k cap':Nat} {H1:Heap} (hH:HR P μ F H1 w) (hnx:H1.next=H.next+1) (hid:μ H.next=none) (hs:sizeOf? P ty=some 1)
  (hl:LR μ F w cs V) (hk:V.length=k) (hA:∀ j,j<k->A[j]? = V[j]?) (hcap:k<=cap') (hsz:A.size=cap')
  (h1:w1.heap=w.heap) (ht:Tp w w1) (hos:w1.os=w.os) (hout:w1.output=w.output) :
  ∃ μ',VR μ' F (w1.alloc (.cells A ty)) (.own H.next 0 k k 1 false) (.slice (some ⟨w.heap.size,0,none⟩) k cap')/\HR P μ' F (H1.put H.next (.cells cs ty true)) (w1.alloc (.cells A ty)) /\
   Stp (fun x=>x=H.next) P μ F H1 w μ' F (H1.put H.next (.cells cs ty true)) (w1.alloc (.cells A ty)):=by
 have hcl:cs.length=k:=hl.1.trans hk;obtain ⟨q1,q2⟩:=lU (I:=fun x=>x=H.next) hH hid zO rfl (sz:=1) (arr:=A) (cs:=cs) hs zO
  (fun i c v hc hv=>by
   have hi:i<k:=by rw [<- hcl]; exact (Vm.1 hc).1
   rw [hA i hi] at hv;exact hl.2 i c v hc hv) w1 h1 ht hos hout
 exact ⟨_,.own H.next 0 k k 1 false _ cap' (upd_same _ _) rfl (Vb _) hcap (fun h=>by cases h) (by simp [hsz]),q1,q2⟩
def QC {b ty:Nat} {L:BT} {cs0 cs:List AV} {V:List Value} {A:Array Value} {w':World} {k cap:Nat} (hH:HR P μ F H w) (hb:H.get b=some (.cells cs0 ty true)) (hL:μ b=some L) (hLs:L.sz=1)
  (hl:LR μ F w cs V) (hk:V.length=k) (hA:∀ j,j<k->A[j]? = V[j]?) (hcap:k<=cap) (hsz:A.size=L.N) (hN:cap<=L.N)
  (hw:w'.heap[L.blk]? = some (.cells A ty (0,0))) (hoth:∀ c,c≠L.blk->w'.heap[c]? = w.heap[c]?) (hsize:w'.heap.size=w.heap.size) (ht:Tp w w') (hos:w'.os=w.os) (hout:w'.output=w.output) :
  ∃ μ',VR μ' F w' (.own H.next 0 k k 1 false) (.slice (some ⟨L.blk,0,none⟩) k cap)/\HR P μ' F (({ H with next:=H.next+1 }.kill b).put H.next (.cells cs ty true)) w' /\
   Stp sU P μ F H w μ' F (({ H with next:=H.next+1 }.kill b).put H.next (.cells cs ty true)) w':=by
 have hcl:cs.length=k:=hl.1.trans hk;have hid:μ H.next=none:=jU hH (Vb _)
 have hH1:=hH.bump 1;have hb1:({ H with next:=H.next+1 }:Heap).get b=some (.cells cs0 ty true):=hb;obtain ⟨arr,fr,g1,g2,g3,g4,g5,g6,g7⟩:=fM hH hb hL;obtain ⟨p1,p2⟩:=iH (I:=fun x=>x=H.next) (e:=.cells cs ty true) hH1 hb1 rfl hL w' hoth hsize ht hos hout
  (fun hF=>⟨A,(0,0),hw,hsz,g3,zO,fun i c v hc hv=>by
   have hi:i<k:=by rw [<- hcl]; exact (Vm.1 hc).1
   rw [hA i hi] at hv;exact (hl.2 i c v hc hv).mono (fun _ _ h=>h) (fun _ h=>h) hF,fun _=>⟨(g6 rfl).1,rfl⟩,fun h=>by cases h⟩) rfl
 obtain ⟨q4,q5⟩:=uT (I:=fun x=>x=H.next) p1 (b:=b) (id:=H.next) (L:=L) (by rw [Heap.get_put,if_pos rfl]) hL hid (by show H.next<H.next+1; omega) rfl;refine ⟨μ.upd H.next L,.own H.next 0 k k 1 false L cap (upd_same _ _) hLs (Vb _) hcap (fun h=>by cases h) (by simp; omega),?_,?_⟩
 ·refine q4.congr rfl fun x=>?_;simp only [Heap.get_put,Heap.get_kill];split
  ·rfl
  ·split
   ·rfl
   ·rename_i hx; rfl
 ·refine AX ((p2.trans q5).congr rfl fun x e he=>⟨e,?_,rfl⟩);simp only [Heap.get_put,Heap.get_kill] at he ⊢;split at he
  ·rename_i hx; rw [if_pos hx]; exact he
  ·rename_i hx;rw [if_neg hx];split at he
   ·cases he
   ·rename_i hx2; rw [if_neg hx2,if_neg hx2]; exact he
end
def vF {vs:List Value} {w:World} {F:Fence} {rd:Bool} {n:Nat} {R:Value->World->Prop} (hF:FenceOK F rd) (h:Calls Tryz.prog 224 vs.toArray w fun e w'=>∃ u,e=.returned u/\R u w'):Runs F n Tryz.prog ((callFunc 224 vs.toArray).run Tryz.prog w) R:=by
 rw [sM (P:=Tryz.prog) (f:=224) Tryz.func224 (by kernel_rfl) (of_decide_eq_true (by kernel_rfl))];unfold Runs;simp only;have key:CallsIn Fence.wide n Tryz.prog 224 vs.toArray w fun e w'=>∃ u,e=.returned u/\R u w':=callsIn_wide.2 h;rcases hF with ⟨_,rfl⟩ | ⟨_,l,rfl⟩
 ·exact key
 ·exact key
def uY {w:World} {b:Nat} {arr:Array Value} {ty:TypeId} (h:w.heap[b]? = some (.cells arr ty (0,0))) (o:Nat):w.frozen? ⟨b,o,none⟩=false:=by
 simp [World.frozen?,h]
def QD {H H':Heap} {size bytes ty:Nat} {args:List AV} {v:AV} (h:vK H (.insert size bytes ty) args=some (v,H')) :
  (∃ b2 off2 m c2 sz2 IF news,args=[.nilSl,.int .i64 (.ofNat 0),.own b2 off2 m c2 sz2 IF]/\aN H size m (.own b2 off2 m c2 sz2 IF)=some news/\0<m/\m*bytes<=2^46/\m<2^62/\news.all AV.one=true /\
   v=.own H.next 0 m m size false/\H'=({ H with next:=H.next+1 }:Heap).put H.next (.cells news ty true)) \/
  (∃ b n c ex i b2 off2 m c2 sz2 IF news cs cs2 ty2,args=[.own b 0 n c size ex,.int .i64 (.ofNat i),.own b2 off2 m c2 sz2 IF]/\aN H size m (.own b2 off2 m c2 sz2 IF)=some news/\H.get b=some (.cells cs ty true)/\H.get b2=some (.cells cs2 ty2 true) /\
   b≠b2/\0<m/\i<=n/\cs.length=n*size/\(n+m)*bytes<=2^46/\n+m<2^62/\news.all AV.one=true/\cs.all AV.one=true /\
   v=.own H.next 0 (n+m) (n+m) size false/\H'=(({ H with next:=H.next+1 }:Heap).kill b).put H.next (.cells (cs.take (i*size)++news++cs.drop (i*size)) ty true)):=by
 unfold vK at h;split at h
 all_goals first | contradiction | skip
 ·rename_i heq;cases heq;split at h
  ·rename_i news hnews;split at h
   ·rename_i hc;obtain ⟨c1,c2',c3,c4,c5⟩:=hc;cases h;subst c1;exact .inl ⟨_,_,_,_,_,_,news,rfl,hnews,c2',c3,c4,c5,rfl,rfl⟩
   ·cases h
  ·cases h
 ·rename_i heq;cases heq;split at h
  ·rename_i news cs ty' cs2 ty2 hnews hb hb2;split at h
   ·rename_i hc;obtain ⟨c1,c2',c3,c4,c5,c6,c7,c8,c9,c10,c11⟩:=hc;cases h;subst c1;subst c2';subst c9;exact .inr ⟨_,_,_,_,_,_,_,_,_,_,_,news,cs,cs2,ty2,rfl,hnews,hb,hb2,c3,c4,c5,c6,c7,c8,c10,c11,rfl,rfl⟩
   ·cases h
  ·cases h
 all_goals (cases h)
def FT {P:Program} {μ:Mu} {F:Nat->Prop} {H:Heap} {w:World} {b2 off2 m c2 sz2:Nat} {IF:Bool} {news:List AV} {z:Value} (hH:HR P μ F H w) (hz:VR μ F w (.own b2 off2 m c2 sz2 IF) z) (hnews:aN H 1 m (.own b2 off2 m c2 sz2 IF)=some news) :
  ∃ L2 cap2 arr2 ty2 fr2 cs2 rw2,μ b2=some L2/\z=.slice (some ⟨L2.blk,off2,none⟩) m cap2/\H.get b2=some (.cells cs2 ty2 rw2)/\w.heap[L2.blk]? = some (.cells arr2 ty2 fr2)/\off2+m<=arr2.size/\(rw2=true->fr2=(0,0)) /\
   ((arr2.toList.drop off2).take m).length=m/\LR μ F w news ((arr2.toList.drop off2).take m)/\∀ j u,((arr2.toList.drop off2).take m)[j]? = some u->w.cell? ⟨L2.blk,off2+j,none⟩=some u:=by
 cases hz with
 | own _ _ _ _ _ _ L2 cap2 k1 k2 k3 k4 k5 k6 =>
 simp only [aN] at hnews;split at hnews
 ·rename_i cs2 ty2 rw2 hb2;split at hnews
  ·rename_i hcc;obtain ⟨e1,e2,e3⟩:=hcc;cases hnews;obtain ⟨arr2,fr2,g1,g2,g3,g4,g5,g6,g7⟩:=fM hH hb2 k1;have hvl:((arr2.toList.drop off2).take m).length=m:=by simp; omega
   refine ⟨L2,cap2,arr2,ty2,fr2,cs2,rw2,k1,rfl,hb2,g1,zO,fun h=>(g6 h).2,hvl,⟨by simp; omega,fun i c u hi hu=>?_⟩,fun j u hj=>?_⟩
   ·rw [Vv] at hi hu;rw [WE] at hi;split at hi
    ·rename_i him;rw [if_pos him] at hu;rw [Vw] at hi hu;exact g5 _ c u hi (by simpa using hu)
    ·cases hi
   ·rw [pX g1];rw [Vv] at hj;split at hj
    ·rw [Vw] at hj; simpa using hj
    ·cases hj
  ·cases hnews
 ·cases hnews
def Qk {μ:Mu} {F:Nat->Prop} {w:World} {b n c sz:Nat} {ex:Bool} {x:Value} (h:VR μ F w (.own b 0 n c sz ex) x):∃ L cap,μ b=some L/\L.sz=sz/\n<=c/\c<=cap/\cap*sz<=L.N/\x=.slice (some ⟨L.blk,0,none⟩) n cap:=by
 cases h with
 | own _ _ _ _ _ _ L cap k1 k2 k3 k4 k5 k6=>exact ⟨L,cap,k1,k2,k3,k4,zO,rfl⟩
def zM {μ:Mu} {F:Nat->Prop} {w:World} {vs:List Value} {a b c:AV} (h:LR μ F w [a,b,c] vs):∃ x y z,vs=[x,y,z]/\VR μ F w a x/\VR μ F w b y/\VR μ F w c z:=by
 have hl:=h.1
 match vs,hl with
 | [x,y,z],_=>exact ⟨x,y,z,rfl,h.head,h.tail.head,h.tail.tail.head⟩
set_option maxRecDepth 100000 in
def extOK_insert:ExtOK Tryz.prog 224 (.insert 1 24 24):=by
 intro H args v H' h μ F w vs fence rd nn hF hH hl;have hsE:sizeOf? Tryz.prog 24=some 1:=by
  obtain ⟨i0,hi,h0,h1,h2⟩:=info_parts Ins224.iE;simp [sizeOf?,hi,h1]
 have hid:μ H.next=none:=jU hH (Vb _)
 have hzs:∀ k,(Builtin.zeroCells (Value.slice none 0 0).cells k).size=k:=fun k=>by rw [zd]; simp [Value.cells]
 rcases QD h with ⟨b2,off2,m,c2,sz2,IF,news,rfl,hnews,h1,h2,h3,h4,rfl,rfl⟩ | ⟨b,n,c,ex,i,b2,off2,m,c2,sz2,IF,news,cs,cs2,ty2,rfl,hnews,hb,hb2,h1,h2,h3,h4,h5,h6,h7,h8,rfl,rfl⟩
 ·obtain ⟨x,y,z,rfl,hx,hy,hz⟩:=zM hl;cases hx;cases hy;obtain ⟨L2,cap2,arr2,ty2,fr2,cs2,rw2,k1,rfl,k3,g1,g2,-,hvl,hvr,hcell⟩:=FT hH hz hnews;refine vF hF ((Ins224.end_grow none 0 0 L2.blk off2 m cap2 [] ((arr2.toList.drop off2).take m) w h1 (Vb _) zO zO rfl hvl (fun _=>rfl) (fun a h=>by cases h) hcell (hvr.one h4)).mono fun e w' ⟨he,hw⟩=>?_);subst hw;rw [VQ] at he;have hge:=Go.grownCap_ge w m 0 24;simp only [VQ,Xr];obtain ⟨μ',q1,q2,q3⟩:=JN (P:=Tryz.prog) (H:=H) (A:=((arr2.toList.drop off2).take m).toArray++Builtin.zeroCells (Value.slice none 0 0).cells (grownCap w m 0 24-m)) (w1:=w.drew) (k:=m) (cap':=grownCap w m 0 24) (hH.bump 1) rfl hid hsE hvr hvl
   (fun j hj=>by rw [Wp (by simp [hvl]; omega)]; simp) hge (by simp only [Xk,XB,hvl,hzs]; omega) rfl Tp.draw rfl rfl
  exact ⟨_,he,μ',q1,q2,AX q3⟩
 ·obtain ⟨x,y,z,rfl,hx,hy,hz⟩:=zM hl;obtain ⟨L,cap,r1,r2,r3,r4,r5,rfl⟩:=Qk hx;cases hy;obtain ⟨L2,cap2,arr2,ty2',fr2,cs2',rw2,k1,rfl,k3,g1,g2,gfr,hvl,hvr,hcell⟩:=FT hH hz hnews;rw [hb2] at k3;cases k3;have hfr2:=gfr rfl;subst hfr2;obtain ⟨arr,fr,p1,p2,p3,p4,p5,p6,p7⟩:=fM hH hb r1;obtain ⟨-,rfl⟩:=p6 rfl;rw [WE] at h4 r5;have hne:L2.blk≠L.blk:=fun e=>h1 (hH.inj b b2 _ _ L L2 hb hb2 r1 k1 e.symm);have hvsl:(arr.toList.take n).length=n:=by simp; omega
  have hcs:LR μ F w cs (arr.toList.take n):=by
   refine ⟨by simp; omega,fun i c u hi hu=>?_⟩;rw [Vv] at hu;split at hu
   ·exact p5 i c u hi (by simpa using hu)
   ·cases hu
  have hcell0:∀ j u,(arr.toList.take n)[j]? = some u->w.cell? ⟨L.blk,0+j,none⟩=some u:=fun j u hj=>by
   rw [pX p1,VQ];rw [Vv] at hj;split at hj
   ·simpa using hj
   ·cases hj
  have hV:LR μ F w (cs.take (i*1)++news++cs.drop (i*1)) ((arr.toList.take n).take i++(arr2.toList.drop off2).take m++(arr.toList.take n).drop i):=by
   rw [WE];exact ((hcs.take i).append hvr).append (hcs.drop i)
  have hVl:((arr.toList.take n).take i++(arr2.toList.drop off2).take m++(arr.toList.take n).drop i).length=n+m:=by
   simp only [Vr,VC,Wu,hvl,hvsl]
   have:=hvsl
   rw [VC] at this;omega
  generalize hC:arr.toList.take n=C at *
  generalize hD:(arr2.toList.drop off2).take m=D at *
  have hCl:=hvsl;have hDl:=hvl;have harr:∀ j,j<n->arr[j]? = C[j]?:=fun j hj=>by rw [<- hC,Vv,if_pos hj]; simp
  have hVat:∀ j,j<n+m->(C.take i++D++C.drop i)[j]? = if j<i then C[j]? else if j<i+m then D[j-i]? else C[j-m]?:=by
   intro j hj;have e1:(C.take i).length=i:=by rw [VC]; omega
   by_cases q1:j<i
   ·rw [if_pos q1,VE (by rw [Vr,e1]; omega),VE zO,Vv,if_pos q1]
   ·rw [if_neg q1];by_cases q2:j<i+m
    ·rw [if_pos q2,VE (by rw [Vr,e1]; omega),VY zO,e1]
    ·rw [if_neg q2,VY (by rw [Vr,e1]; omega),Vr,e1,Vw];congr 1; omega
  have hsp:∀ j,j<cap->(w.cell? ⟨L.blk,0+j,none⟩).isSome=true:=fun j hj=>by
   rw [pX p1,VQ,Wl zO]; rfl
  by_cases hroom:n+m<=cap
  ·
   have fin:∀ (A:Array Value) (w':World),A.size=L.N->(∀ j,j<n+m->A[j]? = (C.take i++D++C.drop i)[j]?)->w'.heap[L.blk]? = some (.cells A 24 (0,0))->(∀ c,c≠L.blk->w'.heap[c]? = w.heap[c]?)->w'.heap.size=w.heap.size->Tp w w'->w'.os=w.os->w'.output=w.output ->
     ∃ μ',ij sU Tryz.prog μ F H w (.own H.next 0 (n+m) (n+m) 1 false) (({ H with next:=H.next+1 }:Heap).kill b |>.put H.next (.cells (cs.take (i*1)++news++cs.drop (i*1)) 24 true)) (.slice (some ⟨L.blk,0,none⟩) (n+m) cap) w' μ':=by
    intro A w' a1 a2 a3 a4 a5 a6 a7 a8;obtain ⟨μ',q1,q2,q3⟩:=QC (P:=Tryz.prog) (A:=A) (w':=w') (k:=n+m) (cap:=cap) hH hb r1 r2 hV hVl a2 hroom a1 r5 a3 a4 a5 a6 a7 a8;exact ⟨μ',q1,q2,q3⟩
   by_cases hin:i=n
   ·subst hin;refine vF hF ((Ins224.end_room L.blk 0 i cap L2.blk off2 m cap2 D w h2 hroom zO hDl (fun j hj=>by rw [Wb]; exact hsp _ zO) (fun j _=>uY p1 _) hcell (hvr.one h7)).mono fun e w' ⟨he,hw⟩=>?_);subst hw;obtain ⟨s1,s2,s3,s4,s5,s6⟩:=mZ L.blk D (0+i) w arr 24 (0,0) p1;obtain ⟨μ',hd⟩:=fin _ _ ((iK _ _ _).trans p2) (fun j hj=>by
     rw [oM _ _ _ _ zO,hVat j hj,hDl,VQ];by_cases q1:j<i
     ·rw [if_neg zO,if_pos q1,harr j q1]
     ·rw [if_pos zO,if_neg q1,if_pos zO]) s1 s2 s3 s4 s5 s6
    exact ⟨_,he,μ',hd⟩
   ·refine vF hF ((Ins224.shift L.blk 0 n cap i L2.blk off2 m cap2 C D w zO h2 hroom zO hne hCl hDl hcell0 (fun j hj=>hsp j zO) (fun j _=>uY p1 _) hcell (hcs.one h8) (hvr.one h7)
     ty2 24 arr2.size arr.size (by simp [World.shape?,g1]) (by simp [World.shape?,p1]) zO (uY g1 _) (uY g1 _)).mono fun e w' ⟨he,hw⟩=>?_)
    subst hw;obtain ⟨s1,s2,s3,s4,s5,s6⟩:=mZ L.blk (C.drop i) (0+(i+m)) w.drew arr 24 (0,0) p1;obtain ⟨t1,t2,t3,t4,t5,t6⟩:=mZ L.blk D (0+i) _ _ 24 (0,0) s1;obtain ⟨μ',hd⟩:=fin _ _ (by rw [iK,iK]; exact p2) (fun j hj=>by
     rw [oM _ _ _ _ (by rw [iK]; omega),oM _ _ _ _ zO,hVat j hj,hDl,VQ,VQ,Wu,hCl];by_cases q1:j<i
     ·rw [if_neg zO,if_neg zO,if_pos q1,harr j zO]
     ·by_cases q2:j<i+m
      ·rw [if_pos zO,if_neg q1,if_pos q2]
      ·rw [if_neg zO,if_pos zO,if_neg q1,if_neg q2,Vw];congr 1; omega) t1 (fun c hc=>(t2 c hc).trans (s2 c hc)) (t3.trans s3) ((Tp.draw.trans s4).trans t4) (t5.trans s5) (t6.trans s6)
    exact ⟨_,he,μ',hd⟩
  ·
   have hge:=Go.grownCap_ge w (n+m) cap 24;obtain ⟨z1,z2⟩:=uu (I:=fun x=>x=H.next) (hH.bump 1) b;have fin:∀ (A:Array Value) (w1:World),A.size=grownCap w (n+m) cap 24->(∀ j,j<n+m->A[j]? = (C.take i++D++C.drop i)[j]?)->w1.heap=w.heap->Tp w w1->w1.os=w.os->w1.output=w.output ->
     ∃ μ',ij sU Tryz.prog μ F H w (.own H.next 0 (n+m) (n+m) 1 false) (({ H with next:=H.next+1 }:Heap).kill b |>.put H.next (.cells (cs.take (i*1)++news++cs.drop (i*1)) 24 true)) (.slice (some ⟨w.heap.size,0,none⟩) (n+m) (grownCap w (n+m) cap 24)) (w1.alloc (.cells A 24)) μ':=by
    intro A w1 a1 a2 a3 a4 a5 a6;obtain ⟨μ',q1,q2,q3⟩:=JN (P:=Tryz.prog) (H:=H) (A:=A) (w1:=w1) (k:=n+m) (cap':=grownCap w (n+m) cap 24) z1 rfl hid hsE hV hVl a2 hge a1 a3 a4 a5 a6;exact ⟨μ',q1,q2,AX (z2.trans q3)⟩
   by_cases hin:i=n
   ·subst hin;refine vF hF ((Ins224.end_grow (some ⟨L.blk,0,none⟩) i cap L2.blk off2 m cap2 C D w h2 zO zO zO hCl hDl (fun h=>by cases h) (fun a ha j u hj=>by cases ha; rw [jv]; exact hcell0 j u hj) hcell (hvr.one h7)).mono fun e w' ⟨he,hw⟩=>?_);subst hw;obtain ⟨μ',hd⟩:=fin ((C++D).toArray++Builtin.zeroCells (Value.slice none 0 0).cells (grownCap w (i+m) cap 24-(i+m))) w.drew (by simp only [Xk,XB,Vr,hCl,hDl,hzs]; omega) (fun j hj=>by
     rw [Wp (by simp [hCl,hDl]; omega),hVat j hj];have e0:(C++D).toArray[j]? = (C++D)[j]?:=by simp
     rw [e0];by_cases q1:j<i
     ·rw [if_pos q1,VE zO]
     ·rw [if_neg q1,if_pos zO,VY zO,hCl]) rfl Tp.draw rfl rfl
    exact ⟨_,he,μ',hd⟩
   ·refine vF hF ((Ins224.grow L.blk 0 n cap i L2.blk off2 m cap2 C D w zO h2 zO zO zO hCl hDl hcell0 hcell (hcs.one h8) (hvr.one h7)).mono fun e w' ⟨he,hw⟩=>?_);have e1:∀ A:Array Value,(((w.alloc (.cells A 24)).drew.setCells w.heap.size i D).drew).setCells w.heap.size (i+m) (C.drop i)=w.drew.drew.alloc (.cells (tf (tf A i D) (i+m) (C.drop i)) 24):=fun A=>by
     have a1:(w.alloc (.cells A 24)).drew=w.drew.alloc (.cells A 24):=rfl;have a2:(w.drew.alloc (.cells A 24)).setCells w.heap.size i D=w.drew.alloc (.cells (tf A i D) 24):=mQ w.drew 24 D i A;have a3:(w.drew.alloc (.cells (tf A i D) 24)).drew=w.drew.drew.alloc (.cells (tf A i D) 24):=rfl;rw [a1,a2,a3];exact mQ w.drew.drew 24 (C.drop i) (i+m) (tf A i D)
    rw [e1] at hw;subst hw;obtain ⟨μ',hd⟩:=fin (tf (tf ((C.take i).toArray++Builtin.zeroCells (Value.slice none 0 0).cells (n+m-i)++Builtin.zeroCells (Value.slice none 0 0).cells (grownCap w (n+m) cap 24-(n+m))) i D) (i+m) (C.drop i)) w.drew.drew (by
      rw [iK,iK];simp only [Xk,XB,VC,hCl,hzs]; omega) (fun j hj=>by
     have hA0:((C.take i).toArray++Builtin.zeroCells (Value.slice none 0 0).cells (n+m-i)++Builtin.zeroCells (Value.slice none 0 0).cells (grownCap w (n+m) cap 24-(n+m))).size=grownCap w (n+m) cap 24:=by
      simp only [Xk,XB,VC,hCl,hzs]; omega
     rw [oM _ _ _ _ (by rw [iK,hA0]; omega),oM _ _ _ _ (by rw [hA0]; omega),hVat j hj,hDl,Wu,hCl];by_cases q1:j<i
     ·rw [if_neg zO,if_neg zO,if_pos q1,Wp (by simp only [Xk,XB,VC,hCl,hzs]; omega),Wp (by simp only [XB,VC,hCl]; omega)];simp [q1]
     ·by_cases q2:j<i+m
      ·rw [if_neg zO,if_pos zO,if_neg q1,if_pos q2]
      ·rw [if_pos zO,if_neg q1,if_neg q2,Vw];congr 1; omega) rfl (Tp.draw.trans Tp.draw) rfl rfl
    exact ⟨_,he,μ',hd⟩
end Go.Proofs.YteaefaohjlmjdaaGreat.Ev.Ok224
namespace Go.Proofs.YteaefaohjlmjdaaGreat.Ev.So156
open Go Go.RowKit Go.Sort Go.Shelf Go.Lib Go.Proofs.YteaefaohjlmjdaaGreat.Ev
set_option maxRecDepth 100000
def Hp:Go.Shelf.Ren:=⟨fun | 6=>156 | 15=>190 | 14=>189 | 28=>216 | 29=>217 | 20=>208 | 21=>209 | 22=>210 | 23=>211 | 24=>212 | 25=>213 | 26=>214 | 27=>215 | 46=>229 | 47=>230 | 48=>231 | 49=>232 | 50=>233 | 57=>239 | n=>n,fun | 22=>153 | 24=>24 | 25=>123 | 3=>3 | 39=>220 | 0=>0 | 53=>252 | 55=>115 | 4=>4 | 46=>245 | 45=>244 | 50=>249 | 5=>5 | 9=>9 | 66=>265 | 70=>269 | 76=>276 | 77=>277 | n=>n,fun | n=>n⟩
def Nt:Go.Proofs.SlLaysF.n6 Tryz.prog Hp:={
 mixed:=by kernel_rfl
 f6:=⟨Tryz.f156.name,by decide,Tryz.func156.trans (congrArg some (by kernel_rfl))⟩
 f14:=⟨Tryz.f189.name,by decide,Tryz.func189.trans (congrArg some (by kernel_rfl))⟩
 f15:=Tryz.func190.trans (congrArg some (by kernel_rfl))
 f20:=⟨Tryz.f208.name,by decide,Tryz.func208.trans (congrArg some (by kernel_rfl))⟩
 f21:=⟨Tryz.f209.name,by decide,Tryz.func209.trans (congrArg some (by kernel_rfl))⟩
 f22:=⟨Tryz.f210.name,by decide,Tryz.func210.trans (congrArg some (by kernel_rfl))⟩
 f23:=⟨Tryz.f211.name,by decide,Tryz.func211.trans (congrArg some (by kernel_rfl))⟩
 f24:=⟨Tryz.f212.name,by decide,Tryz.func212.trans (congrArg some (by kernel_rfl))⟩
 f25:=⟨Tryz.f213.name,by decide,Tryz.func213.trans (congrArg some (by kernel_rfl))⟩
 f26:=⟨Tryz.f214.name,by decide,Tryz.func214.trans (congrArg some (by kernel_rfl))⟩
 f27:=⟨Tryz.f215.name,by decide,Tryz.func215.trans (congrArg some (by kernel_rfl))⟩
 f28:=Tryz.func216.trans (congrArg some (by kernel_rfl))
 f29:=Tryz.func217.trans (congrArg some (by kernel_rfl))
 f46:=⟨Tryz.f229.name,by decide,Tryz.func229.trans (congrArg some (by kernel_rfl))⟩
 f47:=Tryz.func230.trans (congrArg some (by kernel_rfl))
 f48:=Tryz.func231.trans (congrArg some (by kernel_rfl))
 f49:=⟨Tryz.f232.name,by decide,Tryz.func232.trans (congrArg some (by kernel_rfl))⟩
 f50:=⟨Tryz.f233.name,by decide,Tryz.func233.trans (congrArg some (by kernel_rfl))⟩
 f57:=⟨Tryz.f239.name,by decide,Tryz.func239.trans (congrArg some (by kernel_rfl))⟩
 t0:=Tryz.underlying0
 a0:=Tryz.isAgg0
 z0:=Tryz.sizeOf0
 v0:=Tryz.zeroValue0
 t3:=Tryz.underlying3
 a3:=Tryz.isAgg3
 z3:=Tryz.sizeOf3
 v3:=Tryz.zeroValue3
 t4:=Tryz.underlying4
 a4:=Tryz.isAgg4
 z4:=Tryz.sizeOf4
 v4:=Tryz.zeroValue4
 t5:=Tryz.underlying5
 a5:=Tryz.isAgg5
 z5:=Tryz.sizeOf5
 v5:=Tryz.zeroValue5
 t9:=Tryz.underlying9
 a9:=Tryz.isAgg9
 z9:=Tryz.sizeOf9
 v9:=Tryz.zeroValue9
 t22:=Tryz.underlying153
 a22:=Tryz.isAgg153
 z22:=Tryz.sizeOf153
 v22:=Tryz.zeroValue153
 a24:=Tryz.isAgg24
 z24:=Tryz.sizeOf24
 t25:=Tryz.underlying123
 a25:=Tryz.isAgg123
 z25:=Tryz.sizeOf123
 v25:=Tryz.zeroValue123
 t39:=Tryz.underlying220
 a39:=Tryz.isAgg220
 z39:=Tryz.sizeOf220
 v39:=Tryz.zeroValue220
 t45:=Tryz.underlying244
 a45:=Tryz.isAgg244
 z45:=Tryz.sizeOf244
 v45:=Tryz.zeroValue244
 t46:=Tryz.underlying245
 a46:=Tryz.isAgg245
 z46:=Tryz.sizeOf245
 v46:=Tryz.zeroValue245
 t50:=Tryz.underlying249
 a50:=Tryz.isAgg249
 z50:=Tryz.sizeOf249
 v50:=Tryz.zeroValue249
 t53:=Tryz.underlying252
 a53:=Tryz.isAgg252
 z53:=Tryz.sizeOf252
 v53:=Tryz.zeroValue252
 t55:=Tryz.underlying115
 a55:=Tryz.isAgg115
 z55:=Tryz.sizeOf115
 v55:=Tryz.zeroValue115
 t66:=Tryz.underlying265
 a66:=Tryz.isAgg265
 z66:=Tryz.sizeOf265
 v66:=Tryz.zeroValue265
 t70:=Tryz.underlying269
 a70:=Tryz.isAgg269
 z70:=Tryz.sizeOf269
 v70:=Tryz.zeroValue269
 t76:=Tryz.underlying276
 a76:=Tryz.isAgg276
 z76:=Tryz.sizeOf276
 v76:=Tryz.zeroValue276
 t77:=Tryz.underlying277
 a77:=Tryz.isAgg277
 z77:=Tryz.sizeOf277
 v77:=Tryz.zeroValue277 }
def R8:I3 Tryz.prog 156 [157]:=by
 refine ⟨⟨Tryz.f156,Tryz.func156,by kernel_rfl,by decide +kernel⟩,trivial,?_,?_,?_⟩
 ·intro g hg args w;simp only [VA,List.not_mem_nil,or_false] at hg;subst hg;exact enters_of Tryz.func157 (by kernel_rfl) rfl args w
 ·intro p cap fv w;exact AnyF.slices_SortFunc_none { Nt with } p cap fv w
 ·intro k enc cf g cb blk cap w hg h1 hO hT hcmp hH hblk hsz;have eg:∀ args w,(callFunc g args).run Tryz.prog w=.ok (.enter g args) w:=by
   intro args w;simp only [VA,List.not_mem_nil,or_false] at hg;subst hg;exact enters_of Tryz.func157 (by kernel_rfl) rfl args w
  have hs:(List.finRange (k+1)).toArray.size=k+1:=by simp
  have h:=Any.slices_SortFunc_total Nt enc h1 cf hO g cb blk 0 cap (List.finRange (k+1)).toArray w eg (by rw [hs]; exact hcmp) hH hblk (by rw [hs]; exact hsz) hT;rw [hs] at h
  change Calls Tryz.prog 156 _ _ _ at h
  exact h
def extOK:ExtOK Tryz.prog 156 (.sortF 24 [157]):=R8
end Go.Proofs.YteaefaohjlmjdaaGreat.Ev.So156
namespace Go.Proofs.YteaefaohjlmjdaaGreat.Ev
open Go
set_option maxRecDepth 1000000
set_option maxHeartbeats 8000000
def look:List (Nat × aA)->Nat->Option aA
 | [],_=>none
 | p :: r,f=>if f=p.1 then some p.2 else look r f
def FK:∀ {L:List (Nat × aA)} {f:Nat} {a:aA},look L f=some a->(f,a)∈L
 | p :: r,f,a,h=>by
  unfold look at h;split at h
  ·rename_i e; cases h; subst e; exact Vh ..
  ·exact Vd _ (FK h)
def aw {f:Nat} {fn:Func} {a:aA} (hf:Tryz.prog.funcs[f]? = some fn) (hc:SM Tryz.prog fn=some a:=by kernel_rfl) (he:a.ext.isNone=true:=by rfl):GS Tryz.prog f a:=Nl hf hc he
abbrev Rw (l:List (Nat × aA)):Prop:=∀ p∈l,GS Tryz.prog p.1 p.2
def Ms:Rw []:=fun p hp=>by cases hp
def bh {f:Nat} {a:aA} {l:List (Nat × aA)} (h:GS Tryz.prog f a) (hl:Rw l):Rw ((f,a) :: l):=List.forall_mem_cons.2 ⟨h,hl⟩
def UL:List (Nat × aA):=[(dz,c_facetroomlaw23_ImageBack),(fk,jq),(fT,jH),(ib,lq),(fj,jp),(lz,ww),(fd,jj),(ko,yQ),(xf,CY),(eB,ir),(AD,Gw),(ic,lu),(dy,gG),(oR,C6),(AI,GD),(fh,jm),(fg,jl),(kQ,qw),(nW,tK),(cP,eR)]
def UK:List (Nat × aA):=[(tY,Bp),(xd,CV),(fe,jk),(ng,yJ),(ri,yP),(eP,rR),(io,c_image_moved),(pL,wt),(gO,wq),(rm,yU),(mA,rP),(pG,wg),(gN,vZ),(fO,jC),(fm,js),(eE,tO),(kr,yS),(oi,c_dual_points),(rk,yT),(AH,GA)]
def UJ:List (Nat × aA):=[(pH,wh),(AF,Gy),(pB,vS),(j9,tu),(nN,tx),(pD,vV),(mo,Br),(dx,gF),(b9,db),(mw,rM),(xo,C4),(qW,yF),(sA,CW),(qV,yE),(qX,yG),(fD,qv),(fl,jr),(eD,tN),(mB,BA),(rl,c_dual_cons)]
def UI:List (Nat × aA):=[(re,yK),(fP,jD),(dV,gX),(bN,cN),(dU,gW),(rj,yR),(rr,c_cone_Gens),(bL,cL),(jQ,o0),(pM,wx),(cq,eU),(rp,yV),(pI,Bv),(nh,yN),(nM,tw),(xc,CU),(cy,dG),(qT,yC),(py,vQ),(kP,qq)]
def UH:List (Nat × aA):=[(xm,C3),(qS,yB),(iU,vU),(dS,gV),(bM,cM),(dR,gU),(ui,Bu),(pC,vT),(dQ,gT),(dO,gS),(b7,da),(mC,c_cone_checked),(rq,yY),(ur,BH),(cQ,c_P_cone_under_add),(mz,rO),(nT,tG),(dg,dj),(i8,rU),(bY,cY)]
def UG:List (Nat × aA):=[(gu,rT),(gt,rS),(aV,bD),(aU,bC),(cu,fI),(ia,lp),(nV,tJ),(xh,C0),(xg,CZ),(cX,eT),(bZ,cZ),(bg,bU),(fQ,jE),(ly,vY),(fV,jJ),(iF,c_P_cone_under_cut),(ie,c_P_cone_under_fold),(nR,tE),(iD,mO),(tZ,Bs)]
def UF:List (Nat × aA):=[(xe,CX),(pK,wn),(rh,yO),(xl,C2),(ul,Bz),(AG,Gz),(nU,tH),(pJ,wm),(iZ,nB),(iV,nw),(fR,jF),(pP,BG),(kv,yW),(eJ,lv),(ni,yX),(pN,BD),(pO,BE),(nf,yH),(cE,dM),(cz,dH)]
def UE:List (Nat × aA):=[(fX,c_P_rows_form_put),(qY,yI),(pF,vX),(my,rN),(nO,tz),(aZ,bQ),(pE,vW),(iW,ny),(uk,By),(rf,yL),(fS,jG),(qZ,c_sat_Signs),(uq,BF),(qU,yD),(mp,rK),(nS,tF),(cx,dF),(nP,tC),(mr,rL),(nQ,tD)]
def UD:List (Nat × aA):=[(gq,rQ),(xp,C5),(nL,tt),(eO,oZ),(oh,tM),(xq,C7),(jP,oY),(oj,tP),(uo,BC),(dw,gE),(AE,Gx),(fU,jI),(gw,ky),(gy,kz),(um,BB),(uj,Bx),(cJ,eh),(iY,nA),(iX,nz),(rg,yM)]
def UC:List (Nat × aA):=[(bc,dr)]
def UZ:Rw UL:=bh (aw Tryz.func4)<|bh (aw Tryz.func17)<|bh (aw Tryz.func18)<|bh (aw Tryz.func20)<|bh (aw Tryz.func19)<|bh (aw Tryz.func21)<|bh (aw Tryz.func12)<|bh (aw Tryz.func22)<|bh (aw Tryz.func13)<|bh (aw Tryz.func49)<|bh (aw Tryz.func26)<|bh (aw Tryz.func50)<|bh (aw Tryz.func9)<|bh (aw Tryz.func36)<|bh (aw Tryz.func51)<|bh (aw Tryz.func38)<|bh (aw Tryz.func27)<|bh (aw Tryz.func52)<|bh (aw Tryz.func53)<|bh (aw Tryz.func54)<|Ms
def UY:Rw UK:=bh (aw Tryz.func29)<|bh (aw Tryz.func55)<|bh (aw Tryz.func41)<|bh (aw Tryz.func56)<|bh (aw Tryz.func57)<|bh (aw Tryz.func58)<|bh (aw Tryz.func59)<|bh (aw Tryz.func60)<|bh (aw Tryz.func61)<|bh (aw Tryz.func62)<|bh (aw Tryz.func42)<|bh (aw Tryz.func43)<|bh (aw Tryz.func44)<|bh (aw Tryz.func15)<|bh (aw Tryz.func78)<|bh (aw Tryz.func79)<|bh (aw Tryz.func80)<|bh (aw Tryz.func82)<|bh (aw Tryz.func81)<|bh (aw Tryz.func93)<|Ms
def UX:Rw UJ:=bh (aw Tryz.func39)<|bh (aw Tryz.func75)<|bh (aw Tryz.func74)<|bh (aw Tryz.func64)<|bh (aw Tryz.func94)<|bh (aw Tryz.func96)<|bh (aw Tryz.func95)<|bh (aw Tryz.func10)<|bh (aw Tryz.func99)<|bh (aw Tryz.func100)<|bh (aw Tryz.func101)<|bh (aw Tryz.func102)<|bh (aw Tryz.func68)<|bh (aw Tryz.func69)<|bh (aw Tryz.func71)<|bh (aw Tryz.func103)<|bh (aw Tryz.func89)<|bh (aw Tryz.func90)<|bh (aw Tryz.func91)<|bh (aw Tryz.func92)<|Ms
def UW:Rw UI:=bh (aw Tryz.func84)<|bh (aw Tryz.func47)<|bh (aw Tryz.func116)<|bh (aw Tryz.func115)<|bh (aw Tryz.func117)<|bh (aw Tryz.func118)<|bh (aw Tryz.func119)<|bh (aw Tryz.func120)<|bh (aw Tryz.func121)<|bh (aw Tryz.func122)<|bh (aw Tryz.func109)<|bh (aw Tryz.func83)<|bh (aw Tryz.func112)<|bh (aw Tryz.func105)<|bh (aw Tryz.func98)<|bh (aw Tryz.func97)<|bh (aw Tryz.func137)<|bh (aw Tryz.func138)<|bh (aw Tryz.func139)<|bh (aw Tryz.func106)<|Ms
def UV:Rw UH:=bh (aw Tryz.func107)<|bh (aw Tryz.func110)<|bh (aw Tryz.func104)<|bh (aw Tryz.func135)<|bh (aw Tryz.func134)<|bh (aw Tryz.func136)<|bh (aw Tryz.func124)<|bh (aw Tryz.func128)<|bh (aw Tryz.func87)<|bh (aw Tryz.func88)<|bh (aw Tryz.func149)<|bh (aw Tryz.func150)<|bh (aw Tryz.func151)<|bh (aw Tryz.func152)<|bh (aw Tryz.func153)<|bh (aw Tryz.func154)<|bh (aw Tryz.func155)<|bh (sj rfl rfl So156.extOK)<|bh (aw Tryz.func157)<|bh (aw Tryz.func159)<|Ms
def UU:Rw UG:=bh (aw Tryz.func123)<|bh (aw Tryz.func125)<|bh (aw Tryz.func126)<|bh (aw Tryz.func127)<|bh (aw Tryz.func148)<|bh (aw Tryz.func142)<|bh (aw Tryz.func141)<|bh (aw Tryz.func143)<|bh (aw Tryz.func144)<|bh (aw Tryz.func140)<|bh (aw Tryz.func170)<|bh (aw Tryz.func160)<|bh (aw Tryz.func133)<|bh (aw Tryz.func181)<|bh (aw Tryz.func182)<|bh (aw Tryz.func185)<|bh (aw Tryz.func186)<|bh (aw Tryz.func187)<|bh (aw Tryz.func188)<|bh (aw Tryz.func70)<|Ms
def UT:Rw UF:=bh (aw Tryz.func158)<|bh (aw Tryz.func171)<|bh (aw Tryz.func172)<|bh (aw Tryz.func174)<|bh (aw Tryz.func173)<|bh (aw Tryz.func175)<|bh (aw Tryz.func176)<|bh (aw Tryz.func177)<|bh (sj rfl rfl (F6 Tryz.func178 (by kernel_rfl) (by kernel_rfl) (by kernel_rfl) (by kernel_rfl)))<|bh (sj rfl rfl (F5 Tryz.func179 (by kernel_rfl) (by kernel_rfl) (by kernel_rfl) (by kernel_rfl)))<|bh (aw Tryz.func169)<|bh (aw Tryz.func184)<|bh (aw Tryz.func183)<|bh (aw Tryz.func197)<|bh (aw Tryz.func198)<|bh (aw Tryz.func200)<|bh (aw Tryz.func199)<|bh (aw Tryz.func201)<|bh (aw Tryz.func203)<|bh (aw Tryz.func202)<|Ms
def US:Rw UE:=bh (aw Tryz.func204)<|bh (aw Tryz.func205)<|bh (aw Tryz.func207)<|bh (aw Tryz.func206)<|bh (aw Tryz.func108)<|bh (aw Tryz.func191)<|bh (aw Tryz.func192)<|bh (aw Tryz.func194)<|bh (aw Tryz.func195)<|bh (aw Tryz.func196)<|bh (aw Tryz.func193)<|bh (aw Tryz.func219)<|bh (aw Tryz.func220)<|bh (aw Tryz.func221)<|bh (aw Tryz.func222)<|bh (aw Tryz.func223)<|bh (sj rfl rfl Ok224.extOK_insert)<|bh (aw Tryz.func225)<|bh (aw Tryz.func226)<|bh (aw Tryz.func228)<|Ms
def UR:Rw UD:=bh (aw Tryz.func218)<|bh (aw Tryz.func236)<|bh (aw Tryz.func227)<|bh (aw Tryz.func238)<|bh (aw Tryz.func241)<|bh (aw Tryz.func242)<|bh (aw Tryz.func237)<|bh (aw Tryz.func244)<|bh (aw Tryz.func245)<|bh (aw Tryz.func246)<|bh (aw Tryz.func247)<|bh (aw Tryz.func248)<|bh (aw Tryz.func249)<|bh (aw Tryz.func250)<|bh (aw Tryz.func252)<|bh (aw Tryz.func251)<|bh (aw Tryz.func253)<|bh (aw Tryz.func254)<|bh (aw Tryz.func217)<|bh (aw Tryz.func255)<|Ms
def UQ:Rw UC:=bh (aw Tryz.func256)<|Ms
def R6:List (Nat × aA):=UL++UK++UJ++UI++UH++UG++UF++UE++UD++UC
def P9 {l m:List (Nat × aA)} (h:Rw l) (h2:Rw m):Rw (l++m):=fun p hp=>(Vu.1 hp).elim (h p) (h2 p)
def P2:Rw R6:=(P9 (P9 (P9 (P9 (P9 (P9 (P9 (P9 (P9 UZ UY) UX) UW) UV) UU) UT) US) UR) UQ)
def tabOK:Kh Tryz.prog (look R6):=fun _ _ h=>P2 _ (FK h)
theorem code:Code (look R6):=by constructor <;> kernel_rfl
end Go.Proofs.YteaefaohjlmjdaaGreat.Ev
