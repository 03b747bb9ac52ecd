/- A part. -/
import Derived.Test.YtofhopjbbpihaaaGreatA0
import Derived.Test.YtofhopjbbpihaaaGreatN73
import Derived.Test.YtofhopjbbpihaaaGreatEvDraw5
import Derived.Test.YtofhopjbbpihaaaGreatProg
import Derived.KernelRfl
import Derived.Shelf.SlSortCmp.NoneTotal
import Derived.Ground.SlsfProg
import Derived.Test.YtofhopjbbpihaaaGreatKit
namespace Go.Proofs.YtofhopjbbpihaaaGreat.Ev.Ok168
open Go Go.Proofs.YtofhopjbbpihaaaGreat.Ev
set_option linter.all false
def sL (A:Array Value):Nat->List Value->Array Value
 | _,[]=>A
 | o,v :: r=>sL (A.setIfInBounds o v) (o+1) r
theorem iS:∀ (vs:List Value) (o:Nat) (A:Array Value),(sL A o vs).size=A.size
 | [],o,A=>rfl
 | v :: r,o,A=>by rw [sL,iS r]; simp
theorem oP:∀ (vs:List Value) (o:Nat) (A:Array Value) (j:Nat),j<A.size->(sL A o vs)[j]? = if o<=j/\j<o+vs.length then vs[j-o]? else A[j]?
 | [],o,A,j,hj=>by rw [sL,if_neg (by simp only [V5]; omega)]
 | v :: r,o,A,j,hj=>by
  rw [sL,oP r (o+1) _ j (by simpa using hj)]
  by_cases h1:o+1<=j/\j<o+1+r.length
  ·rw [if_pos h1,if_pos (by simp; omega),show j-o=(j-(o+1))+1 by omega,Vl]
  ·rw [if_neg h1]
   by_cases h2:j=o
   ·subst h2
    rw [if_pos (by simp),XI,Vb,Array.getElem?_setIfInBounds_self_of_lt hj]
   ·rw [if_neg (by simp; omega),Array.getElem?_setIfInBounds_ne (by omega)]
theorem nu (b:Nat):∀ (vs:List Value) (o:Nat) (w:World) (arr:Array Value) (ty:TypeId) (fr:Nat × Nat),w.heap[b]? = some (.cells arr ty fr) ->
  (w.setCells b o vs).heap[b]? = some (.cells (sL arr o vs) ty fr)/\(∀ c,c≠b->(w.setCells b o vs).heap[c]? = w.heap[c]?)/\(w.setCells b o vs).heap.size=w.heap.size /\
   Tp w (w.setCells b o vs)/\(w.setCells b o vs).os=w.os/\(w.setCells b o vs).output=w.output
 | [],o,w,arr,ty,fr,h=>⟨h,fun _ _=>rfl,rfl,ZF rfl rfl,rfl,rfl⟩
 | v :: r,o,w,arr,ty,fr,h=>by
  have h1:(w.setCell ⟨b,o,none⟩ v).heap[b]? = some (.cells (arr.setIfInBounds o v) ty fr):=by
   simp [World.setCell,VL,h]
  obtain ⟨k1,k2,k3,k4,k5,k6⟩:=nu b r (o+1) (w.setCell ⟨b,o,none⟩ v) _ ty fr h1
  refine ⟨k1,fun c hc=>(k2 c hc).trans ?_,k3.trans ?_,(ZF rfl rfl).trans k4,k5,k6⟩
  ·simp [World.setCell,VL,Ne.symm hc]
  ·simp [World.setCell]
theorem ni (w:World) (ty:TypeId):∀ (vs:List Value) (o:Nat) (A:Array Value),(w.alloc (.cells A ty)).setCells w.heap.size o vs=w.alloc (.cells (sL A o vs) ty)
 | [],o,A=>rfl
 | v :: r,o,A=>by
  have h1:(w.alloc (.cells A ty)).setCell ⟨w.heap.size,o,none⟩ v=w.alloc (.cells (A.setIfInBounds o v) ty):=by
   simp only [World.setCell,World.alloc]
   congr 1
   apply XP
   intro j
   rw [VL]
   by_cases hj:w.heap.size=j
   ·subst hj; simp
   ·rw [if_neg hj,WE,WE,if_neg (Ne.symm hj),if_neg (Ne.symm hj)]
  rw [World.setCells,h1,ni w ty r (o+1) _]; rfl
section
variable {P:Program} {μ:Mu} {F:Nat->Prop} {H:Heap} {w:World}
theorem At {μ':Mu} {H':Heap} {w':World} (h:Stp (fun x=>x=H.next) P μ F { H with next:=H.next+1 } w μ' F H' w'):Stp sF P μ F H w μ' F H' w' :=
 ⟨h.mu,h.fr,h.size,h.keep,h.rw,Ub (Uu _ _) h.next,fun b hb _ hn=>h.new b (Ue hb (Uu _ _)) (by omega) hn,h.rng,
  fun b e hb hl _=>h.old b e hb (Ue hl (Uu _ _)) (by omega),h.alv,h.tape,h.os,h.out⟩
theorem IR {ty:Nat} {cs:List AV} {V:List Value} {A:Array Value} {w1:World} {k cap':Nat} {H1:Heap} (hH:HR P μ F H1 w) (hnx:H1.next=H.next+1) (hid:μ H.next=none) (hs:sizeOf? P ty=some 1)
  (hl:LR μ F w cs V) (hk:V.length=k) (hA:∀ j,j<k->A[j]? = V[j]?) (hcap:k<=cap') (hsz:A.size=cap')
  (h1:w1.heap=w.heap) (ht:Tp w w1) (hos:w1.os=w.os) (hout:w1.output=w.output) :
  ∃ μ',VR μ' F (w1.alloc (.cells A ty)) (.own H.next 0 k k 1 false) (.slice (some ⟨w.heap.size,0,none⟩) k cap')/\HR P μ' F (H1.put H.next (.cells cs ty true)) (w1.alloc (.cells A ty)) /\
   Stp (fun x=>x=H.next) P μ F H1 w μ' F (H1.put H.next (.cells cs ty true)) (w1.alloc (.cells A ty)):=by
 have hcl:cs.length=k:=hl.1.trans hk
 obtain ⟨q1,q2⟩:=mo (I:=fun x=>x=H.next) hH hid (by omega) rfl (sz:=1) (arr:=A) (cs:=cs) hs (by omega)
  (fun i c v hc hv=>by
   have hi:i<k:=by rw [<- hcl]; exact (TZ.1 hc).1
   rw [hA i hi] at hv
   exact hl.2 i c v hc hv) w1 h1 ht hos hout
 exact ⟨_,.own H.next 0 k k 1 false _ cap' (upd_same _ _) rfl (TO _) hcap (fun h=>by cases h) (by simp [hsz]),q1,q2⟩
theorem Pu {b ty:Nat} {L:Bk} {cs0 cs:List AV} {V:List Value} {A:Array Value} {w':World} {k cap:Nat} (hH:HR P μ F H w) (hb:H.get b=some (.cells cs0 ty true)) (hL:μ b=some L) (hLs:L.sz=1)
  (hl:LR μ F w cs V) (hk:V.length=k) (hA:∀ j,j<k->A[j]? = V[j]?) (hcap:k<=cap) (hsz:A.size=L.N) (hN:cap<=L.N)
  (hw:w'.heap[L.blk]? = some (.cells A ty (0,0))) (hoth:∀ c,c≠L.blk->w'.heap[c]? = w.heap[c]?) (hsize:w'.heap.size=w.heap.size) (ht:Tp w w') (hos:w'.os=w.os) (hout:w'.output=w.output) :
  ∃ μ',VR μ' F w' (.own H.next 0 k k 1 false) (.slice (some ⟨L.blk,0,none⟩) k cap)/\HR P μ' F (({ H with next:=H.next+1 }.kill b).put H.next (.cells cs ty true)) w' /\
   Stp sF P μ F H w μ' F (({ H with next:=H.next+1 }.kill b).put H.next (.cells cs ty true)) w':=by
 have hcl:cs.length=k:=hl.1.trans hk
 have hid:μ H.next=none:=kJ hH (TO _)
 have hH1:=hH.bump 1
 have hb1:({ H with next:=H.next+1 }:Heap).get b=some (.cells cs0 ty true):=hb
 obtain ⟨arr,fr,g1,g2,g3,g4,g5,g6,g7⟩:=fN hH hb hL
 obtain ⟨p1,p2⟩:=iP (I:=fun x=>x=H.next) (e:=.cells cs ty true) hH1 hb1 rfl hL w' hoth hsize ht hos hout
  (fun hF=>⟨A,(0,0),hw,hsz,g3,by omega,fun i c v hc hv=>by
   have hi:i<k:=by rw [<- hcl]; exact (TZ.1 hc).1
   rw [hA i hi] at hv
   exact (hl.2 i c v hc hv).mono (fun _ _ h=>h) (fun _ h=>h) hF,fun _=>⟨(g6 rfl).1,rfl⟩,fun h=>by cases h⟩) rfl
 obtain ⟨q4,q5⟩:=uF (I:=fun x=>x=H.next) p1 (b:=b) (id:=H.next) (L:=L) (by rw [Zf,if_pos rfl]) hL hid (by show H.next<H.next+1; omega) rfl
 refine ⟨μ.upd H.next L,.own H.next 0 k k 1 false L cap (upd_same _ _) hLs (TO _) hcap (fun h=>by cases h) (by simp; omega),?_,?_⟩
 ·refine q4.congr rfl fun x=>?_
  simp only [Zf,Ze]
  split
  ·rfl
  ·split
   ·rfl
   ·rename_i hx; rfl
 ·refine At ((p2.trans q5).congr rfl fun x e he=>⟨e,?_,rfl⟩)
  simp only [Zf,Ze] at he ⊢
  split at he
  ·rename_i hx; rw [if_pos hx]; exact he
  ·rename_i hx
   rw [if_neg hx]
   split at he
   ·cases he
   ·rename_i hx2; rw [if_neg hx2,if_neg hx2]; exact he
end
theorem uS {vs:List Value} {w:World} {F:Fence} {rd:Bool} {n:Nat} {R:Value->World->Prop} (hF:FenceOK F rd) (h:Calls Tryz.prog 168 vs.toArray w fun e w'=>∃ u,e=.returned u/\R u w'):Runs F n Tryz.prog ((callFunc 168 vs.toArray).run Tryz.prog w) R:=by
 rw [sr (P:=Tryz.prog) (f:=168) Tryz.func168 (by kernel_rfl) (of_decide_eq_true (by kernel_rfl))]
 unfold Runs
 simp only
 have key:CallsIn Fence.wide n Tryz.prog 168 vs.toArray w fun e w'=>∃ u,e=.returned u/\R u w':=callsIn_wide.2 h
 rcases hF with ⟨_,rfl⟩ | ⟨_,l,rfl⟩
 ·exact key
 ·exact key
theorem uK {w:World} {b:Nat} {arr:Array Value} {ty:TypeId} (h:w.heap[b]? = some (.cells arr ty (0,0))) (o:Nat):w.frozen? ⟨b,o,none⟩=false:=by
 simp [World.frozen?,h]
theorem Pv {H H':Heap} {size bytes ty:Nat} {args:List AV} {v:AV} (h:uX H (.insert size bytes ty) args=some (v,H')) :
  (∃ b2 off2 m c2 sz2 HD news,args=[.nilSl,.int .i64 (.ofNat 0),.own b2 off2 m c2 sz2 HD]/\aM H size m (.own b2 off2 m c2 sz2 HD)=some news/\0<m/\m*bytes<=2^46/\m<2^62/\news.all AV.one=true /\
   v=.own H.next 0 m m size false/\H'=({ H with next:=H.next+1 }:Heap).put H.next (.cells news ty true)) \/
  (∃ b n c ex i b2 off2 m c2 sz2 HD news cs cs2 ty2,args=[.own b 0 n c size ex,.int .i64 (.ofNat i),.own b2 off2 m c2 sz2 HD]/\aM H size m (.own b2 off2 m c2 sz2 HD)=some news/\H.get b=some (.cells cs ty true)/\H.get b2=some (.cells cs2 ty2 true) /\
   b≠b2/\0<m/\i<=n/\cs.length=n*size/\(n+m)*bytes<=2^46/\n+m<2^62/\news.all AV.one=true/\cs.all AV.one=true /\
   v=.own H.next 0 (n+m) (n+m) size false/\H'=(({ H with next:=H.next+1 }:Heap).kill b).put H.next (.cells (cs.take (i*size)++news++cs.drop (i*size)) ty true)):=by
 unfold uX at h
 split at h
 all_goals first | contradiction | skip
 ·rename_i heq
  cases heq
  split at h
  ·rename_i news hnews
   split at h
   ·rename_i hc
    obtain ⟨c1,c2',c3,c4,c5⟩:=hc
    cases h
    subst c1
    exact .inl ⟨_,_,_,_,_,_,news,rfl,hnews,c2',c3,c4,c5,rfl,rfl⟩
   ·cases h
  ·cases h
 ·rename_i heq
  cases heq
  split at h
  ·rename_i news cs ty' cs2 ty2 hnews hb hb2
   split at h
   ·rename_i hc
    obtain ⟨c1,c2',c3,c4,c5,c6,c7,c8,c9,c10,c11⟩:=hc
    cases h
    subst c1
    subst c2'
    subst c9
    exact .inr ⟨_,_,_,_,_,_,_,_,_,_,_,news,cs,cs2,ty2,rfl,hnews,hb,hb2,c3,c4,c5,c6,c7,c8,c10,c11,rfl,rfl⟩
   ·cases h
  ·cases h
 all_goals (cases h)
theorem Fa {P:Program} {μ:Mu} {F:Nat->Prop} {H:Heap} {w:World} {b2 off2 m c2 sz2:Nat} {HD:Bool} {news:List AV} {z:Value} (hH:HR P μ F H w) (hz:VR μ F w (.own b2 off2 m c2 sz2 HD) z) (hnews:aM H 1 m (.own b2 off2 m c2 sz2 HD)=some news) :
  ∃ L2 cap2 arr2 ty2 fr2 cs2 rw2,μ b2=some L2/\z=.slice (some ⟨L2.blk,off2,none⟩) m cap2/\H.get b2=some (.cells cs2 ty2 rw2)/\w.heap[L2.blk]? = some (.cells arr2 ty2 fr2)/\off2+m<=arr2.size/\(rw2=true->fr2=(0,0)) /\
   ((arr2.toList.drop off2).take m).length=m/\LR μ F w news ((arr2.toList.drop off2).take m)/\∀ j u,((arr2.toList.drop off2).take m)[j]? = some u->w.cell? ⟨L2.blk,off2+j,none⟩=some u:=by
 cases hz with
 | own _ _ _ _ _ _ L2 cap2 k1 k2 k3 k4 k5 k6 =>
 simp only [aM] at hnews
 split at hnews
 ·rename_i cs2 ty2 rw2 hb2
  split at hnews
  ·rename_i hcc
   obtain ⟨e1,e2,e3⟩:=hcc
   cases hnews
   obtain ⟨arr2,fr2,g1,g2,g3,g4,g5,g6,g7⟩:=fN hH hb2 k1
   have hvl:((arr2.toList.drop off2).take m).length=m:=by simp; omega
   refine ⟨L2,cap2,arr2,ty2,fr2,cs2,rw2,k1,rfl,hb2,g1,by omega,fun h=>(g6 h).2,hvl,⟨by simp; omega,fun i c u hi hu=>?_⟩,fun j u hj=>?_⟩
   ·rw [Uh] at hi hu
    rw [Vg] at hi
    split at hi
    ·rename_i him
     rw [if_pos him] at hu
     rw [Ui] at hi hu
     exact g5 _ c u hi (by simpa using hu)
    ·cases hi
   ·rw [pR g1]
    rw [Uh] at hj
    split at hj
    ·rw [Ui] at hj; simpa using hj
    ·cases hj
  ·cases hnews
 ·cases hnews
theorem Pa {μ:Mu} {F:Nat->Prop} {w:World} {b n c sz:Nat} {ex:Bool} {x:Value} (h:VR μ F w (.own b 0 n c sz ex) x):∃ L cap,μ b=some L/\L.sz=sz/\n<=c/\c<=cap/\cap*sz<=L.N/\x=.slice (some ⟨L.blk,0,none⟩) n cap:=by
 cases h with
 | own _ _ _ _ _ _ L cap k1 k2 k3 k4 k5 k6=>exact ⟨L,cap,k1,k2,k3,k4,by omega,rfl⟩
theorem zg {μ:Mu} {F:Nat->Prop} {w:World} {vs:List Value} {a b c:AV} (h:LR μ F w [a,b,c] vs):∃ x y z,vs=[x,y,z]/\VR μ F w a x/\VR μ F w b y/\VR μ F w c z:=by
 have hl:=h.1
 match vs,hl with
 | [x,y,z],_=>exact ⟨x,y,z,rfl,h.head,h.tail.head,h.tail.tail.head⟩
set_option maxRecDepth 100000 in
theorem extOK_insert:ExtOK Tryz.prog 168 (.insert 1 24 37):=by
 intro H args v H' h μ F w vs fence rd nn hF hH hl
 have hsE:sizeOf? Tryz.prog 37=some 1:=by
  obtain ⟨i0,hi,h0,h1,h2⟩:=info_parts Ins168.iE
  simp [sizeOf?,hi,h1]
 have hid:μ H.next=none:=kJ hH (TO _)
 have hzs:∀ k,(Builtin.zeroCells (Value.slice none 0 0).cells k).size=k:=fun k=>by rw [yG]; simp [Value.cells]
 rcases Pv h with ⟨b2,off2,m,c2,sz2,HD,news,rfl,hnews,h1,h2,h3,h4,rfl,rfl⟩ | ⟨b,n,c,ex,i,b2,off2,m,c2,sz2,HD,news,cs,cs2,ty2,rfl,hnews,hb,hb2,h1,h2,h3,h4,h5,h6,h7,h8,rfl,rfl⟩
 ·obtain ⟨x,y,z,rfl,hx,hy,hz⟩:=zg hl
  cases hx
  cases hy
  obtain ⟨L2,cap2,arr2,ty2,fr2,cs2,rw2,k1,rfl,k3,g1,g2,-,hvl,hvr,hcell⟩:=Fa hH hz hnews
  refine uS hF ((Ins168.end_grow none 0 0 L2.blk off2 m cap2 [] ((arr2.toList.drop off2).take m) w h1 (TO _) (by omega) (by omega) rfl hvl (fun _=>rfl) (fun a h=>by cases h) hcell (hvr.one h4)).mono fun e w' ⟨he,hw⟩=>?_)
  subst hw
  rw [Ut] at he
  have hge:=Go.grownCap_ge w m 0 37
  simp only [Ut,V6]
  obtain ⟨μ',q1,q2,q3⟩:=IR (P:=Tryz.prog) (H:=H) (A:=((arr2.toList.drop off2).take m).toArray++Builtin.zeroCells (Value.slice none 0 0).cells (grownCap w m 0 37-m)) (w1:=w.drew) (k:=m) (cap':=grownCap w m 0 37) (hH.bump 1) rfl hid hsE hvr hvl
   (fun j hj=>by rw [Va (by simp [hvl]; omega)]; simp) hge (by simp only [VW,Wh,hvl,hzs]; omega) rfl Tp.draw rfl rfl
  exact ⟨_,he,μ',q1,q2,At q3⟩
 ·obtain ⟨x,y,z,rfl,hx,hy,hz⟩:=zg hl
  obtain ⟨L,cap,r1,r2,r3,r4,r5,rfl⟩:=Pa hx
  cases hy
  obtain ⟨L2,cap2,arr2,ty2',fr2,cs2',rw2,k1,rfl,k3,g1,g2,gfr,hvl,hvr,hcell⟩:=Fa hH hz hnews
  rw [hb2] at k3
  cases k3
  have hfr2:=gfr rfl
  subst hfr2
  obtain ⟨arr,fr,p1,p2,p3,p4,p5,p6,p7⟩:=fN hH hb r1
  obtain ⟨-,rfl⟩:=p6 rfl
  rw [Vg] at h4 r5
  have hne:L2.blk≠L.blk:=fun e=>h1 (hH.inj b b2 _ _ L L2 hb hb2 r1 k1 e.symm)
  have hvsl:(arr.toList.take n).length=n:=by simp; omega
  have hcs:LR μ F w cs (arr.toList.take n):=by
   refine ⟨by simp; omega,fun i c u hi hu=>?_⟩
   rw [Uh] at hu
   split at hu
   ·exact p5 i c u hi (by simpa using hu)
   ·cases hu
  have hcell0:∀ j u,(arr.toList.take n)[j]? = some u->w.cell? ⟨L.blk,0+j,none⟩=some u:=fun j u hj=>by
   rw [pR p1,Ut]
   rw [Uh] at hj
   split at hj
   ·simpa using hj
   ·cases hj
  have hV:LR μ F w (cs.take (i*1)++news++cs.drop (i*1)) ((arr.toList.take n).take i++(arr2.toList.drop off2).take m++(arr.toList.take n).drop i):=by
   rw [Vg]
   exact ((hcs.take i).append hvr).append (hcs.drop i)
  have hVl:((arr.toList.take n).take i++(arr2.toList.drop off2).take m++(arr.toList.take n).drop i).length=n+m:=by
   simp only [T9,Un,U8,hvl,hvsl]
   have:=hvsl
   rw [Un] at this
   omega
  generalize hC:arr.toList.take n=C at *
  generalize hD:(arr2.toList.drop off2).take m=D at *
  have hCl:=hvsl
  have hDl:=hvl
  have harr:∀ j,j<n->arr[j]? = C[j]?:=fun j hj=>by rw [<- hC,Uh,if_pos hj]; simp
  have hVat:∀ j,j<n+m->(C.take i++D++C.drop i)[j]? = if j<i then C[j]? else if j<i+m then D[j-i]? else C[j-m]?:=by
   intro j hj
   have e1:(C.take i).length=i:=by rw [Un]; omega
   by_cases q1:j<i
   ·rw [if_pos q1,Uo (by rw [T9,e1]; omega),Uo (by omega),Uh,if_pos q1]
   ·rw [if_neg q1]
    by_cases q2:j<i+m
    ·rw [if_pos q2,Uo (by rw [T9,e1]; omega),UI (by omega),e1]
    ·rw [if_neg q2,UI (by rw [T9,e1]; omega),T9,e1,Ui]
     congr 1; omega
  have hsp:∀ j,j<cap->(w.cell? ⟨L.blk,0+j,none⟩).isSome=true:=fun j hj=>by
   rw [pR p1,Ut,U5 (by omega)]; rfl
  by_cases hroom:n+m<=cap
  ·
   have fin:∀ (A:Array Value) (w':World),A.size=L.N->(∀ j,j<n+m->A[j]? = (C.take i++D++C.drop i)[j]?)->w'.heap[L.blk]? = some (.cells A 37 (0,0))->(∀ c,c≠L.blk->w'.heap[c]? = w.heap[c]?)->w'.heap.size=w.heap.size->Tp w w'->w'.os=w.os->w'.output=w.output ->
     ∃ μ',iu sF Tryz.prog μ F H w (.own H.next 0 (n+m) (n+m) 1 false) (({ H with next:=H.next+1 }:Heap).kill b |>.put H.next (.cells (cs.take (i*1)++news++cs.drop (i*1)) 37 true)) (.slice (some ⟨L.blk,0,none⟩) (n+m) cap) w' μ':=by
    intro A w' a1 a2 a3 a4 a5 a6 a7 a8
    obtain ⟨μ',q1,q2,q3⟩:=Pu (P:=Tryz.prog) (A:=A) (w':=w') (k:=n+m) (cap:=cap) hH hb r1 r2 hV hVl a2 hroom a1 r5 a3 a4 a5 a6 a7 a8
    exact ⟨μ',q1,q2,q3⟩
   by_cases hin:i=n
   ·subst hin
    refine uS hF ((Ins168.end_room L.blk 0 i cap L2.blk off2 m cap2 D w h2 hroom (by omega) hDl (fun j hj=>by rw [US]; exact hsp _ (by omega)) (fun j _=>uK p1 _) hcell (hvr.one h7)).mono fun e w' ⟨he,hw⟩=>?_)
    subst hw
    obtain ⟨s1,s2,s3,s4,s5,s6⟩:=nu L.blk D (0+i) w arr 37 (0,0) p1
    obtain ⟨μ',hd⟩:=fin _ _ ((iS _ _ _).trans p2) (fun j hj=>by
     rw [oP _ _ _ _ (by omega),hVat j hj,hDl,Ut]
     by_cases q1:j<i
     ·rw [if_neg (by omega),if_pos q1,harr j q1]
     ·rw [if_pos (by omega),if_neg q1,if_pos (by omega)]) s1 s2 s3 s4 s5 s6
    exact ⟨_,he,μ',hd⟩
   ·refine uS hF ((Ins168.shift L.blk 0 n cap i L2.blk off2 m cap2 C D w (by omega) h2 hroom (by omega) hne hCl hDl hcell0 (fun j hj=>hsp j (by omega)) (fun j _=>uK p1 _) hcell (hcs.one h8) (hvr.one h7)
     ty2 37 arr2.size arr.size (by simp [World.shape?,g1]) (by simp [World.shape?,p1]) (by omega) (uK g1 _) (uK g1 _)).mono fun e w' ⟨he,hw⟩=>?_)
    subst hw
    obtain ⟨s1,s2,s3,s4,s5,s6⟩:=nu L.blk (C.drop i) (0+(i+m)) w.drew arr 37 (0,0) p1
    obtain ⟨t1,t2,t3,t4,t5,t6⟩:=nu L.blk D (0+i) _ _ 37 (0,0) s1
    obtain ⟨μ',hd⟩:=fin _ _ (by rw [iS,iS]; exact p2) (fun j hj=>by
     rw [oP _ _ _ _ (by rw [iS]; omega),oP _ _ _ _ (by omega),hVat j hj,hDl,Ut,Ut,U8,hCl]
     by_cases q1:j<i
     ·rw [if_neg (by omega),if_neg (by omega),if_pos q1,harr j (by omega)]
     ·by_cases q2:j<i+m
      ·rw [if_pos (by omega),if_neg q1,if_pos q2]
      ·rw [if_neg (by omega),if_pos (by omega),if_neg q1,if_neg q2,Ui]
       congr 1; omega) t1 (fun c hc=>(t2 c hc).trans (s2 c hc)) (t3.trans s3) ((Tp.draw.trans s4).trans t4) (t5.trans s5) (t6.trans s6)
    exact ⟨_,he,μ',hd⟩
  ·
   have hge:=Go.grownCap_ge w (n+m) cap 37
   obtain ⟨z1,z2⟩:=tW (I:=fun x=>x=H.next) (hH.bump 1) b
   have fin:∀ (A:Array Value) (w1:World),A.size=grownCap w (n+m) cap 37->(∀ j,j<n+m->A[j]? = (C.take i++D++C.drop i)[j]?)->w1.heap=w.heap->Tp w w1->w1.os=w.os->w1.output=w.output ->
     ∃ μ',iu sF Tryz.prog μ F H w (.own H.next 0 (n+m) (n+m) 1 false) (({ H with next:=H.next+1 }:Heap).kill b |>.put H.next (.cells (cs.take (i*1)++news++cs.drop (i*1)) 37 true)) (.slice (some ⟨w.heap.size,0,none⟩) (n+m) (grownCap w (n+m) cap 37)) (w1.alloc (.cells A 37)) μ':=by
    intro A w1 a1 a2 a3 a4 a5 a6
    obtain ⟨μ',q1,q2,q3⟩:=IR (P:=Tryz.prog) (H:=H) (A:=A) (w1:=w1) (k:=n+m) (cap':=grownCap w (n+m) cap 37) z1 rfl hid hsE hV hVl a2 hge a1 a3 a4 a5 a6
    exact ⟨μ',q1,q2,At (z2.trans q3)⟩
   by_cases hin:i=n
   ·subst hin
    refine uS hF ((Ins168.end_grow (some ⟨L.blk,0,none⟩) i cap L2.blk off2 m cap2 C D w h2 (by omega) (by omega) (by omega) hCl hDl (fun h=>by cases h) (fun a ha j u hj=>by cases ha; rw [jN]; exact hcell0 j u hj) hcell (hvr.one h7)).mono fun e w' ⟨he,hw⟩=>?_)
    subst hw
    obtain ⟨μ',hd⟩:=fin ((C++D).toArray++Builtin.zeroCells (Value.slice none 0 0).cells (grownCap w (i+m) cap 37-(i+m))) w.drew (by simp only [VW,Wh,T9,hCl,hDl,hzs]; omega) (fun j hj=>by
     rw [Va (by simp [hCl,hDl]; omega),hVat j hj]
     have e0:(C++D).toArray[j]? = (C++D)[j]?:=by simp
     rw [e0]
     by_cases q1:j<i
     ·rw [if_pos q1,Uo (by omega)]
     ·rw [if_neg q1,if_pos (by omega),UI (by omega),hCl]) rfl Tp.draw rfl rfl
    exact ⟨_,he,μ',hd⟩
   ·refine uS hF ((Ins168.grow L.blk 0 n cap i L2.blk off2 m cap2 C D w (by omega) h2 (by omega) (by omega) (by omega) hCl hDl hcell0 hcell (hcs.one h8) (hvr.one h7)).mono fun e w' ⟨he,hw⟩=>?_)
    have e1:∀ A:Array Value,(((w.alloc (.cells A 37)).drew.setCells w.heap.size i D).drew).setCells w.heap.size (i+m) (C.drop i)=w.drew.drew.alloc (.cells (sL (sL A i D) (i+m) (C.drop i)) 37):=fun A=>by
     have a1:(w.alloc (.cells A 37)).drew=w.drew.alloc (.cells A 37):=rfl
     have a2:(w.drew.alloc (.cells A 37)).setCells w.heap.size i D=w.drew.alloc (.cells (sL A i D) 37):=ni w.drew 37 D i A
     have a3:(w.drew.alloc (.cells (sL A i D) 37)).drew=w.drew.drew.alloc (.cells (sL A i D) 37):=rfl
     rw [a1,a2,a3]
     exact ni w.drew.drew 37 (C.drop i) (i+m) (sL A i D)
    rw [e1] at hw
    subst hw
    obtain ⟨μ',hd⟩:=fin (sL (sL ((C.take i).toArray++Builtin.zeroCells (Value.slice none 0 0).cells (n+m-i)++Builtin.zeroCells (Value.slice none 0 0).cells (grownCap w (n+m) cap 37-(n+m))) i D) (i+m) (C.drop i)) w.drew.drew (by
      rw [iS,iS]
      simp only [VW,Wh,Un,hCl,hzs]; omega) (fun j hj=>by
     have hA0:((C.take i).toArray++Builtin.zeroCells (Value.slice none 0 0).cells (n+m-i)++Builtin.zeroCells (Value.slice none 0 0).cells (grownCap w (n+m) cap 37-(n+m))).size=grownCap w (n+m) cap 37:=by
      simp only [VW,Wh,Un,hCl,hzs]; omega
     rw [oP _ _ _ _ (by rw [iS,hA0]; omega),oP _ _ _ _ (by rw [hA0]; omega),hVat j hj,hDl,U8,hCl]
     by_cases q1:j<i
     ·rw [if_neg (by omega),if_neg (by omega),if_pos q1,Va (by simp only [VW,Wh,Un,hCl,hzs]; omega),Va (by simp only [Wh,Un,hCl]; omega)]
      simp [q1]
     ·by_cases q2:j<i+m
      ·rw [if_neg (by omega),if_pos (by omega),if_neg q1,if_pos q2]
      ·rw [if_pos (by omega),if_neg q1,if_neg q2,Ui]
       congr 1; omega) rfl (Tp.draw.trans Tp.draw) rfl rfl
    exact ⟨_,he,μ',hd⟩
end Go.Proofs.YtofhopjbbpihaaaGreat.Ev.Ok168
namespace Go.Proofs.YtofhopjbbpihaaaGreat.Ev.So93
open Go Go.RowKit Go.Sort Go.Shelf Go.Lib Go.Proofs.YtofhopjbbpihaaaGreat.Ev
set_option linter.all false
set_option maxRecDepth 100000
def Gv:Go.Shelf.Ren:=⟨fun | 6=>93 | 15=>126 | 14=>125 | 28=>156 | 29=>157 | 20=>148 | 21=>149 | 22=>150 | 23=>151 | 24=>152 | 25=>153 | 26=>154 | 27=>155 | 46=>173 | 47=>174 | 48=>175 | 49=>176 | 50=>177 | 57=>188 | n=>n,fun | 22=>95 | 24=>37 | 25=>88 | 3=>3 | 39=>156 | 0=>0 | 53=>187 | 55=>92 | 4=>4 | 46=>180 | 45=>179 | 50=>184 | 5=>5 | 9=>9 | 66=>203 | 70=>207 | 76=>216 | 77=>217 | n=>n,fun | n=>n⟩
theorem Ms:Go.Proofs.SlLaysF.n6 Tryz.prog Gv:={
 mixed:=by kernel_rfl
 f6:=⟨Tryz.f93.name,by decide,Tryz.func93.trans (congrArg some (by kernel_rfl))⟩
 f14:=⟨Tryz.f125.name,by decide,Tryz.func125.trans (congrArg some (by kernel_rfl))⟩
 f15:=Tryz.func126.trans (congrArg some (by kernel_rfl))
 f20:=⟨Tryz.f148.name,by decide,Tryz.func148.trans (congrArg some (by kernel_rfl))⟩
 f21:=⟨Tryz.f149.name,by decide,Tryz.func149.trans (congrArg some (by kernel_rfl))⟩
 f22:=⟨Tryz.f150.name,by decide,Tryz.func150.trans (congrArg some (by kernel_rfl))⟩
 f23:=⟨Tryz.f151.name,by decide,Tryz.func151.trans (congrArg some (by kernel_rfl))⟩
 f24:=⟨Tryz.f152.name,by decide,Tryz.func152.trans (congrArg some (by kernel_rfl))⟩
 f25:=⟨Tryz.f153.name,by decide,Tryz.func153.trans (congrArg some (by kernel_rfl))⟩
 f26:=⟨Tryz.f154.name,by decide,Tryz.func154.trans (congrArg some (by kernel_rfl))⟩
 f27:=⟨Tryz.f155.name,by decide,Tryz.func155.trans (congrArg some (by kernel_rfl))⟩
 f28:=Tryz.func156.trans (congrArg some (by kernel_rfl))
 f29:=Tryz.func157.trans (congrArg some (by kernel_rfl))
 f46:=⟨Tryz.f173.name,by decide,Tryz.func173.trans (congrArg some (by kernel_rfl))⟩
 f47:=Tryz.func174.trans (congrArg some (by kernel_rfl))
 f48:=Tryz.func175.trans (congrArg some (by kernel_rfl))
 f49:=⟨Tryz.f176.name,by decide,Tryz.func176.trans (congrArg some (by kernel_rfl))⟩
 f50:=⟨Tryz.f177.name,by decide,Tryz.func177.trans (congrArg some (by kernel_rfl))⟩
 f57:=⟨Tryz.f188.name,by decide,Tryz.func188.trans (congrArg some (by kernel_rfl))⟩
 t0:=Tryz.underlying0
 a0:=Tryz.isAgg0
 z0:=Tryz.sizeOf0
 v0:=Tryz.zeroValue0
 t3:=Tryz.underlying3
 a3:=Tryz.isAgg3
 z3:=Tryz.sizeOf3
 v3:=Tryz.zeroValue3
 t4:=Tryz.underlying4
 a4:=Tryz.isAgg4
 z4:=Tryz.sizeOf4
 v4:=Tryz.zeroValue4
 t5:=Tryz.underlying5
 a5:=Tryz.isAgg5
 z5:=Tryz.sizeOf5
 v5:=Tryz.zeroValue5
 t9:=Tryz.underlying9
 a9:=Tryz.isAgg9
 z9:=Tryz.sizeOf9
 v9:=Tryz.zeroValue9
 t22:=Tryz.underlying95
 a22:=Tryz.isAgg95
 z22:=Tryz.sizeOf95
 v22:=Tryz.zeroValue95
 a24:=Tryz.isAgg37
 z24:=Tryz.sizeOf37
 t25:=Tryz.underlying88
 a25:=Tryz.isAgg88
 z25:=Tryz.sizeOf88
 v25:=Tryz.zeroValue88
 t39:=Tryz.underlying156
 a39:=Tryz.isAgg156
 z39:=Tryz.sizeOf156
 v39:=Tryz.zeroValue156
 t45:=Tryz.underlying179
 a45:=Tryz.isAgg179
 z45:=Tryz.sizeOf179
 v45:=Tryz.zeroValue179
 t46:=Tryz.underlying180
 a46:=Tryz.isAgg180
 z46:=Tryz.sizeOf180
 v46:=Tryz.zeroValue180
 t50:=Tryz.underlying184
 a50:=Tryz.isAgg184
 z50:=Tryz.sizeOf184
 v50:=Tryz.zeroValue184
 t53:=Tryz.underlying187
 a53:=Tryz.isAgg187
 z53:=Tryz.sizeOf187
 v53:=Tryz.zeroValue187
 t55:=Tryz.underlying92
 a55:=Tryz.isAgg92
 z55:=Tryz.sizeOf92
 v55:=Tryz.zeroValue92
 t66:=Tryz.underlying203
 a66:=Tryz.isAgg203
 z66:=Tryz.sizeOf203
 v66:=Tryz.zeroValue203
 t70:=Tryz.underlying207
 a70:=Tryz.isAgg207
 z70:=Tryz.sizeOf207
 v70:=Tryz.zeroValue207
 t76:=Tryz.underlying216
 a76:=Tryz.isAgg216
 z76:=Tryz.sizeOf216
 v76:=Tryz.zeroValue216
 t77:=Tryz.underlying217
 a77:=Tryz.isAgg217
 z77:=Tryz.sizeOf217
 v77:=Tryz.zeroValue217 }
theorem QW:Ib Tryz.prog 93 [94]:=by
 refine ⟨⟨Tryz.f93,Tryz.func93,by kernel_rfl,by decide +kernel⟩,trivial,?_,?_,?_⟩
 ·intro g hg args w
  simp only [Ul,List.not_mem_nil,or_false] at hg
  subst hg
  exact enters_of Tryz.func94 (by kernel_rfl) rfl args w
 ·intro p cap fv w
  exact AnyF.slices_SortFunc_none { Ms with } p cap fv w
 ·intro k enc cf g cb blk cap w hg h1 hO hT hcmp hH hblk hsz
  have eg:∀ args w,(callFunc g args).run Tryz.prog w=.ok (.enter g args) w:=by
   intro args w
   simp only [Ul,List.not_mem_nil,or_false] at hg
   subst hg
   exact enters_of Tryz.func94 (by kernel_rfl) rfl args w
  have hs:(List.finRange (k+1)).toArray.size=k+1:=by simp
  have h:=Any.slices_SortFunc_total Ms enc h1 cf hO g cb blk 0 cap (List.finRange (k+1)).toArray w eg (by rw [hs]; exact hcmp) hH hblk (by rw [hs]; exact hsz) hT
  rw [hs] at h
  change Calls Tryz.prog 93 _ _ _ at h
  exact h
theorem extOK:ExtOK Tryz.prog 93 (.sortF 37 [94]):=QW
end Go.Proofs.YtofhopjbbpihaaaGreat.Ev.So93
namespace Go.Proofs.YtofhopjbbpihaaaGreat.Ev
open Go
set_option maxRecDepth 1000000
set_option maxHeartbeats 8000000
set_option linter.all false
def look:List (Nat × aw)->Nat->Option aw
 | [],_=>none
 | p :: r,f=>if f=p.1 then some p.2 else look r f
theorem EZ:∀ {L:List (Nat × aw)} {f:Nat} {a:aw},look L f=some a->(f,a)∈L
 | p :: r,f,a,h=>by
  unfold look at h
  split at h
  ·rename_i e; cases h; subst e; exact TW ..
  ·exact TQ _ (EZ h)
theorem ap {f:Nat} {fn:Func} {a:aw} (hf:Tryz.prog.funcs[f]? = some fn) (hc:RC Tryz.prog fn=some a:=by kernel_rfl) (he:a.ext.isNone=true:=by rfl):F5 Tryz.prog f a:=Mn hf hc he
abbrev Rw (l:List (Nat × aw)):Prop:=∀ p∈l,F5 Tryz.prog p.1 p.2
theorem Lt:Rw []:=fun p hp=>by cases hp
theorem bf {f:Nat} {a:aw} {l:List (Nat × aw)} (h:F5 Tryz.prog f a) (hl:Rw l):Rw ((f,a) :: l):=List.forall_mem_cons.2 ⟨h,hl⟩
def Th:List (Nat × aw):=[(dr,c_facetroomlaw22_PolyLattice),(gB,gO),(fw,jI),(fW,ke),(qQ,yl),(qP,yj),(fP,jV),(wH,Co),(dF,gN),(dE,gM),(qO,yi),(fp,jA),(jl,jy),(Aa,AW),(eO,iC),(gA,lx),(pC,vI),(im,lZ),(oU,Cv),(fu,jH)]
def Tg:List (Nat × aw):=[(mO,rC),(cE,dO),(cD,dM),(qZ,yv),(fQ,jW),(pB,vH),(gZ,vG),(ft,jC),(pD,vJ),(cK,dU),(fq,jB),(iw,iB),(iT,iX),(xK,yx),(zZ,FM),(tH,AR),(fz,jK),(eQ,tq),(lc,yr),(oB,c_dual_points)]
def Tf:List (Nat × aw):=[(qX,yu),(bQ,eI),(bP,eH),(fy,jJ),(eP,tp),(mP,A2),(qY,c_dual_cons),(dZ,ib),(dY,ia),(qN,yh),(rc,yw),(jm,jD),(kY,lq),(Ac,FO),(pu,vz),(eA,ij),(bN,cS),(eh,ii),(qV,yq),(rf,c_cone_Gens)]
def Te:List (Nat × aw):=[(bL,cQ),(kE,pd),(pH,vM),(ee,ig),(bM,cR),(d9,ie),(tK,AU),(fT,jX),(r8,Cm),(pw,vA),(gD,rF),(gC,rE),(aV,bB),(aU,bA),(jq,jF),(k9,lv),(h9,ic),(jS,j9),(pE,AX),(ny,yg)]
def Td:List (Nat × aw):=[(cd,dg),(mQ,c_cone_checked),(re,yA),(tU,A9),(cT,c_P_cone_under_add),(mN,rB),(oj,tj),(dt,du),(js,rH),(b9,db),(ca,de),(bi,bW),(jf,vB),(fU,jY),(nW,sX),(nV,sW),(wD,Ck),(kQ,sV),(pt,vw),(iU,iY)]
def Tc:List (Nat × aw):=[(jp,jE),(jr,jG),(kZ,lu),(lU,lX),(jR,jZ),(lV,lY),(jT,ka),(cy,fJ),(cg,dj),(mL,rz),(l8,vF),(fY,kj),(iN,c_P_cone_under_cut),(io,c_P_cone_under_fold),(oh,tf),(iM,nh),(tJ,AT),(wF,Cn),(cY,fj),(fV,j8)]
def Tb:List (Nat × aw):=[(qI,yb),(qK,yd),(nz,yo),(cB,dK),(pK,A8),(lh,yy),(eZ,l4),(nA,yz),(pI,A5),(pJ,A6),(nw,ye),(cJ,dS),(cC,dL),(gf,c_P_rows_form_put),(qL,yf),(pA,vE),(mM,rA),(px,AS),(nX,sY),(aY,bR)]
def Ta:List (Nat × aw):=[(pz,vD),(lH,qf),(wL,Ct),(qF,xZ),(qM,c_sat_Signs),(tT,A7),(qH,ya),(wE,Cl),(mI,rx),(oi,tg),(cA,dJ),(nY,sZ),(mJ,ry),(nZ,td),(cu,fk),(qJ,yc),(il,lW),(oo,tl),(wJ,Cq),(wI,Cp)]
def S9:List (Nat × aw):=[(py,vC),(wM,Cu),(nU,sU),(fc,pb),(qG,x9),(pG,vL),(qT,yp),(wK,Cr),(tO,A0),(Ad,FP),(ol,tk),(pF,vK),(jk,nN),(jg,nJ),(oA,tn),(wN,Cw),(kD,pa),(jh,nK),(tN,AZ),(qR,ym)]
def S8:List (Nat × aw):=[(oC,ts),(tQ,A4),(dC,gL),(Ab,FN),(fX,kg),(gE,ly),(gF,lz),(tP,A3),(tM,AY),(gy,rD),(cN,eJ),(jj,nM),(ji,nL),(qS,yn),(aZ,dy)]
theorem TA:Rw Th:=bf (ap Tryz.func3)<|bf (ap Tryz.func4)<|bf (ap Tryz.func5)<|bf (ap Tryz.func6)<|bf (ap Tryz.func7)<|bf (ap Tryz.func8)<|bf (ap Tryz.func9)<|bf (ap Tryz.func10)<|bf (ap Tryz.func11)<|bf (ap Tryz.func12)<|bf (ap Tryz.func13)<|bf (ap Tryz.func14)<|bf (ap Tryz.func15)<|bf (ap Tryz.func16)<|bf (ap Tryz.func17)<|bf (ap Tryz.func18)<|bf (ap Tryz.func19)<|bf (ap Tryz.func20)<|bf (ap Tryz.func21)<|bf (ap Tryz.func22)<|Lt
theorem Tz:Rw Tg:=bf (ap Tryz.func23)<|bf (ap Tryz.func24)<|bf (ap Tryz.func26)<|bf (ap Tryz.func25)<|bf (ap Tryz.func27)<|bf (ap Tryz.func28)<|bf (ap Tryz.func29)<|bf (ap Tryz.func30)<|bf (ap Tryz.func31)<|bf (ap Tryz.func32)<|bf (ap Tryz.func33)<|bf (ap Tryz.func35)<|bf (ap Tryz.func34)<|bf (ap Tryz.func36)<|bf (ap Tryz.func37)<|bf (ap Tryz.func38)<|bf (ap Tryz.func39)<|bf (ap Tryz.func40)<|bf (ap Tryz.func41)<|bf (ap Tryz.func43)<|Lt
theorem Ty:Rw Tf:=bf (ap Tryz.func42)<|bf (ap Tryz.func44)<|bf (ap Tryz.func49)<|bf (ap Tryz.func45)<|bf (ap Tryz.func46)<|bf (ap Tryz.func47)<|bf (ap Tryz.func48)<|bf (ap Tryz.func50)<|bf (ap Tryz.func51)<|bf (ap Tryz.func52)<|bf (ap Tryz.func53)<|bf (ap Tryz.func55)<|bf (ap Tryz.func54)<|bf (ap Tryz.func57)<|bf (ap Tryz.func56)<|bf (ap Tryz.func59)<|bf (ap Tryz.func58)<|bf (ap Tryz.func61)<|bf (ap Tryz.func62)<|bf (ap Tryz.func63)<|Lt
theorem Tx:Rw Te:=bf (ap Tryz.func64)<|bf (ap Tryz.func65)<|bf (ap Tryz.func66)<|bf (ap Tryz.func68)<|bf (ap Tryz.func67)<|bf (ap Tryz.func69)<|bf (ap Tryz.func70)<|bf (ap Tryz.func71)<|bf (ap Tryz.func72)<|bf (ap Tryz.func73)<|bf (ap Tryz.func74)<|bf (ap Tryz.func75)<|bf (ap Tryz.func76)<|bf (ap Tryz.func77)<|bf (ap Tryz.func81)<|bf (ap Tryz.func78)<|bf (ap Tryz.func79)<|bf (ap Tryz.func80)<|bf (ap Tryz.func82)<|bf (ap Tryz.func60)<|Lt
theorem Tv:Rw Td:=bf (ap Tryz.func83)<|bf (ap Tryz.func87)<|bf (ap Tryz.func88)<|bf (ap Tryz.func89)<|bf (ap Tryz.func90)<|bf (ap Tryz.func91)<|bf (ap Tryz.func92)<|bf (rR rfl rfl So93.extOK)<|bf (ap Tryz.func94)<|bf (ap Tryz.func96)<|bf (ap Tryz.func97)<|bf (ap Tryz.func98)<|bf (ap Tryz.func99)<|bf (ap Tryz.func100)<|bf (ap Tryz.func101)<|bf (ap Tryz.func103)<|bf (ap Tryz.func102)<|bf (ap Tryz.func86)<|bf (ap Tryz.func104)<|bf (ap Tryz.func111)<|Lt
theorem Tu:Rw Tc:=bf (ap Tryz.func112)<|bf (ap Tryz.func105)<|bf (ap Tryz.func106)<|bf (ap Tryz.func107)<|bf (ap Tryz.func108)<|bf (ap Tryz.func109)<|bf (ap Tryz.func110)<|bf (ap Tryz.func113)<|bf (ap Tryz.func84)<|bf (ap Tryz.func85)<|bf (ap Tryz.func116)<|bf (ap Tryz.func117)<|bf (ap Tryz.func120)<|bf (ap Tryz.func121)<|bf (ap Tryz.func122)<|bf (ap Tryz.func124)<|bf (ap Tryz.func123)<|bf (ap Tryz.func95)<|bf (ap Tryz.func130)<|bf (ap Tryz.func131)<|Lt
theorem Tt:Rw Tb:=bf (ap Tryz.func133)<|bf (ap Tryz.func132)<|bf (ap Tryz.func115)<|bf (ap Tryz.func114)<|bf (ap Tryz.func119)<|bf (ap Tryz.func118)<|bf (ap Tryz.func134)<|bf (ap Tryz.func135)<|bf (ap Tryz.func137)<|bf (ap Tryz.func136)<|bf (ap Tryz.func138)<|bf (ap Tryz.func140)<|bf (ap Tryz.func139)<|bf (ap Tryz.func141)<|bf (ap Tryz.func145)<|bf (ap Tryz.func147)<|bf (ap Tryz.func146)<|bf (ap Tryz.func142)<|bf (ap Tryz.func143)<|bf (ap Tryz.func127)<|Lt
theorem Ts:Rw Ta:=bf (ap Tryz.func128)<|bf (ap Tryz.func159)<|bf (ap Tryz.func161)<|bf (ap Tryz.func160)<|bf (ap Tryz.func162)<|bf (ap Tryz.func163)<|bf (ap Tryz.func165)<|bf (ap Tryz.func164)<|bf (ap Tryz.func166)<|bf (ap Tryz.func167)<|bf (rR rfl rfl Ok168.extOK_insert)<|bf (ap Tryz.func169)<|bf (ap Tryz.func170)<|bf (ap Tryz.func172)<|bf (ap Tryz.func144)<|bf (ap Tryz.func129)<|bf (ap Tryz.func181)<|bf (ap Tryz.func180)<|bf (ap Tryz.func178)<|bf (ap Tryz.func179)<|Lt
theorem Tq:Rw S9:=bf (ap Tryz.func182)<|bf (ap Tryz.func185)<|bf (ap Tryz.func171)<|bf (ap Tryz.func187)<|bf (ap Tryz.func158)<|bf (ap Tryz.func193)<|bf (ap Tryz.func194)<|bf (ap Tryz.func196)<|bf (ap Tryz.func195)<|bf (ap Tryz.func197)<|bf (ap Tryz.func189)<|bf (ap Tryz.func190)<|bf (rR rfl rfl (Fp Tryz.func191 (by kernel_rfl) (by kernel_rfl) (by kernel_rfl) (by kernel_rfl)))<|bf (rR rfl rfl (Fo Tryz.func192 (by kernel_rfl) (by kernel_rfl) (by kernel_rfl) (by kernel_rfl)))<|bf (ap Tryz.func199)<|bf (ap Tryz.func200)<|bf (ap Tryz.func186)<|bf (ap Tryz.func202)<|bf (ap Tryz.func203)<|bf (ap Tryz.func201)<|Lt
theorem To:Rw S8:=bf (ap Tryz.func205)<|bf (ap Tryz.func206)<|bf (ap Tryz.func207)<|bf (ap Tryz.func208)<|bf (ap Tryz.func209)<|bf (ap Tryz.func210)<|bf (ap Tryz.func211)<|bf (ap Tryz.func213)<|bf (ap Tryz.func212)<|bf (ap Tryz.func214)<|bf (ap Tryz.func215)<|bf (ap Tryz.func216)<|bf (ap Tryz.func157)<|bf (ap Tryz.func217)<|bf (ap Tryz.func218)<|Lt
def QU:List (Nat × aw):=Th++Tg++Tf++Te++Td++Tc++Tb++Ta++S9++S8
theorem OZ {l m:List (Nat × aw)} (h:Rw l) (h2:Rw m):Rw (l++m):=fun p hp=>(Uc.1 hp).elim (h p) (h2 p)
theorem OV:Rw QU:=(OZ (OZ (OZ (OZ (OZ (OZ (OZ (OZ (OZ TA Tz) Ty) Tx) Tv) Tu) Tt) Ts) Tq) To)
theorem tabOK:Jl Tryz.prog (look QU):=fun _ _ h=>OV _ (EZ h)
theorem code:Code (look QU):=by constructor <;> kernel_rfl
end Go.Proofs.YtofhopjbbpihaaaGreat.Ev
