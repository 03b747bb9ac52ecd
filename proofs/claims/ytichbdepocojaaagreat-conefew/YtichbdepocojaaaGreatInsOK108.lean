/- A part. -/
import Derived.Test.YtichbdepocojaaaGreatN46
import Derived.Test.YtichbdepocojaaaGreatEvDraw5
import Derived.Test.YtichbdepocojaaaGreatProg
import Derived.KernelRfl
import Derived.Shelf.SlSortCmp.NoneTotal
import Derived.Ground.SlsfProg
import Derived.Test.YtichbdepocojaaaGreatCode
namespace Go.Proofs.YtichbdepocojaaaGreat.Ev.Ok108
open Go Go.Proofs.YtichbdepocojaaaGreat.Ev
set_option linter.all false
def oZ (A:Array Value):Nat->List Value->Array Value
 | _,[]=>A
 | o,v :: r=>oZ (A.setIfInBounds o v) (o+1) r
theorem gy:∀ (vs:List Value) (o:Nat) (A:Array Value),(oZ A o vs).size=A.size
 | [],o,A=>rfl
 | v :: r,o,A=>by rw [oZ,gy r]; simp
theorem lY:∀ (vs:List Value) (o:Nat) (A:Array Value) (j:Nat),j<A.size->(oZ A o vs)[j]? = if o<=j/\j<o+vs.length then vs[j-o]? else A[j]?
 | [],o,A,j,hj=>by rw [oZ,if_neg (by simp only [List.length_nil]; omega)]
 | v :: r,o,A,j,hj=>by
  rw [oZ,lY r (o+1) _ j (by simpa using hj)]
  by_cases h1:o+1<=j/\j<o+1+r.length
  ·rw [if_pos h1,if_pos (by simp; omega),show j-o=(j-(o+1))+1 by omega,List.getElem?_cons_succ]
  ·rw [if_neg h1]
   by_cases h2:j=o
   ·subst h2
    rw [if_pos (by simp),Nat.sub_self,List.getElem?_cons_zero,Array.getElem?_setIfInBounds_self_of_lt hj]
   ·rw [if_neg (by simp; omega),Array.getElem?_setIfInBounds_ne (by omega)]
theorem kO (b:Nat):∀ (vs:List Value) (o:Nat) (w:World) (arr:Array Value) (ty:TypeId) (fr:Nat × Nat),w.heap[b]? = some (.cells arr ty fr) ->
  (w.setCells b o vs).heap[b]? = some (.cells (oZ arr o vs) ty fr)/\(∀ c,c≠b->(w.setCells b o vs).heap[c]? = w.heap[c]?)/\(w.setCells b o vs).heap.size=w.heap.size /\
   Tp w (w.setCells b o vs)/\(w.setCells b o vs).os=w.os/\(w.setCells b o vs).output=w.output
 | [],o,w,arr,ty,fr,h=>⟨h,fun _ _=>rfl,rfl,Tp.same rfl rfl,rfl,rfl⟩
 | v :: r,o,w,arr,ty,fr,h=>by
  have h1:(w.setCell ⟨b,o,none⟩ v).heap[b]? = some (.cells (arr.setIfInBounds o v) ty fr):=by
   simp [World.setCell,Array.getElem?_modify,h]
  obtain ⟨k1,k2,k3,k4,k5,k6⟩:=kO b r (o+1) (w.setCell ⟨b,o,none⟩ v) _ ty fr h1
  refine ⟨k1,fun c hc=>(k2 c hc).trans ?_,k3.trans ?_,(Tp.same rfl rfl).trans k4,k5,k6⟩
  ·simp [World.setCell,Array.getElem?_modify,Ne.symm hc]
  ·simp [World.setCell]
theorem kG (w:World) (ty:TypeId):∀ (vs:List Value) (o:Nat) (A:Array Value),(w.alloc (.cells A ty)).setCells w.heap.size o vs=w.alloc (.cells (oZ A o vs) ty)
 | [],o,A=>rfl
 | v :: r,o,A=>by
  have h1:(w.alloc (.cells A ty)).setCell ⟨w.heap.size,o,none⟩ v=w.alloc (.cells (A.setIfInBounds o v) ty):=by
   simp only [World.setCell,World.alloc]
   congr 1
   apply Array.ext_getElem?
   intro j
   rw [Array.getElem?_modify]
   by_cases hj:w.heap.size=j
   ·subst hj; simp
   ·rw [if_neg hj,Array.getElem?_push,Array.getElem?_push,if_neg (Ne.symm hj),if_neg (Ne.symm hj)]
  rw [World.setCells,h1,kG w ty r (o+1) _]; rfl
section
variable {P:Program} {μ:Mu} {F:Nat->Prop} {H:Heap} {w:World}
theorem uF {μ':Mu} {H':Heap} {w':World} (h:Stp (fun x=>x=H.next) P μ F { H with next:=H.next+1 } w μ' F H' w'):Stp oV P μ F H w μ' F H' w' :=
 ⟨h.mu,h.fr,h.size,h.keep,h.rw,Nat.le_trans (Nat.le_add_right _ _) h.next,fun b hb _ hn=>h.new b (Nat.lt_of_lt_of_le hb (Nat.le_add_right _ _)) (by omega) hn,h.rng,
  fun b e hb hl _=>h.old b e hb (Nat.lt_of_lt_of_le hl (Nat.le_add_right _ _)) (by omega),h.alv,h.tape,h.os,h.out⟩
theorem Cm {ty:Nat} {cs:List AV} {V:List Value} {A:Array Value} {w1:World} {k cap':Nat} {H1:Heap} (hH:HR P μ F H1 w) (hnx:H1.next=H.next+1) (hid:μ H.next=none) (hs:sizeOf? P ty=some 1)
  (hl:LR μ F w cs V) (hk:V.length=k) (hA:∀ j,j<k->A[j]? = V[j]?) (hcap:k<=cap') (hsz:A.size=cap')
  (h1:w1.heap=w.heap) (ht:Tp w w1) (hos:w1.os=w.os) (hout:w1.output=w.output) :
  ∃ μ',VR μ' F (w1.alloc (.cells A ty)) (.own H.next 0 k k 1 false) (.slice (some ⟨w.heap.size,0,none⟩) k cap')/\HR P μ' F (H1.put H.next (.cells cs ty true)) (w1.alloc (.cells A ty)) /\
   Stp (fun x=>x=H.next) P μ F H1 w μ' F (H1.put H.next (.cells cs ty true)) (w1.alloc (.cells A ty)):=by
 have hcl:cs.length=k:=hl.1.trans hk
 obtain ⟨q1,q2⟩:=jS (I:=fun x=>x=H.next) hH hid (by omega) rfl (sz:=1) (arr:=A) (cs:=cs) hs (by omega)
  (fun i c v hc hv=>by
   have hi:i<k:=by rw [<- hcl]; exact (List.getElem?_eq_some_iff.1 hc).1
   rw [hA i hi] at hv
   exact hl.2 i c v hc hv) w1 h1 ht hos hout
 exact ⟨_,.own H.next 0 k k 1 false _ cap' (upd_same _ _) rfl (Nat.le_refl _) hcap (fun h=>by cases h) (by simp [hsz]),q1,q2⟩
theorem IG {b ty:Nat} {L:vL} {cs0 cs:List AV} {V:List Value} {A:Array Value} {w':World} {k cap:Nat} (hH:HR P μ F H w) (hb:H.get b=some (.cells cs0 ty true)) (hL:μ b=some L) (hLs:L.sz=1)
  (hl:LR μ F w cs V) (hk:V.length=k) (hA:∀ j,j<k->A[j]? = V[j]?) (hcap:k<=cap) (hsz:A.size=L.N) (hN:cap<=L.N)
  (hw:w'.heap[L.blk]? = some (.cells A ty (0,0))) (hoth:∀ c,c≠L.blk->w'.heap[c]? = w.heap[c]?) (hsize:w'.heap.size=w.heap.size) (ht:Tp w w') (hos:w'.os=w.os) (hout:w'.output=w.output) :
  ∃ μ',VR μ' F w' (.own H.next 0 k k 1 false) (.slice (some ⟨L.blk,0,none⟩) k cap)/\HR P μ' F (({ H with next:=H.next+1 }.kill b).put H.next (.cells cs ty true)) w' /\
   Stp oV P μ F H w μ' F (({ H with next:=H.next+1 }.kill b).put H.next (.cells cs ty true)) w':=by
 have hcl:cs.length=k:=hl.1.trans hk
 have hid:μ H.next=none:=iL hH (Nat.le_refl _)
 have hH1:=hH.bump 1
 have hb1:({ H with next:=H.next+1 }:Heap).get b=some (.cells cs0 ty true):=hb
 obtain ⟨arr,fr,g1,g2,g3,g4,g5,g6,g7⟩:=eP hH hb hL
 obtain ⟨p1,p2⟩:=gt (I:=fun x=>x=H.next) (e:=.cells cs ty true) hH1 hb1 rfl hL w' hoth hsize ht hos hout
  (fun hF=>⟨A,(0,0),hw,hsz,g3,by omega,fun i c v hc hv=>by
   have hi:i<k:=by rw [<- hcl]; exact (List.getElem?_eq_some_iff.1 hc).1
   rw [hA i hi] at hv
   exact (hl.2 i c v hc hv).mono (fun _ _ h=>h) (fun _ h=>h) hF,fun _=>⟨(g6 rfl).1,rfl⟩,fun h=>by cases h⟩) rfl
 obtain ⟨q4,q5⟩:=qh (I:=fun x=>x=H.next) p1 (b:=b) (id:=H.next) (L:=L) (by rw [Heap.get_put,if_pos rfl]) hL hid (by show H.next<H.next+1; omega) rfl
 refine ⟨μ.upd H.next L,.own H.next 0 k k 1 false L cap (upd_same _ _) hLs (Nat.le_refl _) hcap (fun h=>by cases h) (by simp; omega),?_,?_⟩
 ·refine q4.congr rfl fun x=>?_
  simp only [Heap.get_put,Heap.get_kill]
  split
  ·rfl
  ·split
   ·rfl
   ·rename_i hx; rfl
 ·refine uF ((p2.trans q5).congr rfl fun x e he=>⟨e,?_,rfl⟩)
  simp only [Heap.get_put,Heap.get_kill] at he ⊢
  split at he
  ·rename_i hx; rw [if_pos hx]; exact he
  ·rename_i hx
   rw [if_neg hx]
   split at he
   ·cases he
   ·rename_i hx2; rw [if_neg hx2,if_neg hx2]; exact he
end
theorem qz {vs:List Value} {w:World} {F:Fence} {rd:Bool} {n:Nat} {R:Value->World->Prop} (hF:FenceOK F rd) (h:Calls Tryz.prog 108 vs.toArray w fun e w'=>∃ u,e=.returned u/\R u w'):Runs F n Tryz.prog ((callFunc 108 vs.toArray).run Tryz.prog w) R:=by
 rw [oN (P:=Tryz.prog) (f:=108) Tryz.func108 (by kernel_rfl) (of_decide_eq_true (by kernel_rfl))]
 unfold Runs
 simp only
 have key:CallsIn Fence.wide n Tryz.prog 108 vs.toArray w fun e w'=>∃ u,e=.returned u/\R u w':=callsIn_wide.2 h
 rcases hF with ⟨_,rfl⟩ | ⟨_,l,rfl⟩
 ·exact key
 ·exact key
theorem qk {w:World} {b:Nat} {arr:Array Value} {ty:TypeId} (h:w.heap[b]? = some (.cells arr ty (0,0))) (o:Nat):w.frozen? ⟨b,o,none⟩=false:=by
 simp [World.frozen?,h]
theorem II {H H':Heap} {size bytes ty:Nat} {args:List AV} {v:AV} (h:qC H (.insert size bytes ty) args=some (v,H')) :
  (∃ b2 off2 m c2 sz2 ex2 news,args=[.nilSl,.int .i64 (.ofNat 0),.own b2 off2 m c2 sz2 ex2]/\aH H size m (.own b2 off2 m c2 sz2 ex2)=some news/\0<m/\m*bytes<=2^46/\m<2^62/\news.all AV.one=true /\
   v=.own H.next 0 m m size false/\H'=({ H with next:=H.next+1 }:Heap).put H.next (.cells news ty true)) \/
  (∃ b n c ex i b2 off2 m c2 sz2 ex2 news cs cs2 ty2,args=[.own b 0 n c size ex,.int .i64 (.ofNat i),.own b2 off2 m c2 sz2 ex2]/\aH H size m (.own b2 off2 m c2 sz2 ex2)=some news/\H.get b=some (.cells cs ty true)/\H.get b2=some (.cells cs2 ty2 true) /\
   b≠b2/\0<m/\i<=n/\cs.length=n*size/\(n+m)*bytes<=2^46/\n+m<2^62/\news.all AV.one=true/\cs.all AV.one=true /\
   v=.own H.next 0 (n+m) (n+m) size false/\H'=(({ H with next:=H.next+1 }:Heap).kill b).put H.next (.cells (cs.take (i*size)++news++cs.drop (i*size)) ty true)):=by
 unfold qC at h
 split at h
 all_goals first | contradiction | skip
 ·rename_i heq
  cases heq
  split at h
  ·rename_i news hnews
   split at h
   ·rename_i hc
    obtain ⟨c1,c2',c3,c4,c5⟩:=hc
    cases h
    subst c1
    exact .inl ⟨_,_,_,_,_,_,news,rfl,hnews,c2',c3,c4,c5,rfl,rfl⟩
   ·cases h
  ·cases h
 ·rename_i heq
  cases heq
  split at h
  ·rename_i news cs ty' cs2 ty2 hnews hb hb2
   split at h
   ·rename_i hc
    obtain ⟨c1,c2',c3,c4,c5,c6,c7,c8,c9,c10,c11⟩:=hc
    cases h
    subst c1
    subst c2'
    subst c9
    exact .inr ⟨_,_,_,_,_,_,_,_,_,_,_,news,cs,cs2,ty2,rfl,hnews,hb,hb2,c3,c4,c5,c6,c7,c8,c10,c11,rfl,rfl⟩
   ·cases h
  ·cases h
 all_goals (cases h)
theorem zr {P:Program} {μ:Mu} {F:Nat->Prop} {H:Heap} {w:World} {b2 off2 m c2 sz2:Nat} {ex2:Bool} {news:List AV} {z:Value} (hH:HR P μ F H w) (hz:VR μ F w (.own b2 off2 m c2 sz2 ex2) z) (hnews:aH H 1 m (.own b2 off2 m c2 sz2 ex2)=some news) :
  ∃ L2 cap2 arr2 ty2 fr2 cs2 rw2,μ b2=some L2/\z=.slice (some ⟨L2.blk,off2,none⟩) m cap2/\H.get b2=some (.cells cs2 ty2 rw2)/\w.heap[L2.blk]? = some (.cells arr2 ty2 fr2)/\off2+m<=arr2.size/\(rw2=true->fr2=(0,0)) /\
   ((arr2.toList.drop off2).take m).length=m/\LR μ F w news ((arr2.toList.drop off2).take m)/\∀ j u,((arr2.toList.drop off2).take m)[j]? = some u->w.cell? ⟨L2.blk,off2+j,none⟩=some u:=by
 cases hz with
 | own _ _ _ _ _ _ L2 cap2 k1 k2 k3 k4 k5 k6 =>
 simp only [aH] at hnews
 split at hnews
 ·rename_i cs2 ty2 rw2 hb2
  split at hnews
  ·rename_i hcc
   obtain ⟨e1,e2,e3⟩:=hcc
   cases hnews
   obtain ⟨arr2,fr2,g1,g2,g3,g4,g5,g6,g7⟩:=eP hH hb2 k1
   have hvl:((arr2.toList.drop off2).take m).length=m:=by simp; omega
   refine ⟨L2,cap2,arr2,ty2,fr2,cs2,rw2,k1,rfl,hb2,g1,by omega,fun h=>(g6 h).2,hvl,⟨by simp; omega,fun i c u hi hu=>?_⟩,fun j u hj=>?_⟩
   ·rw [List.getElem?_take] at hi hu
    rw [Nat.mul_one] at hi
    split at hi
    ·rename_i him
     rw [if_pos him] at hu
     rw [List.getElem?_drop] at hi hu
     exact g5 _ c u hi (by simpa using hu)
    ·cases hi
   ·rw [mQ g1]
    rw [List.getElem?_take] at hj
    split at hj
    ·rw [List.getElem?_drop] at hj; simpa using hj
    ·cases hj
  ·cases hnews
 ·cases hnews
theorem Iq {μ:Mu} {F:Nat->Prop} {w:World} {b n c sz:Nat} {ex:Bool} {x:Value} (h:VR μ F w (.own b 0 n c sz ex) x):∃ L cap,μ b=some L/\L.sz=sz/\n<=c/\c<=cap/\cap*sz<=L.N/\x=.slice (some ⟨L.blk,0,none⟩) n cap:=by
 cases h with
 | own _ _ _ _ _ _ L cap k1 k2 k3 k4 k5 k6=>exact ⟨L,cap,k1,k2,k3,k4,by omega,rfl⟩
theorem tF {μ:Mu} {F:Nat->Prop} {w:World} {vs:List Value} {a b c:AV} (h:LR μ F w [a,b,c] vs):∃ x y z,vs=[x,y,z]/\VR μ F w a x/\VR μ F w b y/\VR μ F w c z:=by
 have hl:=h.1
 match vs,hl with
 | [x,y,z],_=>exact ⟨x,y,z,rfl,h.head,h.tail.head,h.tail.tail.head⟩
set_option maxRecDepth 100000 in
theorem extOK_insert:ExtOK Tryz.prog 108 (.insert 1 24 30):=by
 intro H args v H' h μ F w vs fence rd nn hF hH hl
 have hsE:sizeOf? Tryz.prog 30=some 1:=by
  obtain ⟨i0,hi,h0,h1,h2⟩:=info_parts Ins108.iE
  simp [sizeOf?,hi,h1]
 have hid:μ H.next=none:=iL hH (Nat.le_refl _)
 have hzs:∀ k,(Builtin.zeroCells (Value.slice none 0 0).cells k).size=k:=fun k=>by rw [sZ]; simp [Value.cells]
 rcases II h with ⟨b2,off2,m,c2,sz2,ex2,news,rfl,hnews,h1,h2,h3,h4,rfl,rfl⟩ | ⟨b,n,c,ex,i,b2,off2,m,c2,sz2,ex2,news,cs,cs2,ty2,rfl,hnews,hb,hb2,h1,h2,h3,h4,h5,h6,h7,h8,rfl,rfl⟩
 ·obtain ⟨x,y,z,rfl,hx,hy,hz⟩:=tF hl
  cases hx
  cases hy
  obtain ⟨L2,cap2,arr2,ty2,fr2,cs2,rw2,k1,rfl,k3,g1,g2,-,hvl,hvr,hcell⟩:=zr hH hz hnews
  refine qz hF ((Ins108.end_grow none 0 0 L2.blk off2 m cap2 [] ((arr2.toList.drop off2).take m) w h1 (Nat.le_refl _) (by omega) (by omega) rfl hvl (fun _=>rfl) (fun a h=>by cases h) hcell (hvr.one h4)).mono fun e w' ⟨he,hw⟩=>?_)
  subst hw
  rw [Nat.zero_add] at he
  have hge:=Go.grownCap_ge w m 0 30
  simp only [Nat.zero_add,List.nil_append]
  obtain ⟨μ',q1,q2,q3⟩:=Cm (P:=Tryz.prog) (H:=H) (A:=((arr2.toList.drop off2).take m).toArray++Builtin.zeroCells (Value.slice none 0 0).cells (grownCap w m 0 30-m)) (w1:=w.drew) (k:=m) (cap':=grownCap w m 0 30) (hH.bump 1) rfl hid hsE hvr hvl
   (fun j hj=>by rw [Array.getElem?_append_left (by simp [hvl]; omega)]; simp) hge (by simp only [Array.size_append,List.size_toArray,hvl,hzs]; omega) rfl Tp.draw rfl rfl
  exact ⟨_,he,μ',q1,q2,uF q3⟩
 ·obtain ⟨x,y,z,rfl,hx,hy,hz⟩:=tF hl
  obtain ⟨L,cap,r1,r2,r3,r4,r5,rfl⟩:=Iq hx
  cases hy
  obtain ⟨L2,cap2,arr2,ty2',fr2,cs2',rw2,k1,rfl,k3,g1,g2,gfr,hvl,hvr,hcell⟩:=zr hH hz hnews
  rw [hb2] at k3
  cases k3
  have hfr2:=gfr rfl
  subst hfr2
  obtain ⟨arr,fr,p1,p2,p3,p4,p5,p6,p7⟩:=eP hH hb r1
  obtain ⟨-,rfl⟩:=p6 rfl
  rw [Nat.mul_one] at h4 r5
  have hne:L2.blk≠L.blk:=fun e=>h1 (hH.inj b b2 _ _ L L2 hb hb2 r1 k1 e.symm)
  have hvsl:(arr.toList.take n).length=n:=by simp; omega
  have hcs:LR μ F w cs (arr.toList.take n):=by
   refine ⟨by simp; omega,fun i c u hi hu=>?_⟩
   rw [List.getElem?_take] at hu
   split at hu
   ·exact p5 i c u hi (by simpa using hu)
   ·cases hu
  have hcell0:∀ j u,(arr.toList.take n)[j]? = some u->w.cell? ⟨L.blk,0+j,none⟩=some u:=fun j u hj=>by
   rw [mQ p1,Nat.zero_add]
   rw [List.getElem?_take] at hj
   split at hj
   ·simpa using hj
   ·cases hj
  have hV:LR μ F w (cs.take (i*1)++news++cs.drop (i*1)) ((arr.toList.take n).take i++(arr2.toList.drop off2).take m++(arr.toList.take n).drop i):=by
   rw [Nat.mul_one]
   exact ((hcs.take i).append hvr).append (hcs.drop i)
  have hVl:((arr.toList.take n).take i++(arr2.toList.drop off2).take m++(arr.toList.take n).drop i).length=n+m:=by
   simp only [List.length_append,List.length_take,List.length_drop,hvl,hvsl]
   have:=hvsl
   rw [List.length_take] at this
   omega
  generalize hC:arr.toList.take n=C at *
  generalize hD:(arr2.toList.drop off2).take m=D at *
  have hCl:=hvsl
  have hDl:=hvl
  have harr:∀ j,j<n->arr[j]? = C[j]?:=fun j hj=>by rw [<- hC,List.getElem?_take,if_pos hj]; simp
  have hVat:∀ j,j<n+m->(C.take i++D++C.drop i)[j]? = if j<i then C[j]? else if j<i+m then D[j-i]? else C[j-m]?:=by
   intro j hj
   have e1:(C.take i).length=i:=by rw [List.length_take]; omega
   by_cases q1:j<i
   ·rw [if_pos q1,List.getElem?_append_left (by rw [List.length_append,e1]; omega),List.getElem?_append_left (by omega),List.getElem?_take,if_pos q1]
   ·rw [if_neg q1]
    by_cases q2:j<i+m
    ·rw [if_pos q2,List.getElem?_append_left (by rw [List.length_append,e1]; omega),List.getElem?_append_right (by omega),e1]
    ·rw [if_neg q2,List.getElem?_append_right (by rw [List.length_append,e1]; omega),List.length_append,e1,List.getElem?_drop]
     congr 1; omega
  have hsp:∀ j,j<cap->(w.cell? ⟨L.blk,0+j,none⟩).isSome=true:=fun j hj=>by
   rw [mQ p1,Nat.zero_add,Array.getElem?_eq_getElem (by omega)]; rfl
  by_cases hroom:n+m<=cap
  ·
   have fin:∀ (A:Array Value) (w':World),A.size=L.N->(∀ j,j<n+m->A[j]? = (C.take i++D++C.drop i)[j]?)->w'.heap[L.blk]? = some (.cells A 30 (0,0))->(∀ c,c≠L.blk->w'.heap[c]? = w.heap[c]?)->w'.heap.size=w.heap.size->Tp w w'->w'.os=w.os->w'.output=w.output ->
     ∃ μ',fO oV Tryz.prog μ F H w (.own H.next 0 (n+m) (n+m) 1 false) (({ H with next:=H.next+1 }:Heap).kill b |>.put H.next (.cells (cs.take (i*1)++news++cs.drop (i*1)) 30 true)) (.slice (some ⟨L.blk,0,none⟩) (n+m) cap) w' μ':=by
    intro A w' a1 a2 a3 a4 a5 a6 a7 a8
    obtain ⟨μ',q1,q2,q3⟩:=IG (P:=Tryz.prog) (A:=A) (w':=w') (k:=n+m) (cap:=cap) hH hb r1 r2 hV hVl a2 hroom a1 r5 a3 a4 a5 a6 a7 a8
    exact ⟨μ',q1,q2,q3⟩
   by_cases hin:i=n
   ·subst hin
    refine qz hF ((Ins108.end_room L.blk 0 i cap L2.blk off2 m cap2 D w h2 hroom (by omega) hDl (fun j hj=>by rw [Nat.add_assoc]; exact hsp _ (by omega)) (fun j _=>qk p1 _) hcell (hvr.one h7)).mono fun e w' ⟨he,hw⟩=>?_)
    subst hw
    obtain ⟨s1,s2,s3,s4,s5,s6⟩:=kO L.blk D (0+i) w arr 30 (0,0) p1
    obtain ⟨μ',hd⟩:=fin _ _ ((gy _ _ _).trans p2) (fun j hj=>by
     rw [lY _ _ _ _ (by omega),hVat j hj,hDl,Nat.zero_add]
     by_cases q1:j<i
     ·rw [if_neg (by omega),if_pos q1,harr j q1]
     ·rw [if_pos (by omega),if_neg q1,if_pos (by omega)]) s1 s2 s3 s4 s5 s6
    exact ⟨_,he,μ',hd⟩
   ·refine qz hF ((Ins108.shift L.blk 0 n cap i L2.blk off2 m cap2 C D w (by omega) h2 hroom (by omega) hne hCl hDl hcell0 (fun j hj=>hsp j (by omega)) (fun j _=>qk p1 _) hcell (hcs.one h8) (hvr.one h7)
     ty2 30 arr2.size arr.size (by simp [World.shape?,g1]) (by simp [World.shape?,p1]) (by omega) (qk g1 _) (qk g1 _)).mono fun e w' ⟨he,hw⟩=>?_)
    subst hw
    obtain ⟨s1,s2,s3,s4,s5,s6⟩:=kO L.blk (C.drop i) (0+(i+m)) w.drew arr 30 (0,0) p1
    obtain ⟨t1,t2,t3,t4,t5,t6⟩:=kO L.blk D (0+i) _ _ 30 (0,0) s1
    obtain ⟨μ',hd⟩:=fin _ _ (by rw [gy,gy]; exact p2) (fun j hj=>by
     rw [lY _ _ _ _ (by rw [gy]; omega),lY _ _ _ _ (by omega),hVat j hj,hDl,Nat.zero_add,Nat.zero_add,List.length_drop,hCl]
     by_cases q1:j<i
     ·rw [if_neg (by omega),if_neg (by omega),if_pos q1,harr j (by omega)]
     ·by_cases q2:j<i+m
      ·rw [if_pos (by omega),if_neg q1,if_pos q2]
      ·rw [if_neg (by omega),if_pos (by omega),if_neg q1,if_neg q2,List.getElem?_drop]
       congr 1; omega) t1 (fun c hc=>(t2 c hc).trans (s2 c hc)) (t3.trans s3) ((Tp.draw.trans s4).trans t4) (t5.trans s5) (t6.trans s6)
    exact ⟨_,he,μ',hd⟩
  ·
   have hge:=Go.grownCap_ge w (n+m) cap 30
   obtain ⟨z1,z2⟩:=pJ (I:=fun x=>x=H.next) (hH.bump 1) b
   have fin:∀ (A:Array Value) (w1:World),A.size=grownCap w (n+m) cap 30->(∀ j,j<n+m->A[j]? = (C.take i++D++C.drop i)[j]?)->w1.heap=w.heap->Tp w w1->w1.os=w.os->w1.output=w.output ->
     ∃ μ',fO oV Tryz.prog μ F H w (.own H.next 0 (n+m) (n+m) 1 false) (({ H with next:=H.next+1 }:Heap).kill b |>.put H.next (.cells (cs.take (i*1)++news++cs.drop (i*1)) 30 true)) (.slice (some ⟨w.heap.size,0,none⟩) (n+m) (grownCap w (n+m) cap 30)) (w1.alloc (.cells A 30)) μ':=by
    intro A w1 a1 a2 a3 a4 a5 a6
    obtain ⟨μ',q1,q2,q3⟩:=Cm (P:=Tryz.prog) (H:=H) (A:=A) (w1:=w1) (k:=n+m) (cap':=grownCap w (n+m) cap 30) z1 rfl hid hsE hV hVl a2 hge a1 a3 a4 a5 a6
    exact ⟨μ',q1,q2,uF (z2.trans q3)⟩
   by_cases hin:i=n
   ·subst hin
    refine qz hF ((Ins108.end_grow (some ⟨L.blk,0,none⟩) i cap L2.blk off2 m cap2 C D w h2 (by omega) (by omega) (by omega) hCl hDl (fun h=>by cases h) (fun a ha j u hj=>by cases ha; rw [ii]; exact hcell0 j u hj) hcell (hvr.one h7)).mono fun e w' ⟨he,hw⟩=>?_)
    subst hw
    obtain ⟨μ',hd⟩:=fin ((C++D).toArray++Builtin.zeroCells (Value.slice none 0 0).cells (grownCap w (i+m) cap 30-(i+m))) w.drew (by simp only [Array.size_append,List.size_toArray,List.length_append,hCl,hDl,hzs]; omega) (fun j hj=>by
     rw [Array.getElem?_append_left (by simp [hCl,hDl]; omega),hVat j hj]
     have e0:(C++D).toArray[j]? = (C++D)[j]?:=by simp
     rw [e0]
     by_cases q1:j<i
     ·rw [if_pos q1,List.getElem?_append_left (by omega)]
     ·rw [if_neg q1,if_pos (by omega),List.getElem?_append_right (by omega),hCl]) rfl Tp.draw rfl rfl
    exact ⟨_,he,μ',hd⟩
   ·refine qz hF ((Ins108.grow L.blk 0 n cap i L2.blk off2 m cap2 C D w (by omega) h2 (by omega) (by omega) (by omega) hCl hDl hcell0 hcell (hcs.one h8) (hvr.one h7)).mono fun e w' ⟨he,hw⟩=>?_)
    have e1:∀ A:Array Value,(((w.alloc (.cells A 30)).drew.setCells w.heap.size i D).drew).setCells w.heap.size (i+m) (C.drop i)=w.drew.drew.alloc (.cells (oZ (oZ A i D) (i+m) (C.drop i)) 30):=fun A=>by
     have a1:(w.alloc (.cells A 30)).drew=w.drew.alloc (.cells A 30):=rfl
     have a2:(w.drew.alloc (.cells A 30)).setCells w.heap.size i D=w.drew.alloc (.cells (oZ A i D) 30):=kG w.drew 30 D i A
     have a3:(w.drew.alloc (.cells (oZ A i D) 30)).drew=w.drew.drew.alloc (.cells (oZ A i D) 30):=rfl
     rw [a1,a2,a3]
     exact kG w.drew.drew 30 (C.drop i) (i+m) (oZ A i D)
    rw [e1] at hw
    subst hw
    obtain ⟨μ',hd⟩:=fin (oZ (oZ ((C.take i).toArray++Builtin.zeroCells (Value.slice none 0 0).cells (n+m-i)++Builtin.zeroCells (Value.slice none 0 0).cells (grownCap w (n+m) cap 30-(n+m))) i D) (i+m) (C.drop i)) w.drew.drew (by
      rw [gy,gy]
      simp only [Array.size_append,List.size_toArray,List.length_take,hCl,hzs]; omega) (fun j hj=>by
     have hA0:((C.take i).toArray++Builtin.zeroCells (Value.slice none 0 0).cells (n+m-i)++Builtin.zeroCells (Value.slice none 0 0).cells (grownCap w (n+m) cap 30-(n+m))).size=grownCap w (n+m) cap 30:=by
      simp only [Array.size_append,List.size_toArray,List.length_take,hCl,hzs]; omega
     rw [lY _ _ _ _ (by rw [gy,hA0]; omega),lY _ _ _ _ (by rw [hA0]; omega),hVat j hj,hDl,List.length_drop,hCl]
     by_cases q1:j<i
     ·rw [if_neg (by omega),if_neg (by omega),if_pos q1,Array.getElem?_append_left (by simp only [Array.size_append,List.size_toArray,List.length_take,hCl,hzs]; omega),Array.getElem?_append_left (by simp only [List.size_toArray,List.length_take,hCl]; omega)]
      simp [q1]
     ·by_cases q2:j<i+m
      ·rw [if_neg (by omega),if_pos (by omega),if_neg q1,if_pos q2]
      ·rw [if_pos (by omega),if_neg q1,if_neg q2,List.getElem?_drop]
       congr 1; omega) rfl (Tp.draw.trans Tp.draw) rfl rfl
    exact ⟨_,he,μ',hd⟩
end Go.Proofs.YtichbdepocojaaaGreat.Ev.Ok108
namespace Go.Proofs.YtichbdepocojaaaGreat.Ev.So29
open Go Go.RowKit Go.Sort Go.Shelf Go.Lib Go.Proofs.YtichbdepocojaaaGreat.Ev
set_option linter.all false
set_option maxRecDepth 100000
def AI:Go.Shelf.Ren:=⟨fun | 6=>29 | 15=>62 | 14=>61 | 28=>99 | 29=>100 | 20=>91 | 21=>92 | 22=>93 | 23=>94 | 24=>95 | 25=>96 | 26=>97 | 27=>98 | 46=>117 | 47=>118 | 48=>119 | 49=>120 | 50=>121 | 57=>132 | n=>n,fun | 22=>22 | 24=>30 | 25=>61 | 3=>3 | 39=>95 | 0=>0 | 53=>130 | 55=>69 | 4=>4 | 46=>123 | 45=>122 | 50=>127 | 5=>5 | 9=>9 | 66=>147 | 70=>151 | 76=>160 | 77=>161 | n=>n,fun | n=>n⟩
theorem FG:Go.Proofs.SlLaysF.n6 Tryz.prog AI:={
 mixed:=by kernel_rfl
 f6:=⟨Tryz.f29.name,by decide,Tryz.func29.trans (congrArg some (by kernel_rfl))⟩
 f14:=⟨Tryz.f61.name,by decide,Tryz.func61.trans (congrArg some (by kernel_rfl))⟩
 f15:=Tryz.func62.trans (congrArg some (by kernel_rfl))
 f20:=⟨Tryz.f91.name,by decide,Tryz.func91.trans (congrArg some (by kernel_rfl))⟩
 f21:=⟨Tryz.f92.name,by decide,Tryz.func92.trans (congrArg some (by kernel_rfl))⟩
 f22:=⟨Tryz.f93.name,by decide,Tryz.func93.trans (congrArg some (by kernel_rfl))⟩
 f23:=⟨Tryz.f94.name,by decide,Tryz.func94.trans (congrArg some (by kernel_rfl))⟩
 f24:=⟨Tryz.f95.name,by decide,Tryz.func95.trans (congrArg some (by kernel_rfl))⟩
 f25:=⟨Tryz.f96.name,by decide,Tryz.func96.trans (congrArg some (by kernel_rfl))⟩
 f26:=⟨Tryz.f97.name,by decide,Tryz.func97.trans (congrArg some (by kernel_rfl))⟩
 f27:=⟨Tryz.f98.name,by decide,Tryz.func98.trans (congrArg some (by kernel_rfl))⟩
 f28:=Tryz.func99.trans (congrArg some (by kernel_rfl))
 f29:=Tryz.func100.trans (congrArg some (by kernel_rfl))
 f46:=⟨Tryz.f117.name,by decide,Tryz.func117.trans (congrArg some (by kernel_rfl))⟩
 f47:=Tryz.func118.trans (congrArg some (by kernel_rfl))
 f48:=Tryz.func119.trans (congrArg some (by kernel_rfl))
 f49:=⟨Tryz.f120.name,by decide,Tryz.func120.trans (congrArg some (by kernel_rfl))⟩
 f50:=⟨Tryz.f121.name,by decide,Tryz.func121.trans (congrArg some (by kernel_rfl))⟩
 f57:=⟨Tryz.f132.name,by decide,Tryz.func132.trans (congrArg some (by kernel_rfl))⟩
 t0:=Tryz.underlying0
 a0:=Tryz.isAgg0
 z0:=Tryz.sizeOf0
 v0:=Tryz.zeroValue0
 t3:=Tryz.underlying3
 a3:=Tryz.isAgg3
 z3:=Tryz.sizeOf3
 v3:=Tryz.zeroValue3
 t4:=Tryz.underlying4
 a4:=Tryz.isAgg4
 z4:=Tryz.sizeOf4
 v4:=Tryz.zeroValue4
 t5:=Tryz.underlying5
 a5:=Tryz.isAgg5
 z5:=Tryz.sizeOf5
 v5:=Tryz.zeroValue5
 t9:=Tryz.underlying9
 a9:=Tryz.isAgg9
 z9:=Tryz.sizeOf9
 v9:=Tryz.zeroValue9
 t22:=Tryz.underlying22
 a22:=Tryz.isAgg22
 z22:=Tryz.sizeOf22
 v22:=Tryz.zeroValue22
 a24:=Tryz.isAgg30
 z24:=Tryz.sizeOf30
 t25:=Tryz.underlying61
 a25:=Tryz.isAgg61
 z25:=Tryz.sizeOf61
 v25:=Tryz.zeroValue61
 t39:=Tryz.underlying95
 a39:=Tryz.isAgg95
 z39:=Tryz.sizeOf95
 v39:=Tryz.zeroValue95
 t45:=Tryz.underlying122
 a45:=Tryz.isAgg122
 z45:=Tryz.sizeOf122
 v45:=Tryz.zeroValue122
 t46:=Tryz.underlying123
 a46:=Tryz.isAgg123
 z46:=Tryz.sizeOf123
 v46:=Tryz.zeroValue123
 t50:=Tryz.underlying127
 a50:=Tryz.isAgg127
 z50:=Tryz.sizeOf127
 v50:=Tryz.zeroValue127
 t53:=Tryz.underlying130
 a53:=Tryz.isAgg130
 z53:=Tryz.sizeOf130
 v53:=Tryz.zeroValue130
 t55:=Tryz.underlying69
 a55:=Tryz.isAgg69
 z55:=Tryz.sizeOf69
 v55:=Tryz.zeroValue69
 t66:=Tryz.underlying147
 a66:=Tryz.isAgg147
 z66:=Tryz.sizeOf147
 v66:=Tryz.zeroValue147
 t70:=Tryz.underlying151
 a70:=Tryz.isAgg151
 z70:=Tryz.sizeOf151
 v70:=Tryz.zeroValue151
 t76:=Tryz.underlying160
 a76:=Tryz.isAgg160
 z76:=Tryz.sizeOf160
 v76:=Tryz.zeroValue160
 t77:=Tryz.underlying161
 a77:=Tryz.isAgg161
 z77:=Tryz.sizeOf161
 v77:=Tryz.zeroValue161 }
theorem Kl:BO Tryz.prog 29 [30]:=by
 refine ⟨⟨Tryz.f29,Tryz.func29,by kernel_rfl,by decide +kernel⟩,trivial,?_,?_,?_⟩
 ·intro g hg args w
  simp only [List.mem_cons,List.not_mem_nil,or_false] at hg
  subst hg
  exact enters_of Tryz.func30 (by kernel_rfl) rfl args w
 ·intro p cap fv w
  exact AnyF.slices_SortFunc_none { FG with } p cap fv w
 ·intro k enc cf g cb blk cap w hg h1 hO hT hcmp hH hblk hsz
  have eg:∀ args w,(callFunc g args).run Tryz.prog w=.ok (.enter g args) w:=by
   intro args w
   simp only [List.mem_cons,List.not_mem_nil,or_false] at hg
   subst hg
   exact enters_of Tryz.func30 (by kernel_rfl) rfl args w
  have hs:(List.finRange (k+1)).toArray.size=k+1:=by simp
  have h:=Any.slices_SortFunc_total FG enc h1 cf hO g cb blk 0 cap (List.finRange (k+1)).toArray w eg (by rw [hs]; exact hcmp) hH hblk (by rw [hs]; exact hsz) hT
  rw [hs] at h
  change Calls Tryz.prog 29 _ _ _ at h
  exact h
theorem extOK:ExtOK Tryz.prog 29 (.sortF 30 [30]):=Kl
end Go.Proofs.YtichbdepocojaaaGreat.Ev.So29
namespace Go.Proofs.YtichbdepocojaaaGreat.Ev
open Go
set_option maxRecDepth 1000000
set_option linter.all false
def look:List (Nat × au)->Nat->Option au
 | [],_=>none
 | p :: r,f=>if f=p.1 then some p.2 else look r f
theorem zl:∀ {L:List (Nat × au)} {f:Nat} {a:au},look L f=some a->(f,a)∈L
 | p :: r,f,a,h=>by
  unfold look at h
  split at h
  ·rename_i e; cases h; subst e; exact List.mem_cons_self ..
  ·exact List.mem_cons_of_mem _ (zl h)
theorem aq {f:Nat} {fn:Func} {a:au} (hf:Tryz.prog.funcs[f]? = some fn) (hc:Lj Tryz.prog fn=some a:=by kernel_rfl) (he:a.ext.isNone=true:=by rfl):Ap Tryz.prog f a:=FA hf hc he
abbrev Rw (l:List (Nat × au)):Prop:=∀ p∈l,Ap Tryz.prog p.1 p.2
theorem Ig:Rw []:=fun p hp=>by cases hp
theorem bO {f:Nat} {a:au} {l:List (Nat × au)} (h:Ap Tryz.prog f a) (hl:Rw l):Rw ((f,a) :: l):=List.forall_mem_cons.2 ⟨h,hl⟩
def Nc:List (Nat × au):=[(fK,fL),(fe,fp),(fg,fq),(dS,c_facetroomlaw20_ConeFew),(cV,ic),(cU,ia),(eA,c_cone_Gens),(dx,ip),(l6,wX),(eE,uV),(el,sE),(jH,qS),(gG,sP),(fQ,pu),(mD,uX),(mE,uZ),(l5,wW),(fd,oh),(nK,Ab),(bQ,ib)]
def Nb:List (Nat × au):=[(bG,jp),(cR,g9),(fh,c_cone_checked),(jl,sO),(mJ,vC),(co,c_P_cone_under_add),(bZ,cQ),(fj,oj),(dy,iq),(iR,pk),(jF,qL),(iF,uW),(l7,Ad),(dI,qG),(dQ,pi),(gS,n8),(gY,qR),(gX,qQ),(gV,qN),(fP,pq)]
def Na:List (Nat × au):=[(dl,kE),(ko,uY),(aP,cL),(iS,pm),(aG,bH),(fE,qI),(aA,bz),(jE,qK),(cw,hZ),(dC,iw),(aO,cK),(eF,c_P_cone_under_cut),(dX,c_P_cone_under_fold),(dz,ir),(e9,sG),(jT,wT),(kr,u3),(gF,sK),(dR,pj),(fZ,nl)]
def M9:List (Nat × au):=[(fY,nk),(aM,cA),(dK,c_P_rows_form_put),(gD,sF),(fF,qM),(fc,og),(iT,pn),(bi,du),(ca,eB),(kR,sC),(cS,h9),(iH,vB),(cX,sM),(cP,jA),(jk,sN),(gq,vw),(iG,vz),(bk,dF),(bj,dw),(dA,iu)]
def M8:List (Nat × au):=[(gU,oe),(kS,sD),(aV,eM),(kQ,sB),(iW,pt),(bh,dt),(iU,po),(gT,od),(iV,pp),(jh,sA),(l4,wU),(aC,eC),(kP,sw),(gQ,qF),(jU,wV),(gR,qH),(kT,c_sat_Signs),(mI,vA),(fX,nj),(jg,sv)]
def M7:List (Nat × au):=[(oI,xd),(oJ,xe),(iQ,ph),(da,mm),(jD,qJ),(l8,wZ),(jV,wY),(cO,jy),(iX,px),(iY,py),(l9,xf),(fD,ml),(fR,pw),(gW,qO),(cu,lg),(cJ,kY),(jG,qP),(jj,sL),(jW,xc),(mG,vj)]
def M6:List (Nat × au):=[(nM,Ae),(iZ,pz),(mH,vu),(bF,fo),(nL,Ac),(dB,iv),(dL,jq),(dM,jr),(gn,vp),(mF,ve),(kU,sI),(eR,kZ),(kv,vg),(bu,dN),(dJ,lf),(eS,lc),(ji,sJ),(ea,oi),(aL,cZ)]
theorem Nr:Rw Nc:=bO (aq Tryz.func3)<|bO (aq Tryz.func4)<|bO (aq Tryz.func5)<|bO (aq Tryz.func6)<|bO (aq Tryz.func7)<|bO (aq Tryz.func8)<|bO (aq Tryz.func9)<|bO (aq Tryz.func10)<|bO (aq Tryz.func11)<|bO (aq Tryz.func13)<|bO (aq Tryz.func12)<|bO (aq Tryz.func14)<|bO (aq Tryz.func15)<|bO (aq Tryz.func16)<|bO (aq Tryz.func17)<|bO (aq Tryz.func18)<|bO (aq Tryz.func19)<|bO (aq Tryz.func20)<|bO (aq Tryz.func22)<|bO (aq Tryz.func21)<|Ig
theorem Np:Rw Nb:=bO (aq Tryz.func23)<|bO (aq Tryz.func24)<|bO (aq Tryz.func25)<|bO (aq Tryz.func26)<|bO (aq Tryz.func27)<|bO (aq Tryz.func28)<|bO (oB rfl rfl So29.extOK)<|bO (aq Tryz.func30)<|bO (aq Tryz.func31)<|bO (aq Tryz.func32)<|bO (aq Tryz.func34)<|bO (aq Tryz.func33)<|bO (aq Tryz.func40)<|bO (aq Tryz.func39)<|bO (aq Tryz.func36)<|bO (aq Tryz.func37)<|bO (aq Tryz.func41)<|bO (aq Tryz.func42)<|bO (aq Tryz.func43)<|bO (aq Tryz.func45)<|Ig
theorem No:Rw Na:=bO (aq Tryz.func46)<|bO (aq Tryz.func44)<|bO (aq Tryz.func47)<|bO (aq Tryz.func48)<|bO (aq Tryz.func49)<|bO (aq Tryz.func50)<|bO (aq Tryz.func51)<|bO (aq Tryz.func52)<|bO (aq Tryz.func54)<|bO (aq Tryz.func56)<|bO (aq Tryz.func55)<|bO (aq Tryz.func59)<|bO (aq Tryz.func60)<|bO (aq Tryz.func63)<|bO (aq Tryz.func64)<|bO (aq Tryz.func35)<|bO (aq Tryz.func68)<|bO (aq Tryz.func66)<|bO (aq Tryz.func38)<|bO (aq Tryz.func69)<|Ig
theorem Nm:Rw M9:=bO (aq Tryz.func70)<|bO (aq Tryz.func71)<|bO (aq Tryz.func74)<|bO (aq Tryz.func75)<|bO (aq Tryz.func77)<|bO (aq Tryz.func76)<|bO (aq Tryz.func72)<|bO (aq Tryz.func78)<|bO (aq Tryz.func79)<|bO (aq Tryz.func53)<|bO (aq Tryz.func82)<|bO (aq Tryz.func58)<|bO (aq Tryz.func57)<|bO (aq Tryz.func85)<|bO (aq Tryz.func86)<|bO (aq Tryz.func88)<|bO (aq Tryz.func87)<|bO (aq Tryz.func90)<|bO (aq Tryz.func89)<|bO (aq Tryz.func101)<|Ig
theorem Nl:Rw M8:=bO (aq Tryz.func102)<|bO (aq Tryz.func65)<|bO (aq Tryz.func106)<|bO (aq Tryz.func67)<|bO (aq Tryz.func107)<|bO (oB rfl rfl Ok108.extOK_insert)<|bO (aq Tryz.func109)<|bO (aq Tryz.func110)<|bO (aq Tryz.func114)<|bO (aq Tryz.func112)<|bO (aq Tryz.func113)<|bO (aq Tryz.func73)<|bO (aq Tryz.func80)<|bO (aq Tryz.func81)<|bO (aq Tryz.func84)<|bO (aq Tryz.func83)<|bO (aq Tryz.func115)<|bO (aq Tryz.func116)<|bO (aq Tryz.func103)<|bO (aq Tryz.func104)<|Ig
theorem Nk:Rw M7:=bO (aq Tryz.func105)<|bO (aq Tryz.func128)<|bO (aq Tryz.func111)<|bO (aq Tryz.func131)<|bO (aq Tryz.func130)<|bO (aq Tryz.func122)<|bO (aq Tryz.func123)<|bO (aq Tryz.func125)<|bO (aq Tryz.func124)<|bO (aq Tryz.func143)<|bO (aq Tryz.func144)<|bO (aq Tryz.func129)<|bO (aq Tryz.func133)<|bO (aq Tryz.func134)<|bO (oB rfl rfl (zC Tryz.func135 (by kernel_rfl) (by kernel_rfl) (by kernel_rfl) (by kernel_rfl)))<|bO (oB rfl rfl (zB Tryz.func136 (by kernel_rfl) (by kernel_rfl) (by kernel_rfl) (by kernel_rfl)))<|bO (aq Tryz.func137)<|bO (aq Tryz.func138)<|bO (aq Tryz.func140)<|bO (aq Tryz.func139)<|Ig
theorem Nj:Rw M6:=bO (aq Tryz.func141)<|bO (aq Tryz.func149)<|bO (aq Tryz.func150)<|bO (aq Tryz.func151)<|bO (aq Tryz.func152)<|bO (aq Tryz.func153)<|bO (aq Tryz.func154)<|bO (aq Tryz.func155)<|bO (aq Tryz.func157)<|bO (aq Tryz.func156)<|bO (aq Tryz.func145)<|bO (aq Tryz.func146)<|bO (aq Tryz.func147)<|bO (aq Tryz.func159)<|bO (aq Tryz.func160)<|bO (aq Tryz.func100)<|bO (aq Tryz.func161)<|bO (aq Tryz.func158)<|bO (aq Tryz.func162)<|Ig
def Kj:List (Nat × au):=Nc++Nb++Na++M9++M8++M7++M6
theorem Lh {l m:List (Nat × au)} (h:Rw l) (h2:Rw m):Rw (l++m):=fun p hp=>(List.mem_append.1 hp).elim (h p) (h2 p)
theorem Ib:Rw Kj:=(Lh (Lh (Lh (Lh (Lh (Lh Nr Np) No) Nm) Nl) Nk) Nj)
theorem tabOK:CJ Tryz.prog (look Kj):=fun _ _ h=>Ib _ (zl h)
theorem code:Code (look Kj):=by constructor <;> kernel_rfl
end Go.Proofs.YtichbdepocojaaaGreat.Ev
