/- A part. -/
import Derived.Test.YtiigaeehghcjiaaGreatA0
import Derived.Laws.BytesString
import Derived.LoopNIn
import Derived.RangeFuncLeaves
import Derived.OrdersIn
namespace Go.Proofs.YtiigaeehghcjiaaGreat.Ev
open Go
set_option linter.all false
structure iS (I:Nat->Prop) (P:Program) (μ:Mu) (F:Nat->Prop) (H:Heap) (w:World) (v:AV) (H':Heap) (u:Value) (w':World) (μ':Mu):Prop where
 val:VR μ' F w' v u
 heap:HR P μ' F H' w'
 stp:Stp I P μ F H w μ' F H' w'
section
variable {I:Nat->Prop} {P:Program} {μ:Mu} {F:Nat->Prop} {H:Heap} {w:World} {T:Tm} {a:Act}
def qh {blk:Nat} {arr:Array Value} {ty:TypeId} {fr:Nat × Nat} (h:w.heap[blk]? = some (.cells arr ty fr)) (o:Nat):w.cell? ⟨blk,o,none⟩=arr[o]?:=by
 simp [World.cell?,h]
def Ec {blk off o:Nat} {arr:Array Value} {ty t:TypeId} {fr:Nat × Nat} {cs:List AV} {k:Option Nat} {v:AV} (h:w.heap[blk]? = some (.cells arr ty fr)) (hl:off+cs.length<=arr.size)
  (f:∀ (i:Nat) (c:AV) (v:Value),cs[i]? = some c->arr[off+i]? = some v->VR μ F w c v) (d:qD P t=some k) (a:bN cs o k=some v) :
  ∃ u,(loadVar t ⟨blk,off+o,none⟩).run P w=.ok u w/\VR μ F w v u:=by
 cases k with
 | none =>
  simp only [bN] at a;have m:o<cs.length:=(WI.1 a).1;have ha:arr[off+o]? = some arr[off+o]:=XN zO;refine ⟨arr[off+o],?_,f o v _ a ha⟩;simp [loadVar,AC d,qh h,ha]
 | some n =>
  simp only [bN] at a;split at a
  ·rename_i l;cases a;obtain ⟨h1,h2⟩:=AB d w;have e:=run_loadCells_list (P:=P) w ⟨blk,off+o,none⟩ ((arr.toList.drop (off+o)).take n) (fun j v hj=>by
    rw [j9,qh h];rw [WW] at hj;split at hj
    ·rw [WX] at hj; simpa using hj
    ·cases hj)
   have g:((arr.toList.drop (off+o)).take n).length=n:=by simp; omega
   rw [g] at e;refine ⟨.agg ((arr.toList.drop (off+o)).take n).toArray,by simp only [loadVar,Sem.run_bind,h1,Result.andThen_ok,if_true,h2,e,Sem.run_pure],?_⟩;refine .agg _ _ (by simp; omega) fun i c v hc b=>?_;rw [WW] at hc;split at hc
   ·rename_i hi;rw [WX] at hc;refine f _ c v hc ?_;simp only [Ya] at b;rw [WW,if_pos hi,WX] at b;rw [<- Xz]; simpa using b
   ·cases hc
  ·cases a
def DN {b o:Nat} {v:Value} (h:VR μ F w (.ptr b o) v):∃ L,μ b=some L/\v=.pointer (some ⟨L.blk,o,none⟩):=by
 cases h with
 | ptr _ _ L hL=>exact ⟨L,hL,rfl⟩
def gw (hH:HR P μ F H w) {b:Nat} {L:BJ} {cs:List AV} {ty:Nat} {rw:Bool} (hb:H.get b=some (.cells cs ty rw)) (hL:μ b=some L) :
  ∃ arr fr,w.heap[L.blk]? = some (.cells arr ty fr)/\arr.size=L.N/\(P.info? ty).map (·.size)=some L.sz/\cs.length<=arr.size /\
   (∀ (i:Nat) (c:AV) (v:Value),cs[i]? = some c->arr[i]? = some v->VR μ F w c v)/\(rw=true->¬ F L.blk/\fr=(0,0))/\(rw=false->True):=by
 obtain ⟨L',a,d⟩:=hH.ent b _ hb;rw [hL] at a; cases a;exact d
def AA {t:TypeId} {k:Option Nat} {x:AV} {d:Value} {v:AV} (hH:HR P μ F H w) (c:qD P t=some k) (hx:VR μ F w x d)
  (h:bc H k x=some v):∃ u,(Instr.loadAt t d).run P w=.ok u w/\VR μ F w v u:=by
 cases x with
 | ptr b o =>
  obtain ⟨L,hL,rfl⟩:=DN hx;simp only [bc] at h;split at h
  ·rename_i cs ty rw hb;obtain ⟨arr,fr,h1,h2,h3,h4,h5,j,l⟩:=gw hH hb hL;obtain ⟨u,a,hr⟩:=Ec (o:=o) (off:=0) h1 zO (by simpa using h5) c h;refine ⟨u,?_,hr⟩;rw [Xg] at a;simp [Instr.loadAt,Instr.sureAddr,a]
  ·cases h
 | dp cs o =>
  simp only [bc] at h;cases hx with
  | dp _ _ blk off arr ty fr i e f g =>
   obtain ⟨u,a,hr⟩:=Ec e f g c h;exact ⟨u,by simp [Instr.loadAt,Instr.sureAddr,a],hr⟩
 | _=>cases h
def mJ (hH:HR P μ F H w) {id:Nat} (a:μ id=none) (hlt:id<H.next) (b:I id) {arr:Array Value} {cs:List AV} {ty sz:Nat} (l:sizeOf? P ty=some sz)
  (e:cs.length<=arr.size) (d:∀ (i:Nat) (c:AV) (v:Value),cs[i]? = some c->arr[i]? = some v->VR μ F w c v)
  (w1:World) (h1:w1.heap=w.heap) (k:Tp w w1) (g:w1.os=w.os) (j:w1.output=w.output) :
  HR P (μ.upd id ⟨w.heap.size,arr.size,sz⟩) F (H.put id (.cells cs ty true)) (w1.alloc (.cells arr ty))/\Stp I P μ F H w (μ.upd id ⟨w.heap.size,arr.size,sz⟩) F (H.put id (.cells cs ty true)) (w1.alloc (.cells arr ty)):=by
 refine pd hH a hlt _ _ arr.size sz (fun w' n hn f=>?_) b w1 h1 k g j;exact ⟨arr,(0,0),hn,rfl,l,e,fun i c v hc m=>(d i c v hc m).mono (jA a) (fun _ h=>h) n,fun _=>⟨f,rfl⟩,fun h=>by cases h⟩
def Ad (t:TypeId) (v:Value) (w:World):(newVar t v).run P w=.ok ⟨w.heap.size,0,none⟩ (w.alloc (.cells v.cells t)):=by
 simp [newVar,newRow]
def gS (t:TypeId) (cs:Array Value) (w:World):(newRow t cs).run P w=.ok ⟨w.heap.size,0,none⟩ (w.alloc (.cells cs t)):=by
 simp [newRow]
def Ki {t:TypeId} {z:List AV} (h:zeroCells? P t=some z):∃ n,sizeOf? P t=some n:=by
 simp only [zeroCells?,C6,eD] at h;obtain ⟨i,hi,_⟩:=h;exact ⟨i.size,by simp [sizeOf?,hi]⟩
def GU {e:TypeId} {z:List AV} (a:zeroCells? P e=some z) (hH:HR P μ F H w) {id:Nat} (d:μ id=none) (hlt:id<H.next) (b:I id) :
  ∃ u w' μ',(Instr.alloc e true (.tuple #[])).run P w=.ok u w'/\iS I P μ F H w (.ptr id 0) (H.put id (.cells z e true)) u w' μ':=by
 obtain ⟨n,hn⟩:=Ki a;obtain ⟨zv,h,g⟩:=qV a w;have hl:=g μ F w;obtain ⟨h1,h2⟩:=mJ hH d hlt b hn (arr:=zv.cells) (cs:=z) (by have:=hl.1; simp at this; omega) (fun i c v hc f=>hl.2 i c v hc (by simpa using f)) w rfl (Tp.same rfl rfl) rfl rfl;refine ⟨_,_,_,?_,⟨.ptr id 0 _ (upd_same id _),h1,h2⟩⟩;simp [Instr.alloc,h,Ad]
def Ma {e:TypeId} {n:Nat} {x:AV} {a:Value} (hn:sizeOf? P e=some n) (hx:VR μ F w x a) (h1:x.cells.all AV.one=true) (hH:HR P μ F H w) {id:Nat} (g:μ id=none) (hlt:id<H.next) (f:I id) :
  ∃ u w' μ',(Instr.box e a).run P w=.ok u w'/\iS I P μ F H w (.ptr id 0) (H.put id (.cells x.cells e true)) u w' μ':=by
 have hl:=Bb hx h1;obtain ⟨b,d⟩:=mJ hH g hlt f hn (arr:=a.cells) (cs:=x.cells) (by have:=hl.1; simp at this; omega) (fun i c v hc h=>hl.2 i c v hc (by simpa using h)) w rfl (Tp.same rfl rfl) rfl rfl;refine ⟨_,_,_,?_,⟨.ptr id 0 _ (upd_same id _),b,d⟩⟩;simp [Instr.box,Ad]
def Hw (cs:List AV) (vs:List Value) (b:List AV) (nv:List Value) (o n:Nat) (d:∀ (i:Nat) (c:AV) (v:Value),cs[i]? = some c->vs[i]? = some v->VR μ F w c v) (hn:LR μ F w b nv) (e:b.length=n)
  (j:cs.length<=vs.length) (k:o<=cs.length) :
  ∀ (i:Nat) (c:AV) (v:Value),(cs.take o++b++cs.drop (o+n))[i]? = some c->(vs.take o++nv++vs.drop (o+nv.length))[i]? = some v->VR μ F w c v:=by
 intro i c v hc a;have h:nv.length=n:=hn.1 ▸ e;rw [Yf] at hc a;by_cases h1:i<o
 ·rw [W4 (by simp; omega),WW,if_pos h1] at hc;rw [W4 (by simp; omega),WW,if_pos h1] at a;exact d i c v hc a
 ·rw [Xm (by simp; omega)] at hc a;simp only [WU] at hc a;have f:min o cs.length=o:=zO;have g:min o vs.length=o:=zO;rw [f] at hc; rw [g] at a;by_cases h2:i-o<n
  ·rw [W4 zO] at hc a;exact hn.2 _ c v hc a
  ·rw [Xm zO] at hc a;rw [WX] at hc a;rw [e] at hc; rw [h] at a;exact d _ c v hc a
def sE (hH:HR P μ F H w) {b:Nat} {L:BJ} {cs:List AV} {ty:Nat} (hb:H.get b=some (.cells cs ty true)) (hL:μ b=some L) {o:Nat} {a:List AV} {nv:List Value} (hn:LR μ F w a nv) (h1:a.all AV.one=true)
  (r:o<=cs.length) (q:o+a.length<=L.N) :
  ∃ w',(storeCells ⟨L.blk,o,none⟩ nv).run P w=.ok () w'/\HR P μ F (H.put b (.cells (cs.take o++a++cs.drop (o+a.length)) ty true)) w' /\
   Stp I P μ F H w μ F (H.put b (.cells (cs.take o++a++cs.drop (o+a.length)) ty true)) w':=by
 obtain ⟨arr,fr,e,n,j,k,l,f,p⟩:=gw hH hb hL;obtain ⟨_,rfl⟩:=f rfl;have s:=hn.1;have g:=run_storeCells_at (P:=P) L.blk o ty nv 0 arr w e zO (hn.one h1);simp only [Ye] at g;refine ⟨_,g,jj hH hb rfl hL _ (fun c hc=>setRow_other w _ _ _ hc) (setRow_size _ _ _) (Tp.same rfl rfl) rfl rfl (fun m=>?_) rfl⟩;refine ⟨_,(0,0),setRow_heap w L.blk arr _ ty _ e,?_,j,?_,?_,fun _=>⟨(f rfl).1,rfl⟩,fun h=>by cases h⟩
 ·simp; omega
 ·simp; omega
 ·intro i c v hc d;refine VR.mono (fun _ _ h=>h) (fun _ h=>h) m (Hw cs arr.toList a nv o a.length (fun i c v hc d=>l i c v hc (by simpa using d)) hn rfl (by simpa using k) zO i c v hc (by simpa using d))
def Fl {t:TypeId} {n:Nat} {x y:AV} {d a:Value} {H':Heap} (hn:sizeOf? P t=some n) (hH:HR P μ F H w) (hx:VR μ F w x d) (hy:VR μ F w y a)
  (h:qS H n x y=some H') :
  ∃ w',(Instr.storeAt t d a).run P w=.ok () w'/\iS I P μ F H w .undef H' undef w' μ:=by
 cases x with
 | ptr b o =>
  obtain ⟨L,hL,rfl⟩:=DN hx;simp only [qS] at h;split at h
  ·rename_i cs ty hb;split at h
   ·rename_i hc;obtain ⟨e,i,c⟩:=hc;cases h;have hl:=Bb hy c;obtain ⟨arr,fr,j,k,l,m,_⟩:=gw hH hb hL;obtain ⟨w',f,q1,q2⟩:=sE (I:=I) hH hb hL (o:=o) hl c zO zO;rw [e] at q1 q2;refine ⟨w',?_,⟨.undef _,q1,q2⟩⟩;have g:a.cells.size=n:=by have:=hl.1; simp at this; omega
    simp [Instr.storeAt,Instr.sureAddr,storeVar,co hn,g,f]
   ·cases h
  ·cases h
 | _=>cases h
def sL {y:AV} {a:Value} {m:Nat} (hy:VR μ F w y a) (h:gJ y=some m):(Builtin.lenOf a).run P w=.ok m w:=by
 cases y <;> simp only [gJ] at h <;> first | (cases h; done) | skip
 ·cases h; cases hy; rfl
 ·cases h; cases hy; rfl
 ·cases h; cases hy <;> rfl
 ·cases h; cases hy; rfl
def Az {blk off n:Nat} {arr:Array Value} {ty:TypeId} {fr:Nat × Nat} {cs:List AV} (h:w.heap[blk]? = some (.cells arr ty fr)) (hl:off+cs.length<=arr.size)
  (e:∀ (i:Nat) (c:AV) (v:Value),cs[i]? = some c->arr[off+i]? = some v->VR μ F w c v) (hn:n<=cs.length) :
  ∃ nv:List Value,(∀ w',w'.heap=w.heap->(loadCells ⟨blk,off,none⟩ n).run P w'=.ok nv.toArray w')/\LR μ F w (cs.take n) nv:=by
 have d:((arr.toList.drop off).take n).length=n:=by simp; omega
 have a:∀ w',w'.heap=w.heap->(loadCells ⟨blk,off,none⟩ n).run P w'=.ok ((arr.toList.drop off).take n).toArray w':=by
  intro w' f;have a:=run_loadCells_list (P:=P) w' ⟨blk,off,none⟩ ((arr.toList.drop off).take n) (fun j v hj=>by
   rw [j9,qh (f ▸ h)];rw [WW] at hj;split at hj
   ·rw [WX] at hj; simpa using hj
   ·cases hj)
  rw [d] at a;exact a
 refine ⟨_,a,by simp; omega,fun i c v hc b=>?_⟩;rw [WW] at hc b;split at hc
 ·rename_i hi;rw [if_pos hi,WX] at b;exact e i c v hc (by simpa using b)
 ·cases hc
def mA {size n:Nat} {y:AV} {j:Value} {d:List AV} (hH:HR P μ F H w) (hy:VR μ F w y j) (h:aK H size n y=some d) :
  d.length=n*size/\∃ nv:List Value,(∀ w',w'.heap=w.heap->(Builtin.firstCells size n j).run P w'=.ok nv.toArray w')/\LR μ F w d nv:=by
 cases y <;> simp only [aK] at h <;> first | (cases h; done) | skip
 case str s =>
  split at h
  ·rename_i hc;cases h;cases hy;have l:(s.extract 0 n).size=n:=by
    have:=hc.1
    simp; omega
   refine ⟨by simp only [Nj,hc.2,XP]; exact l,((s.extract 0 n).data.map fun b=>Value.int .u8 b.toNat).toList,fun w' _=>by simp only [Builtin.firstCells,Sem.run_pure,Array.toArray_toList],?_⟩;rw [Array.toList_map];exact LR.map _ _ _ fun b _=>.int _ _
  ·cases h
 case nilSl =>
  split at h
  ·rename_i hc;cases h; cases hy;exact ⟨by simp [hc],[],fun _ _=>rfl,LR.nil⟩
  ·cases h
 case sl cs m =>
  split at h
  ·rename_i hc;cases h;refine ⟨by rw [WU]; omega,?_⟩;cases hy with
   | sl0 a0 cap =>
    have h0:n*size=0:=by have:=hc.2; simp at this; simpa using this
    exact ⟨[],fun _ _=>by simp [Builtin.firstCells,h0,loadCells,loadCellsFrom],by simp; exact LR.nil⟩
   | sl _ _ _ blk off arr ty fr e f k g a=>exact Az f g a hc.2
  ·cases h
 case own b off m c sz ex =>
  cases hy with
  | own _ _ _ _ _ _ L cap h1 h2 h3 h4 h5 x =>
  split at h
  ·rename_i cs ty rw hb;split at h
   ·rename_i hc;obtain ⟨p,q,r⟩:=hc;cases h;obtain ⟨arr,fr,e,f,k,g,a,t,u⟩:=gw hH hb h1;refine ⟨by simp; omega,?_⟩;exact Az (cs:=cs.drop off) e (by simp; omega) (fun i c v hc o=>by rw [WX] at hc; exact a _ c v hc o) (by simp; omega)
   ·cases h
  ·cases h
def CB (a:Nat) (h:256<=a):∀ (r c:Nat),c<=2*a->Builtin.growBy a r c<=2*a
 | 0,c,hc=>hc
 | r+1,c,hc=>by
  unfold Builtin.growBy;split
  ·exact hc
  ·exact CB a h r _ zO
def Aq {need cap:Nat} (h:cap<need):Builtin.nextslicecap need cap<=2*need:=by
 unfold Builtin.nextslicecap;split
 ·omega
 ·split
  ·omega
  ·exact CB need zO 4 cap zO
def yX (z:Array Value) (n:Nat):(Builtin.zeroCells z n).size=n*z.size:=by simp [Builtin.zeroCells]
def Pk (P:Program) (a:TypeId):Prop:=(∃ e,P.underlying a=some (.slice e))\/P.underlying a=some .string
def Mj {t c e ty:TypeId} {size n m cap:Nat} {base:Option Addr} {b:Value} {nv:Array Value}
  (g:P.underlying t=some (.slice e)) (hs:sizeOf? P e=some size) (hx:Pk P c) (hl:(Builtin.lenOf b).run P w=.ok m w) (d:(Builtin.firstCells size m b).run P w=.ok nv w)
  (f:n+m<=cap) :
  (Builtin.append_ #[t,c] ty #[.slice base n cap,b]).run P w=((match base with | some a=>storeCells (a.add (n*size)) nv.toList | none=>pure ():Sem Unit).run P w).andThen fun _ w'=>.ok (.slice base (n+m) cap) w':=by
 unfold Builtin.append_;rcases hx with ⟨e',hx⟩ | hx <;>
 ·simp only [Ya,XW,Yc,Sem.run_bind,run_underlying g,Result.andThen_ok,co hs,run_underlying hx,Sem.run_pure,Xs,if_false,hl,Bool.not_false,if_true,f,d];cases base <;> simp
def IT {t b e ty:TypeId} {size bytes n m cap:Nat} {base:Option Addr} {a:Value} {nv ov:Array Value} {i:TypeInfo} {zv:Value}
  (p:P.underlying t=some (.slice e)) (hs:sizeOf? P e=some size) (hi:P.info? e=some i) (g:i.bytes=bytes) (q:i.zero=some zv) (hx:Pk P b) (hl:(Builtin.lenOf a).run P w=.ok m w)
  (d:∀ w',w'.heap=w.heap->(Builtin.firstCells size m a).run P w'=.ok nv w') (l:∀ w',w'.heap=w.heap->(Builtin.firstCells size n (.slice base n cap)).run P w'=.ok ov w')
  (j:¬ n+m<=cap) (hb:(n+m)*bytes<=2^46) (hn:n+m<2^62) :
  ∃ cap',n+m<=cap'/\(Builtin.append_ #[t,b] ty #[.slice base n cap,a]).run P w =
   .ok (.slice (some ⟨w.heap.size,0,none⟩) (n+m) cap') (({ w with drawn:=w.drawn+1 }:World).alloc (.cells (ov++nv++Builtin.zeroCells zv.cells (cap'-(n+m))) e)):=by
 have k:¬ Builtin.nextslicecap (n+m) cap*i.bytes > 2^48:=by
  have h1:=Aq (need:=n+m) (cap:=cap) zO;have h2:Builtin.nextslicecap (n+m) cap*bytes<=2*(n+m)*bytes:=WJ _ h1;rw [Xj] at h2;rw [g]; omega
 have h:¬ ((↑(n+m):Int) > IntKind.i64.max/\(False\/i.bytes=0)):=by
  rintro ⟨h1,_⟩
  have:IntKind.i64.max=9223372036854775807:=by decide
  rw [this] at h1;omega
 refine ⟨(Question.appendCap (n+m) cap e).cut (w.tape w.drawn (Question.appendCap (n+m) cap e)),by simp [Question.cut],?_⟩;have hq:(choose (Question.appendCap (n+m) cap e)).run P w=.ok ((Question.appendCap (n+m) cap e).cut (w.tape w.drawn (Question.appendCap (n+m) cap e))) { w with drawn:=w.drawn+1 }:=by
  rw [run_choose,if_neg (by simp [Question.forced])]
 have f:=d { w with drawn:=w.drawn+1 } rfl;have o:=l { w with drawn:=w.drawn+1 } rfl
 generalize (Question.appendCap (n+m) cap e).cut (w.tape w.drawn (Question.appendCap (n+m) cap e))=c at hq
 unfold Builtin.append_;rcases hx with ⟨e',hx⟩ | hx <;>
 ·simp only [Ya,XW,Yc,Sem.run_bind,run_underlying p,Result.andThen_ok,co hs,run_underlying hx,Sem.run_pure,Xs,if_false,hl,Bool.not_false,if_true,j,
   jC hi,h,k,hq,run_askRoom,o,f,zeroValue,q,gS]
def Di (hH:HR P μ F H w) {b:Nat} {cs:List AV} {ty:Nat} {rw:Bool} (hb:H.get b=some (.cells cs ty rw)) (k:Nat):HR P μ F (H.put b (.cells (cs.take k) ty rw)) w:=by
 refine ⟨hH.dom,hH.fb,?_,?_,hH.gl⟩
 ·intro x e h;rw [Heap.get_put] at h;split at h
  ·rename_i ex; subst ex; cases h;obtain ⟨L,hL,r⟩:=hH.ent _ _ hb;obtain ⟨arr,fr,h1,h2,h3,h4,h5,p,q⟩:=r;refine ⟨L,hL,arr,fr,h1,h2,h3,by simp; omega,fun i c v hc A=>?_,p,q⟩;rw [WW] at hc;split at hc
   ·exact h5 i c v hc A
   ·cases hc
  ·exact hH.ent x e h
 ·intro x y f j a d h1 h2 s t u;rw [Heap.get_put] at h1 h2;have g:∀ z e,(if z=b then some (Ent.cells (cs.take k) ty rw) else H.get z)=some e->∃ e',H.get z=some e':=by
   intro z e h;split at h
   ·rename_i l; subst l; exact ⟨_,hb⟩
   ·exact ⟨_,h⟩
  obtain ⟨f1,n⟩:=g x f h1;obtain ⟨m,o⟩:=g y j h2;exact hH.inj x y f1 m a d n o s t u
def HR.congr {a H2:Heap} (h:HR P μ F a w) (hn:a.next=H2.next) (hg:∀ x,a.get x=H2.get x):HR P μ F H2 w :=
 ⟨fun b L hb=>hn ▸ h.dom b L hb,h.fb,fun b e hb=>h.ent b e (by rw [hg]; exact hb),fun b b' e e' L L' h1 h2=>h.inj b b' e e' L L' (by rw [hg]; exact h1) (by rw [hg]; exact h2),h.gl⟩
def Stp.congr {μ':Mu} {F':Nat->Prop} {w':World} {a H2:Heap} (h:Stp I P μ F H w μ' F' a w') (hn:a.next=H2.next) (hg:∀ x e,H2.get x=some e->∃ e',a.get x=some e'/\e'.rw=e.rw):Stp I P μ F H w μ' F' H2 w' :=
 ⟨h.mu,h.fr,h.size,h.keep,fun b L ⟨e,he,hr⟩ hL=>h.rw b L (let ⟨e',h1,h2⟩:=hg b e he; ⟨e',h1,h2.trans hr⟩) hL,hn ▸ h.next,h.new,h.rng,fun b e hb hl hi=>let ⟨e',h1,_⟩:=hg b e hb; h.old b e' h1 hl hi,fun b e L hb hL=>let ⟨e',h1,_⟩:=hg b e hb; h.alv b e' L h1 hL,h.tape,h.os,h.out⟩
def tU {e id size bytes m:Nat} {x v:AV} {t:Value} {d:List AV} {nv:Array Value} {zv:Value} {fr:Option Nat} {H':Heap} {A:Sem Value}
  (hH:HR P μ F H w) (Q:μ id=none) (hlt:id<H.next) (O:I id) (hs:sizeOf? P e=some size) (am:zv.cells.size=size)
  (hx:VR μ F w x t) (B:LR μ F w d nv.toList) (z:d.length=m*size) (h:cM H id size bytes e x m d fr=some (v,H'))
  (y:∀ base n cap,t=.slice base n cap->n+m<=cap->A.run P w=((match base with | some a=>storeCells (a.add (n*size)) nv.toList | none=>pure ():Sem Unit).run P w).andThen fun _ w'=>.ok (.slice base (n+m) cap) w')
  (E:∀ base n cap ov,t=.slice base n cap->¬ n+m<=cap->(n+m)*bytes<=2^46->n+m<2^62->(∀ w',w'.heap=w.heap->(Builtin.firstCells size n t).run P w'=.ok ov w') ->
   ∃ cap',n+m<=cap'/\A.run P w=.ok (.slice (some ⟨w.heap.size,0,none⟩) (n+m) cap') (({ w with drawn:=w.drawn+1 }:World).alloc (.cells (ov++nv++Builtin.zeroCells zv.cells (cap'-(n+m))) e))) :
  ∃ u w' μ',A.run P w=.ok u w'/\iS I P μ F H w v H' u w' μ':=by
 have C:nv.size=m*size:=by have:=B.1; simp at this; omega
 have grow:∀ (H0:Heap) (n:Nat) (ov:Array Value) (l:List AV) (cap':Nat),HR P μ F H0 w->id<H0.next->LR μ F w l ov.toList->l.length=n*size->n+m<=cap' ->
   A.run P w=.ok (.slice (some ⟨w.heap.size,0,none⟩) (n+m) cap') (({ w with drawn:=w.drawn+1 }:World).alloc (.cells (ov++nv++Builtin.zeroCells zv.cells (cap'-(n+m))) e)) ->
   ∃ u w' μ',A.run P w=.ok u w'/\iS I P μ F H0 w (.own id 0 (n+m) (n+m) size false) (H0.put id (.cells (l++d) e true)) u w' μ':=by
  intro H0 n ov l cap' ab ah R j hc f;have G:ov.size=n*size:=by have:=R.1; simp at this; omega
  have ad:=R.append B;have ae:(ov++nv++Builtin.zeroCells zv.cells (cap'-(n+m))).size=cap'*size:=by
   simp only [YM,G,C,yX,am];rw [<- XI,<- XI]; congr 1; omega
  obtain ⟨q1,q2⟩:=mJ ab Q ah O (sz:=size) (arr:=ov++nv++Builtin.zeroCells zv.cells (cap'-(n+m))) (cs:=l++d) hs
   (by simp only [YM,WM,j,z,G,C]; omega)
   (fun i c u hc T=>by
    have hi:i<(l++d).length:=(WI.1 hc).1;simp only [WM,j,z] at hi;rw [XT (by simp only [YM,G,C]; omega)] at T;exact ad.2 i c u hc (by rw [<- Array.toList_append,Z4]; exact T)) { w with drawn:=w.drawn+1 } rfl Tp.draw rfl rfl
  refine ⟨_,_,_,f,⟨?_,q1,q2⟩⟩;exact .own id 0 (n+m) (n+m) size false _ cap' (upd_same id _) rfl (Jv _) hc (fun h=>by cases h) (by rw [Xg]; exact Za ae.symm)
 unfold cM at h;cases x with
 | nilSl =>
  simp only at h;cases hx;split at h
  ·rename_i hm;subst hm;cases h
   have:=y none 0 0 rfl (Jv _)
   exact ⟨_,w,μ,this,⟨.nilSl,hH,Stp.refl _ _ _ _ _ _⟩⟩
  ·rename_i hm;split at h
   ·rename_i hc;cases h;obtain ⟨cap',q,f⟩:=E none 0 0 #[] rfl zO (by simpa using hc.1) (by simpa using hc.2) (fun _ _=>rfl)
    have:=grow H 0 #[] [] cap' hH hlt LR.nil (by simp) q f
    simpa using this
   ·cases h
 | own b off n c sz ex =>
  simp only at h;cases hx with
  | own _ _ _ _ _ _ L cap h1 h2 h3 h4 h5 p =>
  split at h
  ·rename_i cs r rw hb;split at h
   ·rename_i hc;obtain ⟨V,K,M,c4,W⟩:=hc;subst V; subst c4;obtain ⟨arr,ao,Y,g2,g3,g4,Z,g6,g7⟩:=gw hH hb h1;have af:∀ k,k<=cap->off+k*sz<=L.N:=fun k hk=>WK (Nat.add_le_add_left (WJ _ hk) _) p;have U:n+m<=cap->rw=true->d.all AV.one=true->∃ w',A.run P w=.ok (.slice (some ⟨L.blk,off,none⟩) (n+m) cap) w' /\
      HR P μ F (H.put b (.cells (cs.take (off+n*sz)++d++cs.drop (off+n*sz+m*sz)) r rw)) w'/\Stp I P μ F H w μ F (H.put b (.cells (cs.take (off+n*sz)++d++cs.drop (off+n*sz+m*sz)) r rw)) w':=by
     intro g al aa;subst al;have hN:=af (n+m) g;rw [XI] at hN;obtain ⟨w',f,q1,q2⟩:=sE (I:=I) hH hb h1 (o:=off+n*sz) B aa W zO;rw [z] at q1 q2;refine ⟨w',?_,q1,q2⟩;rw [y _ n cap rfl g];simp only [j9,f,Result.andThen_ok]
    obtain ⟨ov,S,D⟩:=Az (P:=P) (off:=off) (cs:=cs.drop off) (n:=n*sz) Y (by rw [XF]; omega) (fun i c v hc hv=>by rw [WX] at hc; exact Z _ c v hc hv) (by rw [XF]; omega);have j:((cs.drop off).take (n*sz)).length=n*sz:=by rw [WU,XF]; omega
    split at h
    ·rename_i aj;split at h
     ·rename_i hm;cases h;subst hm
      have:=y _ n cap rfl zO
      have ak:nv.toList=[]:=by
       have:nv.size=0:=zO
       simpa using this
      simp only [ak,storeCells,Sem.run_pure,Result.andThen_ok] at this;exact ⟨_,w,μ,this,⟨.own b off n c sz ex L cap h1 h2 h3 h4 h5 p,hH,Stp.refl _ _ _ _ _ _⟩⟩
     ·split at h
      ·rename_i s;cases h;obtain ⟨w',f,q1,q2⟩:=U zO s.1 s.2;exact ⟨_,w',μ,f,⟨.own b off (n+m) c sz ex L cap h1 h2 zO h4 h5 p,q1,q2⟩⟩
      ·cases h
    ·rename_i aj;split at h
     ·rename_i ag;cases h;have aq:=h5 ag;obtain ⟨cap',q,f⟩:=E _ n cap ov.toArray rfl zO K M S;exact grow H n ov.toArray _ cap' hH hlt (by simpa using D) j q f
     ·split at h
      ·rename_i s;obtain ⟨X,N,e3,e4⟩:=s;cases h;subst X;by_cases g:n+m<=cap
       ·obtain ⟨w',f,q1,q2⟩:=U g N e4;subst N;have q3:=Di q1 (by rw [Heap.get_put,if_pos rfl]) (n*sz+m*sz);have ht:((cs.take (0+n*sz)++d++cs.drop (0+n*sz+m*sz)).take (n*sz+m*sz))=cs.take (n*sz)++d:=by
         rw [Xg,XU (by simp; omega),WS (by simp; omega)]
        rw [ht] at q3;obtain ⟨q4,q5⟩:=uW (I:=I) q3 (b:=b) (id:=id) (L:=L) (by rw [Heap.get_put,if_pos rfl]) h1 Q hlt O;refine ⟨_,w',μ.upd id L,f,⟨?_,?_,?_⟩⟩
        ·exact .own id 0 (n+m) (n+m) sz false L cap (upd_same id _) h2 (Jv _) g (fun h=>by cases h) (by rw [Xg] at p ⊢; exact p)
        ·refine q4.congr rfl fun x=>?_;simp only [Heap.get_put,Heap.get_kill];split
         ·rfl
         ·split
          ·rfl
          ·rfl
        ·have q6:Stp I P μ F H w μ F ((H.put b (.cells (cs.take (0+n*sz)++d++cs.drop (0+n*sz+m*sz)) r true)).put b (.cells (cs.take (n*sz)++d) r true)) w' :=
          q2.congr rfl (fun x e he=>by
           rw [Heap.get_put] at he;split at he
           ·rename_i ex; subst ex; cases he; exact ⟨.cells (cs.take (0+n*sz)++d++cs.drop (0+n*sz+m*sz)) r true,by rw [Heap.get_put,if_pos rfl],rfl⟩
           ·exact ⟨e,he,rfl⟩)
         refine (q6.trans q5).congr rfl fun x e he=>⟨e,?_,rfl⟩
         simp only [Heap.get_put,Heap.get_kill] at he ⊢;split at he
         ·rename_i hx; rw [if_pos hx]; exact he
         ·rename_i hx;rw [if_neg hx];split at he
          ·cases he
          ·rename_i J; rw [if_neg J,if_neg J,if_neg J]; exact he
       ·obtain ⟨cap',q,f⟩:=E _ n cap ov.toArray rfl g K M S;obtain ⟨q1,q2⟩:=uA (I:=I) hH b;rw [List.drop_zero] at D j;obtain ⟨u,w',μ',r1,r2⟩:=grow (H.kill b) n ov.toArray (cs.take (n*sz)) cap' q1 hlt (by simpa using D) j q f;exact ⟨u,w',μ',r1,⟨r2.val,r2.heap,q2.trans r2.stp⟩⟩
      ·cases h
   ·cases h
  ·cases h
 | _=>cases h
def KY {α:Type} [Inhabited α] (z:Array α) (n:Nat):((List.range (n*z.size)).map fun i=>z[i % z.size]!)=(List.replicate n z.toList).flatten:=by
 induction n with
 | zero=>simp
 | succ n a =>
  rw [XI,Zp,Zb,List.range_add,Xd,Xt,Zc,<- a];congr 1
  ·apply X1
   ·simp
   ·intro i h1 h2;simp at h1;simp [Xf h1,h1]
  ·rw [Yw]
   apply X0
   intro i _;simp [Nat.add_mod_left]
def LR.rep {z:List AV} {zs:List Value} (h:LR μ F w z zs):∀ n,LR μ F w ((List.replicate n z).flatten) ((List.replicate n zs).flatten)
 | 0=>LR.nil
 | n+1=>by
  rw [Xt,Xt,Zc,Zc];exact h.append (h.rep n)
def iu {z:Array Value} (N n:Nat) (h:N=n*z.size):((Array.range N).map fun i=>z[i % z.size]!).toList=(List.replicate n z.toList).flatten:=by
 subst h;rw [Array.toList_map,Array.toList_range];exact KY z n
def xF {t e:TypeId} {n len:Nat} {z cs:List AV} {parts:List (Nat × Operand)} {ps:List ((Nat × Nat) × Src)} (hT:LR μ F w T a.tmps.toList)
  (A:P.underlying t=some (.slice e)) (hs:sizeOf? P e=some n) (C:zeroCells? P e=some z) (G:z.length=n) (L:len*n<=2^24)
  (x:(parts.mapM fun (p:Nat × Operand)=>(do some ((p.1*n,n),(<- bW p.2)):Option ((Nat × Nat) × Src)))=some ps) (d:cP ((List.replicate len z).flatten) (ps.map fun p=>(p.1,p.2.ev T))=some cs)
  (hH:HR P μ F H w) {id:Nat} (o:μ id=none) (hlt:id<H.next) (k:I id) :
  ∃ u w' μ',(Instr.buildSlice t len (parts.toArray.map fun p=>(p.1,a.eval p.2))).run P w=.ok u w'/\iS I P μ F H w (.own id 0 len len n true) (H.put id (.cells cs e true)) u w' μ':=by
 obtain ⟨zv,J,g⟩:=qV C w;have j:zv.cells.size=n:=by have:=(g μ F w).1; simp at this; omega
 have y:=(g μ F w).rep len;have m:∃ b:Array Value,((len*n=0/\b = #[])\/(len*n≠0/\b=zv.cells))/\((Array.range (len*n)).map fun i=>b[i % b.size]!).toList=(List.replicate len zv.cells.toList).flatten:=by
  by_cases h0:len*n=0
  ·refine ⟨#[],.inl ⟨h0,rfl⟩,?_⟩;rw [h0]
   have:(List.replicate len zv.cells.toList).flatten.length=0:=by simp [j,h0]
   simp only [XM] at this;rw [this]; simp
  ·refine ⟨zv.cells,.inr ⟨h0,rfl⟩,?_⟩;exact iu _ _ (by rw [j])
 obtain ⟨b,D,E⟩:=m;obtain ⟨vs,f,hr⟩:=Ep hT (fun i=>some (i*n,n)) parts ps _ ((Array.range (len*n)).map fun i=>b[i % b.size]!) cs x (by rw [E]; exact y) d;have q:=hr.1;simp at q;have M:vs.size=len*n:=by
  have key:∀ (l:List ((Nat × Nat) × AV)) (z cs:List AV),cP z l=some cs->cs.length=z.length:=by
   intro l
   induction l with
   | nil=>intro z cs h; cases h; rfl
   | cons p l K =>
    intro z cs h;obtain ⟨⟨off,size⟩,v⟩:=p;simp only [cP] at h;split at h
    ·rename_i hc;rw [K _ _ h]
     simp; omega
    ·cases h
  have:=key _ _ _ d
  simp [G] at this;omega
 obtain ⟨q1,q2⟩:=mJ hH o hlt k (arr:=vs) (cs:=cs) hs zO (fun i c v hc B=>hr.2 i c v hc (by simpa using B)) w rfl (Tp.same rfl rfl) rfl rfl;refine ⟨_,_,_,?_,⟨.own id 0 len len n true _ len (upd_same id _) rfl (Jv _) (Jv _) (fun _=>rfl) (by simp; omega),q1,q2⟩⟩;have r:¬ len*n > 2^24:=zO;unfold Instr.buildSlice;have s:(parts.toArray.map fun p=>(p.1,a.eval p.2)).toList=parts.map fun p=>(p.1,a.eval p.2):=by simp
 simp only [Sem.run_bind,run_underlying A,Result.andThen_ok,co hs,r,if_false,s];rcases D with ⟨h0,rfl⟩ | ⟨h0,rfl⟩
 ·rw [if_pos h0];simp only [Sem.run_bind,Sem.run_pure,Result.andThen_ok,f,gS]
 ·rw [if_neg h0];simp only [Sem.run_bind,Sem.run_pure,Result.andThen_ok,J,f,gS]
def yZ {c:Nat} (h:c<2^63):IntKind.i64.wrap (c:Int)=c:=by
 have e:IntKind.i64.wrap (c:Int)=(if IntKind.i64.signed && decide ((c:Int) % (2^IntKind.i64.bits:Int) ≥ (2^(IntKind.i64.bits-1):Int)) then (c:Int) % (2^IntKind.i64.bits:Int)-(2^IntKind.i64.bits:Int) else (c:Int) % (2^IntKind.i64.bits:Int)):=rfl;have h1:(c:Int) % (2^IntKind.i64.bits:Int)=c:=by
  have:(2^IntKind.i64.bits:Int)=18446744073709551616:=by decide
  rw [this]; omega
 rw [e,h1];have h2:¬ (c:Int) ≥ (2^(IntKind.i64.bits-1):Int):=by
  have:(2^(IntKind.i64.bits-1):Int)=9223372036854775808:=by decide
  rw [this]; omega
 simp [h2]
def Id {t e:TypeId} {size bytes l c:Nat} {z:List AV} {vl g:Value} {kl G:IntKind}
  (x:P.underlying t=some (.slice e)) (hs:sizeOf? P e=some size) (hb:bytesOf? P e=some bytes) (A:zeroCells? P e=some z) (D:z.length=size)
  (hl:vl=.int kl (l:Int)) (hc:g=.int G (c:Int)) (r:l<=c) (K:bytes*c<=2^47) (m:c<2^63)
  (hH:HR P μ F H w) {id:Nat} (q:μ id=none) (hlt:id<H.next) (k:I id) :
  ∃ u w' μ',(Instr.makeSlice t vl g).run P w=.ok u w'/\iS I P μ F H w (.own id 0 l c size true) (H.put id (.cells ((List.replicate c z).flatten) e true)) u w' μ':=by
 obtain ⟨zv,E,d⟩:=qV A w;have f:zv.cells.size=size:=by have:=(d μ F w).1; simp at this; omega
 have s:=(d μ F w).rep c;have n:∃ a:Array Value,((c*size=0/\a = #[])\/(c*size≠0/\a=zv.cells))/\((Array.range (c*size)).map fun i=>a[i % a.size]!).toList=(List.replicate c zv.cells.toList).flatten:=by
  by_cases h0:c*size=0
  ·refine ⟨#[],.inl ⟨h0,rfl⟩,?_⟩;rw [h0]
   have:(List.replicate c zv.cells.toList).flatten.length=0:=by simp [f,h0]
   simp only [XM] at this;rw [this]; simp
  ·refine ⟨zv.cells,.inr ⟨h0,rfl⟩,?_⟩;exact iu _ _ (by rw [f])
 obtain ⟨a,B,C⟩:=n;obtain ⟨i,hi,p⟩:=KT hb w;have b:((Array.range (c*size)).map fun i=>a[i % a.size]!).size=c*size:=by simp
 obtain ⟨q1,q2⟩:=mJ hH q hlt k (arr:=(Array.range (c*size)).map fun i=>a[i % a.size]!) (cs:=(List.replicate c z).flatten) hs (by rw [b]; simp [D])
  (fun i c v hc y=>s.2 i c v hc (by rw [<- C,Z4]; exact y)) w rfl (Tp.same rfl rfl) rfl rfl
 refine ⟨_,_,_,?_,⟨.own id 0 l c size true _ c (upd_same id _) rfl r (Jv _) (fun _=>rfl) (by show 0+c*size<=_; rw [Xg]; exact Za b.symm),q1,q2⟩⟩;subst hl; subst hc;unfold Instr.makeSlice;have h:=yZ (c:=c) m;have j:=yZ (c:=l) zO;have J:¬ ((c:Int)<0\/(bytes:Int)*(c:Int) > 2^48):=by
  have:((bytes*c:Nat):Int)=(bytes:Int)*(c:Int):=by simp
  rw [<- this]; omega
 simp only [Sem.run_bind,run_underlying x,Result.andThen_ok,asInt,asIntOf,Sem.run_pure,hi,p,h,j];have o:¬ (((decide ((c:Int)<0) || decide ((bytes:Int)*(c:Int) > 2^48)) || decide ((l:Int)<0) || decide ((l:Int) > (c:Int)))=true):=by
  simp; omega
 rw [if_neg o];simp only [Sem.run_bind,run_askRoom,Result.andThen_ok,co hs,Yo];rcases B with ⟨h0,rfl⟩ | ⟨h0,rfl⟩
 ·rw [if_pos h0];simp only [Sem.run_bind,Sem.run_pure,Result.andThen_ok,gS]
 ·rw [if_neg h0];simp only [Sem.run_bind,Sem.run_pure,Result.andThen_ok,E,gS]
def T8 (a b:ByteArray) (h:(a == b)=true):a=b:=by
 obtain ⟨x⟩:=a; obtain ⟨y⟩:=b
 have:(x == y)=true:=h
 have:=eq_of_beq this
 rw [this]
def Q9 (a:ByteArray):(a == a)=true:=by
 obtain ⟨x⟩:=a;show (x == x)=true;exact beq_self_eq_true x
def KD (d:TypeDesc) (kd:BK):Prop:=(∃ j,d=.int j/\kd=.int)\/(d=.string/\kd=.str)
def On {t:TypeId} {kd:BK} (h1:Cw P t=true) (h2:j8 P t=some kd):∃ d,P.underlying t=some d/\KD d kd:=by
 unfold Cw at h1;unfold j8 at h2;split at h1
 ·rename_i j hj; rw [hj] at h2; cases h2; exact ⟨_,hj,.inl ⟨j,rfl,rfl⟩⟩
 ·rename_i hj; rw [hj] at h2; cases h2; exact ⟨_,hj,.inr ⟨rfl,rfl⟩⟩
 ·cases h1
def yq {t:TypeId} {d:TypeDesc} {kd:BK} {k:AV} {a:Value} (hd:P.underlying t=some d) (f:KD d kd) (e:VR μ F w k a) (c:iz kd k=true) (b:Bool):(Instr.checkKey b 10000 t a).run P w=.ok () w:=by
 show (Instr.checkKey b (9999+1) t a).run P w=.ok () w;unfold Instr.checkKey;rcases f with ⟨j,rfl,rfl⟩ | ⟨rfl,rfl⟩
 ·simp only [Sem.run_bind,run_underlying hd,Result.andThen_ok];cases k <;> simp [iz] at c;cases e; rfl
 ·simp only [Sem.run_bind,run_underlying hd,Result.andThen_ok];cases k <;> simp [iz] at c;cases e; rfl
def HE {d:TypeDesc} {kd:BK} {k a:AV} {c f:Value} {b:Bool} (m:KD d kd) (i:VR μ F w k c) (l:VR μ F w a f) (g:iz kd k=true) (h:i8 k a=some b) :
  Instr.sameNow d c f=some b/\(b=true->Instr.sameBits 10000 f c=true):=by
 rcases m with ⟨j,rfl,rfl⟩ | ⟨rfl,rfl⟩
 ·cases k <;> simp [iz] at g;cases a <;> simp [i8] at h;obtain ⟨e,h⟩:=h;cases i; cases l;subst e;refine ⟨by simp [Instr.sameNow,h],fun hb=>?_⟩;subst hb;have h:=eq_of_beq h;subst h;simp [Instr.sameBits]
 ·cases k <;> simp [iz] at g;cases a <;> simp [i8] at h;cases i; cases l;refine ⟨by simp [Instr.sameNow,h],fun hb=>?_⟩;subst hb;have h:=T8 _ _ h;subst h;simp [Instr.sameBits,Q9]
def Eo {d:TypeDesc} {kd:BK} {k:AV} {a:Value} (f:KD d kd) (g:VR μ F w k a) (c:iz kd k=true):∀ (es:List (AV × AV)) (xs:List MapEntry) (i:Nat),LR μ F w (es.map (·.1)) (xs.map (·.key))->LR μ F w (es.map (·.2)) (xs.map (·.val)) ->
  (po k es=some none->Instr.findNow d a xs i=some none/\∀ v,s9 k v es=es++[(k,v)]) /\
  (∀ x,po k es=some (some x)->∃ j e,xs[j]? = some e/\Instr.findNow d a xs i=some (some (i+j,e.val))/\VR μ F w x e.val/\Instr.sameBits 10000 e.key a=true/\∀ v,s9 k v es=es.set j (k,v))
 | [],[],i,_,_=>⟨fun _=>⟨rfl,fun _=>rfl⟩,fun x h=>by simp [po] at h⟩
 | [],_ :: _,_,h,_=>by have:=h.1; simp at this
 | _ :: _,[],_,h,_=>by have:=h.1; simp at this
 | (u,y) :: es,e :: xs,i,h1,h2=>by
  have r:=h1.head;have s:=h2.head;obtain ⟨l,t⟩:=Eo f g c es xs (i+1) h1.tail h2.tail;simp only [po,s9,Instr.findNow];cases hs:i8 k u with
  | none=>exact ⟨fun h=>by simp at h,fun x h=>by simp at h⟩
  | some b =>
   obtain ⟨hn,hb⟩:=HE f g r c hs;rw [hn];cases b with
   | true =>
    refine ⟨fun h=>by simp at h,fun x h=>?_⟩;simp at h; subst h;exact ⟨0,e,rfl,by simp,s,hb rfl,fun v=>rfl⟩
   | false =>
    simp only;refine ⟨fun h=>⟨(l h).1,fun v=>by rw [(l h).2 v]; rfl⟩,fun x h=>?_⟩;obtain ⟨j,e',m,n,o,p,q⟩:=t x h;exact ⟨j+1,e',by simpa using m,by rw [n]; congr 3; omega,o,p,fun v=>by rw [q v]; rfl⟩
def mS {L:BJ} {xs:Array MapEntry} {c:Nat} (h:w.heap[L.blk]? = some (.map xs c)):(getObj L.blk).run P w=.ok (.map xs c) w:=by
 simp [getObj,Sem.run,h]
def Ac {L:BJ} {xs:Array MapEntry} {c:Nat} (h:w.heap[L.blk]? = some (.map xs c)) (o:Obj):(setObj L.blk o).run P w=.ok () (w.putObj L.blk o):=by
 simp [setObj,Sem.run,h,World.putObj]
def Oc {x:AV} {i:Value} {es:List (AV × AV)} (hH:HR P μ F H w) (hx:VR μ F w x i) (h:ya H x=some es) :
  ∃ xs:Array MapEntry,LR μ F w (es.map (·.1)) (xs.toList.map (·.key))/\LR μ F w (es.map (·.2)) (xs.toList.map (·.val))/\((i=.map none/\xs = #[])\/∃ (L:BJ) (c:Nat),i=.map (some L.blk)/\w.heap[L.blk]? = some (.map xs c)):=by
 cases x <;> simp only [ya] at h <;> first | (cases h; done) | skip
 ·cases h; cases hx; exact ⟨#[],LR.nil,LR.nil,.inl ⟨rfl,rfl⟩⟩
 ·rename_i b;split at h
  ·rename_i j hb;cases h;cases hx with
   | map _ L hL =>
   obtain ⟨L',a,g⟩:=hH.ent b _ hb;rw [hL] at a; cases a;obtain ⟨_,xs,c,d,e,f,_⟩:=g;exact ⟨xs,e,f,.inr ⟨L,c,rfl,d⟩⟩
  ·rename_i j hb;cases h;cases hx with
   | map _ L hL =>
   obtain ⟨L',a,g⟩:=hH.ent b _ hb;rw [hL] at a; cases a;obtain ⟨xs,c,d,e,f,_⟩:=g;exact ⟨xs,e,f,.inr ⟨L,c,rfl,d⟩⟩
  ·cases h
def Ay {t a e:TypeId} {g f zv:Value} {ok:Bool} {xs:Array MapEntry} {d:TypeDesc} {res:Option (Nat × Value)} (j:P.underlying t=some (.map a e)) (hd:P.underlying a=some d)
  (h:∀ b,(Instr.checkKey b 10000 a f).run P w=.ok () w) (k:(zeroValue e).run P w=.ok zv w)
  (hm:(g=.map none/\xs = #[])\/∃ (L:BJ) (c:Nat),g=.map (some L.blk)/\w.heap[L.blk]? = some (.map xs c)) (i:Instr.findNow d f xs.toList 0=some res) :
  (Instr.lookup t g f ok).run P w=.ok (match res with | some (_,v)=>if ok then .tuple #[v,.bool true] else v | none=>if ok then .tuple #[zv,.bool false] else zv) w:=by
 unfold Instr.lookup;rcases hm with ⟨rfl,rfl⟩ | ⟨L,c,rfl,hL⟩
 ·simp only [Sem.run_bind,run_underlying j,Result.andThen_ok,Sem.run_pure,h,Instr.findKey,run_underlying hd,i];cases res with
  | none=>cases ok <;> simp [k]
  | some p=>cases ok <;> simp
 ·simp only [Sem.run_bind,run_underlying j,Result.andThen_ok,Sem.run_pure,h,Instr.findKey,run_underlying hd,mS hL,i];cases res with
  | none=>cases ok <;> simp [k]
  | some p=>cases ok <;> simp
def D9 {t f e:TypeId} {kd:BK} {x i z v:AV} {r g zv:Value} {ok:Bool} (hH:HR P μ F H w) (n:P.underlying t=some (.map f e)) (E:Cw P f=true) (G:j8 P f=some kd)
  (I:((P.info? e).bind (·.zero))=some zv) (K:sS zv=some z) (hx:VR μ F w x r) (hi:VR μ F w i g)
  (h:tt H kd z x i ok=some v):∃ u,(Instr.lookup t r g ok).run P w=.ok u w/\VR μ F w v u:=by
 obtain ⟨d,hd,m⟩:=On E G;unfold tt at h;split at h
 ·cases h
 rename_i a;have a:iz kd i=true:=by simpa using a
 have o:(zeroValue e).run P w=.ok zv w:=by
  obtain ⟨L,D,J⟩:=eD.1 I;simp [zeroValue,jC D,J]
 have p:=Vk (μ:=μ) (F:=F) (w:=w) K;split at h
 ·cases h
 rename_i es C;obtain ⟨xs,A,B,k⟩:=Oc hH hx C;obtain ⟨f1,s⟩:=Eo m hi a es xs.toList 0 A B;have q:∀ (x:AV) (v:Value) (b:Bool),VR μ F w x v->VR μ F w (.tup [x,.bool b]) (.tuple #[v,.bool b]):=fun x v b h=>by
  have:=LR.cons h (LR.cons (.bool b) (LR.nil (μ:=μ) (F:=F) (w:=w)))
  exact .tup _ _ rfl fun i c u h1 h2=>this.2 i c u h1 (by simpa using h2)
 have l:∀ b,(Instr.checkKey b 10000 f g).run P w=.ok () w:=fun b=>yq hd m hi a b;split at h
 ·cases h
 ·rename_i hr;cases h;refine ⟨_,Ay n hd l o k (f1 hr).1,?_⟩;cases ok
  ·exact p
  ·exact q _ _ _ p
 ·rename_i y hr;cases h;obtain ⟨j,e',q1,q2,q3,_⟩:=s y hr;refine ⟨_,Ay n hd l o k q2,?_⟩;cases ok
  ·exact q3
  ·exact q _ _ _ q3
def vw {t x e:TypeId} {kd:BK} {m k v:AV} {vm f n:Value} {H':Heap} (hH:HR P μ F H w) (E:P.underlying t=some (.map x e)) (N:Cw P x=true) (O:j8 P x=some kd)
  (hm:VR μ F w m vm) (u:VR μ F w k f) (G:VR μ F w v n) (h:nO H kd m k v=some H'):∃ w',(Instr.mapUpdate t vm f n).run P w=.ok () w'/\iS I P μ F H w .undef H' undef w' μ:=by
 obtain ⟨d,hd,D⟩:=On N O;unfold nO at h;split at h
 ·cases h
 rename_i s;have s:iz kd k=true:=by simpa using s
 have C:∀ b,(Instr.checkKey b 10000 x f).run P w=.ok () w:=fun b=>yq hd D u s b;cases m with
 | map b =>
  simp only at h;split at h
  ·rename_i es hb;cases hm with
   | map _ L hL =>
   obtain ⟨L',B,M⟩:=hH.ent b _ hb;rw [hL] at B; cases B;obtain ⟨Q,xs,c,p,z,A,l⟩:=M;obtain ⟨f1,K⟩:=Eo D u s es xs.toList 0 z A;have hlt:=(XB.1 p).1;have fin:∀ (g:Array MapEntry) (o:Nat),LR μ F w ((s9 k v es).map (·.1)) (g.toList.map (·.key))->LR μ F w ((s9 k v es).map (·.2)) (g.toList.map (·.val))->I3 g.toList o ->
     HR P μ F (H.put b (.map (s9 k v es))) (w.putObj L.blk (.map g o))/\Stp I P μ F H w μ F (H.put b (.map (s9 k v es))) (w.putObj L.blk (.map g o)):=by
    intro g o q1 q2 q3;refine jj hH hb rfl hL _ (fun c hc=>World.putObj_heap_other hc) (by simp [World.putObj]) (Tp.same rfl rfl) rfl rfl (fun J=>?_) rfl;exact ⟨Q,g,o,World.putObj_heap_same hlt,q1.mono (fun _ _ h=>h) (fun _ h=>h) J,q2.mono (fun _ _ h=>h) (fun _ h=>h) J,q3⟩
   split at h
   ·cases h
   ·rename_i r hr;cases h;cases r with
    | none =>
     obtain ⟨q1,q2⟩:=f1 hr;have q:=q2 v;obtain ⟨r1,r2⟩:=fin (xs.push { key:=f,val:=n,born:=c }) (c+1) (by rw [q]; simp only [Xd,ZT,SA,WF]; exact z.append (LR.cons u LR.nil))
      (by rw [q]; simp only [Xd,ZT,SA,WF]; exact A.append (LR.cons G LR.nil)) ⟨fun e he=>by
       simp only [ZT,WQ,WL] at he;rcases he with he | rfl
       ·have:=l.1 e he; omega
       ·exact ZG _,by
       simp only [ZT,Xd,SA,WF];refine List.nodup_append.2 ⟨l.2,by simp,fun a ha b hb=>?_⟩;simp only [WL] at hb;subst hb;obtain ⟨e,he,rfl⟩:=DT.1 ha
       have:=l.1 e he
       omega⟩
     refine ⟨_,?_,⟨.undef _,r1,r2⟩⟩;unfold Instr.mapUpdate;simp only [Sem.run_bind,run_underlying E,Result.andThen_ok,mS p,C,Instr.findKey,run_underlying hd,q1,Sem.run_pure,Ac p]
    | some y =>
     obtain ⟨j,e',q1,q2,q3,q4,q5⟩:=K y hr;have q:=q5 v;have hj:xs[j]? = some e':=by simpa using q1
     have R:j<xs.size:=(XB.1 hj).1;have hl:(xs.modify j fun e=>{ e with key:=f,val:=n }).toList=xs.toList.set j { e' with key:=f,val:=n }:=by
      rw [Array.toList_modify];rw [List.modify_eq_set];rw [q1]; rfl
     obtain ⟨r1,r2⟩:=fin (xs.modify j fun e=>{ e with key:=f,val:=n }) c (by rw [q,hl,Zd,Zd]; exact z.set j u) (by rw [q,hl,Zd,Zd]; exact A.set j G) ⟨fun e he=>by
       rw [hl] at he;rcases List.mem_or_eq_of_mem_set he with he | rfl
       ·exact l.1 e he
       ·exact l.1 e' (WN q1),by
       have e0:(xs.toList.map (·.born)).set j e'.born=xs.toList.map (·.born):=by
        apply Yg
        intro i;by_cases hi:j=i
        ·subst hi;rw [Y0,Xq,q1]; rfl
        ·rw [Y9 hi]
       rw [hl,Zd];show ((xs.toList.map (·.born)).set j e'.born).Nodup;rw [e0]; exact l.2⟩
     refine ⟨_,?_,⟨.undef _,r1,r2⟩⟩;unfold Instr.mapUpdate;simp only [Sem.run_bind,run_underlying E,Result.andThen_ok,mS p,C,Instr.findKey,run_underlying hd,q2,Sem.run_pure,Xg,hj,XY,XG,Instr.keyThatStays,q4,if_true,Ac p]
  ·cases h
 | _=>cases h
def FR {t:TypeId} (hH:HR P μ F H w) {id:Nat} (b:μ id=none) (hlt:id<H.next) (a:I id) :
  ∃ u w' μ',(Instr.makeMap t none).run P w=.ok u w'/\iS I P μ F H w (.map id) (H.put id (.map [])) u w' μ':=by
 obtain ⟨q1,q2⟩:=pd hH b hlt (.map #[] 0) (.map []) 0 0 (fun w' d hn c=>⟨c,#[],0,hn,LR.nil,LR.nil,fun e he=>by simp at he,List.nodup_nil⟩) a w rfl (Tp.same rfl rfl) rfl rfl;exact ⟨_,_,_,by simp [Instr.makeMap],⟨.map id _ (upd_same id _),q1,q2⟩⟩
def DL {t:TypeId} {s:ByteArray} {a:Value} (e:P.underlying t=some .string) (hH:HR P μ F H w) {id:Nat} (c:μ id=none) (hlt:id<H.next) (b:I id) (hx:VR μ F w (.str s) a) :
  ∃ u w' μ',(Instr.range t a).run P w=.ok u w'/\iS I P μ F H w (.ptr id 0) (H.put id (.siter s 0)) u w' μ':=by
 cases hx;obtain ⟨q1,q2⟩:=pd hH c hlt (.stringIter s 0) (.siter s 0) 0 0 (fun w' f hn d=>⟨d,hn⟩) b w rfl (Tp.same rfl rfl) rfl rfl;exact ⟨_,_,_,by simp [Instr.range,run_underlying e],⟨.ptr id 0 _ (upd_same id _),q1,q2⟩⟩
def FO {x v:AV} {f:Value} {ty:TypeId} {H':Heap} (hH:HR P μ F H w) (hx:VR μ F w x f) (h:HX H x=some (v,H')) :
  ∃ u w',(Instr.next f true ty).run P w=.ok u w'/\iS I P μ F H w v H' u w' μ:=by
 unfold HX at h;split at h
 ·rename_i b;cases hx with
  | ptr _ _ L hL =>
  split at h
  ·rename_i s pos hb;obtain ⟨L',d,g⟩:=hH.ent b _ hb;rw [hL] at d; cases d;obtain ⟨k,hh⟩:=g;have hg:(getObj L.blk).run P w=.ok (.stringIter s pos) w:=by simp [getObj,Sem.run,hh]
   split at h
   ·rename_i hlt;cases h;have j:=(XB.1 hh).1;have hs:∀ o,(setObj L.blk o).run P w=.ok () (w.putObj L.blk o):=fun o=>by simp [setObj,Sem.run,hh,World.putObj]
    obtain ⟨q1,q2⟩:=jj (I:=I) (e:=.siter s (pos+(Utf8.decode s pos).2)) hH hb rfl hL (w.putObj L.blk (.stringIter s (pos+(Utf8.decode s pos).2))) (fun c hc=>World.putObj_heap_other hc) (by simp [World.putObj]) (Tp.same rfl rfl) rfl rfl
     (fun l=>⟨k,World.putObj_heap_same j⟩) rfl
    refine ⟨.tuple #[.bool true,goInt pos,.int .i32 (Utf8.decode s pos).1],_,?_,⟨?_,q1,q2⟩⟩
    ·simp only [Instr.next,Sem.run_bind,hg,Result.andThen_ok,hlt,if_true,hs,Sem.run_pure]
    ·refine .tup _ _ rfl fun i c u hi a=>?_
     have:i=0\/i=1\/i=2\/3<=i:=zO
     rcases this with rfl | rfl | rfl | h3
     ·simp at hi a; subst hi; subst a; exact .bool _
     ·simp at hi a; subst hi; subst a; exact .int _ _
     ·simp at hi a; subst hi; subst a; exact .int _ _
     ·rw [Xa (by simpa using h3)] at hi; cases hi
   ·rename_i hlt;cases h;refine ⟨.tuple #[.bool false],w,?_,⟨?_,hH,Stp.refl _ _ _ _ _ _⟩⟩
    ·simp only [Instr.next,Sem.run_bind,hg,Result.andThen_ok,hlt,if_false,Sem.run_pure]
    ·refine .tup _ _ rfl fun i c u hi a=>?_
     have:i=0\/1<=i:=zO
     rcases this with rfl | h3
     ·simp at hi a; subst hi; subst a; exact .bool _
     ·rw [Xa (by simpa using h3)] at hi; cases hi
  ·cases h
 ·cases h
def Wi {s:Sem Unit} {w':World} (h:s.run P w=.ok () w'):((do s; pure Next.skip):Sem Next).run P w=.ok .skip w':=by
 simp [h]
def GC {t e ty:TypeId} {size:Nat} {z:List AV} {x:AV} {g:Value} {H':Heap} (a:P.underlying t=some (.slice e)) (hs:sizeOf? P e=some size) (B:zeroCells? P e=some z) (hH:HR P μ F H w) (hx:VR μ F w x g)
  (h:oP H size z x=some H') :
  ∃ u w',(Builtin.clear_ #[t] ty #[g]).run P w=.ok u w'/\iS I P μ F H w (.tup []) H' u w' μ:=by
 have d:VR μ F w (.tup []) (.tuple #[]):=.tup _ _ rfl fun i c v h=>by simp at h
 have r:∀ w,VR μ F w (.tup []) (.tuple #[]):=fun w=>.tup _ _ rfl fun i c v h=>by simp at h
 cases x with
 | nilSl =>
  cases h; cases hx;exact ⟨_,w,by simp [Builtin.clear_,run_underlying a],⟨d,hH,Stp.refl _ _ _ _ _ _⟩⟩
 | own b off n c sz ex =>
  cases hx with
  | own _ _ _ _ _ _ L cap h1 h2 h3 h4 h5 R =>
  simp only [oP] at h;split at h
  ·rename_i cs T hb;split at h
   ·rename_i hn;cases h;subst hn;exact ⟨_,w,by simp [Builtin.clear_,run_underlying a],⟨d,hH,Stp.refl _ _ _ _ _ _⟩⟩
   ·rename_i hn;split at h
    ·rename_i hc;obtain ⟨j,E,m,c4⟩:=hc;cases h;subst j;obtain ⟨zv,D,f⟩:=qV B w;have S:zv.cells.size=sz:=by have:=(f μ F w).1; simp at this; omega
     have s:=(f μ F w).rep n;have q:((List.replicate n z).flatten).length=n*sz:=by simp [m]
     have p:((List.replicate n z).flatten).all AV.one=true:=by
      rw [WT] at c4 ⊢;intro y hy;simp only [List.mem_flatten,List.mem_replicate] at hy;obtain ⟨l,⟨_,rfl⟩,hy⟩:=hy;exact c4 y hy
     obtain ⟨arr,fr,G,J,K,M,N,O,Q⟩:=gw hH hb h1;obtain ⟨w',A,q1,q2⟩:=sE (I:=I) hH hb h1 (o:=off) s p zO zO;rw [q] at q1 q2;refine ⟨_,w',?_,⟨r _,q1,q2⟩⟩;have C:(Builtin.zeroCells zv.cells n).toList=(List.replicate n zv.cells.toList).flatten:=by
      unfold Builtin.zeroCells;exact iu _ _ rfl
     unfold Builtin.clear_;simp only [Ya,XW,Sem.run_bind,run_underlying a,Result.andThen_ok];obtain ⟨k,rfl⟩:∃ k,n=k+1:=⟨n-1,zO⟩
     simp only [Sem.run_bind,D,Result.andThen_ok,C,A,Sem.run_pure]
    ·cases h
  ·cases h
 | _=>cases h
def II {t A e ty:TypeId} {size:Nat} {x y v:AV} {j k:Value} {H':Heap} (i:P.underlying t=some (.slice e)) (hs:sizeOf? P e=some size) (hH:HR P μ F H w) (hx:VR μ F w x j) (hy:VR μ F w y k)
  (h:OT H size x y=some (v,H')) :
  ∃ u w',(Builtin.copy_ #[t,A] ty #[j,k]).run P w=.ok u w'/\iS I P μ F H w v H' u w' μ:=by
 unfold OT at h;split at h
 ·cases h
 rename_i m hm;have f:=sL (P:=P) hy hm;cases x with
 | nilSl =>
  cases hx;simp only at h;split at h
  ·rename_i z a;cases h;obtain ⟨hl,nv,d,g⟩:=mA (P:=P) hH hy a;refine ⟨goInt ((0:Nat):Int),w,?_,.int _ _,hH,Stp.refl _ _ _ _ _ _⟩;have r:Nat.min m 0=0:=Nat.min_eq_right (WG _);unfold Builtin.copy_;simp only [Ya,XW,Yc,Sem.run_bind,run_underlying i,Result.andThen_ok,co hs,Sem.run_pure,f,r,d w rfl]
  ·cases h
 | own b off n c sz ex =>
  cases hx with
  | own _ _ _ _ _ _ L cap h1 h2 h3 h4 h5 B =>
  simp only at h;split at h
  ·rename_i z cs D a hb;split at h
   ·rename_i hc;obtain ⟨l,p,q⟩:=hc;cases h;subst l;obtain ⟨hl,nv,d,g⟩:=mA (P:=P) hH hy a;have C:Nat.min m n*sz<=cap*sz:=WJ _ (WK (Nat.min_le_right _ _) (WK h3 h4));obtain ⟨w',s,q1,q2⟩:=sE (I:=I) hH hb h1 (o:=off) g q p zO;refine ⟨goInt ((Nat.min m n:Nat):Int),w',?_,.int _ _,q1,q2⟩;unfold Builtin.copy_;simp only [Ya,XW,Yc,Sem.run_bind,run_underlying i,Result.andThen_ok,co hs,Sem.run_pure,f,d w rfl,s]
   ·cases h
  ·cases h
 | _=>cases h
def Ub (P:Program) (a:Act) (w:World) (o:Oper) (u:Value) (w':World):Prop :=
 (execOp a.eval o).run P w=.ok (.value u) w'\/((execOp a.eval o).run P w=.ok .skip w'/\u=undef)
def Fd {b:Array Operand} {x y:Src} (hT:LR μ F w T a.tmps.toList) (h:b.toList.mapM bW=some [x,y]):∃ c d,b.map a.eval = #[c,d]/\VR μ F w (x.ev T) c/\VR μ F w (y.ev T) d:=by
 have hl:=pF hT h;have h1:=hl.1;simp only [SA,WF,W5,XZ,Nj,Zh] at h1;obtain ⟨l⟩:=b
 match l,h1 with
 | [p,q],_=>exact ⟨a.eval p,a.eval q,by simp,hl.2 0 _ _ rfl rfl,hl.2 1 _ _ rfl rfl⟩
def Jm {b:Array Operand} {x:Src} (hT:LR μ F w T a.tmps.toList) (h:b.toList.mapM bW=some [x]):∃ c,b.map a.eval = #[c]/\VR μ F w (x.ev T) c:=by
 have hl:=pF hT h;have h1:=hl.1;simp only [SA,WF,W5,XZ,Nj,Zh] at h1;obtain ⟨l⟩:=b
 match l,h1 with
 | [p],_=>exact ⟨a.eval p,by simp,hl.2 0 _ _ rfl rfl⟩
def fC {dst:Option Tmp} {ty:TypeId} {pos:String} {d:Array Edge} {guard:Option (Nat × Bool)} {b:Builtin} {c:Array Operand} {argTypes:Array TypeId} {s:Sem Value} {u:Value} {w':World}
  (h1:s.run P w=.ok u w') (h2:∀ e,builtin b argTypes ty e (c.map a.eval)=(do pure (.value (<- s)))) :
  (execOp a.eval ⟨dst,.call ⟨.builtin b,c,argTypes⟩,ty,pos,d,guard⟩).run P w=.ok (.value u) w':=by
 simp only [execOp,resolve,Sem.run_bind,Sem.run_pure,Result.andThen_ok,invoke];exact (congrArg (fun s=>s.run P w) (h2 _)).trans (cJ h1)
def Ck {x v:AV} {a:Value} {id size bytes ty m:Nat} {d:List AV} {fr:Option Nat} {H':Heap} (h:cM H id size bytes ty x m d fr=some (v,H')) (hx:VR μ F w x a):∃ base n cap,a=.slice base n cap:=by
 cases x with
 | nilSl=>cases hx; exact ⟨_,_,_,rfl⟩
 | own b off n c sz ex=>cases hx; exact ⟨_,_,_,rfl⟩
 | _=>cases h
def Ca {t:TypeId} {z:List AV} (h:zeroCells? P t=some z):∃ i zv,P.info? t=some i/\i.zero=some zv/\J6 zv=some z:=by
 simp only [zeroCells?,C6,eD] at h;obtain ⟨i,hi,zv,a,h⟩:=h;exact ⟨i,zv,hi,a,h⟩
def wz {t l e ty n bytes id m:Nat} {z f:List AV} {x v y:AV} {g j:Value} {fr:Option Nat} {H':Heap} (d:P.underlying t=some (.slice e)) (hn:sizeOf? P e=some n) (hb:bytesOf? P e=some bytes) (J:zeroCells? P e=some z) (N:z.length=n)
  (c:Pk P l) (hH:HR P μ F H w) (s:μ id=none) (hlt:id<H.next) (p:I id) (hx:VR μ F w x g) (hy:VR μ F w y j) (hm:gJ y=some m) (C:aK H n m y=some f)
  (h:cM H id n bytes e x m f fr=some (v,H')) :
  ∃ u w' μ',(Builtin.append_ #[t,l] ty #[g,j]).run P w=.ok u w'/\iS I P μ F H w v H' u w' μ':=by
 obtain ⟨i,zv,hi,M,K⟩:=Ca J;have L:zv.cells.size=n:=by
  have:=(vz (μ:=μ) (F:=F) (w:=w) K).1
  simp at this; omega
 have r:i.bytes=bytes:=by
  simp only [bytesOf?,hi,XY,Xb] at hb; exact hb
 obtain ⟨base,k,cap,rfl⟩:=Ck h hx;obtain ⟨B,nv,b,D⟩:=mA hH hy C;refine tU (nv:=nv.toArray) (zv:=zv) hH s hlt p hn L hx (by simpa using D) B h ?_ ?_
 ·intro base' n' cap' a A;cases a;exact Mj d hn c (sL hy hm) (b w rfl) A
 ·intro base' n' cap' ov a E o q G;cases a;exact IT d hn hi r M c (sL hy hm) b G E o q
def GT {t j e ty:TypeId} {size bytes n m cap:Nat} {base:Option Addr} {i:TypeInfo} {zv:Value} {q r:IntKind}
  (h:P.underlying t=some (.slice e)) (hs:sizeOf? P e=some size) (hi:P.info? e=some i) (k:i.bytes=bytes) (l:i.zero=some zv) (p:zv.cells.size=size) (hx:P.underlying j=some (.int q))
  (hm:m<2^62) (s:m*bytes<=2^46) (f:n+m<=cap) :
  (Builtin.append_ #[t,j] ty #[.slice base n cap,.int r (m:Int)]).run P w=((match base with | some a=>storeCells (a.add (n*size)) (Builtin.zeroCells zv.cells m).toList | none=>pure ():Sem Unit).run P w).andThen fun _ w'=>.ok (.slice base (n+m) cap) w':=by
 have b:=yZ (c:=m) zO;have g:¬ ((m:Int)<0):=zO;have d:¬ ((m:Int)*(i.bytes:Int) > 2^48):=by
  have:((m*i.bytes:Nat):Int)=(m:Int)*(i.bytes:Int):=by simp
  rw [<- this,k]; omega
 unfold Builtin.append_;by_cases h0:m*size=0
 ·have o:Builtin.zeroCells zv.cells m = #[]:=by
   have:(Builtin.zeroCells zv.cells m).size=0:=by rw [yX,p,h0]
   exact Zk this
  simp only [Ya,XW,Yc,Sem.run_bind,run_underlying h,Result.andThen_ok,co hs,run_underlying hx,Sem.run_pure,if_true,asInt,asIntOf,b,g,if_false,jC hi,d,Yo,ZJ,Xs,h0,f,o];cases base <;> simp
 ·simp only [Ya,XW,Yc,Sem.run_bind,run_underlying h,Result.andThen_ok,co hs,run_underlying hx,Sem.run_pure,if_true,asInt,asIntOf,b,g,if_false,jC hi,d,Yo,ZJ,Xs,h0,f,zeroValue,l];cases base <;> simp
def EU {t p e ty:TypeId} {size bytes n m cap:Nat} {base:Option Addr} {ov:Array Value} {i:TypeInfo} {zv:Value} {u v:IntKind}
  (l:P.underlying t=some (.slice e)) (hs:sizeOf? P e=some size) (hi:P.info? e=some i) (d:i.bytes=bytes) (o:i.zero=some zv) (s:zv.cells.size=size) (hx:P.underlying p=some (.int u))
  (hm:m<2^62) (x:m*bytes<=2^46) (q:∀ w',w'.heap=w.heap->(Builtin.firstCells size n (.slice base n cap)).run P w'=.ok ov w')
  (g:¬ n+m<=cap) (hb:(n+m)*bytes<=2^46) (hn:n+m<2^62) :
  ∃ cap',n+m<=cap'/\(Builtin.append_ #[t,p] ty #[.slice base n cap,.int v (m:Int)]).run P w =
   .ok (.slice (some ⟨w.heap.size,0,none⟩) (n+m) cap') (({ w with drawn:=w.drawn+1 }:World).alloc (.cells (ov++Builtin.zeroCells zv.cells m++Builtin.zeroCells zv.cells (cap'-(n+m))) e)):=by
 have a:=yZ (c:=m) zO;have h:¬ ((m:Int)<0):=zO;have b:¬ ((m:Int)*(i.bytes:Int) > 2^48):=by
  have:((m*i.bytes:Nat):Int)=(m:Int)*(i.bytes:Int):=by simp
  rw [<- this,d]; omega
 have j:¬ Builtin.nextslicecap (n+m) cap*i.bytes > 2^48:=by
  have h1:=Aq (need:=n+m) (cap:=cap) zO;have h2:Builtin.nextslicecap (n+m) cap*bytes<=2*(n+m)*bytes:=WJ _ h1;rw [Xj] at h2;rw [d]; omega
 have f:¬ ((↑(n+m):Int) > IntKind.i64.max/\(True\/i.bytes=0)):=by
  rintro ⟨h1,_⟩
  have:IntKind.i64.max=9223372036854775807:=by decide
  rw [this] at h1;omega
 refine ⟨(Question.appendCap (n+m) cap e).cut (w.tape w.drawn (Question.appendCap (n+m) cap e)),by simp [Question.cut],?_⟩;have hq:(choose (Question.appendCap (n+m) cap e)).run P w=.ok ((Question.appendCap (n+m) cap e).cut (w.tape w.drawn (Question.appendCap (n+m) cap e))) { w with drawn:=w.drawn+1 }:=by
  rw [run_choose,if_neg (by simp [Question.forced])]
 have k:=q { w with drawn:=w.drawn+1 } rfl
 generalize (Question.appendCap (n+m) cap e).cut (w.tape w.drawn (Question.appendCap (n+m) cap e))=c at hq
 unfold Builtin.append_;by_cases h0:m*size=0
 ·have r:Builtin.zeroCells zv.cells m = #[]:=by
   have:(Builtin.zeroCells zv.cells m).size=0:=by rw [yX,s,h0]
   exact Zk this
  simp only [Ya,XW,Yc,Sem.run_bind,run_underlying l,Result.andThen_ok,co hs,run_underlying hx,Sem.run_pure,if_true,asInt,asIntOf,a,h,if_false,jC hi,b,Yo,ZJ,Xs,h0,g,r,
   f,j,hq,run_askRoom,k,zeroValue,o,gS]
 ·simp only [Ya,XW,Yc,Sem.run_bind,run_underlying l,Result.andThen_ok,co hs,run_underlying hx,Sem.run_pure,if_true,asInt,asIntOf,a,h,if_false,jC hi,b,Yo,ZJ,Xs,h0,g,
   f,j,hq,run_askRoom,k,zeroValue,o,gS]
def BZ {t A e ty n bytes id m:Nat} {z:List AV} {x v y:AV} {s d:Value} {fr:Option Nat} {H':Heap} {R:IntKind} (l:P.underlying t=some (.slice e)) (hn:sizeOf? P e=some n) (hb:bytesOf? P e=some bytes) (M:zeroCells? P e=some z) (O:z.length=n)
  (o:P.underlying A=some (.int R)) (hH:HR P μ F H w) (E:μ id=none) (hlt:id<H.next) (C:I id) (hx:VR μ F w x s) (hy:VR μ F w y d) (hm:qm y=some m) (g:m*bytes<=2^46) (j:m<2^62)
  (h:cM H id n bytes e x m ((List.replicate m z).flatten) fr=some (v,H')) :
  ∃ u w' μ',(Builtin.append_ #[t,A] ty #[s,d]).run P w=.ok u w'/\iS I P μ F H w v H' u w' μ':=by
 obtain ⟨i,zv,hi,r,N⟩:=Ca M;have p:=vz (μ:=μ) (F:=F) (w:=w) N;have c:zv.cells.size=n:=by
  have:=p.1
  simp at this; omega
 have f:i.bytes=bytes:=by
  simp only [bytesOf?,hi,XY,Xb] at hb; exact hb
 obtain ⟨base,k,cap,rfl⟩:=Ck h hx;obtain ⟨a,rfl⟩:∃ a,d=.int a (m:Int):=by
  cases y with
  | int a q =>
   cases q with
   | ofNat q=>simp only [qm,Xb] at hm; subst hm; cases hy; exact ⟨a,rfl⟩
   | negSucc q=>simp [qm] at hm
  | _=>simp [qm] at hm
 have Q:(Builtin.zeroCells zv.cells m).toList=(List.replicate m zv.cells.toList).flatten:=by
  unfold Builtin.zeroCells;exact iu _ _ rfl
 have J:LR μ F w ((List.replicate m z).flatten) (Builtin.zeroCells zv.cells m).toList:=by rw [Q]; exact p.rep m
 refine tU (nv:=Builtin.zeroCells zv.cells m) (zv:=zv) hH E hlt C hn c hx J (by simp [O]) h ?_ ?_
 ·intro base' n' cap' b G;cases b;exact GT l hn hi f r c o j g G
 ·intro base' n' cap' ov b K B D L;cases b;exact EU l hn hi f r c o j g L K B D
def yR:∀ (cs:List AV) (s r:ByteArray) (nv:List Value),xE cs s=some r->LR μ F w cs nv->∃ a:List Int,nv=a.map (Value.int .u8)/\r=a.foldl (fun r n=>r.push (UInt8.ofNat n.toNat)) s
 | [],s,r,nv,h,hl=>by
  have:=hl.1
  cases nv with
  | nil=>cases h; exact ⟨[],rfl,rfl⟩
  | cons x nv=>simp at this
 | c :: cs,s,r,nv,h,hl=>by
  cases nv with
  | nil=>have:=hl.1; simp at this
  | cons x nv =>
   have hx:=hl.head;obtain ⟨q,rfl⟩:∃ q,c=.int .u8 q:=by
    unfold xE at h;split at h
    ·rename_i e; cases e
    ·rename_i e; cases e; exact ⟨_,rfl⟩
    ·cases h
   simp only [xE] at h;cases hx;obtain ⟨a,h1,h2⟩:=yR cs _ r nv h hl.tail;exact ⟨q :: a,by rw [h1]; rfl,by rw [h2]; rfl⟩
def Fi {d dst e:TypeId} {x:AV} {f:Value} {s:ByteArray} (hs:P.underlying d=some (.slice e)) (he:P.underlying e=some (.int .u8)) (hd:P.underlying dst=some .string)
  (hH:HR P μ F H w) (hx:VR μ F w x f) (h:Dr H x=some s):(convert d dst f).run P w=.ok (.string s) w:=by
 have o:∀ t,x ≠ .str t:=fun t e=>by subst e; simp [Dr] at h
 have h':(match gJ x with | none=>none | some n=>match aK H 1 n x with | none=>none | some cs=>xE cs .empty)=some s:=by
  unfold Dr at h;split at h
  ·cases h
  ·exact h
 split at h'
 ·cases h'
 ·rename_i n hn;split at h'
  ·cases h'
  ·rename_i cs i;obtain ⟨-,nv,q,m⟩:=mA (P:=P) hH hx i;obtain ⟨c,p,rfl⟩:=yR _ _ _ _ h' m;have g:=sL (P:=P) hx hn;have b:=q w rfl;subst p;obtain ⟨base,k,cap,rfl⟩:∃ base k cap,f=.slice base k cap:=by
    cases x <;> simp only [gJ] at hn <;> first | (cases hn; done) | skip
    ·exact absurd rfl (o _)
    ·cases hx; exact ⟨_,_,_,rfl⟩
    ·cases hx <;> exact ⟨_,_,_,rfl⟩
    ·cases hx; exact ⟨_,_,_,rfl⟩
   rw [run_convert_bytes_string w d dst e base k cap hs he hd];have j:k=n:=by
    have e:(Builtin.lenOf (.slice base k cap)).run P w=.ok k w:=rfl;rw [e] at g;cases g; rfl
   subst j;cases base with
   | none =>
    have:c=[]:=by
     have e:(Builtin.firstCells 1 k (.slice none k cap)).run P w=.ok #[] w:=rfl;rw [e] at b;cases c with
     | nil=>rfl
     | cons a l=>simp at b
    subst this;simp [Conv.bytesToString]
   | some a =>
    simp only [Builtin.firstCells,XP] at b;exact run_bytesToString w a k cap c b
def En (w:World) (arr:Array Value) (ty:TypeId):(w.alloc (.cells arr ty)).freeze ⟨w.heap.size,arr.size,none⟩ 1=w.alloc (.cells arr ty (arr.size,arr.size+1)):=by
 simp only [World.freeze,World.alloc];rw [if_neg zO];congr 1
 apply Array.ext_getElem?
 intro j;rw [YD];by_cases hj:w.heap.size=j
 ·subst hj; simp
 ·rw [if_neg hj,Zi,Zi,if_neg (Ne.symm hj),if_neg (Ne.symm hj)]
def BO {a dst e:TypeId} {j:Value} {s:ByteArray} {id:Nat} (hs:P.underlying a=some .string) (he:P.underlying e=some (.int .u8)) (hd:P.underlying dst=some (.slice e)) (q:sizeOf? P e=some 1)
  (hH:HR P μ F H w) (n:μ id=none) (hlt:id<H.next) (k:I id) (hx:VR μ F w (.str s) j) :
  ∃ u w' μ',(convert a dst j).run P w=.ok u w'/\iS I P μ F H w (.own id 0 s.size s.size 1 false) (H.put id (.cells (s.data.toList.map fun b=>.int .u8 b.toNat) e false)) u w' μ':=by
 cases hx;obtain ⟨cap,m,hq⟩:∃ cap,s.size<=cap/\(choose (Question.appendCap s.size 0 e)).run P w=.ok cap { w with drawn:=w.drawn+1 } :=
  ⟨(Question.appendCap s.size 0 e).cut (w.tape w.drawn (Question.appendCap s.size 0 e)),by simp [Question.cut],by rw [run_choose,if_neg (by simp [Question.forced])]⟩
 obtain ⟨arr,d⟩:∃ arr:Array Value,arr=(s.data.map fun b=>Value.int .u8 b.toNat)++Array.replicate (cap-s.size) (.int .u8 0):=⟨_,rfl⟩
 have t:s.data.size=s.size:=rfl;have g:arr.size=cap:=by rw [d]; simp; omega
 have o:(convert a dst (.string s)).run P w=.ok (.slice (some ⟨w.heap.size,0,none⟩) s.size cap) (({ w with drawn:=w.drawn+1 }:World).alloc (.cells arr e (arr.size,arr.size+1))):=by
  have h1:(convert a dst (.string s)).run P w=(Conv.stringToBytes e s).run P w:=by
   simp [convert,run_underlying hs,run_underlying hd,run_underlying he]
  rw [h1];unfold Conv.stringToBytes;simp only [Sem.run_bind,hq,Result.andThen_ok,<- d,gS,Sem.run_pure];have h2:(markStringish ⟨w.heap.size,0,none⟩).run P (({ w with drawn:=w.drawn+1 }:World).alloc (.cells arr e))=.ok () ((({ w with drawn:=w.drawn+1 }:World).alloc (.cells arr e)).freeze ⟨w.heap.size,arr.size,none⟩ 1):=by
   have hh:(({ w with drawn:=w.drawn+1 }:World).alloc (.cells arr e)).heap[w.heap.size]? = some (.cells arr e):=by simp [World.alloc]
   have p:(({ w with drawn:=w.drawn+1 }:World).alloc (.cells arr e)).shape? w.heap.size=some (e,arr.size):=by simp only [World.shape?,hh]
   unfold markStringish;simp only [Sem.run_bind,run_shape,p,Result.andThen_ok,run_freeze]
  have h3:=En ({ w with drawn:=w.drawn+1 }:World) arr e;have h3:(({ w with drawn:=w.drawn+1 }:World).alloc (.cells arr e)).freeze ⟨w.heap.size,arr.size,none⟩ 1=({ w with drawn:=w.drawn+1 }:World).alloc (.cells arr e (arr.size,arr.size+1)):=h3;rw [h3] at h2;rw [h2];rfl
 obtain ⟨q1,q2⟩:=pd (I:=I) hH n hlt (.cells arr e (arr.size,arr.size+1)) (.cells (s.data.toList.map fun b=>AV.int .u8 b.toNat) e false) arr.size 1 (fun w' x hn r =>
  ⟨arr,(arr.size,arr.size+1),hn,rfl,q,by simp [g]; omega,fun i c v hc f=>by
   rw [Xq,WE] at hc;obtain ⟨b,hb,rfl⟩:=hc;have hi:i<s.data.size:=by
    have:=(WI.1 hb).1
    simpa using this
   rw [d,XT (by simpa using hi),Array.getElem?_map] at f;have l:s.data[i]? = some b:=by simpa using hb
   rw [l] at f;cases f;exact .int _ _,fun h=>(by cases h),fun _=>trivial⟩) k ({ w with drawn:=w.drawn+1 }:World) rfl Tp.draw rfl rfl
 exact ⟨_,_,_,o,.own id 0 s.size s.size 1 false _ cap (upd_same id _) rfl (Jv _) m (fun h=>by cases h) (by simp [g]),q1,q2⟩
def JN (hH:HR P μ F H w) {x:Operand} {cs:List AV} (h:Iv x=some cs) {a:Act}:VR μ F w (.dp cs 0) (a.eval x):=by
 cases x with
 | global g=>exact hH.gl _ _ h
 | _=>cases h
def F5 {o:Oper} {ao:AOp} {v:AV} {H':Heap} {id:Nat} (hc:GL P o=some ao) (hp:bj (Src.ev T) H id ao=some (v,H')) (hT:LR μ F w T a.tmps.toList) (hH:HR P μ F H w)
  (B:μ id=none) (hlt:id<H.next) (A:I id):∃ u w' μ',Ub P a w o u w'/\iS I P μ F H w v H' u w' μ':=by
 obtain ⟨dst,op,ty,pos,aG,guard⟩:=o;cases op <;> simp only [GL] at hc
 case alloc e =>
  simp only [C6,eD] at hc;obtain ⟨z,g,hc⟩:=hc; cases hc;simp only [bj] at hp; cases hp;obtain ⟨u,w',μ',h1,h2⟩:=GU g hH B hlt A;exact ⟨u,w',μ',.inl (cJ h1),h2⟩
 case box e x =>
  simp only [C6,eD] at hc;obtain ⟨n,hn,s,hs,hc⟩:=hc; cases hc;simp only [bj] at hp;split at hp
  ·rename_i h1;cases hp;obtain ⟨u,w',μ',h1,h2⟩:=Ma hn (aR hT hs) h1 hH B hlt A;exact ⟨u,w',μ',.inl (cJ h1),h2⟩
  ·cases hp
 case buildSlice t len parts =>
  simp only [C6,eD] at hc;obtain ⟨d,hd,hc⟩:=hc;split at hc
  ·rename_i e;simp only [eD] at hc;obtain ⟨n,hn,z,g,ps,aw,hc⟩:=hc;split at hc
   ·rename_i aj;cases hc;simp only [bj] at hp;split at hp
    ·cases hp
    ·rename_i cs hf;cases hp;obtain ⟨u,w',μ',h1,h2⟩:=xF (parts:=parts.toList) hT hd hn g aj.2 aj.1 aw hf hH B hlt A;refine ⟨u,w',μ',.inl (cJ ?_),h2⟩
     simpa using h1
   ·cases hc
  ·cases hc
 case indexAddr t x i =>
  simp only [C6,eD] at hc;obtain ⟨d,hd,hc⟩:=hc;split at hc
  ·simp only [eD] at hc;obtain ⟨n,hn,Y,C,si,V,hc⟩:=hc; cases hc; cases hp
  ·rename_i len e;split at hc
   ·rename_i cs aa;simp only [eD] at hc;obtain ⟨n,hn,si,V,hc⟩:=hc; cases hc;simp only [bj] at hp;split at hp
    ·rename_i ix am;split at hp
     ·rename_i hlt;cases hp;obtain ⟨k,q⟩:=gO am (aR hT V);have hx:=JN hH aa (a:=a)
      generalize G:a.eval x=Z at hx
      cases hx with
      | dp _ _ blk off arr aE fr M N g4 g5 =>
       have ax:(Instr.indexAt t (a.eval x) (a.eval i)).run P w=.ok (.pointer (some ⟨blk,off+0+ix*n,none⟩)) w:=by
        rw [G,q];simp [Instr.indexAt,Instr.sureAddr,asIntOf,run_underlying hd,co hn,j9,hlt]
       refine ⟨_,w,μ,.inl (cJ ax),⟨?_,hH,Stp.refl _ _ _ _ _ _⟩⟩;rw [Ye];exact .dp _ _ blk off arr aE fr M N g4 g5
     ·cases hp
    ·cases hp
   ·simp only [eD] at hc;obtain ⟨n,hn,Y,C,si,V,hc⟩:=hc; cases hc; cases hp
  ·cases hc
 case load t x =>
  split at hc
  ·rename_i cs aa;simp only [C6,eD] at hc;obtain ⟨k,q,hc⟩:=hc; cases hc;simp only [bj,WE] at hp;obtain ⟨K,j,hp⟩:=hp;cases hp;obtain ⟨u,h1,h2⟩:=AA hH q (JN hH aa (a:=a)) (v:=v) j;exact ⟨u,w,μ,.inl (cJ h1),⟨h2,hH,Stp.refl _ _ _ _ _ _⟩⟩
  simp only [C6,eD] at hc;obtain ⟨k,q,s,hs,hc⟩:=hc; cases hc;simp only [bj,WE] at hp;obtain ⟨K,j,hp⟩:=hp;cases hp;obtain ⟨u,h1,h2⟩:=AA hH q (aR hT hs) j;exact ⟨u,w,μ,.inl (cJ h1),⟨h2,hH,Stp.refl _ _ _ _ _ _⟩⟩
 case convert ta tb x =>
  simp only [C6,eD] at hc;obtain ⟨d,hd,d',J,hc⟩:=hc;split at hc
  ·simp only [eD] at hc;obtain ⟨s,hs,hc⟩:=hc;cases hc; cases hp
  ·simp only [eD] at hc;obtain ⟨s,hs,hc⟩:=hc;cases hc; cases hp
  ·simp only [eD] at hc;obtain ⟨e,he,hc⟩:=hc;split at hc
   ·simp only [eD] at hc;obtain ⟨s,hs,hc⟩:=hc;cases hc;simp only [bj,WE] at hp;obtain ⟨r,hr,hp⟩:=hp;cases hp;exact ⟨_,w,μ,.inl (cJ (Fi hd he J hH (aR hT hs) hr)),⟨.str _,hH,Stp.refl _ _ _ _ _ _⟩⟩
   ·cases hc
  ·simp only [eD] at hc;obtain ⟨e,he,hc⟩:=hc;split at hc
   ·simp only [eD] at hc;obtain ⟨n,hn,hc⟩:=hc;split at hc
    ·rename_i av;subst av;simp only [eD] at hc;obtain ⟨s,hs,hc⟩:=hc;cases hc;simp only [bj] at hp;split at hp
     ·rename_i str af;cases hp;obtain ⟨u,w',μ',h1,h2⟩:=BO hd he J hn hH B hlt A (af ▸ aR hT hs);exact ⟨u,w',μ',.inl (cJ h1),h2⟩
     ·cases hp
    ·cases hc
   ·cases hc
  ·cases hc
 case store t x y =>
  simp only [C6,eD] at hc;obtain ⟨n,hn,Y,C,sy,aB,hc⟩:=hc; cases hc;simp only [bj,WE] at hp;obtain ⟨K,j,hp⟩:=hp;cases hp;obtain ⟨w',h1,h2⟩:=Fl (I:=I) hn hH (aR hT C) (aR hT aB) j;exact ⟨undef,w',μ,.inr ⟨Wi h1,rfl⟩,h2⟩
 case makeMap t r =>
  simp only [C6,eD] at hc;obtain ⟨d,hd,hc⟩:=hc;split at hc
  ·split at hc
   ·rename_i hr;cases hc;simp only [bj] at hp; cases hp;obtain rfl:r=none:=by simpa using hr
    obtain ⟨u,w',μ',h1,h2⟩:=FR (t:=t) hH B hlt A;exact ⟨u,w',μ',.inl (cJ h1),h2⟩
   ·cases hc
  ·cases hc
 case makeSlice t l c =>
  simp only [C6,eD] at hc;obtain ⟨d,hd,hc⟩:=hc;split at hc
  ·rename_i e;simp only [eD] at hc;obtain ⟨n,hn,b,hb,z,g,sl,aA,sc,az,hc⟩:=hc; cases hc;simp only [bj] at hp;split at hp
   ·rename_i l' c' ar al;split at hp
    ·rename_i E;cases hp;obtain ⟨kl,aq⟩:=gO ar (aR hT aA);obtain ⟨kc,aI⟩:=gO al (aR hT az);obtain ⟨u,w',μ',h1,h2⟩:=Id hd hn hb g E.2.2.2 aq aI E.1 E.2.1 E.2.2.1 hH B hlt A;exact ⟨u,w',μ',.inl (cJ h1),h2⟩
    ·cases hp
   ·cases hp
  ·cases hc
 case lookup t x i ok =>
  simp only [C6,eD] at hc;obtain ⟨d,hd,hc⟩:=hc;split at hc
  ·rename_i kt e;split at hc
   ·rename_i q;simp only [eD] at hc;obtain ⟨zv,aC,kd,R,z,g,Y,C,si,V,hc⟩:=hc; cases hc;simp only [bj,WE] at hp;obtain ⟨K,j,hp⟩:=hp;cases hp;obtain ⟨u,h1,h2⟩:=D9 hH hd q R (eD.2 aC) g (aR hT C) (aR hT V) j;exact ⟨u,w,μ,.inl (cJ h1),⟨h2,hH,Stp.refl _ _ _ _ _ _⟩⟩
   ·cases hc
  ·cases hc
 case range t x =>
  simp only [C6,eD] at hc;obtain ⟨d,hd,hc⟩:=hc;split at hc
  ·simp only [eD] at hc;obtain ⟨s,hs,hc⟩:=hc;cases hc;simp only [bj] at hp;split at hp
   ·rename_i str af;cases hp;obtain ⟨u,w',μ',h1,h2⟩:=DL (I:=I) hd hH B hlt A (af ▸ aR hT hs);exact ⟨u,w',μ',.inl (cJ h1),h2⟩
   ·cases hp
  ·cases hc
 case next x sb =>
  split at hc
  ·rename_i ay;subst ay;simp only [WE] at hc;obtain ⟨s,hs,hc⟩:=hc;cases hc;simp only [bj] at hp;obtain ⟨u,w',h1,h2⟩:=FO (I:=I) (ty:=ty) hH (aR hT hs) hp;exact ⟨u,w',μ,.inl (cJ h1),h2⟩
  ·cases hc
 case mapUpdate t m k x =>
  simp only [C6,eD] at hc;obtain ⟨d,hd,hc⟩:=hc;split at hc
  ·rename_i kt e;split at hc
   ·rename_i q;simp only [eD] at hc;obtain ⟨kd,R,sm,ae,sk,ad,Y,C,hc⟩:=hc; cases hc;simp only [bj,WE] at hp;obtain ⟨K,j,hp⟩:=hp;cases hp;obtain ⟨w',h1,h2⟩:=vw (I:=I) hH hd q R (aR hT ae) (aR hT ad) (aR hT C) j;exact ⟨undef,w',μ,.inr ⟨Wi h1,rfl⟩,h2⟩
   ·cases hc
  ·cases hc
 case insert t m k x =>
  simp only [C6,eD] at hc;obtain ⟨d,hd,hc⟩:=hc;split at hc
  ·rename_i kt e;split at hc
   ·rename_i q;simp only [eD] at hc;obtain ⟨kd,R,sm,ae,sk,ad,Y,C,hc⟩:=hc; cases hc;simp only [bj,WE] at hp;obtain ⟨K,j,hp⟩:=hp;cases hp;obtain ⟨w',h1,h2⟩:=vw (I:=I) hH hd q R (aR hT ae) (aR hT ad) (aR hT C) j;exact ⟨undef,w',μ,.inr ⟨Wi h1,rfl⟩,h2⟩
   ·cases hc
  ·cases hc
 case call c =>
  simp only [C6,eD] at hc;obtain ⟨args,hargs,hc⟩:=hc;obtain ⟨callee,D,argTypes⟩:=c;simp only at hc hargs;cases callee with
  | value f =>
   simp only [eD] at hc;obtain ⟨s,hs,hc⟩:=hc; cases hc; cases hp
  | invoke r m=>cases hc
  | builtin b =>
   have ak:∀ {x y:TypeId},argTypes.toList=[x,y]->argTypes = #[x,y]:=by
    intro x y h; obtain ⟨l⟩:=argTypes; simp at h; subst h; rfl
   have one:∀ {x:TypeId},argTypes.toList=[x]->argTypes = #[x]:=by
    intro x h; obtain ⟨l⟩:=argTypes; simp at h; subst h; rfl
   simp only at hc;split at hc
   ·
    simp only [eD] at hc;obtain ⟨d,hd,hc⟩:=hc;split at hc
    ·cases hc; cases hp
    ·cases hc; cases hp
    ·rename_i kt e;cases hc;obtain ⟨Z,W,hr⟩:=Jm hT hargs;have p:=one (by assumption);simp only [bj] at hp;split at hp
     ·rename_i e'; rw [e'] at hr; cases hp; cases hr;exact ⟨_,w,μ,.inl (fC (s:=Builtin.len_ argTypes ty (D.map a.eval)) (by rw [W,p]; simp [Builtin.len_,run_underlying hd]; rfl) (fun _=>rfl)),⟨.int _ _,hH,Stp.refl _ _ _ _ _ _⟩⟩
     ·rename_i b e'; rw [e'] at hr;split at hp
      ·rename_i es hb;cases hp;cases hr with
       | map _ L hL =>
       obtain ⟨L',O,hE⟩:=hH.ent b _ hb;rw [hL] at O; cases O;obtain ⟨aH,xs,c,M,N,g3⟩:=hE;have ag:xs.size=es.length:=by have:=N.1; simp at this; omega
       refine ⟨_,w,μ,.inl (fC (s:=Builtin.len_ argTypes ty (D.map a.eval)) (by rw [W,p]; simp [Builtin.len_,run_underlying hd,mS M]; rfl) (fun _=>rfl)),⟨?_,hH,Stp.refl _ _ _ _ _ _⟩⟩;rw [ag];exact .int _ _
      ·rename_i es hb;cases hp;cases hr with
       | map _ L hL =>
       obtain ⟨L',O,hE⟩:=hH.ent b _ hb;rw [hL] at O; cases O;obtain ⟨xs,c,M,N,g3⟩:=hE;have ag:xs.size=es.length:=by have:=N.1; simp at this; omega
       refine ⟨_,w,μ,.inl (fC (s:=Builtin.len_ argTypes ty (D.map a.eval)) (by rw [W,p]; simp [Builtin.len_,run_underlying hd,mS M]; rfl) (fun _=>rfl)),⟨?_,hH,Stp.refl _ _ _ _ _ _⟩⟩;rw [ag];exact .int _ _
      ·cases hp
     ·cases hp
    ·cases hc
   ·
    simp only [eD] at hc;obtain ⟨d,hd,hc⟩:=hc;split at hc
    ·cases hc; cases hp
    ·cases hc
   ·cases hc; cases hp
   ·cases hc; cases hp
   ·
    simp only [eD] at hc;obtain ⟨d,hd,d',J,hc⟩:=hc;have p:=ak (by assumption);obtain ⟨Z,vy,G,S,U⟩:=Fd hT hargs;split at hc
    ·rename_i e e';simp only [eD] at hc;obtain ⟨n,hn,z,g,hc⟩:=hc;split at hc
     ·rename_i X;simp only [eD] at hc;obtain ⟨ah,Q,hc⟩:=hc;cases hc;simp only [bj] at hp;split at hp
      ·cases hp
      ·rename_i m hm;split at hp
       ·cases hp
       ·rename_i aD ab;obtain ⟨u,w',μ',h1,h2⟩:=wz (ty:=ty) hd hn Q g X (.inl ⟨e',J⟩) hH B hlt A S U hm ab hp;exact ⟨u,w',μ',.inl (fC (s:=Builtin.append_ argTypes ty (D.map a.eval)) (by rw [G,p]; exact h1) (fun _=>rfl)),h2⟩
     ·cases hc
    ·rename_i e;simp only [eD] at hc;obtain ⟨n,hn,z,g,hc⟩:=hc;split at hc
     ·rename_i X;simp only [eD] at hc;obtain ⟨ah,Q,hc⟩:=hc;cases hc;simp only [bj] at hp;split at hp
      ·cases hp
      ·rename_i m hm;split at hp
       ·cases hp
       ·rename_i aD ab;obtain ⟨u,w',μ',h1,h2⟩:=wz (ty:=ty) hd hn Q g X (.inr J) hH B hlt A S U hm ab hp;exact ⟨u,w',μ',.inl (fC (s:=Builtin.append_ argTypes ty (D.map a.eval)) (by rw [G,p]; exact h1) (fun _=>rfl)),h2⟩
     ·cases hc
    ·rename_i e;simp only [eD] at hc;obtain ⟨n,hn,z,g,hc⟩:=hc;split at hc
     ·rename_i X;simp only [eD] at hc;obtain ⟨ah,Q,hc⟩:=hc;cases hc;simp only [bj] at hp;split at hp
      ·cases hp
      ·rename_i m hm;split at hp
       ·rename_i E;obtain ⟨u,w',μ',h1,h2⟩:=BZ (ty:=ty) hd hn Q g X J hH B hlt A S U hm E.2.1 E.2.2 hp;exact ⟨u,w',μ',.inl (fC (s:=Builtin.append_ argTypes ty (D.map a.eval)) (by rw [G,p]; exact h1) (fun _=>rfl)),h2⟩
       ·cases hp
     ·cases hc
    ·cases hc
   ·
    simp only [eD] at hc;obtain ⟨d,hd,hc⟩:=hc;split at hc
    ·rename_i e;simp only [eD] at hc;obtain ⟨n,hn,z,g,hc⟩:=hc;cases hc;obtain ⟨Z,W,hr⟩:=Jm hT hargs;have p:=one (by assumption);simp only [bj,WE] at hp;obtain ⟨K,j,hp⟩:=hp;cases hp;obtain ⟨u,w',h1,h2⟩:=GC (I:=I) (ty:=ty) hd hn g hH hr j;exact ⟨u,w',μ,.inl (fC (s:=Builtin.clear_ argTypes ty (D.map a.eval)) (by rw [W,p]; exact h1) (fun _=>rfl)),h2⟩
    ·cases hc
   ·
    simp only [eD] at hc;obtain ⟨d,hd,hc⟩:=hc;split at hc
    ·rename_i e;simp only [eD] at hc;obtain ⟨n,hn,hc⟩:=hc;cases hc;obtain ⟨Z,vy,G,S,U⟩:=Fd hT hargs;have p:=ak (by assumption);simp only [bj] at hp;obtain ⟨u,w',h1,h2⟩:=II (I:=I) (ty:=ty) hd hn hH S U hp;exact ⟨u,w',μ,.inl (fC (s:=Builtin.copy_ argTypes ty (D.map a.eval)) (by rw [G,p]; exact h1) (fun _=>rfl)),h2⟩
    ·cases hc
   ·cases hc
 all_goals (try simp only [C6,eD,WE] at hc)
 all_goals (repeat' (first | (cases hc; done) | (obtain ⟨_,_,hc⟩:=hc) | (simp only [eD] at hc) | (split at hc)))
 all_goals first | (cases hp; done) | (cases hc; cases hp; done)
end
def Runs (F:Fence) (n:Nat) (P:Program) (r:Result Next) (post:Value->World->Prop):Prop :=
 match r with
 | .ok (.value u) w'=>post u w'
 | .ok (.enter f args) w'=>CallsIn F n P f args w' fun e a=>∃ u,e=.returned u/\post u a
 | .ok (.round l f tmps b body) w'=>RoundIn F n P l f tmps b body w' fun e a=>∃ u,e=.returned u/\post u a
 | _=>False
def FenceOK (F:Fence) (rd:Bool):Prop:=(rd=false/\F=Fence.wide)\/(rd=true/\∃ l,F=Fence.wide.inRound l)
def sZ:Nat->Prop:=fun _=>False
def nE (P:Program) (μ:Mu) (t:Task) (vs:List Value) (w:World):Result Next :=
 match t with
 | .fn f _=>(callFunc f vs.toArray).run P w
 | .ent f _=>(callFunc f vs.toArray).run P w
 | .round b _=>match μ b with
  | some L=>(Instr.yield L.blk vs.toArray).run P w
  | none=>.halt (.stuck "") w
def Task.args:Task->List AV
 | .fn _ args=>args
 | .round _ args=>args
 | .ent _ args=>args
def oi (P:Program) (cal:oR):Prop:=∀ t H v H',cal t H=some (v,H')->∀ (μ:Mu) (F:Nat->Prop) (w:World) (vs:List Value) (fence:Fence) (rd:Bool) (n:Nat),FenceOK fence rd->HR P μ F H w->LR μ F w t.args vs ->
 (∀ b args,t=.round b args->∃ L,μ b=some L) ->
 (∀ f args,t=.ent f args->(callFunc f vs.toArray).run P w=.ok (.enter f vs.toArray) w)/\Runs fence n P (nE P μ t vs w) fun u w'=>∃ μ',iS sZ P μ F H w v H' u w' μ'
section
variable {P:Program}
def Runs.mono {F:Fence} {n:Nat} {r:Result Next} {p q:Value->World->Prop} (h:Runs F n P r p) (a:∀ u w,p u w->q u w):Runs F n P r q:=by
 unfold Runs at *;split at h
 ·exact a _ _ h
 ·exact h.mono fun e w ⟨u,h1,h2⟩=>⟨u,h1,a _ _ h2⟩
 ·exact h.mono fun e w ⟨u,h1,h2⟩=>⟨u,h1,a _ _ h2⟩
 ·exact h.elim
def FenceOK.fn {F:Fence} {rd:Bool} (h:FenceOK F rd) (f:FuncId):F.fn f:=by
 rcases h with ⟨_,rfl⟩ | ⟨_,l,rfl⟩ <;> trivial
def FenceOK.depth {F:Fence} {rd:Bool} (h:FenceOK F rd) (n:Nat):F.depth.isSome=true->1<=n:=by
 rcases h with ⟨_,rfl⟩ | ⟨_,l,rfl⟩ <;> intro h <;> cases h
def Cn {fence:Fence} {rd:Bool} {n:Nat} {o:Oper} {a:Act} {w w':World} {u:Value} {next:Act->World->Prop} {Q:Exit->Act->World->Prop} (b:FenceOK fence rd) (hd:∀ c,o.op ≠ .defer c)
  (h:Ub P a w o u w') (hn:next (a.put o.dst u) w'):o.wpIn fence n P a w next Q:=by
 refine ⟨fun f _=>b.fn f,?_⟩;rw [Oper.semAt_eq _ _ _ hd];rcases h with h | ⟨h,rfl⟩
 ·rw [h]; exact hn
 ·rw [h]; exact hn
def Lg {fence:Fence} {rd:Bool} {n:Nat} {o:Oper} {a:Act} {w:World} {next:Act->World->Prop} {Q:Exit->Act->World->Prop} (b:FenceOK fence rd) (hd:∀ c,o.op ≠ .defer c)
  (h:Runs fence (n-1) P ((execOp a.eval o).run P w) fun u w'=>next (a.put o.dst u) w'):o.wpIn fence n P a w next Q:=by
 refine ⟨fun f _=>b.fn f,?_⟩;rw [Oper.semAt_eq _ _ _ hd]
 generalize (execOp a.eval o).run P w=r at h
 unfold Runs at h;split at h
 ·exact h
 ·exact ⟨b.depth n,h.mono fun e w ⟨u,h1,h2⟩=>by subst h1; exact h2⟩
 ·exact ⟨b.depth n,h.mono fun e w ⟨u,h1,h2⟩=>by subst h1; exact h2⟩
 ·exact h.elim
def L9 {o:Oper} {a:AOp} (h:GL P o=some a):∀ c,o.op ≠ .defer c:=by
 intro c hc;unfold GL at h;rw [hc] at h;cases h
variable {μ:Mu} {F:Nat->Prop} {H:Heap} {w:World} {T:Tm} {a:Act}
def Fj {cal:oR} (j:oi P cal) {f:AV} {args:List AV} {t:Task} {v:AV} {H':Heap} {m:Value} {vs:List Value} (k:VR μ F w f m) (hargs:LR μ F w args vs) (a:jd f args=some t)
  (h:cal t H=some (v,H')) (hH:HR P μ F H w) {fence:Fence} {rd:Bool} (i:FenceOK fence rd) (n:Nat) {c:Call} {ty:TypeId} {ρ:Operand->Value} {g:Operand} (hc:c.callee=.value g) (hg:ρ g=m) (o:(c.args.map ρ).toList=vs) :
  Runs fence n P ((do let d <- resolve ρ c ty; invoke d.target d.args:Sem Next).run P w) fun u w'=>∃ μ',iS sZ P μ F H w v H' u w' μ':=by
 have l:c.args.map ρ=vs.toArray:=by rw [<- o]
 cases f <;> simp only [jd] at a <;> first | (cases a; done) | skip
 ·rename_i fn first cap
  cases fn <;> simp only at a <;> first | (cases a; done) | skip
  rename_i fi;cases a;cases k with
  | fn _ _ _ us p h1 h2 h3 h4 =>
  have hl:=((LR.of_agg h1 h2).append hargs).append (LR.of_agg h3 h4)
  have:=(j _ _ _ _ h μ F w _ fence rd n i hH hl (fun b args e=>by cases e)).2
  simp only [nE] at this;have e:(do let d <- resolve ρ c ty; invoke d.target d.args:Sem Next).run P w=(callFunc fi (us.toList++vs++p.toList).toArray).run P w:=by
   simp only [resolve,hc,hg,l,Deferred.ofValue,Sem.run_bind,Sem.run_pure,Result.andThen_ok,invoke];congr 2
   apply Array.ext'; simp
  rw [e]; exact this
 ·rename_i b;cases a;cases k with
  | loopv _ L hL =>
  have:=(j _ _ _ _ h μ F w vs fence rd n i hH hargs (fun b' q e=>by cases e; exact ⟨L,hL⟩)).2
  simp only [nE,hL] at this;have e:(do let d <- resolve ρ c ty; invoke d.target d.args:Sem Next).run P w=(Instr.yield L.blk vs.toArray).run P w:=by
   simp only [resolve,hc,hg,l,Deferred.ofValue,Sem.run_bind,Sem.run_pure,Result.andThen_ok,invoke];congr 2
   apply Array.ext'; simp
  rw [e]; exact this
def sF {cal:oR} (y:oi P cal) {I:Nat->Prop} {o:Oper} {i:AOp} {v:AV} {H':Heap} {id:Nat} (hc:GL P o=some i) (hp:Ao cal (Src.ev T) H id i=some (v,H')) (hT:LR μ F w T a.tmps.toList) (hH:HR P μ F H w)
  (A:μ id=none) (hlt:id<H.next) (p:I id) {fence:Fence} {rd:Bool} (j:FenceOK fence rd) {n:Nat} {next:Act->World->Prop} {Q:Exit->Act->World->Prop}
  (hn:∀ u w' μ',iS I P μ F H w v H' u w' μ'->next (a.put o.dst u) w'):o.wpIn fence n P a w next Q:=by
 have hd:=L9 hc;have l:(match aT (Src.ev T) i with | some v=>some (v,H) | none=>bj (Src.ev T) H id i)=some (v,H')->o.wpIn fence n P a w next Q:=by
  intro hp;split at hp
  ·rename_i G D;cases hp;obtain ⟨u,h1,h2⟩:=FG hc D hT;exact Cn j hd (.inl h1) (hn u w μ ⟨h2,hH,Stp.refl _ _ _ _ _ _⟩)
  ·obtain ⟨u,w',μ',h1,h2⟩:=F5 hc hp hT hH A hlt p;exact Cn j hd h1 (hn u w' μ' h2)
 cases i with
 | call f args =>
  simp only [Ao,C6,eD] at hp;obtain ⟨t,C,hp⟩:=hp;obtain ⟨g,e,argTypes,B,hg,hargs⟩:∃ g e argTypes,o.op=.call ⟨.value g,e,argTypes⟩/\bW g=some f/\e.toList.mapM bW=some args:=by
   obtain ⟨dst,op,ty,pos,E,guard⟩:=o;cases op <;> simp only [GL] at hc
   case next x sb =>
    split at hc
    ·simp only [WE] at hc;obtain ⟨_,_,hc⟩:=hc;cases hc
    ·cases hc
   case call c =>
    simp only [C6,eD] at hc;obtain ⟨as,q,hc⟩:=hc;obtain ⟨callee,e,argTypes⟩:=c;cases callee with
    | value g =>
     simp only [eD] at hc;obtain ⟨s,hs,hc⟩:=hc; cases hc;exact ⟨g,e,argTypes,rfl,hs,q⟩
    | invoke r m=>cases hc
    | builtin b =>
     simp only at hc;split at hc
     all_goals (try simp only [eD] at hc)
     all_goals (repeat' (first | (cases hc; done) | (obtain ⟨_,_,hc⟩:=hc) | (simp only [eD] at hc) | (split at hc)))
   all_goals (try simp only [C6,eD,WE] at hc)
   all_goals (repeat' (first | (cases hc; done) | (obtain ⟨_,_,hc⟩:=hc) | (simp only [eD] at hc) | (split at hc)))
  have hl:=pF hT hargs;refine Lg j hd ?_;have z:execOp a.eval o=(do let d <- resolve a.eval ⟨.value g,e,argTypes⟩ o.type; invoke d.target d.args:Sem Next):=by
   unfold execOp; rw [B]
  rw [z]
  have:=Fj y (aR hT hg) hl C hp hH j (n-1) (c:=⟨.value g,e,argTypes⟩) (ty:=o.type) (ρ:=a.eval) (g:=g) rfl rfl (by simp)
  exact this.mono fun u w' ⟨μ',k⟩=>hn u w' μ' ⟨k.val,k.heap,k.stp.mono fun _ h=>h.elim⟩
 | _=>exact l hp
end
section
variable {P:Program} {μ:Mu} {F:Nat->Prop} {H:Heap} {w:World} {T:Tm} {a:Act}
def HM (hT:LR μ F w T a.tmps.toList) (d:Option Nat) {v:AV} {u:Value} (b:VR μ F w v u):LR μ F w (putT T d v) (a.put d u).tmps.toList:=by
 cases d with
 | none=>exact hT
 | some d=>simp only [putT,Act.put,Zy]; exact hT.set d b
def Ja {μ:Mu} {F:Nat->Prop} {w:World}:VR μ F w (.tup []) undef:=.tup _ _ rfl fun i c v h=>by simp at h
def sr (hT:LR μ F w T a.tmps.toList) {ops:Array Oper} {o:Oper} {g:Option (Nat × Bool)} {b:Bool}
  (hg:Bz ops o.guard=some g) (h:b9 T g=some b):Region.wanted o (yielded ops a.tmps)=b:=by
 unfold Region.wanted;cases f:o.guard with
 | none=>rw [f] at hg; cases hg; cases h; rfl
 | some p =>
  obtain ⟨j,l⟩:=p;rw [f] at hg;simp only [Bz] at hg;split at hg
  ·cases hg
  rename_i k i;split at hg
  ·cases hg
  rename_i d hd;cases hg;simp only [b9] at h;have hy:yielded ops a.tmps j=match a.tmps[d]? with | some (.bool b)=>some b | _=>none:=by
   unfold yielded;rw [i]; simp [hd]; rfl
  simp only [hy];split at h
  ·rename_i c hc;cases h;obtain ⟨v,e,hr⟩:=hT.get hc
   have:a.tmps[d]? = some v:=by simpa using e
   cases hr;rw [this]
   simp
  ·rename_i hc;cases h;obtain ⟨v,e,hr⟩:=hT.get hc
   have:a.tmps[d]? = some v:=by simpa using e
   cases hr;rw [this]
   simp
  ·cases h
def HQ {cal:oR} (N:oi P cal) {fence:Fence} {rd:Bool} (D:FenceOK fence rd) {n:Nat} {ops:Array Oper} {Q:Exit->Act->World->Prop} {T':Tm} {H':Heap} {base top:Nat} {tail:List Nat} :
  ∀ (os:List Oper) (p:List EZ) (i id:Nat) (μ:Mu) (H:Heap) (w:World) (T:Tm) (a:Act),(∀ (k:Nat) (o:Oper),os[k]? = some o->ops[i+k]? = some o)->os.mapM (O4 P ops)=some p->yU cal id p T H=some (T',H')->base<=id->id+os.length<=top->id+os.length<=H.next ->
  (∀ j,id<=j->j<id+os.length->μ j=none)->LR μ F w T a.tmps.toList->HR P μ F H w ->
  (∀ a' w' μ',a'.defers=a.defers->LR μ' F w' T' a'.tmps.toList->HR P μ' F H' w'->Stp (fun b=>base<=b/\b<top) P μ F H w μ' F H' w'->wpOpsIn fence n P ops Q tail a' w') ->
  wpOpsIn fence n P ops Q (List.range' i os.length++tail) a w:=by
 intro os
 induction os with
 | nil =>
  intro p i id μ H w T a A d c _ _ _ _ hT hH l;simp at d; subst d;cases c;exact l a w μ rfl hT hH (Stp.refl _ _ _ _ _ _)
 | cons o os J =>
  intro p i id μ H w T a A d c M V S m hT hH l;simp only [Yd,YS,C6,eD] at d;obtain ⟨r,hr,K,G,d⟩:=d;cases d;have U:ops[i]? = some o:=A 0 o rfl;have E:∀ (k:Nat) (o:Oper),os[k]? = some o->ops[i+1+k]? = some o:=fun k o h=>by
   have:=A (k+1) o (by simpa using h)
   rwa [show i+(k+1)=i+1+k by omega] at this
  simp only [O4,WE] at hr;obtain ⟨g,hg,hr⟩:=hr;cases hr;simp only [W5] at V S m ⊢;simp only [yU] at c;simp only [List.range'_succ,Yn,wpOpsIn,U];split at c
  ·rename_i B;have C:=sr (o:=o) hT hg B;rw [if_pos C];split at c
   ·rename_i v L z;have R:GL P o=some ((GL P o).getD .bad):=by
     cases O:GL P o with
     | some x=>rfl
     | none=>rw [O] at z; simp [Ao,aT,bj] at z
    refine sF N (I:=fun b=>b=id) R z hT hH (m id (Jv _) zO) zO rfl D fun u w' μ' e=>?_;refine J K (i+1) (id+1) μ' L w' _ _ E G c zO zO (by have:=e.stp.next; omega) (fun j h1 h2=>?_) (HM (e.stp.lr hH hT) _ e.val) e.heap fun a' w2 μ2 y t q s=>?_
    ·exact e.stp.new j zO zO (m j zO zO)
    ·refine l a' w2 μ2 (y.trans ?_) t q ((e.stp.mono fun b hb=>?_).trans s)
     ·cases o.dst <;> rfl
     ·subst hb; exact ⟨M,zO⟩
   ·cases c
  ·rename_i B;have C:=sr (o:=o) hT hg B;rw [if_neg (by rw [C]; decide)];refine ⟨fun f _=>D.fn f,?_⟩;refine J K (i+1) (id+1) μ H w _ _ E G c zO zO zO (fun j h1 h2=>m j zO zO) (HM hT _ Ja) hH fun a' w2 μ2 y t q s=>?_;refine l a' w2 μ2 (y.trans ?_) t q s;cases o.dst <;> rfl
  ·cases c
def HR.bump {H:Heap} (h:HR P μ F H w) (k:Nat):HR P μ F { H with next:=H.next+k } w :=
 ⟨fun b L hb=>⟨WP (h.dom b L hb).1 (W3 _ _),(h.dom b L hb).2⟩,h.fb,h.ent,h.inj,h.gl⟩
def kS {H:Heap} (h:HR P μ F H w) {j:Nat} (hj:H.next<=j):μ j=none:=by
 cases hm:μ j with
 | none=>rfl
 | some L=>have:=(h.dom j L hm).1; omega
def DG {cal:oR} (s:oi P cal) {fence:Fence} {rd:Bool} (i:FenceOK fence rd) {n id:Nat} {ops:Array Oper} {d:List EZ} {Q:Exit->Act->World->Prop} {T':Tm} {H':Heap}
  (g:ops.toList.mapM (O4 P ops)=some d) (u:yU cal H.next d T { H with next:=H.next+d.length } = some (T',H')) (hT:LR μ F w T a.tmps.toList) (hH:HR P μ F H w)
  (p:∀ a' w' μ',a'.defers=a.defers->LR μ' F w' T' a'.tmps.toList->HR P μ' F H' w'->Stp sZ P μ F H w μ' F H' w'->Q .normal a' w') :
  (Code.region id ops false).wpIn fence n P Q a w:=by
 refine wpIn_region ?_;have f:d.length=ops.toList.length:=by
  have key:∀ (l:List Oper) (d:List EZ),l.mapM (O4 P ops)=some d->d.length=l.length:=by
   intro l
   induction l with
   | nil=>intro d h; simp at h; subst h; rfl
   | cons o l v =>
    intro d h;simp only [Yd,YS,C6,eD] at h;obtain ⟨r,hr,x,t,h⟩:=h;cases h;simp [v x t]
  exact key _ _ g
 have:=HQ s i (n:=n) (ops:=ops) (Q:=Q) (base:=H.next) (top:=H.next+d.length) (tail:=[]) ops.toList d 0 H.next μ _ w T a (fun k o h=>by simpa using h) g u (Jv _) (by simp [f]) (by simp [f]) (fun j h1 _=>kS hH h1) hT (hH.bump _) (fun a' w' μ' hd q m c=>?_)
 ·rw [List.range_eq_range']; simpa using this
 ·refine p a' w' μ' hd q m ⟨c.mu,c.fr,c.size,c.keep,c.rw,WK (W3 _ _) c.next,fun b hb _ hn=>c.new b (WP hb (W3 _ _)) zO hn,c.rng,fun b e hb hl _=>c.old b e hb (WP hl (W3 _ _)) zO,c.alv,c.tape,c.os,c.out⟩
end
mutual
def AV.beq_eq:∀ (a b:AV),AV.beq a b=true->a=b
 | .undef,b,h=>by cases b <;> simp [AV.beq] at h ⊢
 | .bool a,b,h=>by cases b <;> simp [AV.beq] at h ⊢; exact h
 | .int k a,b,h=>by cases b <;> simp [AV.beq] at h ⊢; exact h
 | .str a,b,h=>by cases b <;> simp [AV.beq] at h ⊢; exact h
 | .nilPtr,b,h=>by cases b <;> simp [AV.beq] at h ⊢
 | .nilSl,b,h=>by cases b <;> simp [AV.beq] at h ⊢
 | .nilFn,b,h=>by cases b <;> simp [AV.beq] at h ⊢
 | .nilIf,b,h=>by cases b <;> simp [AV.beq] at h ⊢
 | .nilMap,b,h=>by cases b <;> simp [AV.beq] at h ⊢
 | .agg a,b,h=>by cases b <;> simp [AV.beq] at h ⊢; exact AV.beqs_eq _ _ h
 | .tup a,b,h=>by cases b <;> simp [AV.beq] at h ⊢; exact AV.beqs_eq _ _ h
 | .sl a n,b,h=>by cases b <;> simp [AV.beq] at h ⊢; exact ⟨AV.beqs_eq _ _ h.1,h.2⟩
 | .dp a n,b,h=>by cases b <;> simp [AV.beq] at h ⊢; exact ⟨AV.beqs_eq _ _ h.1,h.2⟩
 | .own ..,b,h=>by cases b <;> simp [AV.beq] at h ⊢; simpa [and_assoc] using h
 | .ptr ..,b,h=>by cases b <;> simp [AV.beq] at h ⊢; exact h
 | .fn f a c,b,h=>by cases b <;> simp [AV.beq] at h ⊢; exact ⟨h.1.1,AV.beqs_eq _ _ h.1.2,AV.beqs_eq _ _ h.2⟩
 | .ifc t a,b,h=>by cases b <;> simp [AV.beq] at h ⊢; exact ⟨h.1,AV.beq_eq _ _ h.2⟩
 | .map a,b,h=>by cases b <;> simp [AV.beq] at h ⊢; exact h
 | .loopv a,b,h=>by cases b <;> simp [AV.beq] at h ⊢; exact h
def AV.beqs_eq:∀ (a b:List AV),AV.beqs a b=true->a=b
 | [],b,h=>by cases b <;> simp [AV.beqs] at h ⊢
 | x :: a,b,h=>by cases b <;> simp [AV.beqs] at h ⊢; exact ⟨AV.beq_eq _ _ h.1,AV.beqs_eq _ _ h.2⟩
end
def BF (base:Nat) (Es:List (Option Ent)):∀ (adds:List Nat) (C:Heap) (b:Nat),
  (dJ base Es C adds).get b=match (if base<=b/\(b-base)∈adds then Es.getD (b-base) none else none) with | some e=>some e | none=>C.get b:=by
 intro adds
 induction adds with
 | nil=>intro C b; simp [dJ]
 | cons a adds f =>
  intro C b;have d:dJ base Es C (a :: adds)=dJ base Es (match Es.getD a none with | some e=>C.put (base+a) e | none=>C) adds:=rfl;rw [d,f];by_cases hb:base<=b
  ·by_cases hm:b-base∈adds
   ·rw [if_pos ⟨hb,hm⟩,if_pos ⟨hb,SO _ hm⟩];cases he:Es.getD (b-base) none with
    | some e=>rfl
    | none =>
     simp only;by_cases c:b-base=a
     ·subst c; rw [he]
     ·cases Es.getD a none with
      | none=>rfl
      | some e=>simp only [Heap.get_put]; rw [if_neg zO]
   ·rw [if_neg (fun h=>hm h.2)];by_cases c:b-base=a
    ·rw [if_pos ⟨hb,by rw [c]; exact WH ..⟩]
     have:b=base+a:=zO
     subst this;simp only [Zl];cases Es.getD a none with
     | none=>rfl
     | some e=>simp only [Heap.get_put,if_true]
    ·rw [if_neg (fun h=>(WV.1 h.2).elim c hm)];cases Es.getD a none with
     | none=>rfl
     | some e=>simp only [Heap.get_put]; rw [if_neg zO]
  ·rw [if_neg (fun h=>hb h.1),if_neg (fun h=>hb h.1)];cases Es.getD a none with
   | none=>rfl
   | some e=>simp only [Heap.get_put]; rw [if_neg zO]
def mP (base:Nat) (Es:List (Option Ent)):∀ (adds:List Nat) (C:Heap),(dJ base Es C adds).next=C.next:=by
 intro adds
 induction adds with
 | nil=>intro C; rfl
 | cons a adds c =>
  intro C;have b:dJ base Es C (a :: adds)=dJ base Es (match Es.getD a none with | some e=>C.put (base+a) e | none=>C) adds:=rfl;rw [b,c];cases Es.getD a none <;> rfl
def IV (base:Nat) {Es b:List (Option Ent)}:∀ (adds:List Nat) (C:Heap),(∀ a∈adds,Es.getD a none=b.getD a none)->dJ base Es C adds=dJ base b C adds:=by
 intro adds
 induction adds with
 | nil=>intro C _; rfl
 | cons a adds d =>
  intro C h;have c:∀ Es,dJ base Es C (a :: adds)=dJ base Es (match Es.getD a none with | some e=>C.put (base+a) e | none=>C) adds:=fun _=>rfl;rw [c,c,h a (WH ..),d _ (fun x hx=>h x (SO _ hx))]
def Hu {T0:Tm} {Vs a:List AV} {us:List (Nat × Option Nat)} (h:∀ u∈us,∀ j,u.2=some j->Vs.getD j .undef=a.getD j .undef):ct T0 Vs us=ct T0 a us:=by
 unfold ct
 generalize (List.replicate T0.length AV.undef)=T
 induction us generalizing T with
 | nil=>rfl
 | cons u us d =>
  have b:nC T0 Vs u=nC T0 a u:=by
   unfold nC;cases hj:u.2 with
   | none=>rfl
   | some j=>exact h u (WH ..) j hj
  simp only [Ym,b];exact d (fun e c=>h e (SO _ c)) _
def P5 (T0:Tm) (Vs:List AV) (us:List (Nat × Option Nat)):(ct T0 Vs us).length=T0.length /\
  ∀ (t:Nat) (c:AV),(ct T0 Vs us)[t]? = some c->c=.undef\/∃ u∈us,u.1=t/\c=nC T0 Vs u:=by
 have key:∀ (us:List (Nat × Option Nat)) (T:Tm),(us.foldl (fun T u=>T.set u.1 (nC T0 Vs u)) T).length=T.length /\
   ∀ (t:Nat) (c:AV),(us.foldl (fun T u=>T.set u.1 (nC T0 Vs u)) T)[t]? = some c->T[t]? = some c\/∃ u∈us,u.1=t/\c=nC T0 Vs u:=by
  intro us
  induction us with
  | nil=>intro T; exact ⟨rfl,fun t c h=>.inl h⟩
  | cons u us b =>
   intro T;obtain ⟨h1,h2⟩:=b (T.set u.1 (nC T0 Vs u));refine ⟨by rw [Ym,h1,jL],fun t c h=>?_⟩;rw [Ym] at h;rcases h2 t c h with h | ⟨d,a,h⟩
   ·by_cases e:u.1=t
    ·subst e;rw [Y0] at h;cases hc:T[u.1]? with
     | none=>rw [hc] at h; cases h
     | some x=>rw [hc] at h; cases h; exact .inr ⟨u,WH ..,rfl,rfl⟩
    ·rw [Y9 e] at h; exact .inl h
   ·exact .inr ⟨d,SO _ a,h⟩
 obtain ⟨h1,h2⟩:=key us (List.replicate T0.length .undef);refine ⟨by rw [ct,h1,Yu],fun t c h=>?_⟩;rcases h2 t c h with h | h
 ·rw [Xv] at h;split at h
  ·cases h; exact .inl rfl
  ·cases h
 ·exact .inr h
def Pre (s s':DS):Prop:=s.Vs <+: s'.Vs/\s.Cs <+: s'.Cs/\s.Es <+: s'.Es
def Pre.refl (s:DS):Pre s s:=⟨List.prefix_rfl,List.prefix_rfl,List.prefix_rfl⟩
def Pre.trans {a b c:DS} (h:Pre a b) (h':Pre b c):Pre a c:=⟨h.1.trans h'.1,h.2.1.trans h'.2.1,h.2.2.trans h'.2.2⟩
def lx {α:Type} {a b:List α} (h:a <+: b) {i:Nat} (hi:i<a.length) (d:α):b.getD i d=a.getD i d:=by
 obtain ⟨c,rfl⟩:=h;rw [qf,qf,W4 hi]
def wQ {α:Type} {a b:List α} {x:α} (h:a++[x] <+: b) (d:α):b.getD a.length d=x:=by
 rw [lx h (by simp),qf]; simp
def yl {cal:oR} {base:Nat} {T0:Tm} {i:Nat} {d:ke} {s s':DS} (h:kU cal base T0 i d s=some s') (hcl:d.cls=0\/d.cls=1\/d.cls=2) :
  Pre s s'/\s'.Vs.length=s.Vs.length+1/\s'.Es.length=s.Es.length+1/\s'.Cs.length=s.Cs.length+(if d.cls=2 then 1 else 0):=by
 unfold kU at h;cases a:b9 (ct T0 s.Vs d.uses) d.guard with
 | none=>simp only [a] at h; cases h
 | some b =>
  cases b <;> simp only [a] at h <;> rcases hcl with hcl | hcl | hcl <;> simp only [hcl] at h <;> (repeat' (split at h)) <;> first | (cases h; done) | skip
  all_goals (first | (exfalso; rename_i h0 _; exact h0 rfl) | (exfalso; rename_i h0; exact h0 rfl) | skip)
  all_goals (first | (cases h; exact ⟨⟨List.prefix_append _ _,by first | exact List.prefix_append _ _ | exact List.prefix_rfl,List.prefix_append _ _⟩,by simp,by simp,by simp [hcl]⟩) | skip)
def LS {cal:oR} {base:Nat} {T0:Tm}:∀ (ds:List ke) (i:Nat) (a s:DS),(∀ d∈ds,d.cls=0\/d.cls=1\/d.cls=2)->uD cal base T0 i ds a=some s ->
  Pre a s/\s.Vs.length=a.Vs.length+ds.length/\s.Es.length=a.Es.length+ds.length/\s.Cs.length=a.Cs.length+(ds.filter fun d=>d.cls == 2).length /\
  ∀ (q:Nat) (d:ke),ds[q]? = some d->∃ s1 s2,kU cal base T0 (i+q) d s1=some s2/\Pre s2 s/\s1.Vs.length=a.Vs.length+q/\s1.Es.length=a.Es.length+q /\
   s1.Cs.length=a.Cs.length+((ds.take q).filter fun d=>d.cls == 2).length:=by
 intro ds
 induction ds with
 | nil=>intro i a s _ h; cases h; exact ⟨Pre.refl _,rfl,rfl,rfl,fun q d h=>by simp at h⟩
 | cons d ds k =>
  intro i a s hcl h;simp only [uD] at h;split at h
  ·rename_i s1 h1;obtain ⟨g,o,p,r⟩:=yl h1 (hcl d (WH ..));obtain ⟨k1,k2,t,u,l⟩:=k (i+1) s1 s (fun b j=>hcl b (SO _ j)) h;have c:∀ (x:List ke),((d :: x).filter fun d=>d.cls == 2).length=(if d.cls=2 then 1 else 0)+(x.filter fun d=>d.cls == 2).length:=by
    intro x;rw [YI];by_cases hd:d.cls=2
    ·simp [hd]; omega
    ·simp [hd]
   refine ⟨g.trans k1,by simp; omega,by simp; omega,by rw [c]; omega,fun q b hq=>?_⟩;cases q with
   | zero=>simp at hq; subst hq; exact ⟨a,s1,h1,k1,rfl,rfl,rfl⟩
   | succ q =>
    obtain ⟨s2,m,e,f,e3,e4,n⟩:=l q b (by simpa using hq);refine ⟨s2,m,by rw [show i+(q+1)=i+1+q by omega]; exact e,f,zO,zO,?_⟩;rw [List.take_succ_cons,c]; omega
  ·cases h
def T9 (cal:oR) (base:Nat) (T0:Tm) (s:DS) (i:Nat) (d:ke):Prop :=
 (b9 (ct T0 s.Vs d.uses) d.guard=some false/\s.Vs.getD i .undef=.tup []/\s.Es.getD i none=none /\
  (d.cls=2->∀ k adds,d.looks=[(k,adds)]->s.Cs.getD (k+1) default=dJ base s.Es (s.Cs.getD k default) adds)) \/
 (b9 (ct T0 s.Vs d.uses) d.guard=some true /\
  ((d.cls=0/\s.Es.getD i none=none/\(aT (Src.ev (ct T0 s.Vs d.uses)) d.op=some (s.Vs.getD i .undef)\/(aT (Src.ev (ct T0 s.Vs d.uses)) d.op=none/\d.op.looks=true))) \/
   (d.cls=1/\d.op.makes=true/\∃ H',bj (Src.ev (ct T0 s.Vs d.uses)) (Heap.nil 0) (base+i) d.op=some (s.Vs.getD i .undef,H')/\s.Es.getD i none=H'.get (base+i)) \/
   (d.cls=2/\s.Es.getD i none=none/\∀ k adds,d.looks=[(k,adds)]->∃ H',Ao cal (Src.ev (ct T0 s.Vs d.uses)) (dJ base s.Es (s.Cs.getD k default) adds) (base+i) d.op=some (s.Vs.getD i .undef,H')/\H'.next=(s.Cs.getD (k+1) default).next/\∀ b,H'.get b=(s.Cs.getD (k+1) default).get b)))
def Su {cal:oR} {base:Nat} {T0:Tm} {i:Nat} {d:ke} {s1 s2 s:DS} (h:kU cal base T0 i d s1=some s2) (hs:Pre s2 s) (hcl:d.cls=0\/d.cls=1\/d.cls=2)
  (hV:s1.Vs.length=i) (t:s1.Es.length=i) (B:∀ u∈d.uses,∀ j,u.2=some j->j<i)
  (m:d.cls=2->∀ k adds,d.looks=[(k,adds)]->s1.Cs.length=k+1/\∀ a∈adds,a<i):T9 cal base T0 s i d:=by
 have hg:=yl h hcl;have n:Pre s1 s:=hg.1.trans hs;have hT:ct T0 s1.Vs d.uses=ct T0 s.Vs d.uses:=Hu fun u A j hj=>(lx n.1 (by rw [hV]; exact B u A j hj) _).symm;have w:d.cls=2->∀ k adds,d.looks=[(k,adds)]->dJ base s1.Es (s1.Cs.getD k default) adds=dJ base s.Es (s.Cs.getD k default) adds:=by
  intro h2 k adds hl;obtain ⟨x,ha⟩:=m h2 k adds hl;rw [lx n.2.1 zO default];exact IV _ _ _ fun a hm=>(lx n.2.2 (by rw [t]; exact ha a hm) _).symm
 have f:∀ v,s2.Vs=s1.Vs++[v]->s.Vs.getD i .undef=v:=fun v e=>by
  have:=hs.1; rw [e] at this; rw [<- hV]; exact wQ this _
 have c:∀ v,s2.Es=s1.Es++[v]->s.Es.getD i none=v:=fun v e=>by
  have:=hs.2.2; rw [e] at this; rw [<- t]; exact wQ this _
 have q:∀ k v,s1.Cs.length=k+1->s2.Cs=s1.Cs++[v]->s.Cs.getD (k+1) default=v:=fun k v x e=>by
  have:=hs.2.1; rw [e] at this; rw [<- x]; exact wQ this _
 unfold kU at h;rw [hT] at h;unfold T9;cases o:b9 (ct T0 s.Vs d.uses) d.guard with
 | none=>simp only [o] at h; cases h
 | some b =>
 cases b
 ·simp only [o] at h;refine .inl ⟨rfl,?_⟩;rcases hcl with hcl | hcl | hcl
  ·simp only [hcl] at h; cases h; exact ⟨f _ rfl,c _ rfl,fun h2=>by omega⟩
  ·simp only [hcl] at h; cases h; exact ⟨f _ rfl,c _ rfl,fun h2=>by omega⟩
  ·simp only [hcl] at h;cases hl:d.looks with
   | nil=>simp only [hl] at h; cases h
   | cons p r =>
    cases r with
    | cons D r=>simp only [hl] at h; cases h
    | nil =>
     obtain ⟨k,adds⟩:=p;simp only [hl] at h;cases h;refine ⟨f _ rfl,c _ rfl,fun _ C y l=>?_⟩;cases l;rw [<- w hcl _ _ hl];exact q k _ (m hcl _ _ hl).1 rfl
 ·simp only [o] at h;refine .inr ⟨rfl,?_⟩;rcases hcl with hcl | hcl | hcl <;> simp only [hcl] at h
  ·refine .inl ⟨hcl,?_⟩;cases g:aT (Src.ev (ct T0 s.Vs d.uses)) d.op with
   | some v =>
    simp only [g] at h;cases h;exact ⟨c _ rfl,.inl (by rw [f v rfl])⟩
   | none =>
    simp only [g] at h;split at h
    ·split at h
     ·rename_i z;split at h
      ·cases h; exact ⟨c _ rfl,.inr ⟨rfl,z⟩⟩
      ·cases h
     ·cases h
    ·cases h
  ·refine .inr (.inl ⟨hcl,?_⟩);split at h
   ·rename_i hm;split at h
    ·rename_i v H' g;cases h;exact ⟨hm,H',by rw [f v rfl]; exact g,c _ rfl⟩
    ·cases h
   ·cases h
  ·refine .inr (.inr ⟨hcl,?_⟩);cases hl:d.looks with
   | nil=>simp only [hl] at h; cases h
   | cons p r =>
    cases r with
    | cons D r=>simp only [hl] at h; cases h
    | nil =>
     obtain ⟨k,adds⟩:=p;simp only [hl] at h;split at h
     ·rename_i v H' g;cases h;refine ⟨c _ rfl,fun C y l=>?_⟩;cases l;refine ⟨H',?_,?_⟩
      ·rw [<- w hcl _ _ hl,f v rfl]; exact g
      ·rw [q k _ (m hcl _ _ hl).1 rfl]; exact ⟨rfl,fun _=>rfl⟩
     ·cases h
def Mv (S:Nat->Bool):Nat->Nat
 | 0=>0
 | n+1=>Mv S n+(if S n=true then 0 else 1)
def add (S:Nat->Bool) (i:Nat) (j:Nat):Bool:=if j=i then true else S j
def CN {S S':Nat->Bool}:∀ (n:Nat),(∀ j,j<n->S j=S' j)->Mv S n=Mv S' n
 | 0,_=>rfl
 | n+1,h=>by simp only [Mv]; rw [CN n (fun j hj=>h j zO),h n zO]
def J4 {S:Nat->Bool} {i:Nat} (a:S i=false):∀ (n:Nat),i<n->Mv (add S i) n+1=Mv S n
 | 0,h=>by omega
 | n+1,h=>by
  simp only [Mv];by_cases e:i=n
  ·subst e;rw [CN (S:=add S i) (S':=S) i (fun j hj=>by simp [add]; omega)];simp [add,a]
  ·have:=J4 a n zO
   have:add S i n=S n:=by simp [add]; omega
   rw [this]; omega
def GA {S:Nat->Bool}:∀ (n:Nat),Mv S n=0->∀ j,j<n->S j=true
 | 0,_,j,h=>by omega
 | n+1,h0,j,h=>by
  simp only [Mv] at h0;by_cases e:j=n
  ·subst e;cases a:S j with
   | true=>rfl
   | false=>rw [a] at h0; simp at h0
  ·exact GA n zO j zO
def J3 {S:Nat->Bool}:∀ (n:Nat),(∀ j,j<n->S j=false)->Mv S n=n
 | 0,_=>rfl
 | n+1,h=>by simp only [Mv]; rw [J3 n (fun j hj=>h j zO),h n zO]; simp
section
variable (l:List DI) (T0:Tm) (s:DS)
def fh (i:Nat):Option Nat:=(l.getD i default).dst
def qL (i:Nat):List Nat:=(l.getD i default).preds
def U0 (i:Nat):Nat:=(l.getD i default).cls
def tv (S:Nat->Bool):Nat->Nat->AV
 | 0,t=>ad T0 t
 | n+1,t=>if S n=true/\fh l n=some t then s.Vs.getD n .undef else tv S n t
variable {l T0 s}
def zA {S S':Nat->Bool} {t:Nat}:∀ (n:Nat),(∀ j,j<n->S j=S' j)->tv l T0 s S n t=tv l T0 s S' n t
 | 0,_=>rfl
 | n+1,h=>by simp only [tv]; rw [zA n (fun j hj=>h j zO),h n zO]
def Nd {S:Nat->Bool} {i t:Nat} (a:S i=false):∀ (n:Nat),i<n->(∀ j,i<j->j<n->S j=true->fh l i≠none->fh l i≠fh l j) ->
  tv l T0 s (add S i) n t=if fh l i=some t then s.Vs.getD i .undef else tv l T0 s S n t
 | 0,h,_=>by omega
 | n+1,h,hd=>by
  simp only [tv];by_cases e:i=n
  ·subst e;rw [zA (S:=add S i) (S':=S) i (fun j hj=>by simp [add]; omega)];simp [add,a]
  ·have h1:add S i n=S n:=by simp [add]; omega
   rw [h1,Nd a n zO (fun j h1 h2=>hd j h1 zO)];by_cases hc:S n=true/\fh l n=some t
   ·rw [if_pos hc,if_neg]
    ·rw [if_pos hc]
    ·intro hi;exact hd n zO zO hc.1 (by rw [hi]; simp) (by rw [hi,hc.2])
   ·rw [if_neg hc,if_neg hc]
def Nc {S:Nat->Bool} {j t:Nat} (a:S j=true) (hd:fh l j=some t):∀ (n:Nat),j<n->(∀ j',j<j'->j'<n->fh l j'=some t->S j'=false) ->
  tv l T0 s S n t=s.Vs.getD j .undef
 | 0,h,_=>by omega
 | n+1,h,hn=>by
  simp only [tv];by_cases e:j=n
  ·subst e; rw [if_pos ⟨a,hd⟩]
  ·rw [if_neg (fun hc=>by have:=hn n zO zO hc.2; rw [this] at hc; exact absurd hc.1 (by simp))];exact Nc a hd n zO (fun j' h1 h2=>hn j' h1 zO)
def Dq {S:Nat->Bool} {t:Nat}:∀ (n:Nat),(∀ j',j'<n->fh l j'=some t->S j'=false)->tv l T0 s S n t=ad T0 t
 | 0,_=>rfl
 | n+1,hn=>by
  simp only [tv];rw [if_neg (fun hc=>by have:=hn n zO hc.2; rw [this] at hc; exact absurd hc.1 (by simp))];exact Dq n (fun j' h1=>hn j' zO)
variable (l T0 s)
def TS (S:Nat->Bool):Tm:=(List.range T0.length).map (tv l T0 s S l.length)
variable {l T0 s}
def xO {S:Nat->Bool}:(TS l T0 s S).length=T0.length:=by simp [TS]
def Pf:TS l T0 s (fun _=>false)=T0:=by
 apply Yg
 intro t;by_cases a:t<T0.length
 ·unfold TS;rw [Xq,Zj a];simp only [XY];rw [Dq _ (fun _ _ _=>rfl),ad,qf,zh a];rfl
 ·rw [Xa (by rw [xO]; omega),Xa zO]
def S9 {S:Nat->Bool} {i:Nat} (e:S i=false) (hi:i<l.length) (hd:∀ j,i<j->j<l.length->S j=true->fh l i≠none->fh l i≠fh l j) :
  TS l T0 s (add S i)=putT (TS l T0 s S) (fh l i) (s.Vs.getD i .undef):=by
 apply Yg
 intro t;have a:∀ S,(TS l T0 s S)[t]? = if t<T0.length then some (tv l T0 s S l.length t) else none:=by
  intro S;unfold TS;split
  ·rename_i c; rw [Xq,Zj c]; rfl
  ·rename_i c; exact Xa (by simp; omega)
 rw [a,Nd e _ hi hd];cases he:fh l i with
 | none=>simp only [putT]; rw [a]; simp
 | some d =>
  simp only [putT];by_cases b:d=t
  ·subst b;rw [Y0,a];split <;> simp
  ·rw [Y9 b,a]
   have:¬ (some d=some t):=fun h=>b (by injection h)
   rw [if_neg this]
def xZ:∀ (ds:List ke) (Vs:List AV) (T:Tm) (d:ke) (v:AV),ds.length=Vs.length->gT T (ds++[d]) (Vs++[v])=putT (gT T ds Vs) d.dst v
 | [],[],T,d,v,_=>rfl
 | [],_ :: _,_,_,_,h=>by simp at h
 | _ :: _,[],_,_,_,h=>by simp at h
 | a :: ds,b :: Vs,T,d,v,h=>by
  simp only [Yn,gT];exact xZ ds Vs _ d v (by simpa using h)
def Am:∀ (ds:List ke) (Vs:List AV) (T:Tm),(gT T ds Vs).length=T.length
 | [],[],T=>rfl
 | [],_ :: _,T=>rfl
 | _ :: _,[],T=>rfl
 | d :: ds,v :: Vs,T=>by
  simp only [gT];rw [Am ds Vs];cases d.dst <;> simp [putT]
def K0 {ds:List ke} (e:ds.length=l.length) (f:s.Vs.length=l.length) (hd:∀ i,i<l.length->(ds.getD i default).dst=fh l i) :
  gT T0 ds s.Vs=TS l T0 s (fun _=>true):=by
 have key:∀ n,n<=l.length->∀ t,t<T0.length->(gT T0 (ds.take n) (s.Vs.take n))[t]? = some (tv l T0 s (fun _=>true) n t):=by
  intro n
  induction n with
  | zero=>intro _ t a; simp [gT,tv,ad,zh a]
  | succ n b =>
   intro hn t a;have h1:ds.take (n+1)=ds.take n++[ds.getD n default]:=by
    rw [TY zO,qf,zh zO]; rfl
   have h2:s.Vs.take (n+1)=s.Vs.take n++[s.Vs.getD n .undef]:=by
    rw [TY zO,qf,zh zO]; rfl
   rw [h1,h2,xZ _ _ _ _ _ (by simp; omega),hd n zO];have b:=b zO t a;simp only [tv,true_and];cases he:fh l n with
   | none=>simp only [putT]; rw [b]; simp
   | some d =>
    simp only [putT];by_cases c:d=t
    ·subst c; rw [Y0,b]; simp
    ·have:¬ (some d=some t):=fun h=>c (by injection h)
     rw [Y9 c,b,if_neg this]
 apply Yg
 intro t;by_cases a:t<T0.length
 ·have:=key l.length (Jv _) t a
  rw [WS zO,WS zO] at this;rw [this];unfold TS;rw [Xq,Zj a];rfl
 ·rw [Xa (by rw [Am]; omega),Xa (by rw [xO]; omega)]
def EV {q q':Nat} (h:q<q') (hq:q'<(aE l).length):(aE l).getD q 0<(aE l).getD q' 0:=by
 have hp:List.Pairwise (· < ·) (aE l):=YY _ ZU;rw [Xk] at hp;rw [qf,qf,zh zO,zh hq];exact hp q q' zO hq h
def se {q:Nat} (hq:q<(aE l).length):(aE l).getD q 0<l.length/\U0 l ((aE l).getD q 0)=2:=by
 have:(aE l).getD q 0∈aE l:=by
  rw [qf,zh hq]; exact EL hq
 have key:∀ x,x∈aE l->x<l.length/\U0 l x=2:=by
  intro x hx;unfold aE at hx;rw [WO] at hx;exact ⟨by simpa using hx.1,by simpa [U0] using hx.2⟩
 exact key _ this
def Pd {i:Nat} (hi:i<l.length) (hc:U0 l i=2):((List.range i).filter fun i=>(l.getD i default).cls == 2).length<(aE l).length /\
  (aE l).getD ((List.range i).filter fun i=>(l.getD i default).cls == 2).length 0=i:=by
 have a:List.range l.length=List.range i++(i :: (List.range' (i+1) (l.length-i-1))):=by
  rw [List.range_eq_range',List.range_eq_range',show l.length=i+((l.length-i-1)+1) by omega,<- List.range'_append_1,Xg,List.range'_succ];congr 3;omega
 have:aE l=(List.range i).filter (fun i=>(l.getD i default).cls == 2)++(i :: (List.range' (i+1) (l.length-i-1)).filter (fun i=>(l.getD i default).cls == 2)):=by
  unfold aE;rw [a,XQ,YI,if_pos (by simpa [U0] using hc)]
 rw [this];exact ⟨by simp,by rw [qf,Xm (Jv _)]; simp⟩
def GW {q q':Nat} (hq:q<(aE l).length) (a:q'<(aE l).length) (h:(aE l).getD q 0=(aE l).getD q' 0):q=q':=by
 rcases Y1 q q' with h1 | h1 | h1
 ·have:=EV h1 a; omega
 ·exact h1
 ·have:=EV h1 hq; omega
def Ov {k a:Nat} (h:a∈dS l (k+1)):a∈qL l ((aE l).getD k 0)/\U0 l a=1:=by
 simp only [dS,WO,W6] at h;exact ⟨by simpa [qL] using h.2.2,by simpa [U0] using h.2.1⟩
variable (l) in
def D7 (S:Nat->Bool) (k:Nat):List Nat:=(List.range l.length).filter fun a=>S a && U0 l a == 1 && !(dS l k).contains a
def mem_lst {S:Nat->Bool} {k a:Nat}:a∈D7 l S k ↔ a<l.length/\S a=true/\U0 l a=1/\a ∉ dS l k:=by
 simp [D7,WO,and_assoc]
def QC:D7 l (fun _=>true) (aE l).length=xq l:=by
 simp [D7,xq,U0]
end
section
variable {P:Program} {μ μ':Mu} {F:Nat->Prop} {w w':World}
def HR.sub {A D:Heap} (hH:HR P μ F A w) (a:∀ b e,D.get b=some e->A.get b=some e) (hn:D.next=A.next):HR P μ F D w :=
 ⟨fun b L hb=>hn ▸ hH.dom b L hb,hH.fb,fun b e hb=>hH.ent b e (a b e hb),fun b b' e e' L L' h1 h2=>hH.inj b b' e e' L L' (a _ _ h1) (a _ _ h2),hH.gl⟩
def Ns {I:Nat->Prop} {A D o s:Heap} (hH:HR P μ F A w) (n:∀ b e,D.get b=some e->A.get b=some e) (t:D.next=A.next) (hr:HR P μ' F o w')
  (st:Stp I P μ F D w μ' F o w') (v:s.next=o.next) (h':∀ b e,s.get b=some e->o.get b=some e\/(D.get b=none/\A.get b=some e)) :
  HR P μ' F s w'/\Stp I P μ F A w μ' F s w':=by
 have x:∀ b,D.rwAt b->A.rwAt b:=fun b ⟨e,h1,h2⟩=>⟨e,n b e h1,h2⟩
 have y:∀ b e L,D.get b=none->A.get b=some e->μ b=some L->w'.heap[L.blk]? = w.heap[L.blk]?:=by
  intro b e L hD hA hL;refine st.keep _ (hH.dom b L hL).2 fun b0 L0 E h he=>?_;obtain ⟨e0,h1,_⟩:=E
  have:=hH.inj b0 b e0 e L0 L (n _ _ h1) hA h hL he
  subst this;rw [hD] at h1; cases h1
 have apart:∀ l q p a r j,o.get l=some q->μ' l=some p->D.get a=none->A.get a=some r->μ a=some j->p.blk≠j.blk:=by
  intro l q p a r j h1 m hD h2 i he;rcases st.alv l q p h1 m with hge | ⟨b0,e0,L0,h0,h,hq⟩
  ·have:=(hH.dom a j i).2; omega
  ·have:=hH.inj b0 a e0 r L0 j (n _ _ h0) h2 h i (hq.trans he)
   subst this;rw [hD] at h0; cases h0
 have k:∀ b e L',A.get b=some e->μ' b=some L'->μ b=some L':=by
  intro b e L' hA C;obtain ⟨L,hL,_⟩:=hH.ent b e hA
  have:=st.mu b L hL
  rw [C] at this; cases this;exact hL
 refine ⟨⟨fun b L hb=>v ▸ hr.dom b L hb,hr.fb,fun b e hb=>?_,fun l a q r p j h1 h2 m i he=>?_,hr.gl⟩,⟨st.mu,st.fr,st.size,fun c hc hn=>st.keep c hc fun b L hb hL=>hn b L (x b hb) hL,fun b L hb hL=>?_,?_,fun b hb hi hn=>st.new b (t ▸ hb) hi hn,st.rng,fun b e hb hl hi=>?_,fun b e L hb hL=>?_,st.tape,st.os,st.out⟩⟩
 ·rcases h' b e hb with h1 | ⟨hD,hA⟩
  ·exact hr.ent b e h1
  ·obtain ⟨L,hL,u⟩:=hH.ent b e hA;have G:∀ c,F c->w'.heap[c]? = w.heap[c]?:=(st.keepF (hH.sub n t))
   exact ⟨L,st.mu b L hL,u.mono st.mu st.fr G (y b e L hD hA hL) (fun H=>u.notF H)⟩
 ·rcases h' l q h1 with d | ⟨z,d⟩ <;> rcases h' a r h2 with f | ⟨B,f⟩
  ·exact hr.inj _ _ _ _ _ _ d f m i he
  ·exact absurd he (apart _ _ _ _ _ _ d m B f (k _ _ _ f i))
  ·exact absurd he.symm (apart _ _ _ _ _ _ f i z d (k _ _ _ d m))
  ·exact hH.inj _ _ _ _ _ _ d f (k _ _ _ d m) (k _ _ _ f i) he
 ·obtain ⟨e,h1,h2⟩:=hb;rcases h' b e h1 with g | ⟨_,g⟩
  ·rcases st.rw b L ⟨e,g,h2⟩ hL with hge | ⟨b0,L0,h0,h,hq⟩
   ·exact .inl hge
   ·exact .inr ⟨b0,L0,x _ h0,h,hq⟩
  ·exact .inr ⟨b,L,⟨e,g,h2⟩,k _ _ _ g hL,rfl⟩
 ·rw [<- t,v]; exact st.next
 ·rcases h' b e hb with g | ⟨_,g⟩
  ·obtain ⟨e0,h0⟩:=st.old b e g (t ▸ hl) hi;exact ⟨e0,n _ _ h0⟩
  ·exact ⟨e,g⟩
 ·rcases h' b e hb with g | ⟨_,g⟩
  ·rcases st.alv b e L g hL with hge | ⟨b0,e0,L0,h0,h,hq⟩
   ·exact .inl hge
   ·exact .inr ⟨b0,e0,L0,n _ _ h0,h,hq⟩
  ·exact .inr ⟨b,e,L,g,k _ _ _ g hL,rfl⟩
end
def Ln {D A:Heap} (a:∀ b e,D.get b=some e->A.get b=some e) {x:AV} {es:List (AV × AV)} (h:ya D x=some es):ya A x=some es:=by
 cases x <;> simp only [ya] at h ⊢ <;> first | exact h | (cases h; done) | skip
 split at h
 ·rename_i c he;cases h;rw [a _ _ he]
 ·rename_i c he;cases h;rw [a _ _ he]
 ·cases h
def Lu {T:Tm} {D A d:Heap} {op:AOp} {v:AV} {i j:Nat} (c:∀ b e,D.get b=some e->A.get b=some e) (hl:op.looks=true) (h:bj (Src.ev T) D i op=some (v,d)):bj (Src.ev T) A j op=some (v,A):=by
 cases op <;> simp only [AOp.looks] at hl <;> first | (cases hl; done) | skip
 case load k x =>
  simp only [bj,WE] at h ⊢;obtain ⟨u,a,h⟩:=h;cases h;refine ⟨v,?_,rfl⟩
  generalize x.ev T=y at a ⊢
  cases y <;> simp only [bc] at a ⊢ <;> first | exact a | (cases a; done) | skip
  split at a
  ·rename_i cs ty rw he;rw [c _ _ he]; exact a
  ·cases a
 case globIdx cs len size i =>
  simp only [bj] at h ⊢;split at h
  ·split at h
   ·rename_i hlt;cases h;rw [if_pos hlt]
   ·cases h
  ·cases h
 case globLoad k cs =>
  simp only [bj,WE] at h ⊢;obtain ⟨u,a,h⟩:=h;cases h;exact ⟨v,a,rfl⟩
 case lookup kd zero x i ok =>
  simp only [bj,WE] at h ⊢;obtain ⟨u,a,h⟩:=h;cases h;refine ⟨v,?_,rfl⟩;unfold tt at a ⊢;split at a
  ·cases a
  ·rename_i f;rw [if_neg f];cases hm:ya D (x.ev T) with
   | none=>rw [hm] at a; cases a
   | some es=>rw [hm] at a; rw [Ln c hm]; exact a
 case lenMap x =>
  simp only [bj] at h ⊢
  generalize x.ev T=y at h ⊢
  cases y <;> simp only at h ⊢ <;> first | (cases h; done) | skip
  ·cases h; rfl
  ·split at h
   ·rename_i es he;cases h;rw [c _ _ he]
   ·rename_i es he;cases h;rw [c _ _ he]
   ·cases h
def Lo {T:Tm} {H0 a A:Heap} {op:AOp} {v:AV} {id:Nat} (hl:op.makes=true) (h:bj (Src.ev T) H0 id op=some (v,a)) :
  ∃ e,a.get id=some e/\bj (Src.ev T) A id op=some (v,A.put id e)/\aT (Src.ev T) op=none:=by
 cases op <;> simp only [AOp.makes] at hl <;> first | (cases hl; done) | skip
 case alloc ty z=>cases h; exact ⟨_,by rw [Heap.get_put,if_pos rfl],rfl,rfl⟩
 case mkmap=>cases h; exact ⟨_,by rw [Heap.get_put,if_pos rfl],rfl,rfl⟩
 case box ty x =>
  simp only [bj] at h ⊢;split at h
  ·rename_i hc;cases h;exact ⟨_,by rw [Heap.get_put,if_pos rfl],by rw [if_pos hc],rfl⟩
  ·cases h
 case buildSlice ty size zeros len parts =>
  simp only [bj] at h ⊢;split at h
  ·cases h
  ·rename_i cs hc;cases h;exact ⟨_,by rw [Heap.get_put,if_pos rfl],rfl,rfl⟩
 case mksl ty size bytes zero l c =>
  simp only [bj] at h ⊢;split at h
  ·rename_i l' b h1 h2;split at h
   ·rename_i hc;cases h;exact ⟨_,by rw [Heap.get_put,if_pos rfl],by rw [if_pos hc],rfl⟩
   ·cases h
  ·cases h
def NU {cal:oR} {T:Tm} {H:Heap} {id:Nat} {op:AOp} {v:AV} (h:aT (Src.ev T) op=some v):Ao cal (Src.ev T) H id op=some (v,H):=by
 cases op <;> first | (simp only [Ao,h]; done) | (simp [aT] at h; done)
def FM {cal:oR} {T:Tm} {H:Heap} {id:Nat} {op:AOp} {r:AV × Heap} (h:aT (Src.ev T) op=none) (hh:bj (Src.ev T) H id op=some r):Ao cal (Src.ev T) H id op=some r:=by
 cases op <;> first | (simp only [Ao,h]; exact hh) | (simp [bj] at hh; done)
def Fu {base:Nat} {T0:Tm} {s:DS}:∀ (ds:List ke) (i:Nat),Va base T0 s i ds=true->∀ (q:Nat) (d:ke),ds[q]? = some d->lu base T0 s (i+q) d=true:=by
 intro ds
 induction ds with
 | nil=>intro i _ q d h; simp at h
 | cons d ds b =>
  intro i h q a hq;simp only [Va,W6] at h;cases q with
  | zero=>simp at hq; subst hq; exact h.1
  | succ q=>rw [show i+(q+1)=i+1+q by omega]; exact b (i+1) h.2 q a (by simpa using hq)
structure uJ (P:Program) (ops:Array Oper) (l:List DI) (ds:List ke):Prop where
 len:l.length<=ops.size
 dlen:ds.length=l.length
 op:∀ i,i<l.length->∃ o,ops[i]? = some o/\o.dst=fh l i/\Bz ops o.guard=some (l.getD i default).guard/\(l.getD i default).op=(GL P o).getD .bad
 dso:∀ i,i<l.length->(ds.getD i default).dst=fh l i/\(ds.getD i default).op=(l.getD i default).op/\(ds.getD i default).guard=(l.getD i default).guard/\(ds.getD i default).cls=U0 l i
 cl:∀ i,i<l.length->U0 l i=0\/U0 l i=1\/U0 l i=2
 back:∀ i o,i<l.length->ops[i]? = some o->∀ j∈mC o,j<i
 pre:∀ i o,i<l.length->ops[i]? = some o->∀ p∈qL l i,∃ j∈mC o,p=j\/p∈qL l j
 same:∀ i j,i<j->j<l.length->fh l i≠none->fh l i=fh l j->i∈qL l j
 acts:∀ i j,i<j->j<l.length->U0 l i=2->U0 l j=2->i∈qL l j
 useS:∀ i,i<l.length->∀ t j,(t,some j)∈(ds.getD i default).uses->j∈qL l i/\fh l j=some t/\j<i/\∀ j',j'<l.length->fh l j'=some t->j'<=j\/i∈qL l j'\/j'=i
 useN:∀ i,i<l.length->∀ t,(t,none)∈(ds.getD i default).uses->∀ j',j'<l.length->fh l j'=some t->j'=i\/i∈qL l j'
 look:∀ i,i<l.length->∀ k adds,(k,adds)∈(ds.getD i default).looks->∀ a∈adds,a∈qL l i/\U0 l a=1/\a ∉ dS l k/\a<i
 seen:∀ i,i<l.length->U0 l i=0->∀ k,k<=(aE l).length->(∃ q,q<(aE l).length/\(aE l).getD q 0∈qL l i/\k<=q)\/(∃ q,q<(aE l).length/\i∈qL l ((aE l).getD q 0)/\q<k) \/
  ∃ adds,(k,adds)∈(ds.getD i default).looks
 act:∀ i,i<l.length->U0 l i=2->∃ k adds,(ds.getD i default).looks=[(k,adds)]/\k<(aE l).length/\(aE l).getD k 0=i/\∀ a,a<l.length->(a∈dS l (k+1) ↔ a∈dS l k\/a∈adds)
section
variable {P:Program} {ops:Array Oper} {l:List DI} {ds:List ke} {T0:Tm} {s:DS} {base:Nat} {F:Nat->Prop} {μ0:Mu} {H0:Heap} {w0:World} {df:List Deferred}
variable (l s base) in
def Hh (S:Nat->Bool) (k:Nat):Heap:=dJ base s.Es (s.Cs.getD k default) (D7 l S k)
variable (P l T0 s base F μ0 H0 w0 df) in
structure Inv (S:Nat->Bool) (k:Nat) (μ:Mu) (a:Act) (w:World):Prop where
 cl:∀ j,j<l.length->S j=true->∀ p∈qL l j,S p=true
 kle:k<=(aE l).length
 act:∀ q,q<(aE l).length->(S ((aE l).getD q 0)=true ↔ q<k)
 tm:LR μ F w (TS l T0 s S) a.tmps.toList
 hr:HR P μ F (Hh l s base S k) w
 noC:∀ j,j<l.length->U0 l j=1->j ∉ dS l k->(s.Cs.getD k default).get (base+j)=none
 nx:base+l.length<=(s.Cs.getD k default).next
 un:∀ j,j<l.length->S j=false->μ (base+j)=none
 st:Stp (fun b=>base<=b) P μ0 F H0 w0 μ F (Hh l s base S k) w
 df:a.defers=df
def Inv.next {S:Nat->Bool} {k d i:Nat} {μ μ':Mu} {a:Act} {w w':World} {D f:Heap} {o:Oper} {u:Value} (J:Inv P l T0 s base F μ0 H0 w0 df S k μ a w) (G:uJ P ops l ds)
  (hi:i<l.length) (m:S i=false) (A:∀ p∈qL l i,S p=true) (z:o.dst=fh l i) (C:VR μ' F w' (s.Vs.getD i .undef) u)
  (B:∀ b e,D.get b=some e->(Hh l s base S k).get b=some e) (y:D.next=(Hh l s base S k).next) (hr:HR P μ' F f w') (st:Stp (fun b=>b=base+i) P μ F D w μ' F f w')
  (v:(Hh l s base (add S i) d).next=f.next) (h':∀ b e,(Hh l s base (add S i) d).get b=some e->f.get b=some e\/(D.get b=none/\(Hh l s base S k).get b=some e))
  (t:d<=(aE l).length) (r:∀ q,q<(aE l).length->(add S i ((aE l).getD q 0)=true ↔ q<d))
  (x:∀ j,j<l.length->U0 l j=1->j ∉ dS l d->(s.Cs.getD d default).get (base+j)=none):Inv P l T0 s base F μ0 H0 w0 df (add S i) d μ' (a.put o.dst u) w':=by
 obtain ⟨n,g⟩:=Ns J.hr B y hr st v h';have h:∀ S k,(Hh l s base S k).next=(s.Cs.getD k default).next:=fun S k=>mP _ _ _ _
 refine ⟨fun j hj c p hp=>?_,t,r,?_,n,x,?_,fun j hj c=>?_,J.st.trans (g.mono fun b hb=>?_),?_⟩
 ·simp only [add] at c ⊢;by_cases e:p=i
  ·simp [e]
  ·simp only [e,if_false];by_cases e':j=i
   ·subst e'; exact A p hp
   ·simp only [e',if_false] at c; exact J.cl j hj c p hp
 ·rw [S9 m hi,z]
  ·have:=HM (a:=a) (g.lr J.hr J.tm) (fh l i) C
   exact this
  ·intro j h1 h2 h3 h4 h5
   have:=J.cl j h2 h3 i (G.same i j h1 h2 h4 h5)
   rw [m] at this; cases this
 ·have:=g.next
  rw [h,h] at this;exact WK J.nx this
 ·simp only [add] at c;split at c
  ·cases c
  ·rename_i hne;have hn:=J.nx;refine g.new (base+j) (by rw [h]; omega) (fun e=>hne (by have e:base+j=base+i:=e; omega)) (J.un j hj c)
 ·have:b=base+i:=hb
  omega
 ·rw [<- J.df]; cases o.dst <;> rfl
def uI (S:Nat->Bool) (k b:Nat):(Hh l s base S k).get b=match (if base<=b/\(b-base)∈D7 l S k then s.Es.getD (b-base) none else none) with | some e=>some e | none=>(s.Cs.getD k default).get b:=BF _ _ _ _ _
def Pn {S:Nat->Bool} {k i:Nat} (hi:i<l.length) (hc:U0 l i≠1\/s.Es.getD i none=none) (b:Nat):(Hh l s base (add S i) k).get b=(Hh l s base S k).get b:=by
 rw [uI,uI];by_cases hb:base<=b
 ·by_cases a:b-base=i
  ·rw [a];rcases hc with hc | hc
   ·rw [if_neg (fun h=>hc (mem_lst.1 h.2).2.2.1),if_neg (fun h=>hc (mem_lst.1 h.2).2.2.1)]
   ·rw [hc]; simp
  ·have:(b-base∈D7 l (add S i) k) ↔ (b-base∈D7 l S k):=by
    simp only [mem_lst,add,a,if_false]
   by_cases hm:b-base∈D7 l S k
   ·rw [if_pos ⟨hb,this.2 hm⟩,if_pos ⟨hb,hm⟩]
   ·rw [if_neg (fun h=>hm (this.1 h.2)),if_neg (fun h=>hm h.2)]
 ·rw [if_neg (fun h=>hb h.1),if_neg (fun h=>hb h.1)]
def C9 {S:Nat->Bool} {k i:Nat} (h:∀ q,q<(aE l).length->(S ((aE l).getD q 0)=true ↔ q<k)) (hc:U0 l i≠2) :
  ∀ q,q<(aE l).length->(add S i ((aE l).getD q 0)=true ↔ q<k):=by
 intro q hq
 have:(aE l).getD q 0≠i:=fun e=>hc (e ▸ (se hq).2)
 simp only [add,this,if_false];exact h q hq
def Pe {S:Nat->Bool} {k i a:Nat} (G:uJ P ops l ds) (hi:i<l.length) (g:S i=false) (j:∀ p∈qL l i,S p=true) (m:k<=(aE l).length)
  (h:∀ q,q<(aE l).length->(S ((aE l).getD q 0)=true ↔ q<k)) (hc:U0 l i=2) (c:a<(aE l).length) (b:(aE l).getD a 0=i) :
  a=k/\∀ q,q<(aE l).length->(add S i ((aE l).getD q 0)=true ↔ q<k+1):=by
 have e:a=k:=by
  have h1:¬ a<k:=fun hlt=>by have:=(h a c).2 hlt; rw [b,g] at this; cases this
  have h2:¬ k<a:=fun hlt=>by
   have d:k<(aE l).length:=zO;have hm:=se d
   have:=j _ (G.acts _ i (b ▸ EV hlt c) hi hm.2 hc)
   have:=(h k d).1 this
   omega
  omega
 refine ⟨e,fun q hq=>?_⟩;subst e;by_cases f:q=a
 ·subst f; rw [b]; simp [add]
 ·have:(aE l).getD q 0≠i:=fun h=>f (GW hq c (h.trans b.symm))
  simp only [add,this,if_false];rw [h q hq]; omega
def NA (base:Nat) (T0:Tm) (s:DS) (i k:Nat) (d:ke):Prop:=d.cls=0->b9 (ct T0 s.Vs d.uses) d.guard=some true->aT (Src.ev (ct T0 s.Vs d.uses)) d.op=none->∀ adds,(k,adds)∈d.looks ->
 ∃ v a,bj (Src.ev (ct T0 s.Vs d.uses)) (dJ base s.Es (s.Cs.getD k default) adds) 0 d.op=some (v,a)/\AV.beq v (s.Vs.getD i .undef)=true
def KR {base:Nat} {T0:Tm} {s:DS} {i:Nat} {d:ke} (h:lu base T0 s i d=true) (k:Nat):NA base T0 s i k d:=by
 intro h0 c hp adds hm;unfold lu at h;rw [h0,c,hp] at h;simp only [WT] at h;have hx:=h _ hm;split at hx
 ·rename_i v a b; exact ⟨v,a,b,hx⟩
 ·cases hx
def P4 {S:Nat->Bool} {k i:Nat} {μ:Mu} {a:Act} {w:World} (J:Inv P l T0 s base F μ0 H0 w0 df S k μ a w) (G:uJ P ops l ds) (hi:i<l.length) (f:S i=false) (r:∀ p∈qL l i,S p=true) :
  LR μ F w (ct T0 s.Vs (ds.getD i default).uses) a.tmps.toList:=by
 obtain ⟨h1,h2⟩:=P5 T0 s.Vs (ds.getD i default).uses;refine ⟨by rw [h1,<- J.tm.1,xO],fun t c v hc y=>?_⟩;rcases h2 t c hc with rfl | ⟨⟨b,u⟩,h,rfl,rfl⟩
 ·exact .undef v
 ·have x:b<T0.length:=by rw [<- h1]; exact (WI.1 hc).1
  have q:(TS l T0 s S)[b]? = some (tv l T0 s S l.length b):=by
   unfold TS; rw [Xq,Zj x]; rfl
  have hval:nC T0 s.Vs (b,u)=tv l T0 s S l.length b:=by
   have g:∀ j',j'<l.length->i∈qL l j'->S j'=false:=fun j' h1 h2=>by
    cases hb:S j' with
    | false=>rfl
    | true=>have:=J.cl j' h1 hb i h2; rw [f] at this; cases this
   cases u with
   | none =>
    refine (Dq _ fun j' d hd=>?_).symm;rcases G.useN i hi b h j' d hd with e | e
    ·rw [e]; exact f
    ·exact g j' d e
   | some j =>
    obtain ⟨m,n,z,o⟩:=G.useS i hi b j h;refine (Nc (r j m) n _ zO fun j' hlt d hd=>?_).symm;rcases o j' d hd with e | e | e
    ·omega
    ·exact g j' d e
    ·rw [e]; exact f
  rw [hval];exact J.tm.2 b _ v q y
def LQ {cal:oR} (V:oi P cal) {fence:Fence} {rd:Bool} (E:FenceOK fence rd) {n:Nat} {Q:Exit->Act->World->Prop} {S:Nat->Bool} {k i:Nat} {μ:Mu} {a:Act} {w:World}
  (J:Inv P l T0 s base F μ0 H0 w0 df S k μ a w) (G:uJ P ops l ds) (aK:T9 cal base T0 s i (ds.getD i default)) (aM:NA base T0 s i k (ds.getD i default))
  (hi:i<l.length) (t:S i=false) (C:∀ p∈qL l i,S p=true) {K:Act->World->Prop}
  (U:∀ a' w' μ' g,Inv P l T0 s base F μ0 H0 w0 df (add S i) g μ' a' w'->K a' w'):wpOpIn fence n P ops Q i K a w:=by
 obtain ⟨o,aI,aa,ao,aJ⟩:=G.op i hi;obtain ⟨aO,av,af,D⟩:=G.dso i hi;have hT:=P4 J G hi t C;have X:μ (base+i)=none:=J.un i hi t;have d:∀ S k,(Hh l s base S k).next=(s.Cs.getD k default).next:=fun S k=>mP _ _ _ _
 have hlt:base+i<(Hh l s base S k).next:=by have:=J.nx; rw [d]; omega
 have N:∀ g adds,(g,adds)∈(ds.getD i default).looks->g=k->∀ b e,(dJ base s.Es (s.Cs.getD g default) adds).get b=some e->(Hh l s base S k).get b=some e:=by
  intro g adds hm aB b e hb;subst aB;have ha:=G.look i hi g adds hm;rw [BF] at hb;rw [uI];by_cases hc:base<=b/\(b-base)∈adds
  ·rw [if_pos hc] at hb;obtain ⟨q1,q2,q3,q4⟩:=ha _ hc.2;have hq:base<=b/\b-base∈D7 l S g:=⟨hc.1,mem_lst.2 ⟨zO,C _ q1,q2,q3⟩⟩
   rw [if_pos hq]; exact hb
  ·rw [if_neg hc] at hb;simp only at hb;by_cases al:base<=b/\b-base∈D7 l S g
   ·have Z:=mem_lst.1 al.2
    have:=J.noC (b-base) Z.1 Z.2.2.1 Z.2.2.2
    rw [show base+(b-base)=b by omega,hb] at this;cases this
   ·rw [if_neg al]; exact hb
 have W:∀ {T:Tm} {H:Heap} {id:Nat} {r:AV × Heap},Ao cal (Src.ev T) H id (ds.getD i default).op=some r->GL P o=some (ds.getD i default).op:=by
  intro T H id r h;rw [av,aJ] at h ⊢;cases aA:GL P o with
  | some x=>rfl
  | none=>rw [aA] at h; simp [Ao,aT,bj] at h
 unfold Go.wpOpIn;simp only [aI];have ar:U0 l i≠2->(U0 l i≠1\/s.Es.getD i none=none)->∀ {u w' μ'},iS (fun b=>b=base+i) P μ F (Hh l s base S k) w (s.Vs.getD i .undef) (Hh l s base S k) u w' μ'->K (a.put o.dst u) w':=by
  intro h2 h1 u w' μ' hd;refine U _ _ μ' k (J.next G hi t C aa hd.val (fun _ _ h=>h) rfl hd.heap hd.stp (by rw [d,d]) (fun b e hb=>.inl ?_) J.kle (C9 J.act h2) J.noC);rw [<- Pn hi h1]; exact hb
 have acts:U0 l i=2->s.Es.getD i none=none->∀ c adds,(ds.getD i default).looks=[(c,adds)]->c=k->(∀ q,q<(aE l).length->(add S i ((aE l).getD q 0)=true ↔ q<k+1))->c<(aE l).length ->
   (∀ a,a<l.length->(a∈dS l (c+1) ↔ a∈dS l c\/a∈adds)) ->
   ∀ {u w' μ'},iS (fun b=>b=base+i) P μ F (dJ base s.Es (s.Cs.getD c default) adds) w (s.Vs.getD i .undef) (s.Cs.getD (c+1) default) u w' μ'->K (a.put o.dst u) w':=by
  intro h2 m c adds hl aC z M B u w' μ' hd;subst aC;have aG:(c,adds)∈(ds.getD i default).looks:=by rw [hl]; exact WH ..
  have hD:(dJ base s.Es (s.Cs.getD c default) adds).next=(Hh l s base S c).next:=by rw [mP,d]
  have aj:∀ j,j<l.length->U0 l j=1->j ∉ dS l (c+1)->(dJ base s.Es (s.Cs.getD c default) adds).get (base+j)=none:=by
   intro j hj Y L;rw [BF,if_neg]
   ·exact J.noC j hj Y (fun h=>L ((B j hj).2 (.inl h)))
   ·intro h; rw [Zl] at h; exact L ((B j hj).2 (.inr h.2))
  refine U _ _ μ' (c+1) (J.next G hi t C aa hd.val (N c adds aG rfl) hD hd.heap hd.stp (d _ _) (fun b e hb=>?_) zO z (fun j hj Y L=>?_))
  ·rw [uI] at hb;by_cases hc:base<=b/\b-base∈D7 l (add S i) (c+1)
   ·rw [if_pos hc] at hb;obtain ⟨m1,m2,m3,m4⟩:=mem_lst.1 hc.2;cases R:s.Es.getD (b-base) none with
    | none=>rw [R] at hb; exact .inl hb
    | some e' =>
     rw [R] at hb;cases hb;have hne:b-base≠i:=fun h=>by rw [h] at m3; omega
     refine .inr ⟨?_,?_⟩
     ·have:=aj _ m1 m3 m4
      rwa [show base+(b-base)=b by omega] at this
     ·rw [uI,if_pos ⟨hc.1,mem_lst.2 ⟨m1,by simpa [add,hne] using m2,m3,fun h=>m4 ((B _ m1).2 (.inl h))⟩⟩,R]
   ·rw [if_neg hc] at hb;exact .inl hb
  ·cases hg:(s.Cs.getD (c+1) default).get (base+j) with
   | none=>rfl
   | some e =>
    have hne:j≠i:=fun h=>by subst h; omega
    obtain ⟨e0,h0⟩:=hd.stp.old (base+j) e hg (by rw [mP]; have:=J.nx; omega) (fun h=>hne (by have h:base+j=base+i:=h; omega));rw [aj j hj Y L] at h0; cases h0
 have ae:U0 l i=2->∃ c adds,(ds.getD i default).looks=[(c,adds)]/\c=k/\(∀ q,q<(aE l).length->(add S i ((aE l).getD q 0)=true ↔ q<k+1))/\c<(aE l).length /\
   (∀ a,a<l.length->(a∈dS l (c+1) ↔ a∈dS l c\/a∈adds)):=by
  intro h2;obtain ⟨c,adds,hl,h3,h4,h5⟩:=G.act i hi h2;obtain ⟨e,z⟩:=Pe G hi t C J.kle J.act h2 h3 h4;exact ⟨c,adds,hl,e,z,h3,h5⟩
 rcases aK with ⟨O,hV,m,hC⟩ | ⟨O,aL⟩
 ·
  have ad:=sr (o:=o) hT (af ▸ ao) O;rw [if_neg (by rw [ad]; decide)];refine ⟨fun f _=>E.fn f,?_⟩;have hu:VR μ F w (s.Vs.getD i .undef) undef:=by rw [hV]; exact Ja
  by_cases h2:U0 l i=2
  ·obtain ⟨c,adds,hl,e,z,M,B⟩:=ae h2;refine acts h2 m c adds hl e z M B (μ':=μ) (u:=undef) ?_;rw [hC (D.trans h2) c adds hl];exact ⟨hu,J.hr.sub (N c adds (by rw [hl]; exact WH ..) e) (by rw [mP,d,e]),Stp.refl _ _ _ _ _ _⟩
  ·exact ar h2 (.inr m) (μ':=μ) ⟨hu,J.hr,Stp.refl _ _ _ _ _ _⟩
 ·have ad:=sr (o:=o) hT (af ▸ ao) O;rw [if_pos ad];rcases aL with ⟨h0,m,hval⟩ | ⟨h1,hm,H',hh,m⟩ | ⟨h2,m,z⟩
  ·have ay:U0 l i=0:=D ▸ h0;have y:Ao cal (Src.ev (ct T0 s.Vs (ds.getD i default).uses)) (Hh l s base S k) (base+i) (ds.getD i default).op=some (s.Vs.getD i .undef,Hh l s base S k):=by
    rcases hval with hv | ⟨hp,aD⟩
    ·exact NU hv
    ·
     obtain ⟨adds,hm⟩:∃ adds,(k,adds)∈(ds.getD i default).looks:=by
      rcases G.seen i hi ay k J.kle with ⟨q,hq,ab,aq⟩ | ⟨q,hq,ab,aq⟩ | h
      ·have:=(J.act q hq).1 (C _ ab); omega
      ·have hx:=J.cl _ (se hq).1 ((J.act q hq).2 aq) i ab;rw [t] at hx; cases hx
      ·exact h
     obtain ⟨v,D',hv,hx⟩:=aM h0 O hp adds hm
     have:=AV.beq_eq _ _ hx
     subst this;exact FM hp (Lu (N k adds hm rfl) aD hv)
   exact sF V (I:=fun b=>b=base+i) (W y) y hT J.hr X hlt rfl E fun u w' μ' hd=>ar zO (.inl zO) hd
  ·have az:U0 l i=1:=D ▸ h1;obtain ⟨e,he,ax,hp⟩:=Lo (A:=Hh l s base S k) hm hh;have y:Ao cal (Src.ev (ct T0 s.Vs (ds.getD i default).uses)) (Hh l s base S k) (base+i) (ds.getD i default).op=some (s.Vs.getD i .undef,(Hh l s base S k).put (base+i) e):=FM hp ax;refine sF V (I:=fun b=>b=base+i) (W y) y hT J.hr X hlt rfl E fun u w' μ' hd=>?_;have aH:i ∉ dS l k:=by
    cases k with
    | zero=>simp [dS]
    | succ k =>
     intro h;have h1:=(Ov h).1;have hq:k<(aE l).length:=by have:=J.kle; omega
     have hx:=J.cl _ (se hq).1 ((J.act k hq).2 zO) i h1;rw [t] at hx; cases hx
   refine U _ _ μ' k (J.next G hi t C aa hd.val (fun _ _ h=>h) rfl hd.heap hd.stp (by rw [Heap.next_put,d,d]) (fun b e' hb=>.inl ?_) J.kle (C9 J.act zO) J.noC);rw [Heap.get_put];rw [uI] at hb;by_cases ak:b=base+i
   ·subst ak;rw [Zl,if_pos ⟨W3 _ _,mem_lst.2 ⟨hi,by simp [add],az,aH⟩⟩,m,he] at hb;rw [if_pos rfl]; exact hb
   ·rw [if_neg ak,uI];by_cases aP:base<=b
    ·have hne:b-base≠i:=zO
     have:(b-base∈D7 l (add S i) k) ↔ (b-base∈D7 l S k):=by
      simp only [mem_lst,add,hne,if_false]
     by_cases hm:b-base∈D7 l S k
     ·rw [if_pos ⟨aP,this.2 hm⟩] at hb; rw [if_pos ⟨aP,hm⟩]; exact hb
     ·rw [if_neg (fun h=>hm (this.1 h.2))] at hb; rw [if_neg (fun h=>hm h.2)]; exact hb
    ·rw [if_neg (fun h=>aP h.1)] at hb; rw [if_neg (fun h=>aP h.1)]; exact hb
  ·have am:U0 l i=2:=D ▸ h2;obtain ⟨c,adds,hl,e,aw,M,B⟩:=ae am;obtain ⟨HA,y,ah,ag⟩:=z c adds hl;have aN:=N c adds (by rw [hl]; exact WH ..) e;have hn:(dJ base s.Es (s.Cs.getD c default) adds).next=(Hh l s base S k).next:=by rw [mP,d,e]
   refine sF V (I:=fun b=>b=base+i) (W y) y hT (J.hr.sub aN hn) X (by rw [hn]; exact hlt) rfl E fun u w' μ' hd=>?_;exact acts am m c adds hl e aw M B ⟨hd.val,hd.heap.congr ah ag,hd.stp.congr ah fun x e' he=>⟨e',by rw [ag]; exact he,rfl⟩⟩
end
end Go.Proofs.YtiigaeehghcjiaaGreat.Ev
