/- A part. -/
import Derived.Test.YtkmepoeklibegaaGreatA0
import Derived.RangeFuncRecord
import Derived.Laws.BytesString
import Derived.LoopNIn
import Derived.RangeFuncLeaves
import Derived.OrdersIn
namespace Go.Proofs.YtkmepoeklibegaaGreat.Ev
open Go
set_option linter.all false
def Mu.upd (μ:Mu) (b:Nat) (L:Bx):Mu:=fun x=>if x=b then some L else μ x
section
variable {I:Nat->Prop} {P:Program} {μ:Mu} {F:Nat->Prop} {H:Heap} {w:World}
def iT {b:Nat} {L:Bx} (hb:μ b=none):∀ x M,μ x=some M->(μ.upd b L) x=some M:=by
 intro x M h;unfold Mu.upd;split
 ·rename_i e; subst e; rw [hb] at h; cases h
 ·exact h
@[simp] theorem upd_same (b:Nat) (L:Bx):(μ.upd b L) b=some L:=by simp [Mu.upd]
def cD {b x:Nat} (L:Bx) (h:x≠b):(μ.upd b L) x=μ x:=by simp [Mu.upd,h]
def ER.mono {μ μ':Mu} {F F':Nat->Prop} {w w':World} {L:Bx} {e:Ent} (g:∀ b L,μ b=some L->μ' b=some L) (d:∀ c,F c->F' c)
  (f:∀ c,F c->w'.heap[c]? = w.heap[c]?) (hs:w'.heap[L.blk]? = w.heap[L.blk]?) (hn:e.rw=true->¬ F' L.blk) (h:ER P μ F w L e):ER P μ' F' w' L e:=by
 cases e with
 | cells cs ty rw =>
  obtain ⟨arr,fr,h1,h2,h3,a,h5,l,o⟩:=h;exact ⟨arr,fr,hs.trans h1,h2,h3,a,fun i c v hc m=>(h5 i c v hc m).mono g d f,fun hr=>⟨hn hr,(l hr).2⟩,fun _=>trivial⟩
 | map es =>
  obtain ⟨h0,k,j,h1,h2,h3,a⟩:=h;exact ⟨hn rfl,k,j,hs.trans h1,h2.mono g d f,h3.mono g d f,a⟩
 | mapR es =>
  obtain ⟨k,j,h1,h2,h3,a⟩:=h;exact ⟨k,j,hs.trans h1,h2.mono g d f,h3.mono g d f,a⟩
 | loop T ps n body st p =>
  obtain ⟨h0,r,h1,h2,h3,a⟩:=h;exact ⟨hn rfl,r,hs.trans h1,h2,h3.mono g d f,a⟩
 | siter s pos=>exact ⟨hn rfl,hs.trans h.2⟩
def pI (w:World) (o:Obj) {c:Nat} (h:c<w.heap.size):(w.alloc o).heap[c]? = w.heap[c]?:=by
 simp only [World.alloc,Ye];rw [if_neg zO]
def oK (hH:HR P μ F H w) {id:Nat} (f:μ id=none) (hlt:id<H.next) (o:Obj) (e:Ent) (N sz:Nat)
  (he:∀ w',(∀ c,F c->w'.heap[c]? = w.heap[c]?)->w'.heap[w.heap.size]? = some o->¬ F w.heap.size->ER P (μ.upd id ⟨w.heap.size,N,sz⟩) F w' ⟨w.heap.size,N,sz⟩ e) (p:I id)
  (w1:World) (h1:w1.heap=w.heap) (u:Tp w w1) (s:w1.os=w.os) (t:w1.output=w.output) :
  HR P (μ.upd id ⟨w.heap.size,N,sz⟩) F (H.put id e) (w1.alloc o)/\Stp I P μ F H w (μ.upd id ⟨w.heap.size,N,sz⟩) F (H.put id e) (w1.alloc o):=by
 have m:∀ c,c<w.heap.size->(w1.alloc o).heap[c]? = w.heap[c]?:=fun c hc=>by rw [pI _ _ (by rw [h1]; exact hc),h1]
 have r:(w1.alloc o).heap[w.heap.size]? = some o:=by rw [<- h1]; exact World.alloc_heap_new w1 o
 have l:(w1.alloc o).heap.size=w.heap.size+1:=by simp [World.alloc,h1]
 have q:¬ F w.heap.size:=fun h=>by have:=hH.fb _ h; omega
 have i:∀ c,F c->(w1.alloc o).heap[c]? = w.heap[c]?:=fun c hc=>m c (hH.fb c hc);have v:∀ e',H.get id≠some e':=fun e' h=>by obtain ⟨L,hL,_⟩:=hH.ent id e' h; rw [f] at hL; cases hL
 refine ⟨⟨?_,?_,?_,?_,fun g cs hg=>(hH.gl g cs hg).mono (iT f) (fun _ h=>h) i⟩,⟨iT f,fun _ h=>h,by rw [l]; omega,fun c hc _=>m c hc,?_,Vo _,?_,?_,?_,?_,u,s,t⟩⟩
 ·intro b L hb;rw [l];by_cases e0:b=id
  ·subst e0; simp at hb; subst hb; exact ⟨hlt,by simp⟩
  ·rw [cD _ e0] at hb
   have:=hH.dom b L hb
   exact ⟨this.1,zO⟩
 ·intro c hc; rw [l]; have:=hH.fb c hc; omega
 ·intro b e' hb;rw [Heap.get_put] at hb;split at hb
  ·rename_i e0; subst e0; cases hb;exact ⟨_,upd_same _ _,he _ i r q⟩
  ·rename_i e0;obtain ⟨L,hL,n⟩:=hH.ent b e' hb;exact ⟨L,iT f _ _ hL,n.mono (iT f) (fun _ h=>h) i (m _ (hH.dom b L hL).2) (fun hr=>n.notF hr)⟩
 ·intro b b' e1 e2 L L' hb j hL d k;rw [Heap.get_put] at hb j;by_cases e0:b=id
  ·by_cases a:b'=id
   ·rw [e0,a]
   ·subst e0;simp at hL; subst hL;rw [cD _ a] at d
    have:=(hH.dom b' L' d).2
    simp only at k; omega
  ·by_cases a:b'=id
   ·subst a;simp at d; subst d;rw [cD _ e0] at hL
    have:=(hH.dom b L hL).2
    simp only at k; omega
   ·rw [if_neg e0] at hb; rw [if_neg a] at j;rw [cD _ e0] at hL; rw [cD _ a] at d;exact hH.inj b b' e1 e2 L L' hb j hL d k
 ·intro b L ⟨e',hb,hr⟩ hL;rw [Heap.get_put] at hb;split at hb
  ·rename_i e0; subst e0; simp at hL; subst hL; exact .inl (Vo _)
  ·rename_i e0; rw [cD _ e0] at hL; exact .inr ⟨b,L,⟨e',hb,hr⟩,hL,rfl⟩
 ·intro b hb hi hn
  have:b≠id:=fun e0=>hi (e0 ▸ p)
  rw [cD _ this]; exact hn
 ·intro b L hb;by_cases e0:b=id
  ·subst e0; simp at hb; subst hb; exact .inr (Vo _)
  ·rw [cD _ e0] at hb; exact .inl ⟨b,L,hb,rfl⟩
 ·intro b e' hb _ hi;rw [Heap.get_put,if_neg (fun e0:b=id=>hi (e0 ▸ p))] at hb;exact ⟨e',hb⟩
 ·intro b e' L hb hL;by_cases e0:b=id
  ·subst e0; simp at hL; subst hL; exact .inl (Vo _)
  ·rw [cD _ e0] at hL; rw [Heap.get_put,if_neg e0] at hb; exact .inr ⟨b,e',L,hb,hL,rfl⟩
def iL (hH:HR P μ F H w) {b:Nat} {L:Bx} {e0 e:Ent} (hb:H.get b=some e0) (hr:e0.rw=true) (hL:μ b=some L) (w':World)
  (k:∀ c,c≠L.blk->w'.heap[c]? = w.heap[c]?) (o:w'.heap.size=w.heap.size) (B:Tp w w') (y:w'.os=w.os) (z:w'.output=w.output)
  (he:(∀ c,F c->w'.heap[c]? = w.heap[c]?)->ER P μ F w' L e) (C:e.rw=true) :
  HR P μ F (H.put b e) w'/\Stp I P μ F H w μ F (H.put b e) w':=by
 have v:¬ F L.blk:=hH.rw_notF ⟨e0,hb,hr⟩ hL;have j:∀ c,F c->w'.heap[c]? = w.heap[c]?:=fun c hc=>k c fun e=>v (e ▸ hc);refine ⟨⟨?_,?_,?_,?_,fun g cs hg=>(hH.gl g cs hg).mono (fun _ _ h=>h) (fun _ h=>h) j⟩,⟨fun _ _ h=>h,fun _ h=>h,zO,?_,?_,Vo _,fun _ _ _ h=>h,fun b L h=>.inl ⟨b,L,h,rfl⟩,?_,?_,B,y,z⟩⟩
 ·intro b' L' h; rw [o]; exact hH.dom b' L' h
 ·intro c hc; rw [o]; exact hH.fb c hc
 ·intro b' e' h;rw [Heap.get_put] at h;split at h
  ·rename_i a; subst a; cases h; exact ⟨L,hL,he j⟩
  ·rename_i a;obtain ⟨L',d,n⟩:=hH.ent b' e' h;refine ⟨L',d,n.mono (fun _ _ h=>h) (fun _ h=>h) j (k _ fun e=>a ?_) (fun hr=>n.notF hr)⟩;exact hH.inj b' b e' e0 L' L h hb d hL e
 ·intro l m e1 e2 p q h1 h2 s t u;rw [Heap.get_put] at h1 h2;have f:∃ e,H.get l=some e:=by
   split at h1; · rename_i a; subst a; exact ⟨_,hb⟩
   ·exact ⟨_,h1⟩
  have i:∃ e,H.get m=some e:=by
   split at h2; · rename_i a; subst a; exact ⟨_,hb⟩
   ·exact ⟨_,h2⟩
  obtain ⟨f1,f⟩:=f;obtain ⟨r,i⟩:=i;exact hH.inj l m f1 r p q f i s t u
 ·intro c hc hn;exact k c fun e=>hn b L ⟨e0,hb,hr⟩ hL e.symm
 ·intro b' L' ⟨e',h,A⟩ d;rw [Heap.get_put] at h;split at h
  ·rename_i a; subst a; exact .inr ⟨_,L',⟨e0,hb,hr⟩,d,rfl⟩
  ·exact .inr ⟨b',L',⟨e',h,A⟩,d,rfl⟩
 ·intro x e' h _ _;rw [Heap.get_put] at h;split at h
  ·rename_i a; subst a; exact ⟨_,hb⟩
  ·exact ⟨_,h⟩
 ·intro x e' L' h d;rw [Heap.get_put] at h;split at h
  ·rename_i a; subst a; exact .inr ⟨_,_,L',hb,d,rfl⟩
  ·exact .inr ⟨x,e',L',h,d,rfl⟩
def tU (hH:HR P μ F H w) (b:Nat):HR P μ F (H.kill b) w/\Stp I P μ F H w μ F (H.kill b) w:=by
 have hg:∀ x e,(H.kill b).get x=some e->H.get x=some e:=by
  intro x e h;rw [Heap.get_kill] at h;split at h
  ·cases h
  ·exact h
 refine ⟨⟨hH.dom,hH.fb,fun x e h=>hH.ent x e (hg x e h),fun x y e1 e2 L L' h1 h2=>hH.inj x y e1 e2 L L' (hg _ _ h1) (hg _ _ h2),hH.gl⟩,⟨fun _ _ h=>h,fun _ h=>h,Vo _,fun _ _ _=>rfl,?_,Vo _,fun _ _ _ h=>h,fun b L h=>.inl ⟨b,L,h,rfl⟩,fun x e h _ _=>⟨e,hg x e h⟩,fun x e L h hL=>.inr ⟨x,e,L,hg x e h,hL,rfl⟩,Tp.same rfl rfl,rfl,rfl⟩⟩;intro x L ⟨e,h,hr⟩ hL;exact .inr ⟨x,L,⟨e,hg x e h,hr⟩,hL,rfl⟩
def uF (hH:HR P μ F H w) {b id:Nat} {L:Bx} {e0:Ent} (hb:H.get b=some e0) (hL:μ b=some L) (d:μ id=none) (hlt:id<H.next) (o:I id) :
  HR P (μ.upd id L) F ((H.kill b).put id e0) w/\Stp I P μ F H w (μ.upd id L) F ((H.kill b).put id e0) w:=by
 have hne:b≠id:=fun e=>by subst e; rw [hL] at d; cases d
 obtain ⟨L0,p,n⟩:=hH.ent b e0 hb;rw [hL] at p; cases p;have hg:∀ x e,x≠id->((H.kill b).put id e0).get x=some e->H.get x=some e/\x≠b:=by
  intro x e hx h;rw [Heap.get_put,if_neg hx,Heap.get_kill] at h;split at h
  ·cases h
  ·rename_i r; exact ⟨h,r⟩
 refine ⟨⟨?_,hH.fb,?_,?_,fun g cs hg=>(hH.gl g cs hg).mono (iT d) (fun _ h=>h) (fun _ _=>rfl)⟩,⟨iT d,fun _ h=>h,Vo _,fun _ _ _=>rfl,?_,Vo _,?_,?_,?_,?_,Tp.same rfl rfl,rfl,rfl⟩⟩
 ·intro x M hx;by_cases e:x=id
  ·subst e; simp at hx; subst hx; exact ⟨hlt,(hH.dom b L hL).2⟩
  ·rw [cD _ e] at hx; exact hH.dom x M hx
 ·intro x e h;by_cases ex:x=id
  ·subst ex;rw [Heap.get_put,if_pos rfl] at h; cases h;exact ⟨L,upd_same _ _,n.mono (iT d) (fun _ h=>h) (fun _ _=>rfl) rfl (fun hr=>n.notF hr)⟩
  ·obtain ⟨h',_⟩:=hg x e ex h;obtain ⟨M,a,m⟩:=hH.ent x e h';exact ⟨M,iT d _ _ a,m.mono (iT d) (fun _ h=>h) (fun _ _=>rfl) rfl (fun hr=>m.notF hr)⟩
 ·intro x y e1 e2 M k h1 h2 a f j;by_cases ex:x=id
  ·by_cases c:y=id
   ·rw [ex,c]
   ·subst ex;simp at a; subst a;obtain ⟨i,q⟩:=hg y e2 c h2;rw [cD _ c] at f;exact absurd (hH.inj y b e2 e0 k L i hb f hL j.symm) q
  ·obtain ⟨l,s⟩:=hg x e1 ex h1;rw [cD _ ex] at a;by_cases c:y=id
   ·subst c;simp at f; subst f;exact absurd (hH.inj x b e1 e0 M L l hb a hL j) s
   ·obtain ⟨i,q⟩:=hg y e2 c h2;rw [cD _ c] at f;exact hH.inj x y e1 e2 M k l i a f j
 ·intro x M ⟨e,h,hr⟩ a;by_cases ex:x=id
  ·subst ex;rw [Heap.get_put,if_pos rfl] at h; cases h;simp at a; subst a;exact .inr ⟨b,L,⟨e0,hb,hr⟩,hL,rfl⟩
  ·obtain ⟨h',_⟩:=hg x e ex h;rw [cD _ ex] at a;exact .inr ⟨x,M,⟨e,h',hr⟩,a,rfl⟩
 ·intro x hx hi hn
  have:x≠id:=fun e0=>hi (e0 ▸ o)
  rw [cD _ this]; exact hn
 ·intro x M a;by_cases e0:x=id
  ·subst e0; simp at a; subst a; exact .inl ⟨b,_,hL,rfl⟩
  ·rw [cD _ e0] at a; exact .inl ⟨x,M,a,rfl⟩
 ·intro x e h _ hi;exact ⟨e,(hg x e (fun e0=>hi (e0 ▸ o)) h).1⟩
 ·intro x e M h a;by_cases e1:x=id
  ·subst e1; simp at a; subst a; exact .inr ⟨b,e0,_,hb,hL,rfl⟩
  ·rw [cD _ e1] at a; exact .inr ⟨x,e,M,(hg x e e1 h).1,a,rfl⟩
end
structure iu (I:Nat->Prop) (P:Program) (μ:Mu) (F:Nat->Prop) (H:Heap) (w:World) (v:AV) (H':Heap) (u:Value) (w':World) (μ':Mu):Prop where
 val:VR μ' F w' v u
 heap:HR P μ' F H' w'
 stp:Stp I P μ F H w μ' F H' w'
section
variable {I:Nat->Prop} {P:Program} {μ:Mu} {F:Nat->Prop} {H:Heap} {w:World} {T:Tm} {a:Act}
def pM {blk:Nat} {arr:Array Value} {ty:TypeId} {fr:Nat × Nat} (h:w.heap[blk]? = some (.cells arr ty fr)) (o:Nat):w.cell? ⟨blk,o,none⟩=arr[o]?:=by
 simp [World.cell?,h]
def DH {blk off o:Nat} {arr:Array Value} {ty t:TypeId} {fr:Nat × Nat} {cs:List AV} {k:Option Nat} {v:AV} (h:w.heap[blk]? = some (.cells arr ty fr)) (hl:off+cs.length<=arr.size)
  (f:∀ (i:Nat) (c:AV) (v:Value),cs[i]? = some c->arr[off+i]? = some v->VR μ F w c v) (d:pY P t=some k) (a:bz cs o k=some v) :
  ∃ u,(loadVar t ⟨blk,off+o,none⟩).run P w=.ok u w/\VR μ F w v u:=by
 cases k with
 | none =>
  simp only [bz] at a;have m:o<cs.length:=(VA.1 a).1;have ha:arr[off+o]? = some arr[off+o]:=WM zO;refine ⟨arr[off+o],?_,f o v _ a ha⟩;simp [loadVar,An d,pM h,ha]
 | some n =>
  simp only [bz] at a;split at a
  ·rename_i l;cases a;obtain ⟨h1,h2⟩:=Am d w;have e:=run_loadCells_list (P:=P) w ⟨blk,off+o,none⟩ ((arr.toList.drop (off+o)).take n) (fun j v hj=>by
    rw [ju,pM h];rw [VL] at hj;split at hj
    ·rw [VM] at hj; simpa using hj
    ·cases hj)
   have g:((arr.toList.drop (off+o)).take n).length=n:=by simp; omega
   rw [g] at e;refine ⟨.agg ((arr.toList.drop (off+o)).take n).toArray,by simp only [loadVar,Sem.run_bind,h1,Result.andThen_ok,if_true,h2,e,Sem.run_pure],?_⟩;refine .agg _ _ zS fun i c v hc b=>?_;rw [VL] at hc;split at hc
   ·rename_i hi;rw [VM] at hc;refine f _ c v hc ?_;simp only [WW] at b;rw [VL,if_pos hi,VM] at b;rw [<- Wx]; simpa using b
   ·cases hc
  ·cases a
def Dq {b o:Nat} {v:Value} (h:VR μ F w (.ptr b o) v):∃ L,μ b=some L/\v=.pointer (some ⟨L.blk,o,none⟩):=by
 cases h with
 | ptr _ _ L hL=>exact ⟨L,hL,rfl⟩
def fU (hH:HR P μ F H w) {b:Nat} {L:Bx} {cs:List AV} {ty:Nat} {rw:Bool} (hb:H.get b=some (.cells cs ty rw)) (hL:μ b=some L) :
  ∃ arr fr,w.heap[L.blk]? = some (.cells arr ty fr)/\arr.size=L.N/\(P.info? ty).map (·.size)=some L.sz/\cs.length<=arr.size /\
   (∀ (i:Nat) (c:AV) (v:Value),cs[i]? = some c->arr[i]? = some v->VR μ F w c v)/\(rw=true->¬ F L.blk/\fr=(0,0))/\(rw=false->True):=by
 obtain ⟨L',a,d⟩:=hH.ent b _ hb;rw [hL] at a; cases a;exact d
def Al {t:TypeId} {k:Option Nat} {x:AV} {d:Value} {v:AV} (hH:HR P μ F H w) (c:pY P t=some k) (hx:VR μ F w x d)
  (h:aW H k x=some v):∃ u,(Instr.loadAt t d).run P w=.ok u w/\VR μ F w v u:=by
 cases x with
 | ptr b o =>
  obtain ⟨L,hL,rfl⟩:=Dq hx;simp only [aW] at h;split at h
  ·rename_i cs ty rw hb;obtain ⟨arr,fr,h1,h2,h3,j,h5,l,m⟩:=fU hH hb hL;obtain ⟨u,a,hr⟩:=DH (o:=o) (off:=0) h1 zO (by simpa using h5) c h;refine ⟨u,?_,hr⟩;rw [V3] at a;simp [Instr.loadAt,Instr.sureAddr,a]
  ·cases h
 | dp cs o =>
  simp only [aW] at h;cases hx with
  | dp _ _ blk off arr ty fr i e f g =>
   obtain ⟨u,a,hr⟩:=DH e f g c h;exact ⟨u,by simp [Instr.loadAt,Instr.sureAddr,a],hr⟩
 | _=>cases h
def lU (hH:HR P μ F H w) {id:Nat} (a:μ id=none) (hlt:id<H.next) (b:I id) {arr:Array Value} {cs:List AV} {ty sz:Nat} (l:sizeOf? P ty=some sz)
  (e:cs.length<=arr.size) (d:∀ (i:Nat) (c:AV) (v:Value),cs[i]? = some c->arr[i]? = some v->VR μ F w c v)
  (w1:World) (h1:w1.heap=w.heap) (k:Tp w w1) (g:w1.os=w.os) (j:w1.output=w.output) :
  HR P (μ.upd id ⟨w.heap.size,arr.size,sz⟩) F (H.put id (.cells cs ty true)) (w1.alloc (.cells arr ty))/\Stp I P μ F H w (μ.upd id ⟨w.heap.size,arr.size,sz⟩) F (H.put id (.cells cs ty true)) (w1.alloc (.cells arr ty)):=by
 refine oK hH a hlt _ _ arr.size sz (fun w' n hn f=>?_) b w1 h1 k g j;exact ⟨arr,(0,0),hn,rfl,l,e,fun i c v hc m=>(d i c v hc m).mono (iT a) (fun _ h=>h) n,fun _=>⟨f,rfl⟩,fun h=>by cases h⟩
def zH (t:TypeId) (v:Value) (w:World):(newVar t v).run P w=.ok ⟨w.heap.size,0,none⟩ (w.alloc (.cells v.cells t)):=by
 simp [newVar,newRow]
def gC (t:TypeId) (cs:Array Value) (w:World):(newRow t cs).run P w=.ok ⟨w.heap.size,0,none⟩ (w.alloc (.cells cs t)):=by
 simp [newRow]
def JU {t:TypeId} {z:List AV} (h:zeroCells? P t=some z):∃ n,sizeOf? P t=some n:=by
 simp only [zeroCells?,Vj,Vf] at h;obtain ⟨i,hi,_⟩:=h;exact ⟨i.size,by simp [sizeOf?,hi]⟩
def Gn {e:TypeId} {z:List AV} (a:zeroCells? P e=some z) (hH:HR P μ F H w) {id:Nat} (d:μ id=none) (hlt:id<H.next) (b:I id) :
  ∃ u w' μ',(Instr.alloc e true (.tuple #[])).run P w=.ok u w'/\iu I P μ F H w (.ptr id 0) (H.put id (.cells z e true)) u w' μ':=by
 obtain ⟨n,hn⟩:=JU a;obtain ⟨zv,h,g⟩:=qA a w;have hl:=g μ F w;obtain ⟨h1,h2⟩:=lU hH d hlt b hn (arr:=zv.cells) (cs:=z) (by have:=hl.1; simp at this; omega) (fun i c v hc f=>hl.2 i c v hc (by simpa using f)) w rfl (Tp.same rfl rfl) rfl rfl;refine ⟨_,_,_,?_,⟨.ptr id 0 _ (upd_same id _),h1,h2⟩⟩;simp [Instr.alloc,h,zH]
def LP {e:TypeId} {n:Nat} {x:AV} {a:Value} (hn:sizeOf? P e=some n) (hx:VR μ F w x a) (h1:x.cells.all AV.one=true) (hH:HR P μ F H w) {id:Nat} (g:μ id=none) (hlt:id<H.next) (f:I id) :
  ∃ u w' μ',(Instr.box e a).run P w=.ok u w'/\iu I P μ F H w (.ptr id 0) (H.put id (.cells x.cells e true)) u w' μ':=by
 have hl:=AX hx h1;obtain ⟨b,d⟩:=lU hH g hlt f hn (arr:=a.cells) (cs:=x.cells) (by have:=hl.1; simp at this; omega) (fun i c v hc h=>hl.2 i c v hc (by simpa using h)) w rfl (Tp.same rfl rfl) rfl rfl;refine ⟨_,_,_,?_,⟨.ptr id 0 _ (upd_same id _),b,d⟩⟩;simp [Instr.box,zH]
def GR (cs:List AV) (vs:List Value) (b:List AV) (nv:List Value) (o n:Nat) (d:∀ (i:Nat) (c:AV) (v:Value),cs[i]? = some c->vs[i]? = some v->VR μ F w c v) (hn:LR μ F w b nv) (e:b.length=n)
  (g:cs.length<=vs.length) (h:o<=cs.length) :
  ∀ (i:Nat) (c:AV) (v:Value),(cs.take o++b++cs.drop (o+n))[i]? = some c->(vs.take o++nv++vs.drop (o+nv.length))[i]? = some v->VR μ F w c v:=by
 intro i c v hc a;have f:nv.length=n:=hn.1 ▸ e;rw [W7] at hc a;by_cases h1:i<o
 ·rw [VT zS,VL,if_pos h1] at hc;rw [VT zS,VL,if_pos h1] at a;exact d i c v hc a
 ·rw [We zS] at hc a;simp only [VN] at hc a;have e1:min o cs.length=o:=zO;have e2:min o vs.length=o:=zO;rw [e1] at hc; rw [e2] at a;by_cases h2:i-o<n
  ·rw [VT zO] at hc a;exact hn.2 _ c v hc a
  ·rw [We zO] at hc a;rw [VM] at hc a;rw [e] at hc; rw [f] at a;exact d _ c v hc a
def rW (hH:HR P μ F H w) {b:Nat} {L:Bx} {cs:List AV} {ty:Nat} (hb:H.get b=some (.cells cs ty true)) (hL:μ b=some L) {o:Nat} {a:List AV} {nv:List Value} (hn:LR μ F w a nv) (h1:a.all AV.one=true)
  (r:o<=cs.length) (q:o+a.length<=L.N) :
  ∃ w',(storeCells ⟨L.blk,o,none⟩ nv).run P w=.ok () w'/\HR P μ F (H.put b (.cells (cs.take o++a++cs.drop (o+a.length)) ty true)) w' /\
   Stp I P μ F H w μ F (H.put b (.cells (cs.take o++a++cs.drop (o+a.length)) ty true)) w':=by
 obtain ⟨arr,fr,e,n,j,k,l,f,p⟩:=fU hH hb hL;obtain ⟨_,rfl⟩:=f rfl;have s:=hn.1;have g:=run_storeCells_at (P:=P) L.blk o ty nv 0 arr w e zO (hn.one h1);simp only [WZ] at g;refine ⟨_,g,iL hH hb rfl hL _ (fun c hc=>setRow_other w _ _ _ hc) (setRow_size _ _ _) (Tp.same rfl rfl) rfl rfl (fun m=>?_) rfl⟩;refine ⟨_,(0,0),setRow_heap w L.blk arr _ ty _ e,?_,j,?_,?_,fun _=>⟨(f rfl).1,rfl⟩,fun h=>by cases h⟩
 ·simp; omega
 ·simp; omega
 ·intro i c v hc d;refine VR.mono (fun _ _ h=>h) (fun _ h=>h) m (GR cs arr.toList a nv o a.length (fun i c v hc d=>l i c v hc (by simpa using d)) hn rfl (by simpa using k) zO i c v hc (by simpa using d))
def EM {t:TypeId} {n:Nat} {x y:AV} {d a:Value} {H':Heap} (hn:sizeOf? P t=some n) (hH:HR P μ F H w) (hx:VR μ F w x d) (hy:VR μ F w y a)
  (h:qw H n x y=some H') :
  ∃ w',(Instr.storeAt t d a).run P w=.ok () w'/\iu I P μ F H w .undef H' undef w' μ:=by
 cases x with
 | ptr b o =>
  obtain ⟨L,hL,rfl⟩:=Dq hx;simp only [qw] at h;split at h
  ·rename_i cs ty hb;split at h
   ·rename_i hc;obtain ⟨e,i,c⟩:=hc;cases h;have hl:=AX hy c;obtain ⟨arr,fr,j,k,l,m,_⟩:=fU hH hb hL;obtain ⟨w',f,q1,q2⟩:=rW (I:=I) hH hb hL (o:=o) hl c zO zO;rw [e] at q1 q2;refine ⟨w',?_,⟨.undef _,q1,q2⟩⟩;have g:a.cells.size=n:=by have:=hl.1; simp at this; omega
    simp [Instr.storeAt,Instr.sureAddr,storeVar,cq hn,g,f]
   ·cases h
  ·cases h
 | _=>cases h
def r9 {y:AV} {a:Value} {m:Nat} (hy:VR μ F w y a) (h:gL y=some m):(Builtin.lenOf a).run P w=.ok m w:=by
 cases y <;> simp only [gL] at h <;> first | (cases h; done) | skip
 ·cases h; cases hy; rfl
 ·cases h; cases hy; rfl
 ·cases h; cases hy <;> rfl
 ·cases h; cases hy; rfl
def Ak {blk off n:Nat} {arr:Array Value} {ty:TypeId} {fr:Nat × Nat} {cs:List AV} (h:w.heap[blk]? = some (.cells arr ty fr)) (hl:off+cs.length<=arr.size)
  (e:∀ (i:Nat) (c:AV) (v:Value),cs[i]? = some c->arr[off+i]? = some v->VR μ F w c v) (hn:n<=cs.length) :
  ∃ nv:List Value,(∀ w',w'.heap=w.heap->(loadCells ⟨blk,off,none⟩ n).run P w'=.ok nv.toArray w')/\LR μ F w (cs.take n) nv:=by
 have d:((arr.toList.drop off).take n).length=n:=by simp; omega
 have a:∀ w',w'.heap=w.heap->(loadCells ⟨blk,off,none⟩ n).run P w'=.ok ((arr.toList.drop off).take n).toArray w':=by
  intro w' f;have a:=run_loadCells_list (P:=P) w' ⟨blk,off,none⟩ ((arr.toList.drop off).take n) (fun j v hj=>by
   rw [ju,pM (f ▸ h)];rw [VL] at hj;split at hj
   ·rw [VM] at hj; simpa using hj
   ·cases hj)
  rw [d] at a;exact a
 refine ⟨_,a,by simp; omega,fun i c v hc b=>?_⟩;rw [VL] at hc b;split at hc
 ·rename_i hi;rw [if_pos hi,VM] at b;exact e i c v hc (by simpa using b)
 ·cases hc
def lA {size n:Nat} {y:AV} {j:Value} {d:List AV} (hH:HR P μ F H w) (hy:VR μ F w y j) (h:aG H size n y=some d) :
  d.length=n*size/\∃ nv:List Value,(∀ w',w'.heap=w.heap->(Builtin.firstCells size n j).run P w'=.ok nv.toArray w')/\LR μ F w d nv:=by
 cases y <;> simp only [aG] at h <;> first | (cases h; done) | skip
 case str s =>
  split at h
  ·rename_i hc;cases h;cases hy;have l:(s.extract 0 n).size=n:=by
    have:=hc.1
    simp; omega
   refine ⟨by simp only [Vp,hc.2,WT]; exact l,((s.extract 0 n).data.map fun b=>Value.int .u8 b.toNat).toList,fun w' _=>by simp only [Builtin.firstCells,Sem.run_pure,Array.toArray_toList],?_⟩;rw [Array.toList_map];exact LR.map _ _ _ fun b _=>.int _ _
  ·cases h
 case nilSl =>
  split at h
  ·rename_i hc;cases h; cases hy;exact ⟨by simp [hc],[],fun _ _=>rfl,LR.nil⟩
  ·cases h
 case sl cs m =>
  split at h
  ·rename_i hc;cases h;refine ⟨by rw [VN]; omega,?_⟩;cases hy with
   | sl0 a0 cap =>
    have h0:n*size=0:=by have:=hc.2; simp at this; simpa using this
    exact ⟨[],fun _ _=>by simp [Builtin.firstCells,h0,loadCells,loadCellsFrom],by simp; exact LR.nil⟩
   | sl _ _ _ blk off arr ty fr e f k g a=>exact Ak f g a hc.2
  ·cases h
 case own b off m c sz ex =>
  cases hy with
  | own _ _ _ _ _ _ L cap h1 h2 h3 x h5 z =>
  split at h
  ·rename_i cs ty rw hb;split at h
   ·rename_i hc;obtain ⟨p,q,r⟩:=hc;cases h;obtain ⟨arr,fr,e,f,k,g,a,t,u⟩:=fU hH hb h1;refine ⟨by simp; omega,?_⟩;exact Ak (cs:=cs.drop off) e zS (fun i c v hc o=>by rw [VM] at hc; exact a _ c v hc o) zS
   ·cases h
  ·cases h
def Cm (a:Nat) (h:256<=a):∀ (r c:Nat),c<=2*a->Builtin.growBy a r c<=2*a
 | 0,c,hc=>hc
 | r+1,c,hc=>by
  unfold Builtin.growBy;split
  ·exact hc
  ·exact Cm a h r _ zO
def Ad {need cap:Nat} (h:cap<need):Builtin.nextslicecap need cap<=2*need:=by
 unfold Builtin.nextslicecap;split
 ·omega
 ·split
  ·omega
  ·exact Cm need zO 4 cap zO
def yI (z:Array Value) (n:Nat):(Builtin.zeroCells z n).size=n*z.size:=by simp [Builtin.zeroCells]
def O4 (P:Program) (a:TypeId):Prop:=(∃ e,P.underlying a=some (.slice e))\/P.underlying a=some .string
def L3 {t c e ty:TypeId} {size n m cap:Nat} {base:Option Addr} {b:Value} {nv:Array Value}
  (g:P.underlying t=some (.slice e)) (hs:sizeOf? P e=some size) (hx:O4 P c) (hl:(Builtin.lenOf b).run P w=.ok m w) (d:(Builtin.firstCells size m b).run P w=.ok nv w)
  (f:n+m<=cap) :
  (Builtin.append_ #[t,c] ty #[.slice base n cap,b]).run P w=((match base with | some a=>storeCells (a.add (n*size)) nv.toList | none=>pure ():Sem Unit).run P w).andThen fun _ w'=>.ok (.slice base (n+m) cap) w':=by
 unfold Builtin.append_;rcases hx with ⟨e',hx⟩ | hx <;>
 ·simp only [WW,WP,WQ,Sem.run_bind,run_underlying g,Result.andThen_ok,cq hs,run_underlying hx,Sem.run_pure,Wo,if_false,hl,Zt,if_true,f,d];cases base <;> simp
def Iv {t d e ty:TypeId} {size bytes n m cap:Nat} {base:Option Addr} {a:Value} {nv ov:Array Value} {i:TypeInfo} {zv:Value}
  (q:P.underlying t=some (.slice e)) (hs:sizeOf? P e=some size) (hi:P.info? e=some i) (h:i.bytes=bytes) (r:i.zero=some zv) (hx:O4 P d) (hl:(Builtin.lenOf a).run P w=.ok m w)
  (f:∀ w',w'.heap=w.heap->(Builtin.firstCells size m a).run P w'=.ok nv w') (o:∀ w',w'.heap=w.heap->(Builtin.firstCells size n (.slice base n cap)).run P w'=.ok ov w')
  (k:¬ n+m<=cap) (hb:(n+m)*bytes<=2^46) (hn:n+m<2^62) :
  ∃ cap',n+m<=cap'/\(Builtin.append_ #[t,d] ty #[.slice base n cap,a]).run P w =
   .ok (.slice (some ⟨w.heap.size,0,none⟩) (n+m) cap') (({ w with drawn:=w.drawn+1 }:World).alloc (.cells (ov++nv++Builtin.zeroCells zv.cells (cap'-(n+m))) e)):=by
 have l:¬ Builtin.nextslicecap (n+m) cap*i.bytes > 2^48:=by
  have h1:=Ad (need:=n+m) (cap:=cap) zO;have h2:Builtin.nextslicecap (n+m) cap*bytes<=2*(n+m)*bytes:=Vy _ h1;rw [Wc] at h2;rw [h]; omega
 have j:¬ ((↑(n+m):Int) > IntKind.i64.max/\(False\/i.bytes=0)):=by
  rintro ⟨h1,_⟩
  have:IntKind.i64.max=9223372036854775807:=by decide
  rw [this] at h1;omega
 refine ⟨(Question.appendCap (n+m) cap e).cut (w.tape w.drawn (Question.appendCap (n+m) cap e)),by simp [Question.cut],?_⟩;have b:(choose (Question.appendCap (n+m) cap e)).run P w=.ok ((Question.appendCap (n+m) cap e).cut (w.tape w.drawn (Question.appendCap (n+m) cap e))) { w with drawn:=w.drawn+1 }:=by
  rw [run_choose,if_neg (by simp [Question.forced])]
 have g:=f { w with drawn:=w.drawn+1 } rfl;have p:=o { w with drawn:=w.drawn+1 } rfl
 generalize (Question.appendCap (n+m) cap e).cut (w.tape w.drawn (Question.appendCap (n+m) cap e))=c at b
 unfold Builtin.append_;rcases hx with ⟨e',hx⟩ | hx <;>
 ·simp only [WW,WP,WQ,Sem.run_bind,run_underlying q,Result.andThen_ok,cq hs,run_underlying hx,Sem.run_pure,Wo,if_false,hl,Zt,if_true,k,
   iV hi,j,l,b,run_askRoom,p,g,zeroValue,r,gC]
def CZ (hH:HR P μ F H w) {b:Nat} {cs:List AV} {ty:Nat} {rw:Bool} (hb:H.get b=some (.cells cs ty rw)) (k:Nat):HR P μ F (H.put b (.cells (cs.take k) ty rw)) w:=by
 refine ⟨hH.dom,hH.fb,?_,?_,hH.gl⟩
 ·intro x e h;rw [Heap.get_put] at h;split at h
  ·rename_i ex; subst ex; cases h;obtain ⟨L,hL,p⟩:=hH.ent _ _ hb;obtain ⟨arr,fr,h1,h2,h3,u,h5,n,o⟩:=p;refine ⟨L,hL,arr,fr,h1,h2,h3,by simp; omega,fun i c v hc t=>?_,n,o⟩;rw [VL] at hc;split at hc
   ·exact h5 i c v hc t
   ·cases hc
  ·exact hH.ent x e h
 ·intro x y e1 e2 a d h1 h2 q r s;rw [Heap.get_put] at h1 h2;have g:∀ z e,(if z=b then some (Ent.cells (cs.take k) ty rw) else H.get z)=some e->∃ e',H.get z=some e':=by
   intro z e h;split at h
   ·rename_i f; subst f; exact ⟨_,hb⟩
   ·exact ⟨_,h⟩
  obtain ⟨f1,l⟩:=g x e1 h1;obtain ⟨j,m⟩:=g y e2 h2;exact hH.inj x y f1 j a d l m q r s
def HR.congr {a H2:Heap} (h:HR P μ F a w) (hn:a.next=H2.next) (hg:∀ x,a.get x=H2.get x):HR P μ F H2 w :=
 ⟨fun b L hb=>hn ▸ h.dom b L hb,h.fb,fun b e hb=>h.ent b e (by rw [hg]; exact hb),fun b b' e e' L L' h1 h2=>h.inj b b' e e' L L' (by rw [hg]; exact h1) (by rw [hg]; exact h2),h.gl⟩
def Stp.congr {μ':Mu} {F':Nat->Prop} {w':World} {a H2:Heap} (h:Stp I P μ F H w μ' F' a w') (hn:a.next=H2.next) (hg:∀ x e,H2.get x=some e->∃ e',a.get x=some e'/\e'.rw=e.rw):Stp I P μ F H w μ' F' H2 w' :=
 ⟨h.mu,h.fr,h.size,h.keep,fun b L ⟨e,he,hr⟩ hL=>h.rw b L (let ⟨e',h1,h2⟩:=hg b e he; ⟨e',h1,h2.trans hr⟩) hL,hn ▸ h.next,h.new,h.rng,fun b e hb hl hi=>let ⟨e',h1,_⟩:=hg b e hb; h.old b e' h1 hl hi,fun b e L hb hL=>let ⟨e',h1,_⟩:=hg b e hb; h.alv b e' L h1 hL,h.tape,h.os,h.out⟩
def tu {e id size bytes m:Nat} {x v:AV} {t:Value} {d:List AV} {nv:Array Value} {zv:Value} {fr:Option Nat} {H':Heap} {A:Sem Value}
  (hH:HR P μ F H w) (Q:μ id=none) (hlt:id<H.next) (O:I id) (hs:sizeOf? P e=some size) (am:zv.cells.size=size)
  (hx:VR μ F w x t) (B:LR μ F w d nv.toList) (z:d.length=m*size) (h:cS H id size bytes e x m d fr=some (v,H'))
  (y:∀ base n cap,t=.slice base n cap->n+m<=cap->A.run P w=((match base with | some a=>storeCells (a.add (n*size)) nv.toList | none=>pure ():Sem Unit).run P w).andThen fun _ w'=>.ok (.slice base (n+m) cap) w')
  (E:∀ base n cap ov,t=.slice base n cap->¬ n+m<=cap->(n+m)*bytes<=2^46->n+m<2^62->(∀ w',w'.heap=w.heap->(Builtin.firstCells size n t).run P w'=.ok ov w') ->
   ∃ cap',n+m<=cap'/\A.run P w=.ok (.slice (some ⟨w.heap.size,0,none⟩) (n+m) cap') (({ w with drawn:=w.drawn+1 }:World).alloc (.cells (ov++nv++Builtin.zeroCells zv.cells (cap'-(n+m))) e))) :
  ∃ u w' μ',A.run P w=.ok u w'/\iu I P μ F H w v H' u w' μ':=by
 have C:nv.size=m*size:=by have:=B.1; simp at this; omega
 have grow:∀ (H0:Heap) (n:Nat) (ov:Array Value) (l:List AV) (cap':Nat),HR P μ F H0 w->id<H0.next->LR μ F w l ov.toList->l.length=n*size->n+m<=cap' ->
   A.run P w=.ok (.slice (some ⟨w.heap.size,0,none⟩) (n+m) cap') (({ w with drawn:=w.drawn+1 }:World).alloc (.cells (ov++nv++Builtin.zeroCells zv.cells (cap'-(n+m))) e)) ->
   ∃ u w' μ',A.run P w=.ok u w'/\iu I P μ F H0 w (.own id 0 (n+m) (n+m) size false) (H0.put id (.cells (l++d) e true)) u w' μ':=by
  intro H0 n ov l cap' ab ah R j hc f;have G:ov.size=n*size:=by have:=R.1; simp at this; omega
  have ad:=R.append B;have ae:(ov++nv++Builtin.zeroCells zv.cells (cap'-(n+m))).size=cap'*size:=by
   simp only [XD,G,C,yI,am];rw [<- Wq,<- Wq]; congr 1; omega
  obtain ⟨q1,q2⟩:=lU ab Q ah O (sz:=size) (arr:=ov++nv++Builtin.zeroCells zv.cells (cap'-(n+m))) (cs:=l++d) hs
   (by simp only [XD,VC,j,z,G,C]; omega)
   (fun i c u hc T=>by
    have hi:i<(l++d).length:=(VA.1 hc).1;simp only [VC,j,z] at hi;rw [WO (by simp only [XD,G,C]; omega)] at T;exact ad.2 i c u hc (by rw [<- Array.toList_append,Y3]; exact T)) { w with drawn:=w.drawn+1 } rfl Tp.draw rfl rfl
  refine ⟨_,_,_,f,⟨?_,q1,q2⟩⟩;exact .own id 0 (n+m) (n+m) size false _ cap' (upd_same id _) rfl (Vo _) hc (fun h=>by cases h) (by rw [V3]; exact X4 ae.symm)
 unfold cS at h;cases x with
 | nilSl =>
  simp only at h;cases hx;split at h
  ·rename_i hm;subst hm;cases h
   have:=y none 0 0 rfl (Vo _)
   exact ⟨_,w,μ,this,⟨.nilSl,hH,Stp.refl _ _ _ _ _ _⟩⟩
  ·rename_i hm;split at h
   ·rename_i hc;cases h;obtain ⟨cap',q,f⟩:=E none 0 0 #[] rfl zO (by simpa using hc.1) (by simpa using hc.2) (fun _ _=>rfl)
    have:=grow H 0 #[] [] cap' hH hlt LR.nil (by simp) q f
    simpa using this
   ·cases h
 | own b off n c sz ex =>
  simp only at h;cases hx with
  | own _ _ _ _ _ _ L cap h1 h2 h3 N h5 p =>
  split at h
  ·rename_i cs r rw hb;split at h
   ·rename_i hc;obtain ⟨V,K,M,W,X⟩:=hc;subst V; subst W;obtain ⟨arr,ao,Z,g2,g3,g4,g5,g6,g7⟩:=fU hH hb h1;have af:∀ k,k<=cap->off+k*sz<=L.N:=fun k hk=>VB (Nat.add_le_add_left (Vy _ hk) _) p;have U:n+m<=cap->rw=true->d.all AV.one=true->∃ w',A.run P w=.ok (.slice (some ⟨L.blk,off,none⟩) (n+m) cap) w' /\
      HR P μ F (H.put b (.cells (cs.take (off+n*sz)++d++cs.drop (off+n*sz+m*sz)) r rw)) w'/\Stp I P μ F H w μ F (H.put b (.cells (cs.take (off+n*sz)++d++cs.drop (off+n*sz+m*sz)) r rw)) w':=by
     intro g al aa;subst al;have hN:=af (n+m) g;rw [Wq] at hN;obtain ⟨w',f,q1,q2⟩:=rW (I:=I) hH hb h1 (o:=off+n*sz) B aa X zO;rw [z] at q1 q2;refine ⟨w',?_,q1,q2⟩;rw [y _ n cap rfl g];simp only [ju,f,Result.andThen_ok]
    obtain ⟨ov,S,D⟩:=Ak (P:=P) (off:=off) (cs:=cs.drop off) (n:=n*sz) Z (by rw [WN]; omega) (fun i c v hc hv=>by rw [VM] at hc; exact g5 _ c v hc hv) (by rw [WN]; omega);have j:((cs.drop off).take (n*sz)).length=n*sz:=by rw [VN,WN]; omega
    split at h
    ·rename_i ai;split at h
     ·rename_i hm;cases h;subst hm
      have:=y _ n cap rfl zO
      have ak:nv.toList=[]:=by
       have:nv.size=0:=zO
       simpa using this
      simp only [ak,storeCells,Sem.run_pure,Result.andThen_ok] at this;exact ⟨_,w,μ,this,⟨.own b off n c sz ex L cap h1 h2 h3 N h5 p,hH,Stp.refl _ _ _ _ _ _⟩⟩
     ·split at h
      ·rename_i s;cases h;obtain ⟨w',f,q1,q2⟩:=U zO s.1 s.2;exact ⟨_,w',μ,f,⟨.own b off (n+m) c sz ex L cap h1 h2 zO N h5 p,q1,q2⟩⟩
      ·cases h
    ·rename_i ai;split at h
     ·rename_i ag;cases h;have ap:=h5 ag;obtain ⟨cap',q,f⟩:=E _ n cap ov.toArray rfl zO K M S;exact grow H n ov.toArray _ cap' hH hlt (by simpa using D) j q f
     ·split at h
      ·rename_i s;obtain ⟨e1,e2,e3,Y⟩:=s;cases h;subst e1;by_cases g:n+m<=cap
       ·obtain ⟨w',f,q1,q2⟩:=U g e2 Y;subst e2;have q3:=CZ q1 (by rw [Heap.get_put,if_pos rfl]) (n*sz+m*sz);have ht:((cs.take (0+n*sz)++d++cs.drop (0+n*sz+m*sz)).take (n*sz+m*sz))=cs.take (n*sz)++d:=by
         rw [V3,XP zS,VP zS]
        rw [ht] at q3;obtain ⟨q4,q5⟩:=uF (I:=I) q3 (b:=b) (id:=id) (L:=L) (by rw [Heap.get_put,if_pos rfl]) h1 Q hlt O;refine ⟨_,w',μ.upd id L,f,⟨?_,?_,?_⟩⟩
        ·exact .own id 0 (n+m) (n+m) sz false L cap (upd_same id _) h2 (Vo _) g (fun h=>by cases h) (by rw [V3] at p ⊢; exact p)
        ·refine q4.congr rfl fun x=>?_;simp only [Heap.get_put,Heap.get_kill];split
         ·rfl
         ·split
          ·rfl
          ·rfl
        ·have q6:Stp I P μ F H w μ F ((H.put b (.cells (cs.take (0+n*sz)++d++cs.drop (0+n*sz+m*sz)) r true)).put b (.cells (cs.take (n*sz)++d) r true)) w' :=
          q2.congr rfl (fun x e he=>by
           rw [Heap.get_put] at he;split at he
           ·rename_i ex; subst ex; cases he; exact ⟨.cells (cs.take (0+n*sz)++d++cs.drop (0+n*sz+m*sz)) r true,by rw [Heap.get_put,if_pos rfl],rfl⟩
           ·exact ⟨e,he,rfl⟩)
         refine (q6.trans q5).congr rfl fun x e he=>⟨e,?_,rfl⟩
         simp only [Heap.get_put,Heap.get_kill] at he ⊢;split at he
         ·rename_i hx; rw [if_pos hx]; exact he
         ·rename_i hx;rw [if_neg hx];split at he
          ·cases he
          ·rename_i J; rw [if_neg J,if_neg J,if_neg J]; exact he
       ·obtain ⟨cap',q,f⟩:=E _ n cap ov.toArray rfl g K M S;obtain ⟨q1,q2⟩:=tU (I:=I) hH b;rw [Z7] at D j;obtain ⟨u,w',μ',r1,r2⟩:=grow (H.kill b) n ov.toArray (cs.take (n*sz)) cap' q1 hlt (by simpa using D) j q f;exact ⟨u,w',μ',r1,⟨r2.val,r2.heap,q2.trans r2.stp⟩⟩
      ·cases h
   ·cases h
  ·cases h
 | _=>cases h
def KO {α:Type} [Inhabited α] (z:Array α) (n:Nat):((List.range (n*z.size)).map fun i=>z[i % z.size]!)=(List.replicate n z.toList).flatten:=by
 induction n with
 | zero=>simp
 | succ n a =>
  rw [Wq,Yo,X5,List.range_add,V7,Wk,X6,<- a];congr 1
  ·apply Xk
   ·simp
   ·intro i h1 h2;simp at h1;simp [Wd h1,h1]
  ·rw [Xu]
   apply Xb
   intro i _;simp [Nat.add_mod_left]
def LR.rep {z:List AV} {zs:List Value} (h:LR μ F w z zs):∀ n,LR μ F w ((List.replicate n z).flatten) ((List.replicate n zs).flatten)
 | 0=>LR.nil
 | n+1=>by
  rw [Wk,Wk,X6,X6];exact h.append (h.rep n)
def gX {z:Array Value} (N n:Nat) (h:N=n*z.size):((Array.range N).map fun i=>z[i % z.size]!).toList=(List.replicate n z.toList).flatten:=by
 subst h;rw [Array.toList_map,Array.toList_range];exact KO z n
def xu {t e:TypeId} {n len:Nat} {z cs:List AV} {parts:List (Nat × Operand)} {ps:List ((Nat × Nat) × Src)} (hT:LR μ F w T a.tmps.toList)
  (A:P.underlying t=some (.slice e)) (hs:sizeOf? P e=some n) (C:zeroCells? P e=some z) (G:z.length=n) (L:len*n<=2^24)
  (x:(parts.mapM fun (p:Nat × Operand)=>(do some ((p.1*n,n),(<- bV p.2)):Option ((Nat × Nat) × Src)))=some ps) (d:dj ((List.replicate len z).flatten) (ps.map fun p=>(p.1,p.2.ev T))=some cs)
  (hH:HR P μ F H w) {id:Nat} (o:μ id=none) (hlt:id<H.next) (k:I id) :
  ∃ u w' μ',(Instr.buildSlice t len (parts.toArray.map fun p=>(p.1,a.eval p.2))).run P w=.ok u w'/\iu I P μ F H w (.own id 0 len len n true) (H.put id (.cells cs e true)) u w' μ':=by
 obtain ⟨zv,J,g⟩:=qA C w;have j:zv.cells.size=n:=by have:=(g μ F w).1; simp at this; omega
 have y:=(g μ F w).rep len;have m:∃ b:Array Value,((len*n=0/\b = #[])\/(len*n≠0/\b=zv.cells))/\((Array.range (len*n)).map fun i=>b[i % b.size]!).toList=(List.replicate len zv.cells.toList).flatten:=by
  by_cases h0:len*n=0
  ·refine ⟨#[],.inl ⟨h0,rfl⟩,?_⟩;rw [h0]
   have:(List.replicate len zv.cells.toList).flatten.length=0:=by simp [j,h0]
   simp only [WL] at this;rw [this]; simp
  ·refine ⟨zv.cells,.inr ⟨h0,rfl⟩,?_⟩;exact gX _ _ (by rw [j])
 obtain ⟨b,D,E⟩:=m;obtain ⟨vs,f,hr⟩:=DW hT (fun i=>some (i*n,n)) parts ps _ ((Array.range (len*n)).map fun i=>b[i % b.size]!) cs x (by rw [E]; exact y) d;have q:=hr.1;simp at q;have M:vs.size=len*n:=by
  have key:∀ (l:List ((Nat × Nat) × AV)) (z cs:List AV),dj z l=some cs->cs.length=z.length:=by
   intro l
   induction l with
   | nil=>intro z cs h; cases h; rfl
   | cons p l K =>
    intro z cs h;obtain ⟨⟨off,size⟩,v⟩:=p;simp only [dj] at h;split at h
    ·rename_i hc;rw [K _ _ h]
     simp; omega
    ·cases h
  have:=key _ _ _ d
  simp [G] at this;omega
 obtain ⟨q1,q2⟩:=lU hH o hlt k (arr:=vs) (cs:=cs) hs zO (fun i c v hc B=>hr.2 i c v hc (by simpa using B)) w rfl (Tp.same rfl rfl) rfl rfl;refine ⟨_,_,_,?_,⟨.own id 0 len len n true _ len (upd_same id _) rfl (Vo _) (Vo _) (fun _=>rfl) zS,q1,q2⟩⟩;have r:¬ len*n > 2^24:=zO;unfold Instr.buildSlice;have s:(parts.toArray.map fun p=>(p.1,a.eval p.2)).toList=parts.map fun p=>(p.1,a.eval p.2):=by simp
 simp only [Sem.run_bind,run_underlying A,Result.andThen_ok,cq hs,r,if_false,s];rcases D with ⟨h0,rfl⟩ | ⟨h0,rfl⟩
 ·rw [if_pos h0];simp only [Sem.run_bind,Sem.run_pure,Result.andThen_ok,f,gC]
 ·rw [if_neg h0];simp only [Sem.run_bind,Sem.run_pure,Result.andThen_ok,J,f,gC]
def yJ {c:Nat} (h:c<2^63):IntKind.i64.wrap (c:Int)=c:=by
 have e:IntKind.i64.wrap (c:Int)=(if IntKind.i64.signed && decide ((c:Int) % (2^IntKind.i64.bits:Int) ≥ (2^(IntKind.i64.bits-1):Int)) then (c:Int) % (2^IntKind.i64.bits:Int)-(2^IntKind.i64.bits:Int) else (c:Int) % (2^IntKind.i64.bits:Int)):=rfl;have h1:(c:Int) % (2^IntKind.i64.bits:Int)=c:=by
  have:(2^IntKind.i64.bits:Int)=18446744073709551616:=by decide
  rw [this]; omega
 rw [e,h1];have h2:¬ (c:Int) ≥ (2^(IntKind.i64.bits-1):Int):=by
  have:(2^(IntKind.i64.bits-1):Int)=9223372036854775808:=by decide
  rw [this]; omega
 simp [h2]
def HE {t e:TypeId} {size bytes l c:Nat} {z:List AV} {vl g:Value} {E D:IntKind}
  (r:P.underlying t=some (.slice e)) (hs:sizeOf? P e=some size) (hb:bytesOf? P e=some bytes) (x:zeroCells? P e=some z) (B:z.length=size)
  (hl:vl=.int E (l:Int)) (hc:g=.int D (c:Int)) (p:l<=c) (J:bytes*c<=2^47) (j:c<2^63)
  (hH:HR P μ F H w) {id:Nat} (o:μ id=none) (hlt:id<H.next) (h:I id) :
  ∃ u w' μ',(Instr.makeSlice t vl g).run P w=.ok u w'/\iu I P μ F H w (.own id 0 l c size true) (H.put id (.cells ((List.replicate c z).flatten) e true)) u w' μ':=by
 obtain ⟨zv,C,d⟩:=qA x w;have f:zv.cells.size=size:=by have:=(d μ F w).1; simp at this; omega
 have q:=(d μ F w).rep c;have k:∃ a:Array Value,((c*size=0/\a = #[])\/(c*size≠0/\a=zv.cells))/\((Array.range (c*size)).map fun i=>a[i % a.size]!).toList=(List.replicate c zv.cells.toList).flatten:=by
  by_cases h0:c*size=0
  ·refine ⟨#[],.inl ⟨h0,rfl⟩,?_⟩;rw [h0]
   have:(List.replicate c zv.cells.toList).flatten.length=0:=by simp [f,h0]
   simp only [WL] at this;rw [this]; simp
  ·refine ⟨zv.cells,.inr ⟨h0,rfl⟩,?_⟩;exact gX _ _ (by rw [f])
 obtain ⟨a,y,A⟩:=k;obtain ⟨i,hi,n⟩:=KJ hb w;have b:((Array.range (c*size)).map fun i=>a[i % a.size]!).size=c*size:=by simp
 obtain ⟨q1,q2⟩:=lU hH o hlt h (arr:=(Array.range (c*size)).map fun i=>a[i % a.size]!) (cs:=(List.replicate c z).flatten) hs (by rw [b]; simp [B])
  (fun i c v hc s=>q.2 i c v hc (by rw [<- A,Y3]; exact s)) w rfl (Tp.same rfl rfl) rfl rfl
 refine ⟨_,_,_,?_,⟨.own id 0 l c size true _ c (upd_same id _) rfl p (Vo _) (fun _=>rfl) (by show 0+c*size<=_; rw [V3]; exact X4 b.symm),q1,q2⟩⟩;subst hl; subst hc;unfold Instr.makeSlice;have e1:=yJ (c:=c) j;have e2:=yJ (c:=l) zO;have G:¬ ((c:Int)<0\/(bytes:Int)*(c:Int) > 2^48):=by
  have:((bytes*c:Nat):Int)=(bytes:Int)*(c:Int):=by simp
  rw [<- this]; omega
 simp only [Sem.run_bind,run_underlying r,Result.andThen_ok,asInt,asIntOf,Sem.run_pure,hi,n,e1,e2];have m:¬ (((decide ((c:Int)<0) || decide ((bytes:Int)*(c:Int) > 2^48)) || decide ((l:Int)<0) || decide ((l:Int) > (c:Int)))=true):=by
  simp; omega
 rw [if_neg m];simp only [Sem.run_bind,run_askRoom,Result.andThen_ok,cq hs,Xq];rcases y with ⟨h0,rfl⟩ | ⟨h0,rfl⟩
 ·rw [if_pos h0];simp only [Sem.run_bind,Sem.run_pure,Result.andThen_ok,gC]
 ·rw [if_neg h0];simp only [Sem.run_bind,Sem.run_pure,Result.andThen_ok,C,gC]
def TL (a b:ByteArray) (h:(a == b)=true):a=b:=by
 obtain ⟨x⟩:=a; obtain ⟨y⟩:=b
 have:(x == y)=true:=h
 have:=eq_of_beq this
 rw [this]
def QO (a:ByteArray):(a == a)=true:=by
 obtain ⟨x⟩:=a;show (x == x)=true;exact beq_self_eq_true x
def KD (d:TypeDesc) (kd:BK):Prop:=(∃ j,d=.int j/\kd=.int)\/(d=.string/\kd=.str)
def N9 {t:TypeId} {kd:BK} (h1:Ci P t=true) (h2:jt P t=some kd):∃ d,P.underlying t=some d/\KD d kd:=by
 unfold Ci at h1;unfold jt at h2;split at h1
 ·rename_i j hj; rw [hj] at h2; cases h2; exact ⟨_,hj,.inl ⟨j,rfl,rfl⟩⟩
 ·rename_i hj; rw [hj] at h2; cases h2; exact ⟨_,hj,.inr ⟨rfl,rfl⟩⟩
 ·cases h1
def yc {t:TypeId} {d:TypeDesc} {kd:BK} {k:AV} {a:Value} (hd:P.underlying t=some d) (f:KD d kd) (e:VR μ F w k a) (c:fJ kd k=true) (b:Bool):(Instr.checkKey b 10000 t a).run P w=.ok () w:=by
 show (Instr.checkKey b (9999+1) t a).run P w=.ok () w;unfold Instr.checkKey;rcases f with ⟨j,rfl,rfl⟩ | ⟨rfl,rfl⟩
 ·simp only [Sem.run_bind,run_underlying hd,Result.andThen_ok];cases k <;> simp [fJ] at c;cases e; rfl
 ·simp only [Sem.run_bind,run_underlying hd,Result.andThen_ok];cases k <;> simp [fJ] at c;cases e; rfl
def Ha {d:TypeDesc} {kd:BK} {k a:AV} {c f:Value} {b:Bool} (m:KD d kd) (i:VR μ F w k c) (l:VR μ F w a f) (g:fJ kd k=true) (h:dV k a=some b) :
  Instr.sameNow d c f=some b/\(b=true->Instr.sameBits 10000 f c=true):=by
 rcases m with ⟨j,rfl,rfl⟩ | ⟨rfl,rfl⟩
 ·cases k <;> simp [fJ] at g;cases a <;> simp [dV] at h;obtain ⟨e,h⟩:=h;cases i; cases l;subst e;refine ⟨by simp [Instr.sameNow,h],fun hb=>?_⟩;subst hb;have h:=eq_of_beq h;subst h;simp [Instr.sameBits]
 ·cases k <;> simp [fJ] at g;cases a <;> simp [dV] at h;cases i; cases l;refine ⟨by simp [Instr.sameNow,h],fun hb=>?_⟩;subst hb;have h:=TL _ _ h;subst h;simp [Instr.sameBits,QO]
def DV {d:TypeDesc} {kd:BK} {k:AV} {a:Value} (f:KD d kd) (g:VR μ F w k a) (c:fJ kd k=true):∀ (es:List (AV × AV)) (xs:List MapEntry) (i:Nat),LR μ F w (es.map (·.1)) (xs.map (·.key))->LR μ F w (es.map (·.2)) (xs.map (·.val)) ->
  (ic k es=some none->Instr.findNow d a xs i=some none/\∀ v,mc k v es=es++[(k,v)]) /\
  (∀ x,ic k es=some (some x)->∃ j e,xs[j]? = some e/\Instr.findNow d a xs i=some (some (i+j,e.val))/\VR μ F w x e.val/\Instr.sameBits 10000 e.key a=true/\∀ v,mc k v es=es.set j (k,v))
 | [],[],i,_,_=>⟨fun _=>⟨rfl,fun _=>rfl⟩,fun x h=>by simp [ic] at h⟩
 | [],_ :: _,_,h,_=>by have:=h.1; simp at this
 | _ :: _,[],_,h,_=>by have:=h.1; simp at this
 | (u,y) :: es,e :: xs,i,h1,h2=>by
  have r:=h1.head;have s:=h2.head;obtain ⟨l,t⟩:=DV f g c es xs (i+1) h1.tail h2.tail;simp only [ic,mc,Instr.findNow];cases hs:dV k u with
  | none=>exact ⟨fun h=>by simp at h,fun x h=>by simp at h⟩
  | some b =>
   obtain ⟨hn,hb⟩:=Ha f g r c hs;rw [hn];cases b with
   | true =>
    refine ⟨fun h=>by simp at h,fun x h=>?_⟩;simp at h; subst h;exact ⟨0,e,rfl,by simp,s,hb rfl,fun v=>rfl⟩
   | false =>
    simp only;refine ⟨fun h=>⟨(l h).1,fun v=>by rw [(l h).2 v]; rfl⟩,fun x h=>?_⟩;obtain ⟨j,e',m,n,o,p,q⟩:=t x h;exact ⟨j+1,e',by simpa using m,by rw [n]; congr 3; omega,o,p,fun v=>by rw [q v]; rfl⟩
def mg {L:Bx} {xs:Array MapEntry} {c:Nat} (h:w.heap[L.blk]? = some (.map xs c)):(getObj L.blk).run P w=.ok (.map xs c) w:=by
 simp [getObj,Sem.run,h]
def zC {L:Bx} {xs:Array MapEntry} {c:Nat} (h:w.heap[L.blk]? = some (.map xs c)) (o:Obj):(setObj L.blk o).run P w=.ok () (w.putObj L.blk o):=by
 simp [setObj,Sem.run,h,World.putObj]
def NY {x:AV} {i:Value} {es:List (AV × AV)} (hH:HR P μ F H w) (hx:VR μ F w x i) (h:uP H x=some es) :
  ∃ xs:Array MapEntry,LR μ F w (es.map (·.1)) (xs.toList.map (·.key))/\LR μ F w (es.map (·.2)) (xs.toList.map (·.val))/\((i=.map none/\xs = #[])\/∃ (L:Bx) (c:Nat),i=.map (some L.blk)/\w.heap[L.blk]? = some (.map xs c)):=by
 cases x <;> simp only [uP] at h <;> first | (cases h; done) | skip
 ·cases h; cases hx; exact ⟨#[],LR.nil,LR.nil,.inl ⟨rfl,rfl⟩⟩
 ·rename_i b;split at h
  ·rename_i j hb;cases h;cases hx with
   | map _ L hL =>
   obtain ⟨L',a,g⟩:=hH.ent b _ hb;rw [hL] at a; cases a;obtain ⟨_,xs,c,d,e,f,_⟩:=g;exact ⟨xs,e,f,.inr ⟨L,c,rfl,d⟩⟩
  ·rename_i j hb;cases h;cases hx with
   | map _ L hL =>
   obtain ⟨L',a,g⟩:=hH.ent b _ hb;rw [hL] at a; cases a;obtain ⟨xs,c,d,e,f,_⟩:=g;exact ⟨xs,e,f,.inr ⟨L,c,rfl,d⟩⟩
  ·cases h
def Aj {t a e:TypeId} {g f zv:Value} {ok:Bool} {xs:Array MapEntry} {d:TypeDesc} {res:Option (Nat × Value)} (j:P.underlying t=some (.map a e)) (hd:P.underlying a=some d)
  (h:∀ b,(Instr.checkKey b 10000 a f).run P w=.ok () w) (k:(zeroValue e).run P w=.ok zv w)
  (hm:(g=.map none/\xs = #[])\/∃ (L:Bx) (c:Nat),g=.map (some L.blk)/\w.heap[L.blk]? = some (.map xs c)) (i:Instr.findNow d f xs.toList 0=some res) :
  (Instr.lookup t g f ok).run P w=.ok (match res with | some (_,v)=>if ok then .tuple #[v,.bool true] else v | none=>if ok then .tuple #[zv,.bool false] else zv) w:=by
 unfold Instr.lookup;rcases hm with ⟨rfl,rfl⟩ | ⟨L,c,rfl,hL⟩
 ·simp only [Sem.run_bind,run_underlying j,Result.andThen_ok,Sem.run_pure,h,Instr.findKey,run_underlying hd,i];cases res with
  | none=>cases ok <;> simp [k]
  | some p=>cases ok <;> simp
 ·simp only [Sem.run_bind,run_underlying j,Result.andThen_ok,Sem.run_pure,h,Instr.findKey,run_underlying hd,mg hL,i];cases res with
  | none=>cases ok <;> simp [k]
  | some p=>cases ok <;> simp
def DE {t f e:TypeId} {kd:BK} {x i z v:AV} {r g zv:Value} {ok:Bool} (hH:HR P μ F H w) (n:P.underlying t=some (.map f e)) (E:Ci P f=true) (G:jt P f=some kd)
  (I:((P.info? e).bind (·.zero))=some zv) (K:su zv=some z) (hx:VR μ F w x r) (hi:VR μ F w i g)
  (h:pX H kd z x i ok=some v):∃ u,(Instr.lookup t r g ok).run P w=.ok u w/\VR μ F w v u:=by
 obtain ⟨d,hd,m⟩:=N9 E G;unfold pX at h;split at h
 ·cases h
 rename_i a;have a:fJ kd i=true:=by simpa using a
 have o:(zeroValue e).run P w=.ok zv w:=by
  obtain ⟨L,D,J⟩:=Vf.1 I;simp [zeroValue,iV D,J]
 have p:=pL (μ:=μ) (F:=F) (w:=w) K;split at h
 ·cases h
 rename_i es C;obtain ⟨xs,A,B,k⟩:=NY hH hx C;obtain ⟨f1,s⟩:=DV m hi a es xs.toList 0 A B;have q:∀ (x:AV) (v:Value) (b:Bool),VR μ F w x v->VR μ F w (.tup [x,.bool b]) (.tuple #[v,.bool b]):=fun x v b h=>by
  have:=LR.cons h (LR.cons (.bool b) (LR.nil (μ:=μ) (F:=F) (w:=w)))
  exact .tup _ _ rfl fun i c u h1 h2=>this.2 i c u h1 (by simpa using h2)
 have l:∀ b,(Instr.checkKey b 10000 f g).run P w=.ok () w:=fun b=>yc hd m hi a b;split at h
 ·cases h
 ·rename_i hr;cases h;refine ⟨_,Aj n hd l o k (f1 hr).1,?_⟩;cases ok
  ·exact p
  ·exact q _ _ _ p
 ·rename_i y hr;cases h;obtain ⟨j,e',q1,q2,q3,_⟩:=s y hr;refine ⟨_,Aj n hd l o k q2,?_⟩;cases ok
  ·exact q3
  ·exact q _ _ _ q3
def uN {t x e:TypeId} {kd:BK} {m k v:AV} {vm f n:Value} {H':Heap} (hH:HR P μ F H w) (E:P.underlying t=some (.map x e)) (N:Ci P x=true) (O:jt P x=some kd)
  (hm:VR μ F w m vm) (u:VR μ F w k f) (G:VR μ F w v n) (h:iB H kd m k v=some H'):∃ w',(Instr.mapUpdate t vm f n).run P w=.ok () w'/\iu I P μ F H w .undef H' undef w' μ:=by
 obtain ⟨d,hd,D⟩:=N9 N O;unfold iB at h;split at h
 ·cases h
 rename_i s;have s:fJ kd k=true:=by simpa using s
 have C:∀ b,(Instr.checkKey b 10000 x f).run P w=.ok () w:=fun b=>yc hd D u s b;cases m with
 | map b =>
  simp only at h;split at h
  ·rename_i es hb;cases hm with
   | map _ L hL =>
   obtain ⟨L',B,M⟩:=hH.ent b _ hb;rw [hL] at B; cases B;obtain ⟨Q,xs,c,p,z,A,l⟩:=M;obtain ⟨f1,K⟩:=DV D u s es xs.toList 0 z A;have hlt:=(Wz.1 p).1;have fin:∀ (g:Array MapEntry) (o:Nat),LR μ F w ((mc k v es).map (·.1)) (g.toList.map (·.key))->LR μ F w ((mc k v es).map (·.2)) (g.toList.map (·.val))->ID g.toList o ->
     HR P μ F (H.put b (.map (mc k v es))) (w.putObj L.blk (.map g o))/\Stp I P μ F H w μ F (H.put b (.map (mc k v es))) (w.putObj L.blk (.map g o)):=by
    intro g o q1 q2 q3;refine iL hH hb rfl hL _ (fun c hc=>World.putObj_heap_other hc) (by simp [World.putObj]) (Tp.same rfl rfl) rfl rfl (fun J=>?_) rfl;exact ⟨Q,g,o,World.putObj_heap_same hlt,q1.mono (fun _ _ h=>h) (fun _ h=>h) J,q2.mono (fun _ _ h=>h) (fun _ h=>h) J,q3⟩
   split at h
   ·cases h
   ·rename_i r hr;cases h;cases r with
    | none =>
     obtain ⟨q1,q2⟩:=f1 hr;have q:=q2 v;obtain ⟨r1,r2⟩:=fin (xs.push { key:=f,val:=n,born:=c }) (c+1) (by rw [q]; simp only [V7,YU,Vq,Vw]; exact z.append (LR.cons u LR.nil))
      (by rw [q]; simp only [V7,YU,Vq,Vw]; exact A.append (LR.cons G LR.nil)) ⟨fun e he=>by
       simp only [YU,VE,Wl] at he;rcases he with he | rfl
       ·have:=l.1 e he; omega
       ·exact YF _,by
       simp only [YU,V7,Vq,Vw];refine List.nodup_append.2 ⟨l.2,by simp,fun a ha b hb=>?_⟩;simp only [Wl] at hb;subst hb;obtain ⟨e,he,rfl⟩:=Vl.1 ha
       have:=l.1 e he
       omega⟩
     refine ⟨_,?_,⟨.undef _,r1,r2⟩⟩;unfold Instr.mapUpdate;simp only [Sem.run_bind,run_underlying E,Result.andThen_ok,mg p,C,Instr.findKey,run_underlying hd,q1,Sem.run_pure,zC p]
    | some y =>
     obtain ⟨j,e',q1,q2,q3,q4,q5⟩:=K y hr;have q:=q5 v;have hj:xs[j]? = some e':=by simpa using q1
     have R:j<xs.size:=(Wz.1 hj).1;have hl:(xs.modify j fun e=>{ e with key:=f,val:=n }).toList=xs.toList.set j { e' with key:=f,val:=n }:=by
      rw [Array.toList_modify];rw [List.modify_eq_set];rw [q1]; rfl
     obtain ⟨r1,r2⟩:=fin (xs.modify j fun e=>{ e with key:=f,val:=n }) c (by rw [q,hl,YG,YG]; exact z.set j u) (by rw [q,hl,YG,YG]; exact A.set j G) ⟨fun e he=>by
       rw [hl] at he;rcases ZI he with he | rfl
       ·exact l.1 e he
       ·exact l.1 e' (VD q1),by
       have e0:(xs.toList.map (·.born)).set j e'.born=xs.toList.map (·.born):=by
        apply W0
        intro i;by_cases hi:j=i
        ·subst hi;rw [XU,Wg,q1]; rfl
        ·rw [X3 hi]
       rw [hl,YG];show ((xs.toList.map (·.born)).set j e'.born).Nodup;rw [e0]; exact l.2⟩
     refine ⟨_,?_,⟨.undef _,r1,r2⟩⟩;unfold Instr.mapUpdate;simp only [Sem.run_bind,run_underlying E,Result.andThen_ok,mg p,C,Instr.findKey,run_underlying hd,q2,Sem.run_pure,V3,hj,W8,WX,Instr.keyThatStays,q4,if_true,zC p]
  ·cases h
 | _=>cases h
def Fk {t:TypeId} (hH:HR P μ F H w) {id:Nat} (b:μ id=none) (hlt:id<H.next) (a:I id) :
  ∃ u w' μ',(Instr.makeMap t none).run P w=.ok u w'/\iu I P μ F H w (.map id) (H.put id (.map [])) u w' μ':=by
 obtain ⟨q1,q2⟩:=oK hH b hlt (.map #[] 0) (.map []) 0 0 (fun w' d hn c=>⟨c,#[],0,hn,LR.nil,LR.nil,fun e he=>by simp at he,List.nodup_nil⟩) a w rfl (Tp.same rfl rfl) rfl rfl;exact ⟨_,_,_,by simp [Instr.makeMap],⟨.map id _ (upd_same id _),q1,q2⟩⟩
def Dp {t:TypeId} {s:ByteArray} {a:Value} (e:P.underlying t=some .string) (hH:HR P μ F H w) {id:Nat} (c:μ id=none) (hlt:id<H.next) (b:I id) (hx:VR μ F w (.str s) a) :
  ∃ u w' μ',(Instr.range t a).run P w=.ok u w'/\iu I P μ F H w (.ptr id 0) (H.put id (.siter s 0)) u w' μ':=by
 cases hx;obtain ⟨q1,q2⟩:=oK hH c hlt (.stringIter s 0) (.siter s 0) 0 0 (fun w' f hn d=>⟨d,hn⟩) b w rfl (Tp.same rfl rfl) rfl rfl;exact ⟨_,_,_,by simp [Instr.range,run_underlying e],⟨.ptr id 0 _ (upd_same id _),q1,q2⟩⟩
def Fh {x v:AV} {f:Value} {ty:TypeId} {H':Heap} (hH:HR P μ F H w) (hx:VR μ F w x f) (h:Hy H x=some (v,H')) :
  ∃ u w',(Instr.next f true ty).run P w=.ok u w'/\iu I P μ F H w v H' u w' μ:=by
 unfold Hy at h;split at h
 ·rename_i b;cases hx with
  | ptr _ _ L hL =>
  split at h
  ·rename_i s pos hb;obtain ⟨L',d,g⟩:=hH.ent b _ hb;rw [hL] at d; cases d;obtain ⟨k,hh⟩:=g;have hg:(getObj L.blk).run P w=.ok (.stringIter s pos) w:=by simp [getObj,Sem.run,hh]
   split at h
   ·rename_i hlt;cases h;have j:=(Wz.1 hh).1;have hs:∀ o,(setObj L.blk o).run P w=.ok () (w.putObj L.blk o):=fun o=>by simp [setObj,Sem.run,hh,World.putObj]
    obtain ⟨q1,q2⟩:=iL (I:=I) (e:=.siter s (pos+(Utf8.decode s pos).2)) hH hb rfl hL (w.putObj L.blk (.stringIter s (pos+(Utf8.decode s pos).2))) (fun c hc=>World.putObj_heap_other hc) (by simp [World.putObj]) (Tp.same rfl rfl) rfl rfl
     (fun l=>⟨k,World.putObj_heap_same j⟩) rfl
    refine ⟨.tuple #[.bool true,goInt pos,.int .i32 (Utf8.decode s pos).1],_,?_,⟨?_,q1,q2⟩⟩
    ·simp only [Instr.next,Sem.run_bind,hg,Result.andThen_ok,hlt,if_true,hs,Sem.run_pure]
    ·refine .tup _ _ rfl fun i c u hi a=>?_
     have:i=0\/i=1\/i=2\/3<=i:=zO
     rcases this with rfl | rfl | rfl | h3
     ·simp at hi a; subst hi; subst a; exact .bool _
     ·simp at hi a; subst hi; subst a; exact .int _ _
     ·simp at hi a; subst hi; subst a; exact .int _ _
     ·rw [VS (by simpa using h3)] at hi; cases hi
   ·rename_i hlt;cases h;refine ⟨.tuple #[.bool false],w,?_,⟨?_,hH,Stp.refl _ _ _ _ _ _⟩⟩
    ·simp only [Instr.next,Sem.run_bind,hg,Result.andThen_ok,hlt,if_false,Sem.run_pure]
    ·refine .tup _ _ rfl fun i c u hi a=>?_
     have:i=0\/1<=i:=zO
     rcases this with rfl | h3
     ·simp at hi a; subst hi; subst a; exact .bool _
     ·rw [VS (by simpa using h3)] at hi; cases hi
  ·cases h
 ·cases h
def Nu {s:Sem Unit} {w':World} (h:s.run P w=.ok () w'):((do s; pure Next.skip):Sem Next).run P w=.ok .skip w':=by
 simp [h]
def F5 {t e ty:TypeId} {size:Nat} {z:List AV} {x:AV} {j:Value} {H':Heap} (a:P.underlying t=some (.slice e)) (hs:sizeOf? P e=some size) (C:zeroCells? P e=some z) (hH:HR P μ F H w) (hx:VR μ F w x j)
  (h:ru H size z x=some H') :
  ∃ u w',(Builtin.clear_ #[t] ty #[j]).run P w=.ok u w'/\iu I P μ F H w (.tup []) H' u w' μ:=by
 have f:VR μ F w (.tup []) (.tuple #[]):=.tup _ _ rfl fun i c v h=>by simp at h
 have s:∀ w,VR μ F w (.tup []) (.tuple #[]):=fun w=>.tup _ _ rfl fun i c v h=>by simp at h
 cases x with
 | nilSl =>
  cases h; cases hx;exact ⟨_,w,by simp [Builtin.clear_,run_underlying a],⟨f,hH,Stp.refl _ _ _ _ _ _⟩⟩
 | own b off n c sz ex =>
  cases hx with
  | own _ _ _ _ _ _ L cap h1 h2 h3 S h5 T =>
  simp only [ru] at h;split at h
  ·rename_i cs V hb;split at h
   ·rename_i hn;cases h;subst hn;exact ⟨_,w,by simp [Builtin.clear_,run_underlying a],⟨f,hH,Stp.refl _ _ _ _ _ _⟩⟩
   ·rename_i hn;split at h
    ·rename_i hc;obtain ⟨m,G,p,d⟩:=hc;cases h;subst m;obtain ⟨zv,E,g⟩:=qA C w;have U:zv.cells.size=sz:=by have:=(g μ F w).1; simp at this; omega
     have A:=(g μ F w).rep n;have r:((List.replicate n z).flatten).length=n*sz:=by simp [p]
     have q:((List.replicate n z).flatten).all AV.one=true:=by
      rw [VJ] at d ⊢;intro y hy;simp only [List.mem_flatten,List.mem_replicate] at hy;obtain ⟨l,⟨_,rfl⟩,hy⟩:=hy;exact d y hy
     obtain ⟨arr,fr,J,K,M,N,O,Q,R⟩:=fU hH hb h1;obtain ⟨w',B,q1,q2⟩:=rW (I:=I) hH hb h1 (o:=off) A q zO zO;rw [r] at q1 q2;refine ⟨_,w',?_,⟨s _,q1,q2⟩⟩;have D:(Builtin.zeroCells zv.cells n).toList=(List.replicate n zv.cells.toList).flatten:=by
      unfold Builtin.zeroCells;exact gX _ _ rfl
     unfold Builtin.clear_;simp only [WW,WP,Sem.run_bind,run_underlying a,Result.andThen_ok];obtain ⟨k,rfl⟩:∃ k,n=k+1:=⟨n-1,zO⟩
     simp only [Sem.run_bind,E,Result.andThen_ok,D,B,Sem.run_pure]
    ·cases h
  ·cases h
 | _=>cases h
def Ik {t B e ty:TypeId} {size:Nat} {x y v:AV} {j k:Value} {H':Heap} (i:P.underlying t=some (.slice e)) (hs:sizeOf? P e=some size) (hH:HR P μ F H w) (hx:VR μ F w x j) (hy:VR μ F w y k)
  (h:OA H size x y=some (v,H')) :
  ∃ u w',(Builtin.copy_ #[t,B] ty #[j,k]).run P w=.ok u w'/\iu I P μ F H w v H' u w' μ:=by
 unfold OA at h;split at h
 ·cases h
 rename_i m hm;have f:=r9 (P:=P) hy hm;cases x with
 | nilSl =>
  cases hx;simp only at h;split at h
  ·rename_i A a;cases h;obtain ⟨hl,nv,d,g⟩:=lA (P:=P) hH hy a;refine ⟨goInt ((0:Nat):Int),w,?_,.int _ _,hH,Stp.refl _ _ _ _ _ _⟩;have s:Nat.min m 0=0:=Za (Vz _);unfold Builtin.copy_;simp only [WW,WP,WQ,Sem.run_bind,run_underlying i,Result.andThen_ok,cq hs,Sem.run_pure,f,s,d w rfl]
  ·cases h
 | own b off n c sz ex =>
  cases hx with
  | own _ _ _ _ _ _ L cap h1 h2 h3 r h5 C =>
  simp only at h;split at h
  ·rename_i A cs E a hb;split at h
   ·rename_i hc;obtain ⟨l,p,q⟩:=hc;cases h;subst l;obtain ⟨hl,nv,d,g⟩:=lA (P:=P) hH hy a;have D:Nat.min m n*sz<=cap*sz:=Vy _ (VB (Nat.min_le_right _ _) (VB h3 r));obtain ⟨w',z,q1,q2⟩:=rW (I:=I) hH hb h1 (o:=off) g q p zO;refine ⟨goInt ((Nat.min m n:Nat):Int),w',?_,.int _ _,q1,q2⟩;unfold Builtin.copy_;simp only [WW,WP,WQ,Sem.run_bind,run_underlying i,Result.andThen_ok,cq hs,Sem.run_pure,f,d w rfl,z]
   ·cases h
  ·cases h
 | _=>cases h
def TP (P:Program) (a:Act) (w:World) (o:Oper) (u:Value) (w':World):Prop :=
 (execOp a.eval o).run P w=.ok (.value u) w'\/((execOp a.eval o).run P w=.ok .skip w'/\u=undef)
def EG {b:Array Operand} {x y:Src} (hT:LR μ F w T a.tmps.toList) (h:b.toList.mapM bV=some [x,y]):∃ c d,b.map a.eval = #[c,d]/\VR μ F w (x.ev T) c/\VR μ F w (y.ev T) d:=by
 have hl:=ph hT h;have h1:=hl.1;simp only [Vq,Vw,VX,Xi,Vp,Yd] at h1;obtain ⟨l⟩:=b
 match l,h1 with
 | [p,q],_=>exact ⟨a.eval p,a.eval q,by simp,hl.2 0 _ _ rfl rfl,hl.2 1 _ _ rfl rfl⟩
def IX {b:Array Operand} {x:Src} (hT:LR μ F w T a.tmps.toList) (h:b.toList.mapM bV=some [x]):∃ c,b.map a.eval = #[c]/\VR μ F w (x.ev T) c:=by
 have hl:=ph hT h;have h1:=hl.1;simp only [Vq,Vw,VX,Xi,Vp,Yd] at h1;obtain ⟨l⟩:=b
 match l,h1 with
 | [p],_=>exact ⟨a.eval p,by simp,hl.2 0 _ _ rfl rfl⟩
def fm {dst:Option Tmp} {ty:TypeId} {pos:String} {d:Array Edge} {guard:Option (Nat × Bool)} {b:Builtin} {c:Array Operand} {argTypes:Array TypeId} {s:Sem Value} {u:Value} {w':World}
  (h1:s.run P w=.ok u w') (h2:∀ e,builtin b argTypes ty e (c.map a.eval)=(do pure (.value (<- s)))) :
  (execOp a.eval ⟨dst,.call ⟨.builtin b,c,argTypes⟩,ty,pos,d,guard⟩).run P w=.ok (.value u) w':=by
 simp only [execOp,resolve,Sem.run_bind,Sem.run_pure,Result.andThen_ok,invoke];exact (congrArg (fun s=>s.run P w) (h2 _)).trans (cN h1)
def B6 {x v:AV} {a:Value} {id size bytes ty m:Nat} {d:List AV} {fr:Option Nat} {H':Heap} (h:cS H id size bytes ty x m d fr=some (v,H')) (hx:VR μ F w x a):∃ base n cap,a=.slice base n cap:=by
 cases x with
 | nilSl=>cases hx; exact ⟨_,_,_,rfl⟩
 | own b off n c sz ex=>cases hx; exact ⟨_,_,_,rfl⟩
 | _=>cases h
def BT {t:TypeId} {z:List AV} (h:zeroCells? P t=some z):∃ i zv,P.info? t=some i/\i.zero=some zv/\JG zv=some z:=by
 simp only [zeroCells?,Vj,Vf] at h;obtain ⟨i,hi,zv,a,h⟩:=h;exact ⟨i,zv,hi,a,h⟩
def vX {t j e ty n bytes id m:Nat} {z d:List AV} {x v y:AV} {f g:Value} {fr:Option Nat} {H':Heap} (c:P.underlying t=some (.slice e)) (hn:sizeOf? P e=some n) (hb:bytesOf? P e=some bytes) (G:zeroCells? P e=some z) (M:z.length=n)
  (b:O4 P j) (hH:HR P μ F H w) (r:μ id=none) (hlt:id<H.next) (o:I id) (hx:VR μ F w x f) (hy:VR μ F w y g) (hm:gL y=some m) (B:aG H n m y=some d)
  (h:cS H id n bytes e x m d fr=some (v,H')) :
  ∃ u w' μ',(Builtin.append_ #[t,j] ty #[f,g]).run P w=.ok u w'/\iu I P μ F H w v H' u w' μ':=by
 obtain ⟨i,zv,hi,L,J⟩:=BT G;have K:zv.cells.size=n:=by
  have:=(uO (μ:=μ) (F:=F) (w:=w) J).1
  simp at this; omega
 have q:i.bytes=bytes:=by
  simp only [bytesOf?,hi,W8,V4] at hb; exact hb
 obtain ⟨base,k,cap,rfl⟩:=B6 h hx;obtain ⟨A,nv,a,C⟩:=lA hH hy B;refine tu (nv:=nv.toArray) (zv:=zv) hH r hlt o hn K hx (by simpa using C) A h ?_ ?_
 ·intro base' n' cap' e1 s;cases e1;exact L3 c hn b (r9 hy hm) (a w rfl) s
 ·intro base' n' cap' ov e1 D l p E;cases e1;exact Iv c hn hi q L b (r9 hy hm) a E D l p
def Gm {t h e ty:TypeId} {size bytes n m cap:Nat} {base:Option Addr} {i:TypeInfo} {zv:Value} {p q:IntKind}
  (g:P.underlying t=some (.slice e)) (hs:sizeOf? P e=some size) (hi:P.info? e=some i) (j:i.bytes=bytes) (k:i.zero=some zv) (o:zv.cells.size=size) (hx:P.underlying h=some (.int p))
  (hm:m<2^62) (r:m*bytes<=2^46) (d:n+m<=cap) :
  (Builtin.append_ #[t,h] ty #[.slice base n cap,.int q (m:Int)]).run P w=((match base with | some a=>storeCells (a.add (n*size)) (Builtin.zeroCells zv.cells m).toList | none=>pure ():Sem Unit).run P w).andThen fun _ w'=>.ok (.slice base (n+m) cap) w':=by
 have e1:=yJ (c:=m) zO;have f:¬ ((m:Int)<0):=zO;have b:¬ ((m:Int)*(i.bytes:Int) > 2^48):=by
  have:((m*i.bytes:Nat):Int)=(m:Int)*(i.bytes:Int):=by simp
  rw [<- this,j]; omega
 unfold Builtin.append_;by_cases h0:m*size=0
 ·have l:Builtin.zeroCells zv.cells m = #[]:=by
   have:(Builtin.zeroCells zv.cells m).size=0:=by rw [yI,o,h0]
   exact Yi this
  simp only [WW,WP,WQ,Sem.run_bind,run_underlying g,Result.andThen_ok,cq hs,run_underlying hx,Sem.run_pure,if_true,asInt,asIntOf,e1,f,if_false,iV hi,b,Xq,YK,Wo,h0,d,l];cases base <;> simp
 ·simp only [WW,WP,WQ,Sem.run_bind,run_underlying g,Result.andThen_ok,cq hs,run_underlying hx,Sem.run_pure,if_true,asInt,asIntOf,e1,f,if_false,iV hi,b,Xq,YK,Wo,h0,d,zeroValue,k];cases base <;> simp
def Ej {t p e ty:TypeId} {size bytes n m cap:Nat} {base:Option Addr} {ov:Array Value} {i:TypeInfo} {zv:Value} {u v:IntKind}
  (l:P.underlying t=some (.slice e)) (hs:sizeOf? P e=some size) (hi:P.info? e=some i) (d:i.bytes=bytes) (o:i.zero=some zv) (s:zv.cells.size=size) (hx:P.underlying p=some (.int u))
  (hm:m<2^62) (x:m*bytes<=2^46) (q:∀ w',w'.heap=w.heap->(Builtin.firstCells size n (.slice base n cap)).run P w'=.ok ov w')
  (g:¬ n+m<=cap) (hb:(n+m)*bytes<=2^46) (hn:n+m<2^62) :
  ∃ cap',n+m<=cap'/\(Builtin.append_ #[t,p] ty #[.slice base n cap,.int v (m:Int)]).run P w =
   .ok (.slice (some ⟨w.heap.size,0,none⟩) (n+m) cap') (({ w with drawn:=w.drawn+1 }:World).alloc (.cells (ov++Builtin.zeroCells zv.cells m++Builtin.zeroCells zv.cells (cap'-(n+m))) e)):=by
 have e1:=yJ (c:=m) zO;have h:¬ ((m:Int)<0):=zO;have b:¬ ((m:Int)*(i.bytes:Int) > 2^48):=by
  have:((m*i.bytes:Nat):Int)=(m:Int)*(i.bytes:Int):=by simp
  rw [<- this,d]; omega
 have j:¬ Builtin.nextslicecap (n+m) cap*i.bytes > 2^48:=by
  have h1:=Ad (need:=n+m) (cap:=cap) zO;have h2:Builtin.nextslicecap (n+m) cap*bytes<=2*(n+m)*bytes:=Vy _ h1;rw [Wc] at h2;rw [d]; omega
 have f:¬ ((↑(n+m):Int) > IntKind.i64.max/\(True\/i.bytes=0)):=by
  rintro ⟨h1,_⟩
  have:IntKind.i64.max=9223372036854775807:=by decide
  rw [this] at h1;omega
 refine ⟨(Question.appendCap (n+m) cap e).cut (w.tape w.drawn (Question.appendCap (n+m) cap e)),by simp [Question.cut],?_⟩;have a:(choose (Question.appendCap (n+m) cap e)).run P w=.ok ((Question.appendCap (n+m) cap e).cut (w.tape w.drawn (Question.appendCap (n+m) cap e))) { w with drawn:=w.drawn+1 }:=by
  rw [run_choose,if_neg (by simp [Question.forced])]
 have k:=q { w with drawn:=w.drawn+1 } rfl
 generalize (Question.appendCap (n+m) cap e).cut (w.tape w.drawn (Question.appendCap (n+m) cap e))=c at a
 unfold Builtin.append_;by_cases h0:m*size=0
 ·have r:Builtin.zeroCells zv.cells m = #[]:=by
   have:(Builtin.zeroCells zv.cells m).size=0:=by rw [yI,s,h0]
   exact Yi this
  simp only [WW,WP,WQ,Sem.run_bind,run_underlying l,Result.andThen_ok,cq hs,run_underlying hx,Sem.run_pure,if_true,asInt,asIntOf,e1,h,if_false,iV hi,b,Xq,YK,Wo,h0,g,r,
   f,j,a,run_askRoom,k,zeroValue,o,gC]
 ·simp only [WW,WP,WQ,Sem.run_bind,run_underlying l,Result.andThen_ok,cq hs,run_underlying hx,Sem.run_pure,if_true,asInt,asIntOf,e1,h,if_false,iV hi,b,Xq,YK,Wo,h0,g,
   f,j,a,run_askRoom,k,zeroValue,o,gC]
def BL {t s e ty n bytes id m:Nat} {z:List AV} {x v y:AV} {r c:Value} {fr:Option Nat} {H':Heap} {Q:IntKind} (j:P.underlying t=some (.slice e)) (hn:sizeOf? P e=some n) (hb:bytesOf? P e=some bytes) (L:zeroCells? P e=some z) (N:z.length=n)
  (l:P.underlying s=some (.int Q)) (hH:HR P μ F H w) (D:μ id=none) (hlt:id<H.next) (B:I id) (hx:VR μ F w x r) (hy:VR μ F w y c) (hm:pb y=some m) (f:m*bytes<=2^46) (g:m<2^62)
  (h:cS H id n bytes e x m ((List.replicate m z).flatten) fr=some (v,H')) :
  ∃ u w' μ',(Builtin.append_ #[t,s] ty #[r,c]).run P w=.ok u w'/\iu I P μ F H w v H' u w' μ':=by
 obtain ⟨i,zv,hi,p,M⟩:=BT L;have o:=uO (μ:=μ) (F:=F) (w:=w) M;have b:zv.cells.size=n:=by
  have:=o.1
  simp at this; omega
 have d:i.bytes=bytes:=by
  simp only [bytesOf?,hi,W8,V4] at hb; exact hb
 obtain ⟨base,k,cap,rfl⟩:=B6 h hx;obtain ⟨a,rfl⟩:∃ a,c=.int a (m:Int):=by
  cases y with
  | int a q =>
   cases q with
   | ofNat q=>simp only [pb,V4] at hm; subst hm; cases hy; exact ⟨a,rfl⟩
   | negSucc q=>simp [pb] at hm
  | _=>simp [pb] at hm
 have O:(Builtin.zeroCells zv.cells m).toList=(List.replicate m zv.cells.toList).flatten:=by
  unfold Builtin.zeroCells;exact gX _ _ rfl
 have G:LR μ F w ((List.replicate m z).flatten) (Builtin.zeroCells zv.cells m).toList:=by rw [O]; exact o.rep m
 refine tu (nv:=Builtin.zeroCells zv.cells m) (zv:=zv) hH D hlt B hn b hx G (by simp [N]) h ?_ ?_
 ·intro base' n' cap' e1 E;cases e1;exact Gm j hn hi d p b l g f E
 ·intro base' n' cap' ov e1 J A C K;cases e1;exact Ej j hn hi d p b l g f K J A C
def yD:∀ (cs:List AV) (s r:ByteArray) (nv:List Value),tY cs s=some r->LR μ F w cs nv->∃ a:List Int,nv=a.map (Value.int .u8)/\r=a.foldl (fun r n=>r.push (UInt8.ofNat n.toNat)) s
 | [],s,r,nv,h,hl=>by
  have:=hl.1
  cases nv with
  | nil=>cases h; exact ⟨[],rfl,rfl⟩
  | cons x nv=>simp at this
 | c :: cs,s,r,nv,h,hl=>by
  cases nv with
  | nil=>have:=hl.1; simp at this
  | cons x nv =>
   have hx:=hl.head;obtain ⟨q,rfl⟩:∃ q,c=.int .u8 q:=by
    unfold tY at h;split at h
    ·rename_i e; cases e
    ·rename_i e; cases e; exact ⟨_,rfl⟩
    ·cases h
   simp only [tY] at h;cases hx;obtain ⟨a,h1,h2⟩:=yD cs _ r nv h hl.tail;exact ⟨q :: a,by rw [h1]; rfl,by rw [h2]; rfl⟩
def EJ {d dst e:TypeId} {x:AV} {f:Value} {s:ByteArray} (hs:P.underlying d=some (.slice e)) (he:P.underlying e=some (.int .u8)) (hd:P.underlying dst=some .string)
  (hH:HR P μ F H w) (hx:VR μ F w x f) (h:nH H x=some s):(convert d dst f).run P w=.ok (.string s) w:=by
 have o:∀ t,x ≠ .str t:=fun t e=>by subst e; simp [nH] at h
 have h':(match gL x with | none=>none | some n=>match aG H 1 n x with | none=>none | some cs=>tY cs .empty)=some s:=by
  unfold nH at h;split at h
  ·cases h
  ·exact h
 split at h'
 ·cases h'
 ·rename_i n hn;split at h'
  ·cases h'
  ·rename_i cs i;obtain ⟨-,nv,q,m⟩:=lA (P:=P) hH hx i;obtain ⟨c,p,rfl⟩:=yD _ _ _ _ h' m;have g:=r9 (P:=P) hx hn;have b:=q w rfl;subst p;obtain ⟨base,k,cap,rfl⟩:∃ base k cap,f=.slice base k cap:=by
    cases x <;> simp only [gL] at hn <;> first | (cases hn; done) | skip
    ·exact absurd rfl (o _)
    ·cases hx; exact ⟨_,_,_,rfl⟩
    ·cases hx <;> exact ⟨_,_,_,rfl⟩
    ·cases hx; exact ⟨_,_,_,rfl⟩
   rw [run_convert_bytes_string w d dst e base k cap hs he hd];have j:k=n:=by
    have e:(Builtin.lenOf (.slice base k cap)).run P w=.ok k w:=rfl;rw [e] at g;cases g; rfl
   subst j;cases base with
   | none =>
    have:c=[]:=by
     have e:(Builtin.firstCells 1 k (.slice none k cap)).run P w=.ok #[] w:=rfl;rw [e] at b;cases c with
     | nil=>rfl
     | cons a l=>simp at b
    subst this;simp [Conv.bytesToString]
   | some a =>
    simp only [Builtin.firstCells,WT] at b;exact run_bytesToString w a k cap c b
def DU (w:World) (arr:Array Value) (ty:TypeId):(w.alloc (.cells arr ty)).freeze ⟨w.heap.size,arr.size,none⟩ 1=w.alloc (.cells arr ty (arr.size,arr.size+1)):=by
 simp only [World.freeze,World.alloc];rw [if_neg zO];congr 1
 apply Zu
 intro j;rw [Xr];by_cases hj:w.heap.size=j
 ·subst hj; simp
 ·rw [if_neg hj,Ye,Ye,if_neg (Ne.symm hj),if_neg (Ne.symm hj)]
def BC {a dst e:TypeId} {j:Value} {s:ByteArray} {id:Nat} (hs:P.underlying a=some .string) (he:P.underlying e=some (.int .u8)) (hd:P.underlying dst=some (.slice e)) (r:sizeOf? P e=some 1)
  (hH:HR P μ F H w) (n:μ id=none) (hlt:id<H.next) (k:I id) (hx:VR μ F w (.str s) j) :
  ∃ u w' μ',(convert a dst j).run P w=.ok u w'/\iu I P μ F H w (.own id 0 s.size s.size 1 false) (H.put id (.cells (s.data.toList.map fun b=>.int .u8 b.toNat) e false)) u w' μ':=by
 cases hx;obtain ⟨cap,m,o⟩:∃ cap,s.size<=cap/\(choose (Question.appendCap s.size 0 e)).run P w=.ok cap { w with drawn:=w.drawn+1 } :=
  ⟨(Question.appendCap s.size 0 e).cut (w.tape w.drawn (Question.appendCap s.size 0 e)),by simp [Question.cut],by rw [run_choose,if_neg (by simp [Question.forced])]⟩
 obtain ⟨arr,d⟩:∃ arr:Array Value,arr=(s.data.map fun b=>Value.int .u8 b.toNat)++Array.replicate (cap-s.size) (.int .u8 0):=⟨_,rfl⟩
 have x:s.data.size=s.size:=rfl;have g:arr.size=cap:=by rw [d]; simp; omega
 have p:(convert a dst (.string s)).run P w=.ok (.slice (some ⟨w.heap.size,0,none⟩) s.size cap) (({ w with drawn:=w.drawn+1 }:World).alloc (.cells arr e (arr.size,arr.size+1))):=by
  have h1:(convert a dst (.string s)).run P w=(Conv.stringToBytes e s).run P w:=by
   simp [convert,run_underlying hs,run_underlying hd,run_underlying he]
  rw [h1];unfold Conv.stringToBytes;simp only [Sem.run_bind,o,Result.andThen_ok,<- d,gC,Sem.run_pure];have h2:(markStringish ⟨w.heap.size,0,none⟩).run P (({ w with drawn:=w.drawn+1 }:World).alloc (.cells arr e))=.ok () ((({ w with drawn:=w.drawn+1 }:World).alloc (.cells arr e)).freeze ⟨w.heap.size,arr.size,none⟩ 1):=by
   have hh:(({ w with drawn:=w.drawn+1 }:World).alloc (.cells arr e)).heap[w.heap.size]? = some (.cells arr e):=by simp [World.alloc]
   have q:(({ w with drawn:=w.drawn+1 }:World).alloc (.cells arr e)).shape? w.heap.size=some (e,arr.size):=by simp only [World.shape?,hh]
   unfold markStringish;simp only [Sem.run_bind,run_shape,q,Result.andThen_ok,run_freeze]
  have h3:=DU ({ w with drawn:=w.drawn+1 }:World) arr e;have h3:(({ w with drawn:=w.drawn+1 }:World).alloc (.cells arr e)).freeze ⟨w.heap.size,arr.size,none⟩ 1=({ w with drawn:=w.drawn+1 }:World).alloc (.cells arr e (arr.size,arr.size+1)):=h3;rw [h3] at h2;rw [h2];rfl
 obtain ⟨q1,q2⟩:=oK (I:=I) hH n hlt (.cells arr e (arr.size,arr.size+1)) (.cells (s.data.toList.map fun b=>AV.int .u8 b.toNat) e false) arr.size 1 (fun w' y hn t =>
  ⟨arr,(arr.size,arr.size+1),hn,rfl,r,by simp [g]; omega,fun i c v hc f=>by
   rw [Wg,Vu] at hc;obtain ⟨b,hb,rfl⟩:=hc;have hi:i<s.data.size:=by
    have:=(VA.1 hb).1
    simpa using this
   rw [d,WO (by simpa using hi),Array.getElem?_map] at f;have l:s.data[i]? = some b:=by simpa using hb
   rw [l] at f;cases f;exact .int _ _,fun h=>(by cases h),fun _=>trivial⟩) k ({ w with drawn:=w.drawn+1 }:World) rfl Tp.draw rfl rfl
 exact ⟨_,_,_,p,.own id 0 s.size s.size 1 false _ cap (upd_same id _) rfl (Vo _) m (fun h=>by cases h) (by simp [g]),q1,q2⟩
def Jn (hH:HR P μ F H w) {x:Operand} {cs:List AV} (h:HZ x=some cs) {a:Act}:VR μ F w (.dp cs 0) (a.eval x):=by
 cases x with
 | global g=>exact hH.gl _ _ h
 | _=>cases h
def FA {o:Oper} {ao:AOp} {v:AV} {H':Heap} {id:Nat} (hc:Ge P o=some ao) (hp:bg (Src.ev T) H id ao=some (v,H')) (hT:LR μ F w T a.tmps.toList) (hH:HR P μ F H w)
  (B:μ id=none) (hlt:id<H.next) (A:I id):∃ u w' μ',TP P a w o u w'/\iu I P μ F H w v H' u w' μ':=by
 obtain ⟨dst,op,ty,pos,aF,guard⟩:=o;cases op <;> simp only [Ge] at hc
 case alloc e =>
  simp only [Vj,Vf] at hc;obtain ⟨z,g,hc⟩:=hc; cases hc;simp only [bg] at hp; cases hp;obtain ⟨u,w',μ',h1,h2⟩:=Gn g hH B hlt A;exact ⟨u,w',μ',.inl (cN h1),h2⟩
 case box e x =>
  simp only [Vj,Vf] at hc;obtain ⟨n,hn,s,hs,hc⟩:=hc; cases hc;simp only [bg] at hp;split at hp
  ·rename_i h1;cases hp;obtain ⟨u,w',μ',h1,h2⟩:=LP hn (aO hT hs) h1 hH B hlt A;exact ⟨u,w',μ',.inl (cN h1),h2⟩
  ·cases hp
 case buildSlice t len parts =>
  simp only [Vj,Vf] at hc;obtain ⟨d,hd,hc⟩:=hc;split at hc
  ·rename_i e;simp only [Vf] at hc;obtain ⟨n,hn,z,g,ps,av,hc⟩:=hc;split at hc
   ·rename_i ai;cases hc;simp only [bg] at hp;split at hp
    ·cases hp
    ·rename_i cs hf;cases hp;obtain ⟨u,w',μ',h1,h2⟩:=xu (parts:=parts.toList) hT hd hn g ai.2 ai.1 av hf hH B hlt A;refine ⟨u,w',μ',.inl (cN ?_),h2⟩
     simpa using h1
   ·cases hc
  ·cases hc
 case indexAddr t x i =>
  simp only [Vj,Vf] at hc;obtain ⟨d,hd,hc⟩:=hc;split at hc
  ·simp only [Vf] at hc;obtain ⟨n,hn,Y,C,si,V,hc⟩:=hc; cases hc; cases hp
  ·rename_i len e;split at hc
   ·rename_i cs aa;simp only [Vf] at hc;obtain ⟨n,hn,si,V,hc⟩:=hc; cases hc;simp only [bg] at hp;split at hp
    ·rename_i ix am;split at hp
     ·rename_i hlt;cases hp;obtain ⟨k,q⟩:=gt am (aO hT V);have hx:=Jn hH aa (a:=a)
      generalize G:a.eval x=Z at hx
      cases hx with
      | dp _ _ blk off arr aE fr M N g4 g5 =>
       have ax:(Instr.indexAt t (a.eval x) (a.eval i)).run P w=.ok (.pointer (some ⟨blk,off+0+ix*n,none⟩)) w:=by
        rw [G,q];simp [Instr.indexAt,Instr.sureAddr,asIntOf,run_underlying hd,cq hn,ju,hlt]
       refine ⟨_,w,μ,.inl (cN ax),⟨?_,hH,Stp.refl _ _ _ _ _ _⟩⟩;rw [WZ];exact .dp _ _ blk off arr aE fr M N g4 g5
     ·cases hp
    ·cases hp
   ·simp only [Vf] at hc;obtain ⟨n,hn,Y,C,si,V,hc⟩:=hc; cases hc; cases hp
  ·cases hc
 case load t x =>
  split at hc
  ·rename_i cs aa;simp only [Vj,Vf] at hc;obtain ⟨k,q,hc⟩:=hc; cases hc;simp only [bg,Vu] at hp;obtain ⟨K,j,hp⟩:=hp;cases hp;obtain ⟨u,h1,h2⟩:=Al hH q (Jn hH aa (a:=a)) (v:=v) j;exact ⟨u,w,μ,.inl (cN h1),⟨h2,hH,Stp.refl _ _ _ _ _ _⟩⟩
  simp only [Vj,Vf] at hc;obtain ⟨k,q,s,hs,hc⟩:=hc; cases hc;simp only [bg,Vu] at hp;obtain ⟨K,j,hp⟩:=hp;cases hp;obtain ⟨u,h1,h2⟩:=Al hH q (aO hT hs) j;exact ⟨u,w,μ,.inl (cN h1),⟨h2,hH,Stp.refl _ _ _ _ _ _⟩⟩
 case convert ta tb x =>
  simp only [Vj,Vf] at hc;obtain ⟨d,hd,d',J,hc⟩:=hc;split at hc
  ·simp only [Vf] at hc;obtain ⟨s,hs,hc⟩:=hc;cases hc; cases hp
  ·simp only [Vf] at hc;obtain ⟨s,hs,hc⟩:=hc;cases hc; cases hp
  ·simp only [Vf] at hc;obtain ⟨e,he,hc⟩:=hc;split at hc
   ·simp only [Vf] at hc;obtain ⟨s,hs,hc⟩:=hc;cases hc;simp only [bg,Vu] at hp;obtain ⟨r,hr,hp⟩:=hp;cases hp;exact ⟨_,w,μ,.inl (cN (EJ hd he J hH (aO hT hs) hr)),⟨.str _,hH,Stp.refl _ _ _ _ _ _⟩⟩
   ·cases hc
  ·simp only [Vf] at hc;obtain ⟨e,he,hc⟩:=hc;split at hc
   ·simp only [Vf] at hc;obtain ⟨n,hn,hc⟩:=hc;split at hc
    ·rename_i ar;subst ar;simp only [Vf] at hc;obtain ⟨s,hs,hc⟩:=hc;cases hc;simp only [bg] at hp;split at hp
     ·rename_i str af;cases hp;obtain ⟨u,w',μ',h1,h2⟩:=BC hd he J hn hH B hlt A (af ▸ aO hT hs);exact ⟨u,w',μ',.inl (cN h1),h2⟩
     ·cases hp
    ·cases hc
   ·cases hc
  ·cases hc
 case store t x y =>
  simp only [Vj,Vf] at hc;obtain ⟨n,hn,Y,C,sy,aB,hc⟩:=hc; cases hc;simp only [bg,Vu] at hp;obtain ⟨K,j,hp⟩:=hp;cases hp;obtain ⟨w',h1,h2⟩:=EM (I:=I) hn hH (aO hT C) (aO hT aB) j;exact ⟨undef,w',μ,.inr ⟨Nu h1,rfl⟩,h2⟩
 case makeMap t r =>
  simp only [Vj,Vf] at hc;obtain ⟨d,hd,hc⟩:=hc;split at hc
  ·split at hc
   ·rename_i hr;cases hc;simp only [bg] at hp; cases hp;obtain rfl:r=none:=by simpa using hr
    obtain ⟨u,w',μ',h1,h2⟩:=Fk (t:=t) hH B hlt A;exact ⟨u,w',μ',.inl (cN h1),h2⟩
   ·cases hc
  ·cases hc
 case makeSlice t l c =>
  simp only [Vj,Vf] at hc;obtain ⟨d,hd,hc⟩:=hc;split at hc
  ·rename_i e;simp only [Vf] at hc;obtain ⟨n,hn,b,hb,z,g,sl,aA,sc,az,hc⟩:=hc; cases hc;simp only [bg] at hp;split at hp
   ·rename_i l' c' aq al;split at hp
    ·rename_i E;cases hp;obtain ⟨kl,ap⟩:=gt aq (aO hT aA);obtain ⟨kc,aI⟩:=gt al (aO hT az);obtain ⟨u,w',μ',h1,h2⟩:=HE hd hn hb g E.2.2.2 ap aI E.1 E.2.1 E.2.2.1 hH B hlt A;exact ⟨u,w',μ',.inl (cN h1),h2⟩
    ·cases hp
   ·cases hp
  ·cases hc
 case lookup t x i ok =>
  simp only [Vj,Vf] at hc;obtain ⟨d,hd,hc⟩:=hc;split at hc
  ·rename_i kt e;split at hc
   ·rename_i q;simp only [Vf] at hc;obtain ⟨zv,aC,kd,R,z,g,Y,C,si,V,hc⟩:=hc; cases hc;simp only [bg,Vu] at hp;obtain ⟨K,j,hp⟩:=hp;cases hp;obtain ⟨u,h1,h2⟩:=DE hH hd q R (Vf.2 aC) g (aO hT C) (aO hT V) j;exact ⟨u,w,μ,.inl (cN h1),⟨h2,hH,Stp.refl _ _ _ _ _ _⟩⟩
   ·cases hc
  ·cases hc
 case range t x =>
  simp only [Vj,Vf] at hc;obtain ⟨d,hd,hc⟩:=hc;split at hc
  ·simp only [Vf] at hc;obtain ⟨s,hs,hc⟩:=hc;cases hc;simp only [bg] at hp;split at hp
   ·rename_i str af;cases hp;obtain ⟨u,w',μ',h1,h2⟩:=Dp (I:=I) hd hH B hlt A (af ▸ aO hT hs);exact ⟨u,w',μ',.inl (cN h1),h2⟩
   ·cases hp
  ·cases hc
 case next x sb =>
  split at hc
  ·rename_i ay;subst ay;simp only [Vu] at hc;obtain ⟨s,hs,hc⟩:=hc;cases hc;simp only [bg] at hp;obtain ⟨u,w',h1,h2⟩:=Fh (I:=I) (ty:=ty) hH (aO hT hs) hp;exact ⟨u,w',μ,.inl (cN h1),h2⟩
  ·cases hc
 case mapUpdate t m k x =>
  simp only [Vj,Vf] at hc;obtain ⟨d,hd,hc⟩:=hc;split at hc
  ·rename_i kt e;split at hc
   ·rename_i q;simp only [Vf] at hc;obtain ⟨kd,R,sm,ae,sk,ad,Y,C,hc⟩:=hc; cases hc;simp only [bg,Vu] at hp;obtain ⟨K,j,hp⟩:=hp;cases hp;obtain ⟨w',h1,h2⟩:=uN (I:=I) hH hd q R (aO hT ae) (aO hT ad) (aO hT C) j;exact ⟨undef,w',μ,.inr ⟨Nu h1,rfl⟩,h2⟩
   ·cases hc
  ·cases hc
 case insert t m k x =>
  simp only [Vj,Vf] at hc;obtain ⟨d,hd,hc⟩:=hc;split at hc
  ·rename_i kt e;split at hc
   ·rename_i q;simp only [Vf] at hc;obtain ⟨kd,R,sm,ae,sk,ad,Y,C,hc⟩:=hc; cases hc;simp only [bg,Vu] at hp;obtain ⟨K,j,hp⟩:=hp;cases hp;obtain ⟨w',h1,h2⟩:=uN (I:=I) hH hd q R (aO hT ae) (aO hT ad) (aO hT C) j;exact ⟨undef,w',μ,.inr ⟨Nu h1,rfl⟩,h2⟩
   ·cases hc
  ·cases hc
 case call c =>
  simp only [Vj,Vf] at hc;obtain ⟨args,hargs,hc⟩:=hc;obtain ⟨callee,D,argTypes⟩:=c;simp only at hc hargs;cases callee with
  | value f =>
   simp only [Vf] at hc;obtain ⟨s,hs,hc⟩:=hc; cases hc; cases hp
  | invoke r m=>cases hc
  | builtin b =>
   have ak:∀ {x y:TypeId},argTypes.toList=[x,y]->argTypes = #[x,y]:=by
    intro x y h; obtain ⟨l⟩:=argTypes; simp at h; subst h; rfl
   have one:∀ {x:TypeId},argTypes.toList=[x]->argTypes = #[x]:=by
    intro x h; obtain ⟨l⟩:=argTypes; simp at h; subst h; rfl
   simp only at hc;split at hc
   ·
    simp only [Vf] at hc;obtain ⟨d,hd,hc⟩:=hc;split at hc
    ·cases hc; cases hp
    ·cases hc; cases hp
    ·rename_i kt e;cases hc;obtain ⟨Z,W,hr⟩:=IX hT hargs;have p:=one (by assumption);simp only [bg] at hp;split at hp
     ·rename_i e'; rw [e'] at hr; cases hp; cases hr;exact ⟨_,w,μ,.inl (fm (s:=Builtin.len_ argTypes ty (D.map a.eval)) (by rw [W,p]; simp [Builtin.len_,run_underlying hd]; rfl) (fun _=>rfl)),⟨.int _ _,hH,Stp.refl _ _ _ _ _ _⟩⟩
     ·rename_i b e'; rw [e'] at hr;split at hp
      ·rename_i es hb;cases hp;cases hr with
       | map _ L hL =>
       obtain ⟨L',O,hE⟩:=hH.ent b _ hb;rw [hL] at O; cases O;obtain ⟨aG,xs,c,M,N,g3⟩:=hE;have ag:xs.size=es.length:=by have:=N.1; simp at this; omega
       refine ⟨_,w,μ,.inl (fm (s:=Builtin.len_ argTypes ty (D.map a.eval)) (by rw [W,p]; simp [Builtin.len_,run_underlying hd,mg M]; rfl) (fun _=>rfl)),⟨?_,hH,Stp.refl _ _ _ _ _ _⟩⟩;rw [ag];exact .int _ _
      ·rename_i es hb;cases hp;cases hr with
       | map _ L hL =>
       obtain ⟨L',O,hE⟩:=hH.ent b _ hb;rw [hL] at O; cases O;obtain ⟨xs,c,M,N,g3⟩:=hE;have ag:xs.size=es.length:=by have:=N.1; simp at this; omega
       refine ⟨_,w,μ,.inl (fm (s:=Builtin.len_ argTypes ty (D.map a.eval)) (by rw [W,p]; simp [Builtin.len_,run_underlying hd,mg M]; rfl) (fun _=>rfl)),⟨?_,hH,Stp.refl _ _ _ _ _ _⟩⟩;rw [ag];exact .int _ _
      ·cases hp
     ·cases hp
    ·cases hc
   ·
    simp only [Vf] at hc;obtain ⟨d,hd,hc⟩:=hc;split at hc
    ·cases hc; cases hp
    ·cases hc
   ·cases hc; cases hp
   ·cases hc; cases hp
   ·
    simp only [Vf] at hc;obtain ⟨d,hd,d',J,hc⟩:=hc;have p:=ak (by assumption);obtain ⟨Z,vy,G,S,U⟩:=EG hT hargs;split at hc
    ·rename_i e e';simp only [Vf] at hc;obtain ⟨n,hn,z,g,hc⟩:=hc;split at hc
     ·rename_i X;simp only [Vf] at hc;obtain ⟨ah,Q,hc⟩:=hc;cases hc;simp only [bg] at hp;split at hp
      ·cases hp
      ·rename_i m hm;split at hp
       ·cases hp
       ·rename_i aD ab;obtain ⟨u,w',μ',h1,h2⟩:=vX (ty:=ty) hd hn Q g X (.inl ⟨e',J⟩) hH B hlt A S U hm ab hp;exact ⟨u,w',μ',.inl (fm (s:=Builtin.append_ argTypes ty (D.map a.eval)) (by rw [G,p]; exact h1) (fun _=>rfl)),h2⟩
     ·cases hc
    ·rename_i e;simp only [Vf] at hc;obtain ⟨n,hn,z,g,hc⟩:=hc;split at hc
     ·rename_i X;simp only [Vf] at hc;obtain ⟨ah,Q,hc⟩:=hc;cases hc;simp only [bg] at hp;split at hp
      ·cases hp
      ·rename_i m hm;split at hp
       ·cases hp
       ·rename_i aD ab;obtain ⟨u,w',μ',h1,h2⟩:=vX (ty:=ty) hd hn Q g X (.inr J) hH B hlt A S U hm ab hp;exact ⟨u,w',μ',.inl (fm (s:=Builtin.append_ argTypes ty (D.map a.eval)) (by rw [G,p]; exact h1) (fun _=>rfl)),h2⟩
     ·cases hc
    ·rename_i e;simp only [Vf] at hc;obtain ⟨n,hn,z,g,hc⟩:=hc;split at hc
     ·rename_i X;simp only [Vf] at hc;obtain ⟨ah,Q,hc⟩:=hc;cases hc;simp only [bg] at hp;split at hp
      ·cases hp
      ·rename_i m hm;split at hp
       ·rename_i E;obtain ⟨u,w',μ',h1,h2⟩:=BL (ty:=ty) hd hn Q g X J hH B hlt A S U hm E.2.1 E.2.2 hp;exact ⟨u,w',μ',.inl (fm (s:=Builtin.append_ argTypes ty (D.map a.eval)) (by rw [G,p]; exact h1) (fun _=>rfl)),h2⟩
       ·cases hp
     ·cases hc
    ·cases hc
   ·
    simp only [Vf] at hc;obtain ⟨d,hd,hc⟩:=hc;split at hc
    ·rename_i e;simp only [Vf] at hc;obtain ⟨n,hn,z,g,hc⟩:=hc;cases hc;obtain ⟨Z,W,hr⟩:=IX hT hargs;have p:=one (by assumption);simp only [bg,Vu] at hp;obtain ⟨K,j,hp⟩:=hp;cases hp;obtain ⟨u,w',h1,h2⟩:=F5 (I:=I) (ty:=ty) hd hn g hH hr j;exact ⟨u,w',μ,.inl (fm (s:=Builtin.clear_ argTypes ty (D.map a.eval)) (by rw [W,p]; exact h1) (fun _=>rfl)),h2⟩
    ·cases hc
   ·
    simp only [Vf] at hc;obtain ⟨d,hd,hc⟩:=hc;split at hc
    ·rename_i e;simp only [Vf] at hc;obtain ⟨n,hn,hc⟩:=hc;cases hc;obtain ⟨Z,vy,G,S,U⟩:=EG hT hargs;have p:=ak (by assumption);simp only [bg] at hp;obtain ⟨u,w',h1,h2⟩:=Ik (I:=I) (ty:=ty) hd hn hH S U hp;exact ⟨u,w',μ,.inl (fm (s:=Builtin.copy_ argTypes ty (D.map a.eval)) (by rw [G,p]; exact h1) (fun _=>rfl)),h2⟩
    ·cases hc
   ·cases hc
 all_goals (try simp only [Vj,Vf,Vu] at hc)
 all_goals (repeat' (first | (cases hc; done) | (obtain ⟨_,_,hc⟩:=hc) | (simp only [Vf] at hc) | (split at hc)))
 all_goals first | (cases hp; done) | (cases hc; cases hp; done)
end
def Runs (F:Fence) (n:Nat) (P:Program) (r:Result Next) (post:Value->World->Prop):Prop :=
 match r with
 | .ok (.value u) w'=>post u w'
 | .ok (.enter f args) w'=>CallsIn F n P f args w' fun e a=>∃ u,e=.returned u/\post u a
 | .ok (.round l f tmps b body) w'=>RoundIn F n P l f tmps b body w' fun e a=>∃ u,e=.returned u/\post u a
 | _=>False
def FenceOK (F:Fence) (rd:Bool):Prop:=(rd=false/\F=Fence.wide)\/(rd=true/\∃ l,F=Fence.wide.inRound l)
def sF:Nat->Prop:=fun _=>False
def mZ (P:Program) (μ:Mu) (t:Task) (vs:List Value) (w:World):Result Next :=
 match t with
 | .fn f _=>(callFunc f vs.toArray).run P w
 | .ent f _=>(callFunc f vs.toArray).run P w
 | .round b _=>match μ b with
  | some L=>(Instr.yield L.blk vs.toArray).run P w
  | none=>.halt (.stuck "") w
def Task.args:Task->List AV
 | .fn _ args=>args
 | .round _ args=>args
 | .ent _ args=>args
def nG (P:Program) (cal:oy):Prop:=∀ t H v H',cal t H=some (v,H')->∀ (μ:Mu) (F:Nat->Prop) (w:World) (vs:List Value) (fence:Fence) (rd:Bool) (n:Nat),FenceOK fence rd->HR P μ F H w->LR μ F w t.args vs ->
 (∀ b args,t=.round b args->∃ L,μ b=some L) ->
 (∀ f args,t=.ent f args->(callFunc f vs.toArray).run P w=.ok (.enter f vs.toArray) w)/\Runs fence n P (mZ P μ t vs w) fun u w'=>∃ μ',iu sF P μ F H w v H' u w' μ'
section
variable {P:Program}
def Runs.mono {F:Fence} {n:Nat} {r:Result Next} {p q:Value->World->Prop} (h:Runs F n P r p) (a:∀ u w,p u w->q u w):Runs F n P r q:=by
 unfold Runs at *;split at h
 ·exact a _ _ h
 ·exact h.mono fun e w ⟨u,h1,h2⟩=>⟨u,h1,a _ _ h2⟩
 ·exact h.mono fun e w ⟨u,h1,h2⟩=>⟨u,h1,a _ _ h2⟩
 ·exact h.elim
def FenceOK.fn {F:Fence} {rd:Bool} (h:FenceOK F rd) (f:FuncId):F.fn f:=by
 rcases h with ⟨_,rfl⟩ | ⟨_,l,rfl⟩ <;> trivial
def FenceOK.depth {F:Fence} {rd:Bool} (h:FenceOK F rd) (n:Nat):F.depth.isSome=true->1<=n:=by
 rcases h with ⟨_,rfl⟩ | ⟨_,l,rfl⟩ <;> intro h <;> cases h
def Cb {fence:Fence} {rd:Bool} {n:Nat} {o:Oper} {a:Act} {w w':World} {u:Value} {next:Act->World->Prop} {Q:Exit->Act->World->Prop} (b:FenceOK fence rd) (hd:∀ c,o.op ≠ .defer c)
  (h:TP P a w o u w') (hn:next (a.put o.dst u) w'):o.wpIn fence n P a w next Q:=by
 refine ⟨fun f _=>b.fn f,?_⟩;rw [Oper.semAt_eq _ _ _ hd];rcases h with h | ⟨h,rfl⟩
 ·rw [h]; exact hn
 ·rw [h]; exact hn
def K0 {fence:Fence} {rd:Bool} {n:Nat} {o:Oper} {a:Act} {w:World} {next:Act->World->Prop} {Q:Exit->Act->World->Prop} (b:FenceOK fence rd) (hd:∀ c,o.op ≠ .defer c)
  (h:Runs fence (n-1) P ((execOp a.eval o).run P w) fun u w'=>next (a.put o.dst u) w'):o.wpIn fence n P a w next Q:=by
 refine ⟨fun f _=>b.fn f,?_⟩;rw [Oper.semAt_eq _ _ _ hd]
 generalize (execOp a.eval o).run P w=r at h
 unfold Runs at h;split at h
 ·exact h
 ·exact ⟨b.depth n,h.mono fun e w ⟨u,h1,h2⟩=>by subst h1; exact h2⟩
 ·exact ⟨b.depth n,h.mono fun e w ⟨u,h1,h2⟩=>by subst h1; exact h2⟩
 ·exact h.elim
def LO {o:Oper} {a:AOp} (h:Ge P o=some a):∀ c,o.op ≠ .defer c:=by
 intro c hc;unfold Ge at h;rw [hc] at h;cases h
variable {μ:Mu} {F:Nat->Prop} {H:Heap} {w:World} {T:Tm} {a:Act}
def EK {cal:oy} (j:nG P cal) {f:AV} {args:List AV} {t:Task} {v:AV} {H':Heap} {m:Value} {vs:List Value} (k:VR μ F w f m) (hargs:LR μ F w args vs) (a:iD f args=some t)
  (h:cal t H=some (v,H')) (hH:HR P μ F H w) {fence:Fence} {rd:Bool} (i:FenceOK fence rd) (n:Nat) {c:Call} {ty:TypeId} {ρ:Operand->Value} {g:Operand} (hc:c.callee=.value g) (hg:ρ g=m) (p:(c.args.map ρ).toList=vs) :
  Runs fence n P ((do let d <- resolve ρ c ty; invoke d.target d.args:Sem Next).run P w) fun u w'=>∃ μ',iu sF P μ F H w v H' u w' μ':=by
 have l:c.args.map ρ=vs.toArray:=by rw [<- p]
 cases f <;> simp only [iD] at a <;> first | (cases a; done) | skip
 ·rename_i fn first cap
  cases fn <;> simp only at a <;> first | (cases a; done) | skip
  rename_i fi;cases a;cases k with
  | fn _ _ _ us q h1 h2 h3 o =>
  have hl:=((LR.of_agg h1 h2).append hargs).append (LR.of_agg h3 o)
  have:=(j _ _ _ _ h μ F w _ fence rd n i hH hl (fun b args e=>by cases e)).2
  simp only [mZ] at this;have e:(do let d <- resolve ρ c ty; invoke d.target d.args:Sem Next).run P w=(callFunc fi (us.toList++vs++q.toList).toArray).run P w:=by
   simp only [resolve,hc,hg,l,Deferred.ofValue,Sem.run_bind,Sem.run_pure,Result.andThen_ok,invoke];congr 2
   apply Array.ext'; simp
  rw [e]; exact this
 ·rename_i b;cases a;cases k with
  | loopv _ L hL =>
  have:=(j _ _ _ _ h μ F w vs fence rd n i hH hargs (fun b' r e=>by cases e; exact ⟨L,hL⟩)).2
  simp only [mZ,hL] at this;have e:(do let d <- resolve ρ c ty; invoke d.target d.args:Sem Next).run P w=(Instr.yield L.blk vs.toArray).run P w:=by
   simp only [resolve,hc,hg,l,Deferred.ofValue,Sem.run_bind,Sem.run_pure,Result.andThen_ok,invoke];congr 2
   apply Array.ext'; simp
  rw [e]; exact this
def rX {cal:oy} (y:nG P cal) {I:Nat->Prop} {o:Oper} {i:AOp} {v:AV} {H':Heap} {id:Nat} (hc:Ge P o=some i) (hp:Ab cal (Src.ev T) H id i=some (v,H')) (hT:LR μ F w T a.tmps.toList) (hH:HR P μ F H w)
  (A:μ id=none) (hlt:id<H.next) (p:I id) {fence:Fence} {rd:Bool} (j:FenceOK fence rd) {n:Nat} {next:Act->World->Prop} {Q:Exit->Act->World->Prop}
  (hn:∀ u w' μ',iu I P μ F H w v H' u w' μ'->next (a.put o.dst u) w'):o.wpIn fence n P a w next Q:=by
 have hd:=LO hc;have l:(match aN (Src.ev T) i with | some v=>some (v,H) | none=>bg (Src.ev T) H id i)=some (v,H')->o.wpIn fence n P a w next Q:=by
  intro hp;split at hp
  ·rename_i G D;cases hp;obtain ⟨u,h1,h2⟩:=E9 hc D hT;exact Cb j hd (.inl h1) (hn u w μ ⟨h2,hH,Stp.refl _ _ _ _ _ _⟩)
  ·obtain ⟨u,w',μ',h1,h2⟩:=FA hc hp hT hH A hlt p;exact Cb j hd h1 (hn u w' μ' h2)
 cases i with
 | call f args =>
  simp only [Ab,Vj,Vf] at hp;obtain ⟨t,C,hp⟩:=hp;obtain ⟨g,e,argTypes,B,hg,hargs⟩:∃ g e argTypes,o.op=.call ⟨.value g,e,argTypes⟩/\bV g=some f/\e.toList.mapM bV=some args:=by
   obtain ⟨dst,op,ty,pos,E,guard⟩:=o;cases op <;> simp only [Ge] at hc
   case next x sb =>
    split at hc
    ·simp only [Vu] at hc;obtain ⟨_,_,hc⟩:=hc;cases hc
    ·cases hc
   case call c =>
    simp only [Vj,Vf] at hc;obtain ⟨as,q,hc⟩:=hc;obtain ⟨callee,e,argTypes⟩:=c;cases callee with
    | value g =>
     simp only [Vf] at hc;obtain ⟨s,hs,hc⟩:=hc; cases hc;exact ⟨g,e,argTypes,rfl,hs,q⟩
    | invoke r m=>cases hc
    | builtin b =>
     simp only at hc;split at hc
     all_goals (try simp only [Vf] at hc)
     all_goals (repeat' (first | (cases hc; done) | (obtain ⟨_,_,hc⟩:=hc) | (simp only [Vf] at hc) | (split at hc)))
   all_goals (try simp only [Vj,Vf,Vu] at hc)
   all_goals (repeat' (first | (cases hc; done) | (obtain ⟨_,_,hc⟩:=hc) | (simp only [Vf] at hc) | (split at hc)))
  have hl:=ph hT hargs;refine K0 j hd ?_;have z:execOp a.eval o=(do let d <- resolve a.eval ⟨.value g,e,argTypes⟩ o.type; invoke d.target d.args:Sem Next):=by
   unfold execOp; rw [B]
  rw [z]
  have:=EK y (aO hT hg) hl C hp hH j (n-1) (c:=⟨.value g,e,argTypes⟩) (ty:=o.type) (ρ:=a.eval) (g:=g) rfl rfl (by simp)
  exact this.mono fun u w' ⟨μ',k⟩=>hn u w' μ' ⟨k.val,k.heap,k.stp.mono fun _ h=>h.elim⟩
 | _=>exact l hp
end
section
variable {P:Program} {μ:Mu} {F:Nat->Prop} {H:Heap} {w:World} {T:Tm} {a:Act}
def Hk (hT:LR μ F w T a.tmps.toList) (d:Option Nat) {v:AV} {u:Value} (b:VR μ F w v u):LR μ F w (putT T d v) (a.put d u).tmps.toList:=by
 cases d with
 | none=>exact hT
 | some d=>simp only [putT,Act.put,Yz]; exact hT.set d b
def IM {μ:Mu} {F:Nat->Prop} {w:World}:VR μ F w (.tup []) undef:=.tup _ _ rfl fun i c v h=>by simp at h
def rO (hT:LR μ F w T a.tmps.toList) {ops:Array Oper} {o:Oper} {g:Option (Nat × Bool)} {b:Bool}
  (hg:Bj ops o.guard=some g) (h:cg T g=some b):Region.wanted o (yielded ops a.tmps)=b:=by
 unfold Region.wanted;cases f:o.guard with
 | none=>rw [f] at hg; cases hg; cases h; rfl
 | some p =>
  obtain ⟨j,l⟩:=p;rw [f] at hg;simp only [Bj] at hg;split at hg
  ·cases hg
  rename_i k i;split at hg
  ·cases hg
  rename_i d hd;cases hg;simp only [cg] at h;have hy:yielded ops a.tmps j=match a.tmps[d]? with | some (.bool b)=>some b | _=>none:=by
   unfold yielded;rw [i]; simp [hd]; rfl
  simp only [hy];split at h
  ·rename_i c hc;cases h;obtain ⟨v,e,hr⟩:=hT.get hc
   have:a.tmps[d]? = some v:=by simpa using e
   cases hr;rw [this]
   simp
  ·rename_i hc;cases h;obtain ⟨v,e,hr⟩:=hT.get hc
   have:a.tmps[d]? = some v:=by simpa using e
   cases hr;rw [this]
   simp
  ·cases h
def Hr {cal:oy} (O:nG P cal) {fence:Fence} {rd:Bool} (E:FenceOK fence rd) {n:Nat} {ops:Array Oper} {Q:Exit->Act->World->Prop} {T':Tm} {H':Heap} {base top:Nat} {tail:List Nat} :
  ∀ (os:List Oper) (p:List Eo) (i id:Nat) (μ:Mu) (H:Heap) (w:World) (T:Tm) (a:Act),(∀ (k:Nat) (o:Oper),os[k]? = some o->ops[i+k]? = some o)->os.mapM (OL P ops)=some p->yF cal id p T H=some (T',H')->base<=id->id+os.length<=top->id+os.length<=H.next ->
  (∀ j,id<=j->j<id+os.length->μ j=none)->LR μ F w T a.tmps.toList->HR P μ F H w ->
  (∀ a' w' μ',a'.defers=a.defers->LR μ' F w' T' a'.tmps.toList->HR P μ' F H' w'->Stp (fun b=>base<=b/\b<top) P μ F H w μ' F H' w'->wpOpsIn fence n P ops Q tail a' w') ->
  wpOpsIn fence n P ops Q (List.range' i os.length++tail) a w:=by
 intro os
 induction os with
 | nil =>
  intro p i id μ H w T a A d c _ _ _ _ hT hH l;simp at d; subst d;cases c;exact l a w μ rfl hT hH (Stp.refl _ _ _ _ _ _)
 | cons o os K =>
  intro p i id μ H w T a A d c N W U m hT hH l;simp only [WY,XI,Vj,Vf] at d;obtain ⟨r,hr,L,J,d⟩:=d;cases d;have V:ops[i]? = some o:=A 0 o rfl;have G:∀ (k:Nat) (o:Oper),os[k]? = some o->ops[i+1+k]? = some o:=fun k o h=>by
   have:=A (k+1) o (by simpa using h)
   rwa [show i+(k+1)=i+1+k by omega] at this
  simp only [OL,Vu] at hr;obtain ⟨g,hg,hr⟩:=hr;cases hr;simp only [VX] at W U m ⊢;simp only [yF] at c;simp only [List.range'_succ,Xy,wpOpsIn,V];split at c
  ·rename_i B;have C:=rO (o:=o) hT hg B;rw [if_pos C];split at c
   ·rename_i v M z;have S:Ge P o=some ((Ge P o).getD .bad):=by
     cases R:Ge P o with
     | some x=>rfl
     | none=>rw [R] at z; simp [Ab,aN,bg] at z
    refine rX O (I:=fun b=>b=id) S z hT hH (m id (Vo _) zO) zO rfl E fun u w' μ' e=>?_;refine K L (i+1) (id+1) μ' M w' _ _ G J c zO zO (by have:=e.stp.next; omega) (fun j h1 h2=>?_) (Hk (e.stp.lr hH hT) _ e.val) e.heap fun a' D μ2 y t q s=>?_
    ·exact e.stp.new j zO zO (m j zO zO)
    ·refine l a' D μ2 (y.trans ?_) t q ((e.stp.mono fun b hb=>?_).trans s)
     ·cases o.dst <;> rfl
     ·subst hb; exact ⟨N,zO⟩
   ·cases c
  ·rename_i B;have C:=rO (o:=o) hT hg B;rw [if_neg (by rw [C]; decide)];refine ⟨fun f _=>E.fn f,?_⟩;refine K L (i+1) (id+1) μ H w _ _ G J c zO zO zO (fun j h1 h2=>m j zO zO) (Hk hT _ IM) hH fun a' D μ2 y t q s=>?_;refine l a' D μ2 (y.trans ?_) t q s;cases o.dst <;> rfl
  ·cases c
def HR.bump {H:Heap} (h:HR P μ F H w) (k:Nat):HR P μ F { H with next:=H.next+k } w :=
 ⟨fun b L hb=>⟨VF (h.dom b L hb).1 (VV _ _),(h.dom b L hb).2⟩,h.fb,h.ent,h.inj,h.gl⟩
def jT {H:Heap} (h:HR P μ F H w) {j:Nat} (hj:H.next<=j):μ j=none:=by
 cases hm:μ j with
 | none=>rfl
 | some L=>have:=(h.dom j L hm).1; omega
def Dl {cal:oy} (s:nG P cal) {fence:Fence} {rd:Bool} (i:FenceOK fence rd) {n id:Nat} {ops:Array Oper} {d:List Eo} {Q:Exit->Act->World->Prop} {T':Tm} {H':Heap}
  (g:ops.toList.mapM (OL P ops)=some d) (u:yF cal H.next d T { H with next:=H.next+d.length } = some (T',H')) (hT:LR μ F w T a.tmps.toList) (hH:HR P μ F H w)
  (p:∀ a' w' μ',a'.defers=a.defers->LR μ' F w' T' a'.tmps.toList->HR P μ' F H' w'->Stp sF P μ F H w μ' F H' w'->Q .normal a' w') :
  (Code.region id ops false).wpIn fence n P Q a w:=by
 refine wpIn_region ?_;have f:d.length=ops.toList.length:=by
  have key:∀ (l:List Oper) (d:List Eo),l.mapM (OL P ops)=some d->d.length=l.length:=by
   intro l
   induction l with
   | nil=>intro d h; simp at h; subst h; rfl
   | cons o l v =>
    intro d h;simp only [WY,XI,Vj,Vf] at h;obtain ⟨r,hr,x,t,h⟩:=h;cases h;simp [v x t]
  exact key _ _ g
 have:=Hr s i (n:=n) (ops:=ops) (Q:=Q) (base:=H.next) (top:=H.next+d.length) (tail:=[]) ops.toList d 0 H.next μ _ w T a (fun k o h=>by simpa using h) g u (Vo _) (by simp [f]) (by simp [f]) (fun j h1 _=>jT hH h1) hT (hH.bump _) (fun a' w' μ' hd q m c=>?_)
 ·rw [Ze]; simpa using this
 ·refine p a' w' μ' hd q m ⟨c.mu,c.fr,c.size,c.keep,c.rw,VB (VV _ _) c.next,fun b hb _ hn=>c.new b (VF hb (VV _ _)) zO hn,c.rng,fun b e hb hl _=>c.old b e hb (VF hl (VV _ _)) zO,c.alv,c.tape,c.os,c.out⟩
end
mutual
def AV.beq_eq:∀ (a b:AV),AV.beq a b=true->a=b
 | .undef,b,h=>by cases b <;> simp [AV.beq] at h ⊢
 | .bool a,b,h=>by cases b <;> simp [AV.beq] at h ⊢; exact h
 | .int k a,b,h=>by cases b <;> simp [AV.beq] at h ⊢; exact h
 | .str a,b,h=>by cases b <;> simp [AV.beq] at h ⊢; exact h
 | .nilPtr,b,h=>by cases b <;> simp [AV.beq] at h ⊢
 | .nilSl,b,h=>by cases b <;> simp [AV.beq] at h ⊢
 | .nilFn,b,h=>by cases b <;> simp [AV.beq] at h ⊢
 | .nilIf,b,h=>by cases b <;> simp [AV.beq] at h ⊢
 | .nilMap,b,h=>by cases b <;> simp [AV.beq] at h ⊢
 | .agg a,b,h=>by cases b <;> simp [AV.beq] at h ⊢; exact AV.beqs_eq _ _ h
 | .tup a,b,h=>by cases b <;> simp [AV.beq] at h ⊢; exact AV.beqs_eq _ _ h
 | .sl a n,b,h=>by cases b <;> simp [AV.beq] at h ⊢; exact ⟨AV.beqs_eq _ _ h.1,h.2⟩
 | .dp a n,b,h=>by cases b <;> simp [AV.beq] at h ⊢; exact ⟨AV.beqs_eq _ _ h.1,h.2⟩
 | .own ..,b,h=>by cases b <;> simp [AV.beq] at h ⊢; simpa [and_assoc] using h
 | .ptr ..,b,h=>by cases b <;> simp [AV.beq] at h ⊢; exact h
 | .fn f a c,b,h=>by cases b <;> simp [AV.beq] at h ⊢; exact ⟨h.1.1,AV.beqs_eq _ _ h.1.2,AV.beqs_eq _ _ h.2⟩
 | .ifc t a,b,h=>by cases b <;> simp [AV.beq] at h ⊢; exact ⟨h.1,AV.beq_eq _ _ h.2⟩
 | .map a,b,h=>by cases b <;> simp [AV.beq] at h ⊢; exact h
 | .loopv a,b,h=>by cases b <;> simp [AV.beq] at h ⊢; exact h
def AV.beqs_eq:∀ (a b:List AV),AV.beqs a b=true->a=b
 | [],b,h=>by cases b <;> simp [AV.beqs] at h ⊢
 | x :: a,b,h=>by cases b <;> simp [AV.beqs] at h ⊢; exact ⟨AV.beq_eq _ _ h.1,AV.beqs_eq _ _ h.2⟩
end
def Br (base:Nat) (Es:List (Option Ent)):∀ (adds:List Nat) (C:Heap) (b:Nat),
  (dH base Es C adds).get b=match (if base<=b/\(b-base)∈adds then Es.getD (b-base) none else none) with | some e=>some e | none=>C.get b:=by
 intro adds
 induction adds with
 | nil=>intro C b; simp [dH]
 | cons a adds f =>
  intro C b;have d:dH base Es C (a :: adds)=dH base Es (match Es.getD a none with | some e=>C.put (base+a) e | none=>C) adds:=rfl;rw [d,f];by_cases hb:base<=b
  ·by_cases hm:b-base∈adds
   ·rw [if_pos ⟨hb,hm⟩,if_pos ⟨hb,Vn _ hm⟩];cases he:Es.getD (b-base) none with
    | some e=>rfl
    | none =>
     simp only;by_cases c:b-base=a
     ·subst c; rw [he]
     ·cases Es.getD a none with
      | none=>rfl
      | some e=>simp only [Heap.get_put]; rw [if_neg zO]
   ·rw [if_neg (fun h=>hm h.2)];by_cases c:b-base=a
    ·rw [if_pos ⟨hb,by rw [c]; exact Vt ..⟩]
     have:b=base+a:=zO
     subst this;simp only [Yj];cases Es.getD a none with
     | none=>rfl
     | some e=>simp only [Heap.get_put,if_true]
    ·rw [if_neg (fun h=>(VK.1 h.2).elim c hm)];cases Es.getD a none with
     | none=>rfl
     | some e=>simp only [Heap.get_put]; rw [if_neg zO]
  ·rw [if_neg (fun h=>hb h.1),if_neg (fun h=>hb h.1)];cases Es.getD a none with
   | none=>rfl
   | some e=>simp only [Heap.get_put]; rw [if_neg zO]
def l4 (base:Nat) (Es:List (Option Ent)):∀ (adds:List Nat) (C:Heap),(dH base Es C adds).next=C.next:=by
 intro adds
 induction adds with
 | nil=>intro C; rfl
 | cons a adds c =>
  intro C;have b:dH base Es C (a :: adds)=dH base Es (match Es.getD a none with | some e=>C.put (base+a) e | none=>C) adds:=rfl;rw [b,c];cases Es.getD a none <;> rfl
def Ix (base:Nat) {Es b:List (Option Ent)}:∀ (adds:List Nat) (C:Heap),(∀ a∈adds,Es.getD a none=b.getD a none)->dH base Es C adds=dH base b C adds:=by
 intro adds
 induction adds with
 | nil=>intro C _; rfl
 | cons a adds d =>
  intro C h;have c:∀ Es,dH base Es C (a :: adds)=dH base Es (match Es.getD a none with | some e=>C.put (base+a) e | none=>C) adds:=fun _=>rfl;rw [c,c,h a (Vt ..),d _ (fun x hx=>h x (Vn _ hx))]
def GP {T0:Tm} {Vs a:List AV} {us:List (Nat × Option Nat)} (h:∀ u∈us,∀ j,u.2=some j->Vs.getD j .undef=a.getD j .undef):cw T0 Vs us=cw T0 a us:=by
 unfold cw
 generalize (List.replicate T0.length AV.undef)=T
 induction us generalizing T with
 | nil=>rfl
 | cons u us d =>
  have b:mV T0 Vs u=mV T0 a u:=by
   unfold mV;cases hj:u.2 with
   | none=>rfl
   | some j=>exact h u (Vt ..) j hj
  simp only [Wn,b];exact d (fun e c=>h e (Vn _ c)) _
def PP (T0:Tm) (Vs:List AV) (us:List (Nat × Option Nat)):(cw T0 Vs us).length=T0.length /\
  ∀ (t:Nat) (c:AV),(cw T0 Vs us)[t]? = some c->c=.undef\/∃ u∈us,u.1=t/\c=mV T0 Vs u:=by
 have key:∀ (us:List (Nat × Option Nat)) (T:Tm),(us.foldl (fun T u=>T.set u.1 (mV T0 Vs u)) T).length=T.length /\
   ∀ (t:Nat) (c:AV),(us.foldl (fun T u=>T.set u.1 (mV T0 Vs u)) T)[t]? = some c->T[t]? = some c\/∃ u∈us,u.1=t/\c=mV T0 Vs u:=by
  intro us
  induction us with
  | nil=>intro T; exact ⟨rfl,fun t c h=>.inl h⟩
  | cons u us b =>
   intro T;obtain ⟨h1,h2⟩:=b (T.set u.1 (mV T0 Vs u));refine ⟨by rw [Wn,h1,Vg],fun t c h=>?_⟩;rw [Wn] at h;rcases h2 t c h with h | ⟨d,a,h⟩
   ·by_cases e:u.1=t
    ·subst e;rw [XU] at h;cases hc:T[u.1]? with
     | none=>rw [hc] at h; cases h
     | some x=>rw [hc] at h; cases h; exact .inr ⟨u,Vt ..,rfl,rfl⟩
    ·rw [X3 e] at h; exact .inl h
   ·exact .inr ⟨d,Vn _ a,h⟩
 obtain ⟨h1,h2⟩:=key us (List.replicate T0.length .undef);refine ⟨by rw [cw,h1,XM],fun t c h=>?_⟩;rcases h2 t c h with h | h
 ·rw [Wj] at h;split at h
  ·cases h; exact .inl rfl
  ·cases h
 ·exact .inr h
def Pre (s s':DS):Prop:=s.Vs <+: s'.Vs/\s.Cs <+: s'.Cs/\s.Es <+: s'.Es
def Pre.refl (s:DS):Pre s s:=⟨Zi,Zi,Zi⟩
def Pre.trans {a b c:DS} (h:Pre a b) (h':Pre b c):Pre a c:=⟨h.1.trans h'.1,h.2.1.trans h'.2.1,h.2.2.trans h'.2.2⟩
def kv {α:Type} {a b:List α} (h:a <+: b) {i:Nat} (hi:i<a.length) (d:α):b.getD i d=a.getD i d:=by
 obtain ⟨c,rfl⟩:=h;rw [Vh,Vh,VT hi]
def wC {α:Type} {a b:List α} {x:α} (h:a++[x] <+: b) (d:α):b.getD a.length d=x:=by
 rw [kv h (by simp),Vh]; simp
def xX {cal:oy} {base:Nat} {T0:Tm} {i:Nat} {d:jv} {s s':DS} (h:jU cal base T0 i d s=some s') (hcl:d.cls=0\/d.cls=1\/d.cls=2) :
  Pre s s'/\s'.Vs.length=s.Vs.length+1/\s'.Es.length=s.Es.length+1/\s'.Cs.length=s.Cs.length+(if d.cls=2 then 1 else 0):=by
 unfold jU at h;cases a:cg (cw T0 s.Vs d.uses) d.guard with
 | none=>simp only [a] at h; cases h
 | some b =>
  cases b <;> simp only [a] at h <;> rcases hcl with hcl | hcl | hcl <;> simp only [hcl] at h <;> (repeat' (split at h)) <;> first | (cases h; done) | skip
  all_goals (first | (exfalso; rename_i h0 _; exact h0 rfl) | (exfalso; rename_i h0; exact h0 rfl) | skip)
  all_goals (first | (cases h; exact ⟨⟨Zv _ _,by first | exact Zv _ _ | exact Zi,Zv _ _⟩,by simp,by simp,by simp [hcl]⟩) | skip)
def LE {cal:oy} {base:Nat} {T0:Tm}:∀ (ds:List jv) (i:Nat) (a s:DS),(∀ d∈ds,d.cls=0\/d.cls=1\/d.cls=2)->tX cal base T0 i ds a=some s ->
  Pre a s/\s.Vs.length=a.Vs.length+ds.length/\s.Es.length=a.Es.length+ds.length/\s.Cs.length=a.Cs.length+(ds.filter fun d=>d.cls == 2).length /\
  ∀ (q:Nat) (d:jv),ds[q]? = some d->∃ s1 s2,jU cal base T0 (i+q) d s1=some s2/\Pre s2 s/\s1.Vs.length=a.Vs.length+q/\s1.Es.length=a.Es.length+q /\
   s1.Cs.length=a.Cs.length+((ds.take q).filter fun d=>d.cls == 2).length:=by
 intro ds
 induction ds with
 | nil=>intro i a s _ h; cases h; exact ⟨Pre.refl _,rfl,rfl,rfl,fun q d h=>by simp at h⟩
 | cons d ds j =>
  intro i a s hcl h;simp only [tX] at h;split at h
  ·rename_i s1 h1;obtain ⟨f,n,o,p⟩:=xX h1 (hcl d (Vt ..));obtain ⟨k1,k2,r,t,k⟩:=j (i+1) s1 s (fun b g=>hcl b (Vn _ g)) h;have e:∀ (x:List jv),((d :: x).filter fun d=>d.cls == 2).length=(if d.cls=2 then 1 else 0)+(x.filter fun d=>d.cls == 2).length:=by
    intro x;rw [Xz];by_cases hd:d.cls=2
    ·simp [hd]; omega
    ·simp [hd]
   refine ⟨f.trans k1,by simp; omega,by simp; omega,by rw [e]; omega,fun q b c=>?_⟩;cases q with
   | zero=>simp at c; subst c; exact ⟨a,s1,h1,k1,rfl,rfl,rfl⟩
   | succ q =>
    obtain ⟨s2,s3,e1,e2,e3,l,m⟩:=k q b (by simpa using c);refine ⟨s2,s3,by rw [show i+(q+1)=i+1+q by omega]; exact e1,e2,zO,zO,?_⟩;rw [List.take_succ_cons,e]; omega
  ·cases h
def TN (cal:oy) (base:Nat) (T0:Tm) (s:DS) (i:Nat) (d:jv):Prop :=
 (cg (cw T0 s.Vs d.uses) d.guard=some false/\s.Vs.getD i .undef=.tup []/\s.Es.getD i none=none /\
  (d.cls=2->∀ k adds,d.looks=[(k,adds)]->s.Cs.getD (k+1) default=dH base s.Es (s.Cs.getD k default) adds)) \/
 (cg (cw T0 s.Vs d.uses) d.guard=some true /\
  ((d.cls=0/\s.Es.getD i none=none/\(aN (Src.ev (cw T0 s.Vs d.uses)) d.op=some (s.Vs.getD i .undef)\/(aN (Src.ev (cw T0 s.Vs d.uses)) d.op=none/\d.op.looks=true))) \/
   (d.cls=1/\d.op.makes=true/\∃ H',bg (Src.ev (cw T0 s.Vs d.uses)) (Heap.nil 0) (base+i) d.op=some (s.Vs.getD i .undef,H')/\s.Es.getD i none=H'.get (base+i)) \/
   (d.cls=2/\s.Es.getD i none=none/\∀ k adds,d.looks=[(k,adds)]->∃ H',Ab cal (Src.ev (cw T0 s.Vs d.uses)) (dH base s.Es (s.Cs.getD k default) adds) (base+i) d.op=some (s.Vs.getD i .undef,H')/\H'.next=(s.Cs.getD (k+1) default).next/\∀ b,H'.get b=(s.Cs.getD (k+1) default).get b)))
def Sd {cal:oy} {base:Nat} {T0:Tm} {i:Nat} {d:jv} {s1 s2 s:DS} (h:jU cal base T0 i d s1=some s2) (hs:Pre s2 s) (hcl:d.cls=0\/d.cls=1\/d.cls=2)
  (hV:s1.Vs.length=i) (t:s1.Es.length=i) (B:∀ u∈d.uses,∀ j,u.2=some j->j<i)
  (m:d.cls=2->∀ k adds,d.looks=[(k,adds)]->s1.Cs.length=k+1/\∀ a∈adds,a<i):TN cal base T0 s i d:=by
 have hg:=xX h hcl;have n:Pre s1 s:=hg.1.trans hs;have hT:cw T0 s1.Vs d.uses=cw T0 s.Vs d.uses:=GP fun u A j hj=>(kv n.1 (by rw [hV]; exact B u A j hj) _).symm;have w:d.cls=2->∀ k adds,d.looks=[(k,adds)]->dH base s1.Es (s1.Cs.getD k default) adds=dH base s.Es (s.Cs.getD k default) adds:=by
  intro h2 k adds hl;obtain ⟨x,ha⟩:=m h2 k adds hl;rw [kv n.2.1 zO default];exact Ix _ _ _ fun a hm=>(kv n.2.2 (by rw [t]; exact ha a hm) _).symm
 have f:∀ v,s2.Vs=s1.Vs++[v]->s.Vs.getD i .undef=v:=fun v e=>by
  have:=hs.1; rw [e] at this; rw [<- hV]; exact wC this _
 have c:∀ v,s2.Es=s1.Es++[v]->s.Es.getD i none=v:=fun v e=>by
  have:=hs.2.2; rw [e] at this; rw [<- t]; exact wC this _
 have q:∀ k v,s1.Cs.length=k+1->s2.Cs=s1.Cs++[v]->s.Cs.getD (k+1) default=v:=fun k v x e=>by
  have:=hs.2.1; rw [e] at this; rw [<- x]; exact wC this _
 unfold jU at h;rw [hT] at h;unfold TN;cases o:cg (cw T0 s.Vs d.uses) d.guard with
 | none=>simp only [o] at h; cases h
 | some b =>
 cases b
 ·simp only [o] at h;refine .inl ⟨rfl,?_⟩;rcases hcl with hcl | hcl | hcl
  ·simp only [hcl] at h; cases h; exact ⟨f _ rfl,c _ rfl,fun h2=>by omega⟩
  ·simp only [hcl] at h; cases h; exact ⟨f _ rfl,c _ rfl,fun h2=>by omega⟩
  ·simp only [hcl] at h;cases hl:d.looks with
   | nil=>simp only [hl] at h; cases h
   | cons p r =>
    cases r with
    | cons D r=>simp only [hl] at h; cases h
    | nil =>
     obtain ⟨k,adds⟩:=p;simp only [hl] at h;cases h;refine ⟨f _ rfl,c _ rfl,fun _ C y l=>?_⟩;cases l;rw [<- w hcl _ _ hl];exact q k _ (m hcl _ _ hl).1 rfl
 ·simp only [o] at h;refine .inr ⟨rfl,?_⟩;rcases hcl with hcl | hcl | hcl <;> simp only [hcl] at h
  ·refine .inl ⟨hcl,?_⟩;cases g:aN (Src.ev (cw T0 s.Vs d.uses)) d.op with
   | some v =>
    simp only [g] at h;cases h;exact ⟨c _ rfl,.inl (by rw [f v rfl])⟩
   | none =>
    simp only [g] at h;split at h
    ·split at h
     ·rename_i z;split at h
      ·cases h; exact ⟨c _ rfl,.inr ⟨rfl,z⟩⟩
      ·cases h
     ·cases h
    ·cases h
  ·refine .inr (.inl ⟨hcl,?_⟩);split at h
   ·rename_i hm;split at h
    ·rename_i v H' g;cases h;exact ⟨hm,H',by rw [f v rfl]; exact g,c _ rfl⟩
    ·cases h
   ·cases h
  ·refine .inr (.inr ⟨hcl,?_⟩);cases hl:d.looks with
   | nil=>simp only [hl] at h; cases h
   | cons p r =>
    cases r with
    | cons D r=>simp only [hl] at h; cases h
    | nil =>
     obtain ⟨k,adds⟩:=p;simp only [hl] at h;split at h
     ·rename_i v H' g;cases h;refine ⟨c _ rfl,fun C y l=>?_⟩;cases l;refine ⟨H',?_,?_⟩
      ·rw [<- w hcl _ _ hl,f v rfl]; exact g
      ·rw [q k _ (m hcl _ _ hl).1 rfl]; exact ⟨rfl,fun _=>rfl⟩
     ·cases h
def Md (S:Nat->Bool):Nat->Nat
 | 0=>0
 | n+1=>Md S n+(if S n=true then 0 else 1)
def add (S:Nat->Bool) (i:Nat) (j:Nat):Bool:=if j=i then true else S j
def Cx {S S':Nat->Bool}:∀ (n:Nat),(∀ j,j<n->S j=S' j)->Md S n=Md S' n
 | 0,_=>rfl
 | n+1,h=>by simp only [Md]; rw [Cx n (fun j hj=>h j zO),h n zO]
def JE {S:Nat->Bool} {i:Nat} (a:S i=false):∀ (n:Nat),i<n->Md (add S i) n+1=Md S n
 | 0,h=>by omega
 | n+1,h=>by
  simp only [Md];by_cases e:i=n
  ·subst e;rw [Cx (S:=add S i) (S':=S) i (fun j hj=>by simp [add]; omega)];simp [add,a]
  ·have:=JE a n zO
   have:add S i n=S n:=by simp [add]; omega
   rw [this]; omega
def F3 {S:Nat->Bool}:∀ (n:Nat),Md S n=0->∀ j,j<n->S j=true
 | 0,_,j,h=>by omega
 | n+1,h0,j,h=>by
  simp only [Md] at h0;by_cases e:j=n
  ·subst e;cases a:S j with
   | true=>rfl
   | false=>rw [a] at h0; simp at h0
  ·exact F3 n zO j zO
def JD {S:Nat->Bool}:∀ (n:Nat),(∀ j,j<n->S j=false)->Md S n=n
 | 0,_=>rfl
 | n+1,h=>by simp only [Md]; rw [JD n (fun j hj=>h j zO),h n zO]; simp
section
variable (l:List DI) (T0:Tm) (s:DS)
def e9 (i:Nat):Option Nat:=(l.getD i default).dst
def qf (i:Nat):List Nat:=(l.getD i default).preds
def fM (i:Nat):Nat:=(l.getD i default).cls
def tv (S:Nat->Bool):Nat->Nat->AV
 | 0,t=>aa T0 t
 | n+1,t=>if S n=true/\e9 l n=some t then s.Vs.getD n .undef else tv S n t
variable {l T0 s}
def zh {S S':Nat->Bool} {t:Nat}:∀ (n:Nat),(∀ j,j<n->S j=S' j)->tv l T0 s S n t=tv l T0 s S' n t
 | 0,_=>rfl
 | n+1,h=>by simp only [tv]; rw [zh n (fun j hj=>h j zO),h n zO]
def M4 {S:Nat->Bool} {i t:Nat} (a:S i=false):∀ (n:Nat),i<n->(∀ j,i<j->j<n->S j=true->e9 l i≠none->e9 l i≠e9 l j) ->
  tv l T0 s (add S i) n t=if e9 l i=some t then s.Vs.getD i .undef else tv l T0 s S n t
 | 0,h,_=>by omega
 | n+1,h,hd=>by
  simp only [tv];by_cases e:i=n
  ·subst e;rw [zh (S:=add S i) (S':=S) i (fun j hj=>by simp [add]; omega)];simp [add,a]
  ·have h1:add S i n=S n:=by simp [add]; omega
   rw [h1,M4 a n zO (fun j h1 h2=>hd j h1 zO)];by_cases hc:S n=true/\e9 l n=some t
   ·rw [if_pos hc,if_neg]
    ·rw [if_pos hc]
    ·intro hi;exact hd n zO zO hc.1 (by rw [hi]; simp) (by rw [hi,hc.2])
   ·rw [if_neg hc,if_neg hc]
def M3 {S:Nat->Bool} {j t:Nat} (a:S j=true) (hd:e9 l j=some t):∀ (n:Nat),j<n->(∀ j',j<j'->j'<n->e9 l j'=some t->S j'=false) ->
  tv l T0 s S n t=s.Vs.getD j .undef
 | 0,h,_=>by omega
 | n+1,h,hn=>by
  simp only [tv];by_cases e:j=n
  ·subst e; rw [if_pos ⟨a,hd⟩]
  ·rw [if_neg (fun hc=>by have:=hn n zO zO hc.2; rw [this] at hc; exact absurd hc.1 (by simp))];exact M3 a hd n zO (fun j' h1 h2=>hn j' h1 zO)
def C8 {S:Nat->Bool} {t:Nat}:∀ (n:Nat),(∀ j',j'<n->e9 l j'=some t->S j'=false)->tv l T0 s S n t=aa T0 t
 | 0,_=>rfl
 | n+1,hn=>by
  simp only [tv];rw [if_neg (fun hc=>by have:=hn n zO hc.2; rw [this] at hc; exact absurd hc.1 (by simp))];exact C8 n (fun j' h1=>hn j' zO)
variable (l T0 s)
def TS (S:Nat->Bool):Tm:=(List.range T0.length).map (tv l T0 s S l.length)
variable {l T0 s}
def xC {S:Nat->Bool}:(TS l T0 s S).length=T0.length:=by simp [TS]
def O2:TS l T0 s (fun _=>false)=T0:=by
 apply W0
 intro t;by_cases a:t<T0.length
 ·unfold TS;rw [Wg,Yf a];simp only [W8];rw [C8 _ (fun _ _ _=>rfl),aa,Vh,Vk a];rfl
 ·rw [VS (by rw [xC]; omega),VS zO]
def SO {S:Nat->Bool} {i:Nat} (e:S i=false) (hi:i<l.length) (hd:∀ j,i<j->j<l.length->S j=true->e9 l i≠none->e9 l i≠e9 l j) :
  TS l T0 s (add S i)=putT (TS l T0 s S) (e9 l i) (s.Vs.getD i .undef):=by
 apply W0
 intro t;have a:∀ S,(TS l T0 s S)[t]? = if t<T0.length then some (tv l T0 s S l.length t) else none:=by
  intro S;unfold TS;split
  ·rename_i c; rw [Wg,Yf c]; rfl
  ·rename_i c; exact VS zS
 rw [a,M4 e _ hi hd];cases he:e9 l i with
 | none=>simp only [putT]; rw [a]; simp
 | some d =>
  simp only [putT];by_cases b:d=t
  ·subst b;rw [XU,a];split <;> simp
  ·rw [X3 b,a]
   have:¬ (some d=some t):=fun h=>b (by injection h)
   rw [if_neg this]
def xM:∀ (ds:List jv) (Vs:List AV) (T:Tm) (d:jv) (v:AV),ds.length=Vs.length->gD T (ds++[d]) (Vs++[v])=putT (gD T ds Vs) d.dst v
 | [],[],T,d,v,_=>rfl
 | [],_ :: _,_,_,_,h=>by simp at h
 | _ :: _,[],_,_,_,h=>by simp at h
 | a :: ds,b :: Vs,T,d,v,h=>by
  simp only [Xy,gD];exact xM ds Vs _ d v (by simpa using h)
def zZ:∀ (ds:List jv) (Vs:List AV) (T:Tm),(gD T ds Vs).length=T.length
 | [],[],T=>rfl
 | [],_ :: _,T=>rfl
 | _ :: _,[],T=>rfl
 | d :: ds,v :: Vs,T=>by
  simp only [gD];rw [zZ ds Vs];cases d.dst <;> simp [putT]
def KQ {ds:List jv} (e:ds.length=l.length) (f:s.Vs.length=l.length) (hd:∀ i,i<l.length->(ds.getD i default).dst=e9 l i) :
  gD T0 ds s.Vs=TS l T0 s (fun _=>true):=by
 have key:∀ n,n<=l.length->∀ t,t<T0.length->(gD T0 (ds.take n) (s.Vs.take n))[t]? = some (tv l T0 s (fun _=>true) n t):=by
  intro n
  induction n with
  | zero=>intro _ t a; simp [gD,tv,aa,Vk a]
  | succ n b =>
   intro hn t a;have h1:ds.take (n+1)=ds.take n++[ds.getD n default]:=by
    rw [Vr zO,Vh,Vk zO]; rfl
   have h2:s.Vs.take (n+1)=s.Vs.take n++[s.Vs.getD n .undef]:=by
    rw [Vr zO,Vh,Vk zO]; rfl
   rw [h1,h2,xM _ _ _ _ _ zS,hd n zO];have b:=b zO t a;simp only [tv,true_and];cases he:e9 l n with
   | none=>simp only [putT]; rw [b]; simp
   | some d =>
    simp only [putT];by_cases c:d=t
    ·subst c; rw [XU,b]; simp
    ·have:¬ (some d=some t):=fun h=>c (by injection h)
     rw [X3 c,b,if_neg this]
 apply W0
 intro t;by_cases a:t<T0.length
 ·have:=key l.length (Vo _) t a
  rw [VP zO,VP zO] at this;rw [this];unfold TS;rw [Wg,Yf a];rfl
 ·rw [VS (by rw [zZ]; omega),VS (by rw [xC]; omega)]
def Ek {q q':Nat} (h:q<q') (a:q'<(aD l).length):(aD l).getD q 0<(aD l).getD q' 0:=by
 have hp:List.Pairwise (· < ·) (aD l):=XQ _ YV;rw [V2] at hp;rw [Vh,Vh,Vk zO,Vk a];exact hp q q' zO a h
def rL {q:Nat} (a:q<(aD l).length):(aD l).getD q 0<l.length/\fM l ((aD l).getD q 0)=2:=by
 have:(aD l).getD q 0∈aD l:=by
  rw [Vh,Vk a]; exact Vm a
 have key:∀ x,x∈aD l->x<l.length/\fM l x=2:=by
  intro x hx;unfold aD at hx;rw [Vx] at hx;exact ⟨by simpa using hx.1,by simpa [fM] using hx.2⟩
 exact key _ this
def OY {i:Nat} (hi:i<l.length) (hc:fM l i=2):((List.range i).filter fun i=>(l.getD i default).cls == 2).length<(aD l).length /\
  (aD l).getD ((List.range i).filter fun i=>(l.getD i default).cls == 2).length 0=i:=by
 have a:List.range l.length=List.range i++(i :: (List.range' (i+1) (l.length-i-1))):=by
  rw [Ze,Ze,show l.length=i+((l.length-i-1)+1) by omega,<- List.range'_append_1,V3,List.range'_succ];congr 3;omega
 have:aD l=(List.range i).filter (fun i=>(l.getD i default).cls == 2)++(i :: (List.range' (i+1) (l.length-i-1)).filter (fun i=>(l.getD i default).cls == 2)):=by
  unfold aD;rw [a,Wa,Xz,if_pos (by simpa [fM] using hc)]
 rw [this];exact ⟨by simp,by rw [Vh,We (Vo _)]; simp⟩
def Gs {q q':Nat} (a:q<(aD l).length) (b:q'<(aD l).length) (h:(aD l).getD q 0=(aD l).getD q' 0):q=q':=by
 rcases X7 q q' with h1 | h1 | h1
 ·have:=Ek h1 b; omega
 ·exact h1
 ·have:=Ek h1 a; omega
def Od {k a:Nat} (h:a∈dM l (k+1)):a∈qf l ((aD l).getD k 0)/\fM l a=1:=by
 simp only [dM,Vx,VU] at h;exact ⟨by simpa [qf] using h.2.2,by simpa [fM] using h.2.1⟩
variable (l) in
def DC (S:Nat->Bool) (k:Nat):List Nat:=(List.range l.length).filter fun a=>S a && fM l a == 1 && !(dM l k).contains a
def mem_lst {S:Nat->Bool} {k a:Nat}:a∈DC l S k ↔ a<l.length/\S a=true/\fM l a=1/\a ∉ dM l k:=by
 simp [DC,Vx,and_assoc]
def Qm:DC l (fun _=>true) (aD l).length=xc l:=by
 simp [DC,xc,fM]
end
section
variable {P:Program} {μ μ':Mu} {F:Nat->Prop} {w w':World}
def HR.sub {A D:Heap} (hH:HR P μ F A w) (a:∀ b e,D.get b=some e->A.get b=some e) (hn:D.next=A.next):HR P μ F D w :=
 ⟨fun b L hb=>hn ▸ hH.dom b L hb,hH.fb,fun b e hb=>hH.ent b e (a b e hb),fun b b' e e' L L' h1 h2=>hH.inj b b' e e' L L' (a _ _ h1) (a _ _ h2),hH.gl⟩
def Nd {I:Nat->Prop} {A D o r:Heap} (hH:HR P μ F A w) (n:∀ b e,D.get b=some e->A.get b=some e) (s:D.next=A.next) (hr:HR P μ' F o w')
  (st:Stp I P μ F D w μ' F o w') (u:r.next=o.next) (h':∀ b e,r.get b=some e->o.get b=some e\/(D.get b=none/\A.get b=some e)) :
  HR P μ' F r w'/\Stp I P μ F A w μ' F r w':=by
 have v:∀ b,D.rwAt b->A.rwAt b:=fun b ⟨e,h1,h2⟩=>⟨e,n b e h1,h2⟩
 have x:∀ b e L,D.get b=none->A.get b=some e->μ b=some L->w'.heap[L.blk]? = w.heap[L.blk]?:=by
  intro b e L hD hA hL;refine st.keep _ (hH.dom b L hL).2 fun b0 L0 C h he=>?_;obtain ⟨e0,h1,_⟩:=C
  have:=hH.inj b0 b e0 e L0 L (n _ _ h1) hA h hL he
  subst this;rw [hD] at h1; cases h1
 have apart:∀ l e1 p a e2 j,o.get l=some e1->μ' l=some p->D.get a=none->A.get a=some e2->μ a=some j->p.blk≠j.blk:=by
  intro l e1 p a e2 j h1 m hD h2 i he;rcases st.alv l e1 p h1 m with hge | ⟨b0,e0,L0,h0,h,q⟩
  ·have:=(hH.dom a j i).2; omega
  ·have:=hH.inj b0 a e0 e2 L0 j (n _ _ h0) h2 h i (q.trans he)
   subst this;rw [hD] at h0; cases h0
 have k:∀ b e L',A.get b=some e->μ' b=some L'->μ b=some L':=by
  intro b e L' hA B;obtain ⟨L,hL,_⟩:=hH.ent b e hA
  have:=st.mu b L hL
  rw [B] at this; cases this;exact hL
 refine ⟨⟨fun b L hb=>u ▸ hr.dom b L hb,hr.fb,fun b e hb=>?_,fun l a e1 e2 p j h1 h2 m i he=>?_,hr.gl⟩,⟨st.mu,st.fr,st.size,fun c hc hn=>st.keep c hc fun b L hb hL=>hn b L (v b hb) hL,fun b L hb hL=>?_,?_,fun b hb hi hn=>st.new b (s ▸ hb) hi hn,st.rng,fun b e hb hl hi=>?_,fun b e L hb hL=>?_,st.tape,st.os,st.out⟩⟩
 ·rcases h' b e hb with h1 | ⟨hD,hA⟩
  ·exact hr.ent b e h1
  ·obtain ⟨L,hL,t⟩:=hH.ent b e hA;have E:∀ c,F c->w'.heap[c]? = w.heap[c]?:=(st.keepF (hH.sub n s))
   exact ⟨L,st.mu b L hL,t.mono st.mu st.fr E (x b e L hD hA hL) (fun G=>t.notF G)⟩
 ·rcases h' l e1 h1 with d | ⟨y,d⟩ <;> rcases h' a e2 h2 with f | ⟨z,f⟩
  ·exact hr.inj _ _ _ _ _ _ d f m i he
  ·exact absurd he (apart _ _ _ _ _ _ d m z f (k _ _ _ f i))
  ·exact absurd he.symm (apart _ _ _ _ _ _ f i y d (k _ _ _ d m))
  ·exact hH.inj _ _ _ _ _ _ d f (k _ _ _ d m) (k _ _ _ f i) he
 ·obtain ⟨e,h1,h2⟩:=hb;rcases h' b e h1 with g | ⟨_,g⟩
  ·rcases st.rw b L ⟨e,g,h2⟩ hL with hge | ⟨b0,L0,h0,h,q⟩
   ·exact .inl hge
   ·exact .inr ⟨b0,L0,v _ h0,h,q⟩
  ·exact .inr ⟨b,L,⟨e,g,h2⟩,k _ _ _ g hL,rfl⟩
 ·rw [<- s,u]; exact st.next
 ·rcases h' b e hb with g | ⟨_,g⟩
  ·obtain ⟨e0,h0⟩:=st.old b e g (s ▸ hl) hi;exact ⟨e0,n _ _ h0⟩
  ·exact ⟨e,g⟩
 ·rcases h' b e hb with g | ⟨_,g⟩
  ·rcases st.alv b e L g hL with hge | ⟨b0,e0,L0,h0,h,q⟩
   ·exact .inl hge
   ·exact .inr ⟨b0,e0,L0,n _ _ h0,h,q⟩
  ·exact .inr ⟨b,e,L,g,k _ _ _ g hL,rfl⟩
end
def K6 {D A:Heap} (a:∀ b e,D.get b=some e->A.get b=some e) {x:AV} {es:List (AV × AV)} (h:uP D x=some es):uP A x=some es:=by
 cases x <;> simp only [uP] at h ⊢ <;> first | exact h | (cases h; done) | skip
 split at h
 ·rename_i c he;cases h;rw [a _ _ he]
 ·rename_i c he;cases h;rw [a _ _ he]
 ·cases h
def Lc {T:Tm} {D A d:Heap} {op:AOp} {v:AV} {i j:Nat} (c:∀ b e,D.get b=some e->A.get b=some e) (hl:op.looks=true) (h:bg (Src.ev T) D i op=some (v,d)):bg (Src.ev T) A j op=some (v,A):=by
 cases op <;> simp only [AOp.looks] at hl <;> first | (cases hl; done) | skip
 case load k x =>
  simp only [bg,Vu] at h ⊢;obtain ⟨u,a,h⟩:=h;cases h;refine ⟨v,?_,rfl⟩
  generalize x.ev T=y at a ⊢
  cases y <;> simp only [aW] at a ⊢ <;> first | exact a | (cases a; done) | skip
  split at a
  ·rename_i cs ty rw he;rw [c _ _ he]; exact a
  ·cases a
 case globIdx cs len size i =>
  simp only [bg] at h ⊢;split at h
  ·split at h
   ·rename_i hlt;cases h;rw [if_pos hlt]
   ·cases h
  ·cases h
 case globLoad k cs =>
  simp only [bg,Vu] at h ⊢;obtain ⟨u,a,h⟩:=h;cases h;exact ⟨v,a,rfl⟩
 case lookup kd zero x i ok =>
  simp only [bg,Vu] at h ⊢;obtain ⟨u,a,h⟩:=h;cases h;refine ⟨v,?_,rfl⟩;unfold pX at a ⊢;split at a
  ·cases a
  ·rename_i f;rw [if_neg f];cases hm:uP D (x.ev T) with
   | none=>rw [hm] at a; cases a
   | some es=>rw [hm] at a; rw [K6 c hm]; exact a
 case lenMap x =>
  simp only [bg] at h ⊢
  generalize x.ev T=y at h ⊢
  cases y <;> simp only at h ⊢ <;> first | (cases h; done) | skip
  ·cases h; rfl
  ·split at h
   ·rename_i es he;cases h;rw [c _ _ he]
   ·rename_i es he;cases h;rw [c _ _ he]
   ·cases h
def K7 {T:Tm} {H0 a A:Heap} {op:AOp} {v:AV} {id:Nat} (hl:op.makes=true) (h:bg (Src.ev T) H0 id op=some (v,a)) :
  ∃ e,a.get id=some e/\bg (Src.ev T) A id op=some (v,A.put id e)/\aN (Src.ev T) op=none:=by
 cases op <;> simp only [AOp.makes] at hl <;> first | (cases hl; done) | skip
 case alloc ty z=>cases h; exact ⟨_,by rw [Heap.get_put,if_pos rfl],rfl,rfl⟩
 case mkmap=>cases h; exact ⟨_,by rw [Heap.get_put,if_pos rfl],rfl,rfl⟩
 case box ty x =>
  simp only [bg] at h ⊢;split at h
  ·rename_i hc;cases h;exact ⟨_,by rw [Heap.get_put,if_pos rfl],by rw [if_pos hc],rfl⟩
  ·cases h
 case buildSlice ty size zeros len parts =>
  simp only [bg] at h ⊢;split at h
  ·cases h
  ·rename_i cs hc;cases h;exact ⟨_,by rw [Heap.get_put,if_pos rfl],rfl,rfl⟩
 case mksl ty size bytes zero l c =>
  simp only [bg] at h ⊢;split at h
  ·rename_i d b h1 h2;split at h
   ·rename_i hc;cases h;exact ⟨_,by rw [Heap.get_put,if_pos rfl],by rw [if_pos hc],rfl⟩
   ·cases h
  ·cases h
def NI {cal:oy} {T:Tm} {H:Heap} {id:Nat} {op:AOp} {v:AV} (h:aN (Src.ev T) op=some v):Ab cal (Src.ev T) H id op=some (v,H):=by
 cases op <;> first | (simp only [Ab,h]; done) | (simp [aN] at h; done)
def Ff {cal:oy} {T:Tm} {H:Heap} {id:Nat} {op:AOp} {r:AV × Heap} (h:aN (Src.ev T) op=none) (hh:bg (Src.ev T) H id op=some r):Ab cal (Src.ev T) H id op=some r:=by
 cases op <;> first | (simp only [Ab,h]; exact hh) | (simp [bg] at hh; done)
def EX {base:Nat} {T0:Tm} {s:DS}:∀ (ds:List jv) (i:Nat),lP base T0 s i ds=true->∀ (q:Nat) (d:jv),ds[q]? = some d->kn base T0 s (i+q) d=true:=by
 intro ds
 induction ds with
 | nil=>intro i _ q d h; simp at h
 | cons d ds c =>
  intro i h q b a;simp only [lP,VU] at h;cases q with
  | zero=>simp at a; subst a; exact h.1
  | succ q=>rw [show i+(q+1)=i+1+q by omega]; exact c (i+1) h.2 q b (by simpa using a)
structure um (P:Program) (ops:Array Oper) (l:List DI) (ds:List jv):Prop where
 len:l.length<=ops.size
 dlen:ds.length=l.length
 op:∀ i,i<l.length->∃ o,ops[i]? = some o/\o.dst=e9 l i/\Bj ops o.guard=some (l.getD i default).guard/\(l.getD i default).op=(Ge P o).getD .bad
 dso:∀ i,i<l.length->(ds.getD i default).dst=e9 l i/\(ds.getD i default).op=(l.getD i default).op/\(ds.getD i default).guard=(l.getD i default).guard/\(ds.getD i default).cls=fM l i
 cl:∀ i,i<l.length->fM l i=0\/fM l i=1\/fM l i=2
 back:∀ i o,i<l.length->ops[i]? = some o->∀ j∈lC o,j<i
 pre:∀ i o,i<l.length->ops[i]? = some o->∀ p∈qf l i,∃ j∈lC o,p=j\/p∈qf l j
 same:∀ i j,i<j->j<l.length->e9 l i≠none->e9 l i=e9 l j->i∈qf l j
 acts:∀ i j,i<j->j<l.length->fM l i=2->fM l j=2->i∈qf l j
 useS:∀ i,i<l.length->∀ t j,(t,some j)∈(ds.getD i default).uses->j∈qf l i/\e9 l j=some t/\j<i/\∀ j',j'<l.length->e9 l j'=some t->j'<=j\/i∈qf l j'\/j'=i
 useN:∀ i,i<l.length->∀ t,(t,none)∈(ds.getD i default).uses->∀ j',j'<l.length->e9 l j'=some t->j'=i\/i∈qf l j'
 look:∀ i,i<l.length->∀ k adds,(k,adds)∈(ds.getD i default).looks->∀ a∈adds,a∈qf l i/\fM l a=1/\a ∉ dM l k/\a<i
 seen:∀ i,i<l.length->fM l i=0->∀ k,k<=(aD l).length->(∃ q,q<(aD l).length/\(aD l).getD q 0∈qf l i/\k<=q)\/(∃ q,q<(aD l).length/\i∈qf l ((aD l).getD q 0)/\q<k) \/
  ∃ adds,(k,adds)∈(ds.getD i default).looks
 act:∀ i,i<l.length->fM l i=2->∃ k adds,(ds.getD i default).looks=[(k,adds)]/\k<(aD l).length/\(aD l).getD k 0=i/\∀ a,a<l.length->(a∈dM l (k+1) ↔ a∈dM l k\/a∈adds)
section
variable {P:Program} {ops:Array Oper} {l:List DI} {ds:List jv} {T0:Tm} {s:DS} {base:Nat} {F:Nat->Prop} {μ0:Mu} {H0:Heap} {w0:World} {df:List Deferred}
variable (l s base) in
def Hh (S:Nat->Bool) (k:Nat):Heap:=dH base s.Es (s.Cs.getD k default) (DC l S k)
variable (P l T0 s base F μ0 H0 w0 df) in
structure Inv (S:Nat->Bool) (k:Nat) (μ:Mu) (a:Act) (w:World):Prop where
 cl:∀ j,j<l.length->S j=true->∀ p∈qf l j,S p=true
 kle:k<=(aD l).length
 act:∀ q,q<(aD l).length->(S ((aD l).getD q 0)=true ↔ q<k)
 tm:LR μ F w (TS l T0 s S) a.tmps.toList
 hr:HR P μ F (Hh l s base S k) w
 noC:∀ j,j<l.length->fM l j=1->j ∉ dM l k->(s.Cs.getD k default).get (base+j)=none
 nx:base+l.length<=(s.Cs.getD k default).next
 un:∀ j,j<l.length->S j=false->μ (base+j)=none
 st:Stp (fun b=>base<=b) P μ0 F H0 w0 μ F (Hh l s base S k) w
 df:a.defers=df
def Inv.next {S:Nat->Bool} {k d i:Nat} {μ μ':Mu} {a:Act} {w w':World} {D f:Heap} {o:Oper} {u:Value} (J:Inv P l T0 s base F μ0 H0 w0 df S k μ a w) (G:um P ops l ds)
  (hi:i<l.length) (m:S i=false) (B:∀ p∈qf l i,S p=true) (A:o.dst=e9 l i) (E:VR μ' F w' (s.Vs.getD i .undef) u)
  (C:∀ b e,D.get b=some e->(Hh l s base S k).get b=some e) (z:D.next=(Hh l s base S k).next) (hr:HR P μ' F f w') (st:Stp (fun b=>b=base+i) P μ F D w μ' F f w')
  (x:(Hh l s base (add S i) d).next=f.next) (h':∀ b e,(Hh l s base (add S i) d).get b=some e->f.get b=some e\/(D.get b=none/\(Hh l s base S k).get b=some e))
  (v:d<=(aD l).length) (t:∀ q,q<(aD l).length->(add S i ((aD l).getD q 0)=true ↔ q<d))
  (y:∀ j,j<l.length->fM l j=1->j ∉ dM l d->(s.Cs.getD d default).get (base+j)=none):Inv P l T0 s base F μ0 H0 w0 df (add S i) d μ' (a.put o.dst u) w':=by
 obtain ⟨n,g⟩:=Nd J.hr C z hr st x h';have h:∀ S k,(Hh l s base S k).next=(s.Cs.getD k default).next:=fun S k=>l4 _ _ _ _
 refine ⟨fun j hj c p hp=>?_,v,t,?_,n,y,?_,fun j hj c=>?_,J.st.trans (g.mono fun b hb=>?_),?_⟩
 ·simp only [add] at c ⊢;by_cases e:p=i
  ·simp [e]
  ·simp only [e,if_false];by_cases e':j=i
   ·subst e'; exact B p hp
   ·simp only [e',if_false] at c; exact J.cl j hj c p hp
 ·rw [SO m hi,A]
  ·have:=Hk (a:=a) (g.lr J.hr J.tm) (e9 l i) E
   exact this
  ·intro j h1 h2 h3 r h5
   have:=J.cl j h2 h3 i (G.same i j h1 h2 r h5)
   rw [m] at this; cases this
 ·have:=g.next
  rw [h,h] at this;exact VB J.nx this
 ·simp only [add] at c;split at c
  ·cases c
  ·rename_i hne;have hn:=J.nx;refine g.new (base+j) (by rw [h]; omega) (fun e=>hne (by have e:base+j=base+i:=e; omega)) (J.un j hj c)
 ·have:b=base+i:=hb
  omega
 ·rw [<- J.df]; cases o.dst <;> rfl
def ul (S:Nat->Bool) (k b:Nat):(Hh l s base S k).get b=match (if base<=b/\(b-base)∈DC l S k then s.Es.getD (b-base) none else none) with | some e=>some e | none=>(s.Cs.getD k default).get b:=Br _ _ _ _ _
def O6 {S:Nat->Bool} {k i:Nat} (hi:i<l.length) (hc:fM l i≠1\/s.Es.getD i none=none) (b:Nat):(Hh l s base (add S i) k).get b=(Hh l s base S k).get b:=by
 rw [ul,ul];by_cases hb:base<=b
 ·by_cases a:b-base=i
  ·rw [a];rcases hc with hc | hc
   ·rw [if_neg (fun h=>hc (mem_lst.1 h.2).2.2.1),if_neg (fun h=>hc (mem_lst.1 h.2).2.2.1)]
   ·rw [hc]; simp
  ·have:(b-base∈DC l (add S i) k) ↔ (b-base∈DC l S k):=by
    simp only [mem_lst,add,a,if_false]
   by_cases hm:b-base∈DC l S k
   ·rw [if_pos ⟨hb,this.2 hm⟩,if_pos ⟨hb,hm⟩]
   ·rw [if_neg (fun h=>hm (this.1 h.2)),if_neg (fun h=>hm h.2)]
 ·rw [if_neg (fun h=>hb h.1),if_neg (fun h=>hb h.1)]
def CT {S:Nat->Bool} {k i:Nat} (h:∀ q,q<(aD l).length->(S ((aD l).getD q 0)=true ↔ q<k)) (hc:fM l i≠2) :
  ∀ q,q<(aD l).length->(add S i ((aD l).getD q 0)=true ↔ q<k):=by
 intro q a
 have:(aD l).getD q 0≠i:=fun e=>hc (e ▸ (rL a).2)
 simp only [add,this,if_false];exact h q a
def OZ {S:Nat->Bool} {k i a:Nat} (G:um P ops l ds) (hi:i<l.length) (j:S i=false) (m:∀ p∈qf l i,S p=true) (n:k<=(aD l).length)
  (h:∀ q,q<(aD l).length->(S ((aD l).getD q 0)=true ↔ q<k)) (hc:fM l i=2) (c:a<(aD l).length) (b:(aD l).getD a 0=i) :
  a=k/\∀ q,q<(aD l).length->(add S i ((aD l).getD q 0)=true ↔ q<k+1):=by
 have e:a=k:=by
  have h1:¬ a<k:=fun hlt=>by have:=(h a c).2 hlt; rw [b,j] at this; cases this
  have h2:¬ k<a:=fun hlt=>by
   have d:k<(aD l).length:=zO;have hm:=rL d
   have:=m _ (G.acts _ i (b ▸ Ek hlt c) hi hm.2 hc)
   have:=(h k d).1 this
   omega
  omega
 refine ⟨e,fun q f=>?_⟩;subst e;by_cases g:q=a
 ·subst g; rw [b]; simp [add]
 ·have:(aD l).getD q 0≠i:=fun h=>g (Gs f c (h.trans b.symm))
  simp only [add,this,if_false];rw [h q f]; omega
def Ns (base:Nat) (T0:Tm) (s:DS) (i k:Nat) (d:jv):Prop:=d.cls=0->cg (cw T0 s.Vs d.uses) d.guard=some true->aN (Src.ev (cw T0 s.Vs d.uses)) d.op=none->∀ adds,(k,adds)∈d.looks ->
 ∃ v a,bg (Src.ev (cw T0 s.Vs d.uses)) (dH base s.Es (s.Cs.getD k default) adds) 0 d.op=some (v,a)/\AV.beq v (s.Vs.getD i .undef)=true
def KI {base:Nat} {T0:Tm} {s:DS} {i:Nat} {d:jv} (h:kn base T0 s i d=true) (k:Nat):Ns base T0 s i k d:=by
 intro h0 c hp adds hm;unfold kn at h;rw [h0,c,hp] at h;simp only [VJ] at h;have hx:=h _ hm;split at hx
 ·rename_i v a b; exact ⟨v,a,b,hx⟩
 ·cases hx
def PO {S:Nat->Bool} {k i:Nat} {μ:Mu} {a:Act} {w:World} (J:Inv P l T0 s base F μ0 H0 w0 df S k μ a w) (G:um P ops l ds) (hi:i<l.length) (f:S i=false) (r:∀ p∈qf l i,S p=true) :
  LR μ F w (cw T0 s.Vs (ds.getD i default).uses) a.tmps.toList:=by
 obtain ⟨h1,h2⟩:=PP T0 s.Vs (ds.getD i default).uses;refine ⟨by rw [h1,<- J.tm.1,xC],fun t c v hc y=>?_⟩;rcases h2 t c hc with rfl | ⟨⟨b,u⟩,h,rfl,rfl⟩
 ·exact .undef v
 ·have x:b<T0.length:=by rw [<- h1]; exact (VA.1 hc).1
  have q:(TS l T0 s S)[b]? = some (tv l T0 s S l.length b):=by
   unfold TS; rw [Wg,Yf x]; rfl
  have hval:mV T0 s.Vs (b,u)=tv l T0 s S l.length b:=by
   have g:∀ j',j'<l.length->i∈qf l j'->S j'=false:=fun j' h1 h2=>by
    cases hb:S j' with
    | false=>rfl
    | true=>have:=J.cl j' h1 hb i h2; rw [f] at this; cases this
   cases u with
   | none =>
    refine (C8 _ fun j' d hd=>?_).symm;rcases G.useN i hi b h j' d hd with e | e
    ·rw [e]; exact f
    ·exact g j' d e
   | some j =>
    obtain ⟨m,n,z,o⟩:=G.useS i hi b j h;refine (M3 (r j m) n _ zO fun j' hlt d hd=>?_).symm;rcases o j' d hd with e | e | e
    ·omega
    ·exact g j' d e
    ·rw [e]; exact f
  rw [hval];exact J.tm.2 b _ v q y
def LD {cal:oy} (W:nG P cal) {fence:Fence} {rd:Bool} (hF:FenceOK fence rd) {n:Nat} {Q:Exit->Act->World->Prop} {S:Nat->Bool} {k i:Nat} {μ:Mu} {a:Act} {w:World}
  (J:Inv P l T0 s base F μ0 H0 w0 df S k μ a w) (G:um P ops l ds) (aL:TN cal base T0 s i (ds.getD i default)) (aO:Ns base T0 s i k (ds.getD i default))
  (hi:i<l.length) (y:S i=false) (D:∀ p∈qf l i,S p=true) {K:Act->World->Prop}
  (V:∀ a' w' μ' m,Inv P l T0 s base F μ0 H0 w0 df (add S i) m μ' a' w'->K a' w'):wpOpIn fence n P ops Q i K a w:=by
 obtain ⟨o,aJ,ab,ap,aK⟩:=G.op i hi;obtain ⟨aQ,av,ag,E⟩:=G.dso i hi;have hT:=PO J G hi y D;have Y:μ (base+i)=none:=J.un i hi y;have d:∀ S k,(Hh l s base S k).next=(s.Cs.getD k default).next:=fun S k=>l4 _ _ _ _
 have hlt:base+i<(Hh l s base S k).next:=by have:=J.nx; rw [d]; omega
 have O:∀ m adds,(m,adds)∈(ds.getD i default).looks->m=k->∀ b e,(dH base s.Es (s.Cs.getD m default) adds).get b=some e->(Hh l s base S k).get b=some e:=by
  intro m adds hm aC b e hb;subst aC;have ha:=G.look i hi m adds hm;rw [Br] at hb;rw [ul];by_cases hc:base<=b/\(b-base)∈adds
  ·rw [if_pos hc] at hb;obtain ⟨q1,q2,q3,q4⟩:=ha _ hc.2;have g:base<=b/\b-base∈DC l S m:=⟨hc.1,mem_lst.2 ⟨zO,D _ q1,q2,q3⟩⟩
   rw [if_pos g]; exact hb
  ·rw [if_neg hc] at hb;simp only at hb;by_cases am:base<=b/\b-base∈DC l S m
   ·have aa:=mem_lst.1 am.2
    have:=J.noC (b-base) aa.1 aa.2.2.1 aa.2.2.2
    rw [show base+(b-base)=b by omega,hb] at this;cases this
   ·rw [if_neg am]; exact hb
 have X:∀ {T:Tm} {H:Heap} {id:Nat} {r:AV × Heap},Ab cal (Src.ev T) H id (ds.getD i default).op=some r->Ge P o=some (ds.getD i default).op:=by
  intro T H id r h;rw [av,aK] at h ⊢;cases aB:Ge P o with
  | some x=>rfl
  | none=>rw [aB] at h; simp [Ab,aN,bg] at h
 unfold Go.wpOpIn;simp only [aJ];have ar:fM l i≠2->(fM l i≠1\/s.Es.getD i none=none)->∀ {u w' μ'},iu (fun b=>b=base+i) P μ F (Hh l s base S k) w (s.Vs.getD i .undef) (Hh l s base S k) u w' μ'->K (a.put o.dst u) w':=by
  intro h2 h1 u w' μ' hd;refine V _ _ μ' k (J.next G hi y D ab hd.val (fun _ _ h=>h) rfl hd.heap hd.stp (by rw [d,d]) (fun b e hb=>.inl ?_) J.kle (CT J.act h2) J.noC);rw [<- O6 hi h1]; exact hb
 have acts:fM l i=2->s.Es.getD i none=none->∀ c adds,(ds.getD i default).looks=[(c,adds)]->c=k->(∀ q,q<(aD l).length->(add S i ((aD l).getD q 0)=true ↔ q<k+1))->c<(aD l).length ->
   (∀ a,a<l.length->(a∈dM l (c+1) ↔ a∈dM l c\/a∈adds)) ->
   ∀ {u w' μ'},iu (fun b=>b=base+i) P μ F (dH base s.Es (s.Cs.getD c default) adds) w (s.Vs.getD i .undef) (s.Cs.getD (c+1) default) u w' μ'->K (a.put o.dst u) w':=by
  intro h2 t c adds hl aE B N C u w' μ' hd;subst aE;have aG:(c,adds)∈(ds.getD i default).looks:=by rw [hl]; exact Vt ..
  have hD:(dH base s.Es (s.Cs.getD c default) adds).next=(Hh l s base S c).next:=by rw [l4,d]
  have ak:∀ j,j<l.length->fM l j=1->j ∉ dM l (c+1)->(dH base s.Es (s.Cs.getD c default) adds).get (base+j)=none:=by
   intro j hj Z M;rw [Br,if_neg]
   ·exact J.noC j hj Z (fun h=>M ((C j hj).2 (.inl h)))
   ·intro h; rw [Yj] at h; exact M ((C j hj).2 (.inr h.2))
  refine V _ _ μ' (c+1) (J.next G hi y D ab hd.val (O c adds aG rfl) hD hd.heap hd.stp (d _ _) (fun b e hb=>?_) zO B (fun j hj Z M=>?_))
  ·rw [ul] at hb;by_cases hc:base<=b/\b-base∈DC l (add S i) (c+1)
   ·rw [if_pos hc] at hb;obtain ⟨m1,m2,m3,m4⟩:=mem_lst.1 hc.2;cases U:s.Es.getD (b-base) none with
    | none=>rw [U] at hb; exact .inl hb
    | some e' =>
     rw [U] at hb;cases hb;have hne:b-base≠i:=fun h=>by rw [h] at m3; omega
     refine .inr ⟨?_,?_⟩
     ·have:=ak _ m1 m3 m4
      rwa [show base+(b-base)=b by omega] at this
     ·rw [ul,if_pos ⟨hc.1,mem_lst.2 ⟨m1,by simpa [add,hne] using m2,m3,fun h=>m4 ((C _ m1).2 (.inl h))⟩⟩,U]
   ·rw [if_neg hc] at hb;exact .inl hb
  ·cases hg:(s.Cs.getD (c+1) default).get (base+j) with
   | none=>rfl
   | some e =>
    have hne:j≠i:=fun h=>by subst h; omega
    obtain ⟨e0,h0⟩:=hd.stp.old (base+j) e hg (by rw [l4]; have:=J.nx; omega) (fun h=>hne (by have h:base+j=base+i:=h; omega));rw [ak j hj Z M] at h0; cases h0
 have af:fM l i=2->∃ c adds,(ds.getD i default).looks=[(c,adds)]/\c=k/\(∀ q,q<(aD l).length->(add S i ((aD l).getD q 0)=true ↔ q<k+1))/\c<(aD l).length /\
   (∀ a,a<l.length->(a∈dM l (c+1) ↔ a∈dM l c\/a∈adds)):=by
  intro h2;obtain ⟨c,adds,hl,h3,h4,h5⟩:=G.act i hi h2;obtain ⟨e,B⟩:=OZ G hi y D J.kle J.act h2 h3 h4;exact ⟨c,adds,hl,e,B,h3,h5⟩
 rcases aL with ⟨R,hV,t,hC⟩ | ⟨R,aM⟩
 ·
  have ae:=rO (o:=o) hT (ag ▸ ap) R;rw [if_neg (by rw [ae]; decide)];refine ⟨fun f _=>hF.fn f,?_⟩;have hu:VR μ F w (s.Vs.getD i .undef) undef:=by rw [hV]; exact IM
  by_cases h2:fM l i=2
  ·obtain ⟨c,adds,hl,e,B,N,C⟩:=af h2;refine acts h2 t c adds hl e B N C (μ':=μ) (u:=undef) ?_;rw [hC (E.trans h2) c adds hl];exact ⟨hu,J.hr.sub (O c adds (by rw [hl]; exact Vt ..) e) (by rw [l4,d,e]),Stp.refl _ _ _ _ _ _⟩
  ·exact ar h2 (.inr t) (μ':=μ) ⟨hu,J.hr,Stp.refl _ _ _ _ _ _⟩
 ·have ae:=rO (o:=o) hT (ag ▸ ap) R;rw [if_pos ae];rcases aM with ⟨h0,t,hval⟩ | ⟨h1,hm,H',hh,t⟩ | ⟨h2,t,B⟩
  ·have az:fM l i=0:=E ▸ h0;have z:Ab cal (Src.ev (cw T0 s.Vs (ds.getD i default).uses)) (Hh l s base S k) (base+i) (ds.getD i default).op=some (s.Vs.getD i .undef,Hh l s base S k):=by
    rcases hval with hv | ⟨hp,aF⟩
    ·exact NI hv
    ·
     obtain ⟨adds,hm⟩:∃ adds,(k,adds)∈(ds.getD i default).looks:=by
      rcases G.seen i hi az k J.kle with ⟨q,g,ad,aq⟩ | ⟨q,g,ad,aq⟩ | h
      ·have:=(J.act q g).1 (D _ ad); omega
      ·have hx:=J.cl _ (rL g).1 ((J.act q g).2 aq) i ad;rw [y] at hx; cases hx
      ·exact h
     obtain ⟨v,D',hv,hx⟩:=aO h0 R hp adds hm
     have:=AV.beq_eq _ _ hx
     subst this;exact Ff hp (Lc (O k adds hm rfl) aF hv)
   exact rX W (I:=fun b=>b=base+i) (X z) z hT J.hr Y hlt rfl hF fun u w' μ' hd=>ar zO (.inl zO) hd
  ·have aA:fM l i=1:=E ▸ h1;obtain ⟨e,he,ay,hp⟩:=K7 (A:=Hh l s base S k) hm hh;have z:Ab cal (Src.ev (cw T0 s.Vs (ds.getD i default).uses)) (Hh l s base S k) (base+i) (ds.getD i default).op=some (s.Vs.getD i .undef,(Hh l s base S k).put (base+i) e):=Ff hp ay;refine rX W (I:=fun b=>b=base+i) (X z) z hT J.hr Y hlt rfl hF fun u w' μ' hd=>?_;have aI:i ∉ dM l k:=by
    cases k with
    | zero=>simp [dM]
    | succ k =>
     intro h;have h1:=(Od h).1;have g:k<(aD l).length:=by have:=J.kle; omega
     have hx:=J.cl _ (rL g).1 ((J.act k g).2 zO) i h1;rw [y] at hx; cases hx
   refine V _ _ μ' k (J.next G hi y D ab hd.val (fun _ _ h=>h) rfl hd.heap hd.stp (by rw [Heap.next_put,d,d]) (fun b e' hb=>.inl ?_) J.kle (CT J.act zO) J.noC);rw [Heap.get_put];rw [ul] at hb;by_cases al:b=base+i
   ·subst al;rw [Yj,if_pos ⟨VV _ _,mem_lst.2 ⟨hi,by simp [add],aA,aI⟩⟩,t,he] at hb;rw [if_pos rfl]; exact hb
   ·rw [if_neg al,ul];by_cases L:base<=b
    ·have hne:b-base≠i:=zO
     have:(b-base∈DC l (add S i) k) ↔ (b-base∈DC l S k):=by
      simp only [mem_lst,add,hne,if_false]
     by_cases hm:b-base∈DC l S k
     ·rw [if_pos ⟨L,this.2 hm⟩] at hb; rw [if_pos ⟨L,hm⟩]; exact hb
     ·rw [if_neg (fun h=>hm (this.1 h.2))] at hb; rw [if_neg (fun h=>hm h.2)]; exact hb
    ·rw [if_neg (fun h=>L h.1)] at hb; rw [if_neg (fun h=>L h.1)]; exact hb
  ·have ao:fM l i=2:=E ▸ h2;obtain ⟨c,adds,hl,e,ax,N,C⟩:=af ao;obtain ⟨HA,z,ai,ah⟩:=B c adds hl;have aP:=O c adds (by rw [hl]; exact Vt ..) e;have hn:(dH base s.Es (s.Cs.getD c default) adds).next=(Hh l s base S k).next:=by rw [l4,d,e]
   refine rX W (I:=fun b=>b=base+i) (X z) z hT (J.hr.sub aP hn) Y (by rw [hn]; exact hlt) rfl hF fun u w' μ' hd=>?_;exact acts ao t c adds hl e ax N C ⟨hd.val,hd.heap.congr ai ah,hd.stp.congr ai fun x e' he=>⟨e',by rw [ah]; exact he,rfl⟩⟩
end
end Go.Proofs.YtkmepoeklibegaaGreat.Ev
