/- A part. -/
import Derived.Test.YtekmejlgocineaaEvDefs
import Derived.Laws.BytesString
import Derived.LoopNIn
import Derived.RangeFuncLeaves
import Derived.OrdersIn
namespace Go.Proofs.Ytekmejlgocineaa.Ev
open Go
set_option linter.all false
structure fL (I:Nat->Prop) (P:Program) (μ:Mu) (F:Nat->Prop) (H:Heap) (w:World) (v:AV) (H':Heap) (u:Value) (w':World) (μ':Mu):Prop where
 val:VR μ' F w' v u
 heap:HR P μ' F H' w'
 stp:Stp I P μ F H w μ' F H' w'
section
variable {I:Nat->Prop} {P:Program} {μ:Mu} {F:Nat->Prop} {H:Heap} {w:World} {T:Tm} {a:Act}
theorem nt {blk:Nat} {arr:Array Value} {ty:TypeId} {fr:Nat × Nat} (h:w.heap[blk]? = some (.cells arr ty fr)) (o:Nat):w.cell? ⟨blk,o,none⟩=arr[o]?:=by
 simp [World.cell?,h]
theorem qv {blk off o:Nat} {arr:Array Value} {ty t:TypeId} {fr:Nat × Nat} {cs:List AV} {k:Option Nat} {v:AV} (h:w.heap[blk]? = some (.cells arr ty fr)) (hl:off+cs.length<=arr.size)
  (hv:∀ (i:Nat) (c:AV) (v:Value),cs[i]? = some c->arr[off+i]? = some v->VR μ F w c v) (hk:jh P t=some k) (ht:aB cs o k=some v) :
  ∃ u,(loadVar t ⟨blk,off+o,none⟩).run P w=.ok u w/\VR μ F w v u:=by
 cases k with
 | none =>
  simp only [aB] at ht
  have ho:o<cs.length:=(List.getElem?_eq_some_iff.1 ht).1
  have ha:arr[off+o]? = some arr[off+o]:=Array.getElem?_eq_getElem (by omega)
  refine ⟨arr[off+o],?_,hv o v _ ht ha⟩
  simp [loadVar,oa hk,nt h,ha]
 | some n =>
  simp only [aB] at ht
  split at ht
  ·rename_i hle
   cases ht
   obtain ⟨h1,h2⟩:=n9 hk w
   have hrun:=run_loadCells_list (P:=P) w ⟨blk,off+o,none⟩ ((arr.toList.drop (off+o)).take n) (fun j v hj=>by
    rw [gr,nt h]
    rw [List.getElem?_take] at hj
    split at hj
    ·rw [List.getElem?_drop] at hj; simpa using hj
    ·cases hj)
   have hlen:((arr.toList.drop (off+o)).take n).length=n:=by simp; omega
   rw [hlen] at hrun
   refine ⟨.agg ((arr.toList.drop (off+o)).take n).toArray,by simp only [loadVar,Sem.run_bind,h1,Result.andThen_ok,if_true,h2,hrun,Sem.run_pure],?_⟩
   refine .agg _ _ (by simp; omega) fun i c v hc hv'=>?_
   rw [List.getElem?_take] at hc
   split at hc
   ·rename_i hi
    rw [List.getElem?_drop] at hc
    refine hv _ c v hc ?_
    simp only [List.getElem?_toArray] at hv'
    rw [List.getElem?_take,if_pos hi,List.getElem?_drop] at hv'
    rw [<- Nat.add_assoc]; simpa using hv'
   ·cases hc
  ·cases ht
theorem lx {b o:Nat} {v:Value} (h:VR μ F w (.ptr b o) v):∃ L,μ b=some L/\v=.pointer (some ⟨L.blk,o,none⟩):=by
 cases h with
 | ptr _ _ L hL=>exact ⟨L,hL,rfl⟩
theorem gj (hH:HR P μ F H w) {b:Nat} {L:oZ} {cs:List AV} {ty:Nat} {rw:Bool} (hb:H.get b=some (.cells cs ty rw)) (hL:μ b=some L) :
  ∃ arr fr,w.heap[L.blk]? = some (.cells arr ty fr)/\arr.size=L.N/\(P.info? ty).map (·.size)=some L.sz/\cs.length<=arr.size /\
   (∀ (i:Nat) (c:AV) (v:Value),cs[i]? = some c->arr[i]? = some v->VR μ F w c v)/\(rw=true->¬ F L.blk/\fr=(0,0))/\(rw=false->True):=by
 obtain ⟨L',hL',hE⟩:=hH.ent b _ hb
 rw [hL] at hL'; cases hL'
 exact hE
theorem n8 {t:TypeId} {k:Option Nat} {x:AV} {vx:Value} {v:AV} (hH:HR P μ F H w) (hk:jh P t=some k) (hx:VR μ F w x vx)
  (h:bC H k x=some v):∃ u,(Instr.loadAt t vx).run P w=.ok u w/\VR μ F w v u:=by
 cases x with
 | ptr b o =>
  obtain ⟨L,hL,rfl⟩:=lx hx
  simp only [bC] at h
  split at h
  ·rename_i cs ty rw hb
   obtain ⟨arr,fr,h1,h2,h3,h4,h5,h6,h7⟩:=gj hH hb hL
   obtain ⟨u,hu,hr⟩:=qv (o:=o) (off:=0) h1 (by omega) (by simpa using h5) hk h
   refine ⟨u,?_,hr⟩
   rw [Nat.zero_add] at hu
   simp [Instr.loadAt,Instr.sureAddr,hu]
  ·cases h
 | dp cs o =>
  simp only [bC] at h
  cases hx with
  | dp _ _ blk off arr ty fr g1 g2 g3 g4 =>
   obtain ⟨u,hu,hr⟩:=qv g2 g3 g4 hk h
   exact ⟨u,by simp [Instr.loadAt,Instr.sureAddr,hu],hr⟩
 | _=>cases h
theorem iP (hH:HR P μ F H w) {id:Nat} (hid:μ id=none) (hlt:id<H.next) (hI:I id) {arr:Array Value} {cs:List AV} {ty sz:Nat} (hty:sizeOf? P ty=some sz)
  (hle:cs.length<=arr.size) (hcs:∀ (i:Nat) (c:AV) (v:Value),cs[i]? = some c->arr[i]? = some v->VR μ F w c v)
  (w1:World) (h1:w1.heap=w.heap) (ht:Tp w w1) (hos:w1.os=w.os) (hout:w1.output=w.output) :
  HR P (μ.upd id ⟨w.heap.size,arr.size,sz⟩) F (H.put id (.cells cs ty true)) (w1.alloc (.cells arr ty))/\Stp I P μ F H w (μ.upd id ⟨w.heap.size,arr.size,sz⟩) F (H.put id (.cells cs ty true)) (w1.alloc (.cells arr ty)):=by
 refine iQ hH hid hlt _ _ arr.size sz (fun w' hw hn hnF=>?_) hI w1 h1 ht hos hout
 exact ⟨arr,(0,0),hn,rfl,hty,hle,fun i c v hc hv=>(hcs i c v hc hv).mono (dU hid) (fun _ h=>h) hw,fun _=>⟨hnF,rfl⟩,fun h=>by cases h⟩
theorem nI (t:TypeId) (v:Value) (w:World):(newVar t v).run P w=.ok ⟨w.heap.size,0,none⟩ (w.alloc (.cells v.cells t)):=by
 simp [newVar,newRow]
theorem eI (t:TypeId) (cs:Array Value) (w:World):(newRow t cs).run P w=.ok ⟨w.heap.size,0,none⟩ (w.alloc (.cells cs t)):=by
 simp [newRow]
theorem vF {t:TypeId} {z:List AV} (h:zeroCells? P t=some z):∃ n,sizeOf? P t=some n:=by
 simp only [zeroCells?,Option.bind_eq_bind,Option.bind_eq_some_iff] at h
 obtain ⟨i,hi,_⟩:=h
 exact ⟨i.size,by simp [sizeOf?,hi]⟩
theorem sJ {e:TypeId} {z:List AV} (hz:zeroCells? P e=some z) (hH:HR P μ F H w) {id:Nat} (hid:μ id=none) (hlt:id<H.next) (hI:I id) :
  ∃ u w' μ',(Instr.alloc e true (.tuple #[])).run P w=.ok u w'/\fL I P μ F H w (.ptr id 0) (H.put id (.cells z e true)) u w' μ':=by
 obtain ⟨n,hn⟩:=vF hz
 obtain ⟨zv,hzv,hzl⟩:=jt hz w
 have hl:=hzl μ F w
 obtain ⟨h1,h2⟩:=iP hH hid hlt hI hn (arr:=zv.cells) (cs:=z) (by have:=hl.1; simp at this; omega) (fun i c v hc hv=>hl.2 i c v hc (by simpa using hv)) w rfl (Tp.same rfl rfl) rfl rfl
 refine ⟨_,_,_,?_,⟨.ptr id 0 _ (upd_same id _),h1,h2⟩⟩
 simp [Instr.alloc,hzv,nI]
theorem xr {e:TypeId} {n:Nat} {x:AV} {vx:Value} (hn:sizeOf? P e=some n) (hx:VR μ F w x vx) (h1:x.cells.all AV.one=true) (hH:HR P μ F H w) {id:Nat} (hid:μ id=none) (hlt:id<H.next) (hI:I id) :
  ∃ u w' μ',(Instr.box e vx).run P w=.ok u w'/\fL I P μ F H w (.ptr id 0) (H.put id (.cells x.cells e true)) u w' μ':=by
 have hl:=ot hx h1
 obtain ⟨g1,g2⟩:=iP hH hid hlt hI hn (arr:=vx.cells) (cs:=x.cells) (by have:=hl.1; simp at this; omega) (fun i c v hc hv=>hl.2 i c v hc (by simpa using hv)) w rfl (Tp.same rfl rfl) rfl rfl
 refine ⟨_,_,_,?_,⟨.ptr id 0 _ (upd_same id _),g1,g2⟩⟩
 simp [Instr.box,nI]
theorem tc (cs:List AV) (vs:List Value) (news:List AV) (nv:List Value) (o n:Nat) (hcs:∀ (i:Nat) (c:AV) (v:Value),cs[i]? = some c->vs[i]? = some v->VR μ F w c v) (hn:LR μ F w news nv) (hlen:news.length=n)
  (hle:cs.length<=vs.length) (ho:o<=cs.length) :
  ∀ (i:Nat) (c:AV) (v:Value),(cs.take o++news++cs.drop (o+n))[i]? = some c->(vs.take o++nv++vs.drop (o+nv.length))[i]? = some v->VR μ F w c v:=by
 intro i c v hc hv
 have hnl:nv.length=n:=hn.1 ▸ hlen
 rw [List.append_assoc] at hc hv
 by_cases h1:i<o
 ·rw [List.getElem?_append_left (by simp; omega),List.getElem?_take,if_pos h1] at hc
  rw [List.getElem?_append_left (by simp; omega),List.getElem?_take,if_pos h1] at hv
  exact hcs i c v hc hv
 ·rw [List.getElem?_append_right (by simp; omega)] at hc hv
  simp only [List.length_take] at hc hv
  have e1:min o cs.length=o:=by omega
  have e2:min o vs.length=o:=by omega
  rw [e1] at hc; rw [e2] at hv
  by_cases h2:i-o<n
  ·rw [List.getElem?_append_left (by omega)] at hc hv
   exact hn.2 _ c v hc hv
  ·rw [List.getElem?_append_right (by omega)] at hc hv
   rw [List.getElem?_drop] at hc hv
   rw [hlen] at hc; rw [hnl] at hv
   exact hcs _ c v hc hv
theorem jY (hH:HR P μ F H w) {b:Nat} {L:oZ} {cs:List AV} {ty:Nat} (hb:H.get b=some (.cells cs ty true)) (hL:μ b=some L) {o:Nat} {news:List AV} {nv:List Value} (hn:LR μ F w news nv) (h1:news.all AV.one=true)
  (hle:o<=cs.length) (hN:o+news.length<=L.N) :
  ∃ w',(storeCells ⟨L.blk,o,none⟩ nv).run P w=.ok () w'/\HR P μ F (H.put b (.cells (cs.take o++news++cs.drop (o+news.length)) ty true)) w' /\
   Stp I P μ F H w μ F (H.put b (.cells (cs.take o++news++cs.drop (o+news.length)) ty true)) w':=by
 obtain ⟨arr,fr,g1,g2,g3,g4,g5,g6,g7⟩:=gj hH hb hL
 obtain ⟨_,rfl⟩:=g6 rfl
 have hnl:=hn.1
 have hrun:=run_storeCells_at (P:=P) L.blk o ty nv 0 arr w g1 (by omega) (hn.one h1)
 simp only [Nat.add_zero] at hrun
 refine ⟨_,hrun,gg hH hb rfl hL _ (fun c hc=>setRow_other w _ _ _ hc) (setRow_size _ _ _) (Tp.same rfl rfl) rfl rfl (fun hw=>?_) rfl⟩
 refine ⟨_,(0,0),setRow_heap w L.blk arr _ ty _ g1,?_,g3,?_,?_,fun _=>⟨(g6 rfl).1,rfl⟩,fun h=>by cases h⟩
 ·simp; omega
 ·simp; omega
 ·intro i c v hc hv
  refine VR.mono (fun _ _ h=>h) (fun _ h=>h) hw (tc cs arr.toList news nv o news.length (fun i c v hc hv=>g5 i c v hc (by simpa using hv)) hn rfl (by simpa using g4) (by omega) i c v hc (by simpa using hv))
theorem rn {t:TypeId} {n:Nat} {x y:AV} {vx vy:Value} {H':Heap} (hn:sizeOf? P t=some n) (hH:HR P μ F H w) (hx:VR μ F w x vx) (hy:VR μ F w y vy)
  (h:js H n x y=some H') :
  ∃ w',(Instr.storeAt t vx vy).run P w=.ok () w'/\fL I P μ F H w .undef H' undef w' μ:=by
 cases x with
 | ptr b o =>
  obtain ⟨L,hL,rfl⟩:=lx hx
  simp only [js] at h
  split at h
  ·rename_i cs ty hb
   split at h
   ·rename_i hc
    obtain ⟨c1,c2,c3⟩:=hc
    cases h
    have hl:=ot hy c3
    obtain ⟨arr,fr,g1,g2,g3,g4,_⟩:=gj hH hb hL
    obtain ⟨w',hrun,q1,q2⟩:=jY (I:=I) hH hb hL (o:=o) hl c3 (by omega) (by omega)
    rw [c1] at q1 q2
    refine ⟨w',?_,⟨.undef _,q1,q2⟩⟩
    have hsz:vy.cells.size=n:=by have:=hl.1; simp at this; omega
    simp [Instr.storeAt,Instr.sureAddr,storeVar,bK hn,hsz,hrun]
   ·cases h
  ·cases h
 | _=>cases h
end
section
variable {I:Nat->Prop} {P:Program} {μ:Mu} {F:Nat->Prop} {H:Heap} {w:World} {T:Tm} {a:Act}
theorem j9 {y:AV} {vy:Value} {m:Nat} (hy:VR μ F w y vy) (h:gG y=some m):(Builtin.lenOf vy).run P w=.ok m w:=by
 cases y <;> simp only [gG] at h <;> first | (cases h; done) | skip
 ·cases h; cases hy; rfl
 ·cases h; cases hy; rfl
 ·cases h; cases hy <;> rfl
 ·cases h; cases hy; rfl
theorem n5 {blk off n:Nat} {arr:Array Value} {ty:TypeId} {fr:Nat × Nat} {cs:List AV} (h:w.heap[blk]? = some (.cells arr ty fr)) (hl:off+cs.length<=arr.size)
  (hv:∀ (i:Nat) (c:AV) (v:Value),cs[i]? = some c->arr[off+i]? = some v->VR μ F w c v) (hn:n<=cs.length) :
  ∃ nv:List Value,(∀ w',w'.heap=w.heap->(loadCells ⟨blk,off,none⟩ n).run P w'=.ok nv.toArray w')/\LR μ F w (cs.take n) nv:=by
 have hlen:((arr.toList.drop off).take n).length=n:=by simp; omega
 have hrun:∀ w',w'.heap=w.heap->(loadCells ⟨blk,off,none⟩ n).run P w'=.ok ((arr.toList.drop off).take n).toArray w':=by
  intro w' hw'
  have hrun:=run_loadCells_list (P:=P) w' ⟨blk,off,none⟩ ((arr.toList.drop off).take n) (fun j v hj=>by
   rw [gr,nt (hw' ▸ h)]
   rw [List.getElem?_take] at hj
   split at hj
   ·rw [List.getElem?_drop] at hj; simpa using hj
   ·cases hj)
  rw [hlen] at hrun
  exact hrun
 refine ⟨_,hrun,by simp; omega,fun i c v hc hv'=>?_⟩
 rw [List.getElem?_take] at hc hv'
 split at hc
 ·rename_i hi
  rw [if_pos hi,List.getElem?_drop] at hv'
  exact hv i c v hc (by simpa using hv')
 ·cases hc
theorem gR {size n:Nat} {y:AV} {vy:Value} {news:List AV} (hH:HR P μ F H w) (hy:VR μ F w y vy) (h:bE H size n y=some news) :
  news.length=n*size/\∃ nv:List Value,(∀ w',w'.heap=w.heap->(Builtin.firstCells size n vy).run P w'=.ok nv.toArray w')/\LR μ F w news nv:=by
 cases y <;> simp only [bE] at h <;> first | (cases h; done) | skip
 case str s =>
  split at h
  ·rename_i hc
   cases h
   cases hy
   have hsz:(s.extract 0 n).size=n:=by
    have:=hc.1
    simp; omega
   refine ⟨by simp only [List.length_map,hc.2,Nat.mul_one]; exact hsz,((s.extract 0 n).data.map fun b=>Value.int .u8 b.toNat).toList,fun w' _=>by simp only [Builtin.firstCells,Sem.run_pure,Array.toArray_toList],?_⟩
   rw [Array.toList_map]
   exact LR.map _ _ _ fun b _=>.int _ _
  ·cases h
 case nilSl =>
  split at h
  ·rename_i hc
   cases h; cases hy
   exact ⟨by simp [hc],[],fun _ _=>rfl,LR.nil⟩
  ·cases h
 case sl cs m =>
  split at h
  ·rename_i hc
   cases h
   refine ⟨by rw [List.length_take]; omega,?_⟩
   cases hy with
   | sl0 a0 cap =>
    have h0:n*size=0:=by have:=hc.2; simp at this; simpa using this
    exact ⟨[],fun _ _=>by simp [Builtin.firstCells,h0,loadCells,loadCellsFrom],by simp; exact LR.nil⟩
   | sl _ _ _ blk off arr ty fr g1 g2 g3 g4 g5=>exact n5 g2 g4 g5 hc.2
  ·cases h
 case own b off m c sz ex =>
  cases hy with
  | own _ _ _ _ _ _ L cap h1 h2 h3 h4 h5 h6 =>
  split at h
  ·rename_i cs ty rw hb
   split at h
   ·rename_i hc
    obtain ⟨c1,c2,c3⟩:=hc
    cases h
    obtain ⟨arr,fr,g1,g2,g3,g4,g5,g6,g7⟩:=gj hH hb h1
    refine ⟨by simp; omega,?_⟩
    exact n5 (cs:=cs.drop off) g1 (by simp; omega) (fun i c v hc hv=>by rw [List.getElem?_drop] at hc; exact g5 _ c v hc hv) (by simp; omega)
   ·cases h
  ·cases h
theorem pD (newLen:Nat) (h:256<=newLen):∀ (r c:Nat),c<=2*newLen->Builtin.growBy newLen r c<=2*newLen
 | 0,c,hc=>hc
 | r+1,c,hc=>by
  unfold Builtin.growBy
  split
  ·exact hc
  ·exact pD newLen h r _ (by omega)
theorem nW {need cap:Nat} (h:cap<need):Builtin.nextslicecap need cap<=2*need:=by
 unfold Builtin.nextslicecap
 split
 ·omega
 ·split
  ·omega
  ·exact pD need (by omega) 4 cap (by omega)
theorem pP (z:Array Value) (n:Nat):(Builtin.zeroCells z n).size=n*z.size:=by simp [Builtin.zeroCells]
def Ac (P:Program) (xt:TypeId):Prop:=(∃ e,P.underlying xt=some (.slice e))\/P.underlying xt=some .string
theorem xF {t xt e ty:TypeId} {size n m cap:Nat} {base:Option Addr} {vx:Value} {nv:Array Value}
  (ht:P.underlying t=some (.slice e)) (hs:sizeOf? P e=some size) (hx:Ac P xt) (hl:(Builtin.lenOf vx).run P w=.ok m w) (hf:(Builtin.firstCells size m vx).run P w=.ok nv w)
  (hneed:n+m<=cap) :
  (Builtin.append_ #[t,xt] ty #[.slice base n cap,vx]).run P w=((match base with | some a=>storeCells (a.add (n*size)) nv.toList | none=>pure ():Sem Unit).run P w).andThen fun _ w'=>.ok (.slice base (n+m) cap) w':=by
 unfold Builtin.append_
 rcases hx with ⟨e',hx⟩ | hx <;>
 ·simp only [List.getElem?_toArray,List.getElem?_cons_zero,List.getElem?_cons_succ,Sem.run_bind,run_underlying ht,Result.andThen_ok,bK hs,run_underlying hx,Sem.run_pure,Bool.false_eq_true,if_false,hl,Bool.not_false,if_true,hneed,hf]
  cases base <;> simp
theorem um {t xt e ty:TypeId} {size bytes n m cap:Nat} {base:Option Addr} {vx:Value} {nv ov:Array Value} {i:TypeInfo} {zv:Value}
  (ht:P.underlying t=some (.slice e)) (hs:sizeOf? P e=some size) (hi:P.info? e=some i) (hib:i.bytes=bytes) (hz:i.zero=some zv) (hx:Ac P xt) (hl:(Builtin.lenOf vx).run P w=.ok m w)
  (hf:∀ w',w'.heap=w.heap->(Builtin.firstCells size m vx).run P w'=.ok nv w') (ho:∀ w',w'.heap=w.heap->(Builtin.firstCells size n (.slice base n cap)).run P w'=.ok ov w')
  (hneed:¬ n+m<=cap) (hb:(n+m)*bytes<=2^46) (hn:n+m<2^62) :
  ∃ cap',n+m<=cap'/\(Builtin.append_ #[t,xt] ty #[.slice base n cap,vx]).run P w =
   .ok (.slice (some ⟨w.heap.size,0,none⟩) (n+m) cap') (({ w with drawn:=w.drawn+1 }:World).alloc (.cells (ov++nv++Builtin.zeroCells zv.cells (cap'-(n+m))) e)):=by
 have hnext:¬ Builtin.nextslicecap (n+m) cap*i.bytes > 2^48:=by
  have h1:=nW (need:=n+m) (cap:=cap) (by omega)
  have h2:Builtin.nextslicecap (n+m) cap*bytes<=2*(n+m)*bytes:=Nat.mul_le_mul_right _ h1
  rw [Nat.mul_assoc] at h2
  rw [hib]; omega
 have hmax:¬ ((↑(n+m):Int) > IntKind.i64.max/\(False\/i.bytes=0)):=by
  rintro ⟨h1,_⟩
  have:IntKind.i64.max=9223372036854775807:=by decide
  rw [this] at h1
  omega
 refine ⟨(Question.appendCap (n+m) cap e).cut (w.tape w.drawn (Question.appendCap (n+m) cap e)),by simp [Question.cut],?_⟩
 have hq:(choose (Question.appendCap (n+m) cap e)).run P w=.ok ((Question.appendCap (n+m) cap e).cut (w.tape w.drawn (Question.appendCap (n+m) cap e))) { w with drawn:=w.drawn+1 }:=by
  rw [run_choose,if_neg (by simp [Question.forced])]
 have hf':=hf { w with drawn:=w.drawn+1 } rfl
 have ho':=ho { w with drawn:=w.drawn+1 } rfl
 generalize (Question.appendCap (n+m) cap e).cut (w.tape w.drawn (Question.appendCap (n+m) cap e))=c at hq
 unfold Builtin.append_
 rcases hx with ⟨e',hx⟩ | hx <;>
 ·simp only [List.getElem?_toArray,List.getElem?_cons_zero,List.getElem?_cons_succ,Sem.run_bind,run_underlying ht,Result.andThen_ok,bK hs,run_underlying hx,Sem.run_pure,Bool.false_eq_true,if_false,hl,Bool.not_false,if_true,hneed,
   fN hi,hmax,hnext,hq,run_askRoom,ho',hf',zeroValue,hz,eI]
theorem pT (hH:HR P μ F H w) {b:Nat} {cs:List AV} {ty:Nat} {rw:Bool} (hb:H.get b=some (.cells cs ty rw)) (k:Nat):HR P μ F (H.put b (.cells (cs.take k) ty rw)) w:=by
 refine ⟨hH.dom,hH.fb,?_,?_,hH.gl⟩
 ·intro x e h
  rw [Heap.get_put] at h
  split at h
  ·rename_i ex; subst ex; cases h
   obtain ⟨L,hL,hE⟩:=hH.ent _ _ hb
   obtain ⟨arr,fr,h1,h2,h3,h4,h5,h6,h7⟩:=hE
   refine ⟨L,hL,arr,fr,h1,h2,h3,by simp; omega,fun i c v hc hv=>?_,h6,h7⟩
   rw [List.getElem?_take] at hc
   split at hc
   ·exact h5 i c v hc hv
   ·cases hc
  ·exact hH.ent x e h
 ·intro x y e1 e2 L1 L2 h1 h2 hL1 hL2 hblk
  rw [Heap.get_put] at h1 h2
  have g:∀ z e,(if z=b then some (Ent.cells (cs.take k) ty rw) else H.get z)=some e->∃ e',H.get z=some e':=by
   intro z e h
   split at h
   ·rename_i ez; subst ez; exact ⟨_,hb⟩
   ·exact ⟨_,h⟩
  obtain ⟨f1,g1⟩:=g x e1 h1
  obtain ⟨f2,g2⟩:=g y e2 h2
  exact hH.inj x y f1 f2 L1 L2 g1 g2 hL1 hL2 hblk
theorem HR.congr {H1 H2:Heap} (h:HR P μ F H1 w) (hn:H1.next=H2.next) (hg:∀ x,H1.get x=H2.get x):HR P μ F H2 w :=
 ⟨fun b L hb=>hn ▸ h.dom b L hb,h.fb,fun b e hb=>h.ent b e (by rw [hg]; exact hb),fun b b' e e' L L' h1 h2=>h.inj b b' e e' L L' (by rw [hg]; exact h1) (by rw [hg]; exact h2),h.gl⟩
theorem Stp.congr {μ':Mu} {F':Nat->Prop} {w':World} {H1 H2:Heap} (h:Stp I P μ F H w μ' F' H1 w') (hn:H1.next=H2.next) (hg:∀ x e,H2.get x=some e->∃ e',H1.get x=some e'/\e'.rw=e.rw):Stp I P μ F H w μ' F' H2 w' :=
 ⟨h.mu,h.fr,h.size,h.keep,fun b L ⟨e,he,hr⟩ hL=>h.rw b L (let ⟨e',h1,h2⟩:=hg b e he; ⟨e',h1,h2.trans hr⟩) hL,hn ▸ h.next,h.new,h.rng,fun b e hb hl hi=>let ⟨e',h1,_⟩:=hg b e hb; h.old b e' h1 hl hi,fun b e L hb hL=>let ⟨e',h1,_⟩:=hg b e hb; h.alv b e' L h1 hL,h.tape,h.os,h.out⟩
theorem kz {e id size bytes m:Nat} {x v:AV} {vx:Value} {news:List AV} {nv:Array Value} {zv:Value} {fr:Option Nat} {H':Heap} {A:Sem Value}
  (hH:HR P μ F H w) (hid:μ id=none) (hlt:id<H.next) (hI:I id) (hs:sizeOf? P e=some size) (hzs:zv.cells.size=size)
  (hx:VR μ F w x vx) (hnew:LR μ F w news nv.toList) (hlen:news.length=m*size) (h:dm H id size bytes e x m news fr=some (v,H'))
  (hin:∀ base n cap,vx=.slice base n cap->n+m<=cap->A.run P w=((match base with | some a=>storeCells (a.add (n*size)) nv.toList | none=>pure ():Sem Unit).run P w).andThen fun _ w'=>.ok (.slice base (n+m) cap) w')
  (hout:∀ base n cap ov,vx=.slice base n cap->¬ n+m<=cap->(n+m)*bytes<=2^46->n+m<2^62->(∀ w',w'.heap=w.heap->(Builtin.firstCells size n vx).run P w'=.ok ov w') ->
   ∃ cap',n+m<=cap'/\A.run P w=.ok (.slice (some ⟨w.heap.size,0,none⟩) (n+m) cap') (({ w with drawn:=w.drawn+1 }:World).alloc (.cells (ov++nv++Builtin.zeroCells zv.cells (cap'-(n+m))) e))) :
  ∃ u w' μ',A.run P w=.ok u w'/\fL I P μ F H w v H' u w' μ':=by
 have hnl:nv.size=m*size:=by have:=hnew.1; simp at this; omega
 have grow:∀ (H0:Heap) (n:Nat) (ov:Array Value) (oc:List AV) (cap':Nat),HR P μ F H0 w->id<H0.next->LR μ F w oc ov.toList->oc.length=n*size->n+m<=cap' ->
   A.run P w=.ok (.slice (some ⟨w.heap.size,0,none⟩) (n+m) cap') (({ w with drawn:=w.drawn+1 }:World).alloc (.cells (ov++nv++Builtin.zeroCells zv.cells (cap'-(n+m))) e)) ->
   ∃ u w' μ',A.run P w=.ok u w'/\fL I P μ F H0 w (.own id 0 (n+m) (n+m) size false) (H0.put id (.cells (oc++news) e true)) u w' μ':=by
  intro H0 n ov oc cap' hH0 hlt0 ho hol hc hrun
  have hov:ov.size=n*size:=by have:=ho.1; simp at this; omega
  have hall:=ho.append hnew
  have hasz:(ov++nv++Builtin.zeroCells zv.cells (cap'-(n+m))).size=cap'*size:=by
   simp only [Array.size_append,hov,hnl,pP,hzs]
   rw [<- Nat.add_mul,<- Nat.add_mul]; congr 1; omega
  obtain ⟨q1,q2⟩:=iP hH0 hid hlt0 hI (sz:=size) (arr:=ov++nv++Builtin.zeroCells zv.cells (cap'-(n+m))) (cs:=oc++news) hs
   (by simp only [Array.size_append,List.length_append,hol,hlen,hov,hnl]; omega)
   (fun i c u hc hu=>by
    have hi:i<(oc++news).length:=(List.getElem?_eq_some_iff.1 hc).1
    simp only [List.length_append,hol,hlen] at hi
    rw [Array.getElem?_append_left (by simp only [Array.size_append,hov,hnl]; omega)] at hu
    exact hall.2 i c u hc (by rw [<- Array.toList_append,Array.getElem?_toList]; exact hu)) { w with drawn:=w.drawn+1 } rfl Tp.draw rfl rfl
  refine ⟨_,_,_,hrun,⟨?_,q1,q2⟩⟩
  exact .own id 0 (n+m) (n+m) size false _ cap' (upd_same id _) rfl (Nat.le_refl _) hc (fun h=>by cases h) (by rw [Nat.zero_add]; exact Nat.le_of_eq hasz.symm)
 unfold dm at h
 cases x with
 | nilSl =>
  simp only at h
  cases hx
  split at h
  ·rename_i hm
   subst hm
   cases h
   have:=hin none 0 0 rfl (Nat.le_refl _)
   exact ⟨_,w,μ,this,⟨.nilSl,hH,Stp.refl _ _ _ _ _ _⟩⟩
  ·rename_i hm
   split at h
   ·rename_i hc
    cases h
    obtain ⟨cap',hc',hrun⟩:=hout none 0 0 #[] rfl (by omega) (by simpa using hc.1) (by simpa using hc.2) (fun _ _=>rfl)
    have:=grow H 0 #[] [] cap' hH hlt LR.nil (by simp) hc' hrun
    simpa using this
   ·cases h
 | own b off n c sz ex =>
  simp only at h
  cases hx with
  | own _ _ _ _ _ _ L cap h1 h2 h3 h4 h5 h6 =>
  split at h
  ·rename_i cs ty' rw hb
   split at h
   ·rename_i hc
    obtain ⟨c1,c2,c3,c4,c5⟩:=hc
    subst c1; subst c4
    obtain ⟨arr,fr',g1,g2,g3,g4,g5,g6,g7⟩:=gj hH hb h1
    have hcapN:∀ k,k<=cap->off+k*sz<=L.N:=fun k hk=>Nat.le_trans (Nat.add_le_add_left (Nat.mul_le_mul_right _ hk) _) h6
    have inplace:n+m<=cap->rw=true->news.all AV.one=true->∃ w',A.run P w=.ok (.slice (some ⟨L.blk,off,none⟩) (n+m) cap) w' /\
      HR P μ F (H.put b (.cells (cs.take (off+n*sz)++news++cs.drop (off+n*sz+m*sz)) ty' rw)) w'/\Stp I P μ F H w μ F (H.put b (.cells (cs.take (off+n*sz)++news++cs.drop (off+n*sz+m*sz)) ty' rw)) w':=by
     intro hle hrw h1'
     subst hrw
     have hN:=hcapN (n+m) hle
     rw [Nat.add_mul] at hN
     obtain ⟨w',hrun,q1,q2⟩:=jY (I:=I) hH hb h1 (o:=off+n*sz) hnew h1' c5 (by omega)
     rw [hlen] at q1 q2
     refine ⟨w',?_,q1,q2⟩
     rw [hin _ n cap rfl hle]
     simp only [gr,hrun,Result.andThen_ok]
    obtain ⟨ov,ho1,ho2⟩:=n5 (P:=P) (off:=off) (cs:=cs.drop off) (n:=n*sz) g1 (by rw [List.length_drop]; omega) (fun i c v hc hv=>by rw [List.getElem?_drop] at hc; exact g5 _ c v hc hv) (by rw [List.length_drop]; omega)
    have hol:((cs.drop off).take (n*sz)).length=n*sz:=by rw [List.length_take,List.length_drop]; omega
    split at h
    ·rename_i hnc
     split at h
     ·rename_i hm
      cases h
      subst hm
      have:=hin _ n cap rfl (by omega)
      have hnv:nv.toList=[]:=by
       have:nv.size=0:=by omega
       simpa using this
      simp only [hnv,storeCells,Sem.run_pure,Result.andThen_ok] at this
      exact ⟨_,w,μ,this,⟨.own b off n c sz ex L cap h1 h2 h3 h4 h5 h6,hH,Stp.refl _ _ _ _ _ _⟩⟩
     ·split at h
      ·rename_i hc2
       cases h
       obtain ⟨w',hrun,q1,q2⟩:=inplace (by omega) hc2.1 hc2.2
       exact ⟨_,w',μ,hrun,⟨.own b off (n+m) c sz ex L cap h1 h2 (by omega) h4 h5 h6,q1,q2⟩⟩
      ·cases h
    ·rename_i hnc
     split at h
     ·rename_i hex
      cases h
      have hcap:=h5 hex
      obtain ⟨cap',hc',hrun⟩:=hout _ n cap ov.toArray rfl (by omega) c2 c3 ho1
      exact grow H n ov.toArray _ cap' hH hlt (by simpa using ho2) hol hc' hrun
     ·split at h
      ·rename_i hc2
       obtain ⟨e1,e2,e3,e4⟩:=hc2
       cases h
       subst e1
       by_cases hle:n+m<=cap
       ·obtain ⟨w',hrun,q1,q2⟩:=inplace hle e2 e4
        subst e2
        have q3:=pT q1 (by rw [Heap.get_put,if_pos rfl]) (n*sz+m*sz)
        have ht:((cs.take (0+n*sz)++news++cs.drop (0+n*sz+m*sz)).take (n*sz+m*sz))=cs.take (n*sz)++news:=by
         rw [Nat.zero_add,List.take_append_of_le_length (by simp; omega),List.take_of_length_le (by simp; omega)]
        rw [ht] at q3
        obtain ⟨q4,q5⟩:=qj (I:=I) q3 (b:=b) (id:=id) (L:=L) (by rw [Heap.get_put,if_pos rfl]) h1 hid hlt hI
        refine ⟨_,w',μ.upd id L,hrun,⟨?_,?_,?_⟩⟩
        ·exact .own id 0 (n+m) (n+m) sz false L cap (upd_same id _) h2 (Nat.le_refl _) hle (fun h=>by cases h) (by rw [Nat.zero_add] at h6 ⊢; exact h6)
        ·refine q4.congr rfl fun x=>?_
         simp only [Heap.get_put,Heap.get_kill]
         split
         ·rfl
         ·split
          ·rfl
          ·rfl
        ·have q6:Stp I P μ F H w μ F ((H.put b (.cells (cs.take (0+n*sz)++news++cs.drop (0+n*sz+m*sz)) ty' true)).put b (.cells (cs.take (n*sz)++news) ty' true)) w' :=
          q2.congr rfl (fun x e he=>by
           rw [Heap.get_put] at he
           split at he
           ·rename_i ex; subst ex; cases he; exact ⟨.cells (cs.take (0+n*sz)++news++cs.drop (0+n*sz+m*sz)) ty' true,by rw [Heap.get_put,if_pos rfl],rfl⟩
           ·exact ⟨e,he,rfl⟩)
         refine (q6.trans q5).congr rfl fun x e he=>⟨e,?_,rfl⟩
         simp only [Heap.get_put,Heap.get_kill] at he ⊢
         split at he
         ·rename_i hx; rw [if_pos hx]; exact he
         ·rename_i hx
          rw [if_neg hx]
          split at he
          ·cases he
          ·rename_i hx2; rw [if_neg hx2,if_neg hx2,if_neg hx2]; exact he
       ·obtain ⟨cap',hc',hrun⟩:=hout _ n cap ov.toArray rfl hle c2 c3 ho1
        obtain ⟨q1,q2⟩:=ob (I:=I) hH b
        rw [List.drop_zero] at ho2 hol
        obtain ⟨u,w',μ',r1,r2⟩:=grow (H.kill b) n ov.toArray (cs.take (n*sz)) cap' q1 hlt (by simpa using ho2) hol hc' hrun
        exact ⟨u,w',μ',r1,⟨r2.val,r2.heap,q2.trans r2.stp⟩⟩
      ·cases h
   ·cases h
  ·cases h
 | _=>cases h
end
section
variable {I:Nat->Prop} {P:Program} {μ:Mu} {F:Nat->Prop} {H:Heap} {w:World} {T:Tm} {a:Act}
theorem wo {α:Type} [Inhabited α] (z:Array α) (n:Nat):((List.range (n*z.size)).map fun i=>z[i % z.size]!)=(List.replicate n z.toList).flatten:=by
 induction n with
 | zero=>simp
 | succ n ih =>
  rw [Nat.add_mul,Nat.one_mul,Nat.add_comm,List.range_add,List.map_append,List.replicate_succ,List.flatten_cons,<- ih]
  congr 1
  ·apply List.ext_getElem
   ·simp
   ·intro i h1 h2
    simp at h1
    simp [Nat.mod_eq_of_lt h1,h1]
  ·rw [List.map_map]
   apply List.map_congr_left
   intro i _
   simp [Nat.add_mod_left]
theorem LR.rep {z:List AV} {zs:List Value} (h:LR μ F w z zs):∀ n,LR μ F w ((List.replicate n z).flatten) ((List.replicate n zs).flatten)
 | 0=>LR.nil
 | n+1=>by
  rw [List.replicate_succ,List.replicate_succ,List.flatten_cons,List.flatten_cons]
  exact h.append (h.rep n)
theorem eW {z:Array Value} (N n:Nat) (h:N=n*z.size):((Array.range N).map fun i=>z[i % z.size]!).toList=(List.replicate n z.toList).flatten:=by
 subst h
 rw [Array.toList_map,Array.toList_range]
 exact wo z n
theorem my {t e:TypeId} {n len:Nat} {z cs:List AV} {parts:List (Nat × Operand)} {ps:List ((Nat × Nat) × Src)} (hT:LR μ F w T a.tmps.toList)
  (ht:P.underlying t=some (.slice e)) (hs:sizeOf? P e=some n) (hz:zeroCells? P e=some z) (hzl:z.length=n) (hle:len*n<=2^24)
  (hps:(parts.mapM fun (p:Nat × Operand)=>(do some ((p.1*n,n),(<- bD p.2)):Option ((Nat × Nat) × Src)))=some ps) (hf:cD ((List.replicate len z).flatten) (ps.map fun p=>(p.1,p.2.ev T))=some cs)
  (hH:HR P μ F H w) {id:Nat} (hid:μ id=none) (hlt:id<H.next) (hI:I id) :
  ∃ u w' μ',(Instr.buildSlice t len (parts.toArray.map fun p=>(p.1,a.eval p.2))).run P w=.ok u w'/\fL I P μ F H w (.own id 0 len len n true) (H.put id (.cells cs e true)) u w' μ':=by
 obtain ⟨zv,hzv,hzr⟩:=jt hz w
 have hzs:zv.cells.size=n:=by have:=(hzr μ F w).1; simp at this; omega
 have hrep:=(hzr μ F w).rep len
 have hcells:∃ zc:Array Value,((len*n=0/\zc = #[])\/(len*n≠0/\zc=zv.cells))/\((Array.range (len*n)).map fun i=>zc[i % zc.size]!).toList=(List.replicate len zv.cells.toList).flatten:=by
  by_cases h0:len*n=0
  ·refine ⟨#[],.inl ⟨h0,rfl⟩,?_⟩
   rw [h0]
   have:(List.replicate len zv.cells.toList).flatten.length=0:=by simp [hzs,h0]
   simp only [List.length_eq_zero_iff] at this
   rw [this]; simp
  ·refine ⟨zv.cells,.inr ⟨h0,rfl⟩,?_⟩
   exact eW _ _ (by rw [hzs])
 obtain ⟨zc,hzc1,hzc2⟩:=hcells
 obtain ⟨vs,hvs,hr⟩:=qK hT (fun i=>some (i*n,n)) parts ps _ ((Array.range (len*n)).map fun i=>zc[i % zc.size]!) cs hps (by rw [hzc2]; exact hrep) hf
 have hlen:=hr.1
 simp at hlen
 have hvsz:vs.size=len*n:=by
  have key:∀ (l:List ((Nat × Nat) × AV)) (z cs:List AV),cD z l=some cs->cs.length=z.length:=by
   intro l
   induction l with
   | nil=>intro z cs h; cases h; rfl
   | cons p l ih =>
    intro z cs h
    obtain ⟨⟨off,size⟩,v⟩:=p
    simp only [cD] at h
    split at h
    ·rename_i hc
     rw [ih _ _ h]
     simp; omega
    ·cases h
  have:=key _ _ _ hf
  simp [hzl] at this
  omega
 obtain ⟨q1,q2⟩:=iP hH hid hlt hI (arr:=vs) (cs:=cs) hs (by omega) (fun i c v hc hv=>hr.2 i c v hc (by simpa using hv)) w rfl (Tp.same rfl rfl) rfl rfl
 refine ⟨_,_,_,?_,⟨.own id 0 len len n true _ len (upd_same id _) rfl (Nat.le_refl _) (Nat.le_refl _) (fun _=>rfl) (by simp; omega),q1,q2⟩⟩
 have hnle:¬ len*n > 2^24:=by omega
 unfold Instr.buildSlice
 have hparts:(parts.toArray.map fun p=>(p.1,a.eval p.2)).toList=parts.map fun p=>(p.1,a.eval p.2):=by simp
 simp only [Sem.run_bind,run_underlying ht,Result.andThen_ok,bK hs,hnle,if_false,hparts]
 rcases hzc1 with ⟨h0,rfl⟩ | ⟨h0,rfl⟩
 ·rw [if_pos h0]
  simp only [Sem.run_bind,Sem.run_pure,Result.andThen_ok,hvs,eI]
 ·rw [if_neg h0]
  simp only [Sem.run_bind,Sem.run_pure,Result.andThen_ok,hzv,hvs,eI]
theorem nb {c:Nat} (h:c<2^63):IntKind.i64.wrap (c:Int)=c:=by
 have e:IntKind.i64.wrap (c:Int)=(if IntKind.i64.signed && decide ((c:Int) % (2^IntKind.i64.bits:Int) ≥ (2^(IntKind.i64.bits-1):Int)) then (c:Int) % (2^IntKind.i64.bits:Int)-(2^IntKind.i64.bits:Int) else (c:Int) % (2^IntKind.i64.bits:Int)):=rfl
 have h1:(c:Int) % (2^IntKind.i64.bits:Int)=c:=by
  have:(2^IntKind.i64.bits:Int)=18446744073709551616:=by decide
  rw [this]; omega
 rw [e,h1]
 have h2:¬ (c:Int) ≥ (2^(IntKind.i64.bits-1):Int):=by
  have:(2^(IntKind.i64.bits-1):Int)=9223372036854775808:=by decide
  rw [this]; omega
 simp [h2]
theorem tG {t e:TypeId} {size bytes l c:Nat} {z:List AV} {vl vc:Value} {kl kc:IntKind}
  (ht:P.underlying t=some (.slice e)) (hs:sizeOf? P e=some size) (hb:bytesOf? P e=some bytes) (hz:zeroCells? P e=some z) (hzl:z.length=size)
  (hl:vl=.int kl (l:Int)) (hc:vc=.int kc (c:Int)) (hlc:l<=c) (hcb:bytes*c<=2^47) (hc63:c<2^63)
  (hH:HR P μ F H w) {id:Nat} (hid:μ id=none) (hlt:id<H.next) (hI:I id) :
  ∃ u w' μ',(Instr.makeSlice t vl vc).run P w=.ok u w'/\fL I P μ F H w (.own id 0 l c size true) (H.put id (.cells ((List.replicate c z).flatten) e true)) u w' μ':=by
 obtain ⟨zv,hzv,hzr⟩:=jt hz w
 have hzs:zv.cells.size=size:=by have:=(hzr μ F w).1; simp at this; omega
 have hrep:=(hzr μ F w).rep c
 have hcells:∃ zc:Array Value,((c*size=0/\zc = #[])\/(c*size≠0/\zc=zv.cells))/\((Array.range (c*size)).map fun i=>zc[i % zc.size]!).toList=(List.replicate c zv.cells.toList).flatten:=by
  by_cases h0:c*size=0
  ·refine ⟨#[],.inl ⟨h0,rfl⟩,?_⟩
   rw [h0]
   have:(List.replicate c zv.cells.toList).flatten.length=0:=by simp [hzs,h0]
   simp only [List.length_eq_zero_iff] at this
   rw [this]; simp
  ·refine ⟨zv.cells,.inr ⟨h0,rfl⟩,?_⟩
   exact eW _ _ (by rw [hzs])
 obtain ⟨zc,hzc1,hzc2⟩:=hcells
 obtain ⟨i,hi,hib⟩:=wh hb w
 have harr:((Array.range (c*size)).map fun i=>zc[i % zc.size]!).size=c*size:=by simp
 obtain ⟨q1,q2⟩:=iP hH hid hlt hI (arr:=(Array.range (c*size)).map fun i=>zc[i % zc.size]!) (cs:=(List.replicate c z).flatten) hs (by rw [harr]; simp [hzl])
  (fun i c v hc hv=>hrep.2 i c v hc (by rw [<- hzc2,Array.getElem?_toList]; exact hv)) w rfl (Tp.same rfl rfl) rfl rfl
 refine ⟨_,_,_,?_,⟨.own id 0 l c size true _ c (upd_same id _) rfl hlc (Nat.le_refl _) (fun _=>rfl) (by show 0+c*size<=_; rw [Nat.zero_add]; exact Nat.le_of_eq harr.symm),q1,q2⟩⟩
 subst hl; subst hc
 unfold Instr.makeSlice
 have e1:=nb (c:=c) hc63
 have e2:=nb (c:=l) (by omega)
 have hB:¬ ((c:Int)<0\/(bytes:Int)*(c:Int) > 2^48):=by
  have:((bytes*c:Nat):Int)=(bytes:Int)*(c:Int):=by simp
  rw [<- this]; omega
 simp only [Sem.run_bind,run_underlying ht,Result.andThen_ok,asInt,asIntOf,Sem.run_pure,hi,hib,e1,e2]
 have hcond:¬ (((decide ((c:Int)<0) || decide ((bytes:Int)*(c:Int) > 2^48)) || decide ((l:Int)<0) || decide ((l:Int) > (c:Int)))=true):=by
  simp; omega
 rw [if_neg hcond]
 simp only [Sem.run_bind,run_askRoom,Result.andThen_ok,bK hs,Int.toNat_natCast]
 rcases hzc1 with ⟨h0,rfl⟩ | ⟨h0,rfl⟩
 ·rw [if_pos h0]
  simp only [Sem.run_bind,Sem.run_pure,Result.andThen_ok,eI]
 ·rw [if_neg h0]
  simp only [Sem.run_bind,Sem.run_pure,Result.andThen_ok,hzv,eI]
end
section
variable {I:Nat->Prop} {P:Program} {μ:Mu} {F:Nat->Prop} {H:Heap} {w:World} {T:Tm} {a:Act}
theorem E6 (a b:ByteArray) (h:(a == b)=true):a=b:=by
 obtain ⟨x⟩:=a; obtain ⟨y⟩:=b
 have:(x == y)=true:=h
 have:=eq_of_beq this
 rw [this]
theorem Cl (a:ByteArray):(a == a)=true:=by
 obtain ⟨x⟩:=a
 show (x == x)=true
 exact beq_self_eq_true x
def KD (d:TypeDesc) (kd:BK):Prop:=(∃ j,d=.int j/\kd=.int)\/(d=.string/\kd=.str)
theorem zo {t:TypeId} {kd:BK} (h1:pA P t=true) (h2:f8 P t=some kd):∃ d,P.underlying t=some d/\KD d kd:=by
 unfold pA at h1
 unfold f8 at h2
 split at h1
 ·rename_i j hj; rw [hj] at h2; cases h2; exact ⟨_,hj,.inl ⟨j,rfl,rfl⟩⟩
 ·rename_i hj; rw [hj] at h2; cases h2; exact ⟨_,hj,.inr ⟨rfl,rfl⟩⟩
 ·cases h1
theorem mP {t:TypeId} {d:TypeDesc} {kd:BK} {k:AV} {vk:Value} (hd:P.underlying t=some d) (hk:KD d kd) (hv:VR μ F w k vk) (hf:eD kd k=true) (b:Bool):(Instr.checkKey b 10000 t vk).run P w=.ok () w:=by
 show (Instr.checkKey b (9999+1) t vk).run P w=.ok () w
 unfold Instr.checkKey
 rcases hk with ⟨j,rfl,rfl⟩ | ⟨rfl,rfl⟩
 ·simp only [Sem.run_bind,run_underlying hd,Result.andThen_ok]
  cases k <;> simp [eD] at hf
  cases hv; rfl
 ·simp only [Sem.run_bind,run_underlying hd,Result.andThen_ok]
  cases k <;> simp [eD] at hf
  cases hv; rfl
theorem tf {d:TypeDesc} {kd:BK} {k k':AV} {vk vk':Value} {b:Bool} (hk:KD d kd) (hv:VR μ F w k vk) (hv':VR μ F w k' vk') (hf:eD kd k=true) (h:dV k k'=some b) :
  Instr.sameNow d vk vk'=some b/\(b=true->Instr.sameBits 10000 vk' vk=true):=by
 rcases hk with ⟨j,rfl,rfl⟩ | ⟨rfl,rfl⟩
 ·cases k <;> simp [eD] at hf
  cases k' <;> simp [dV] at h
  obtain ⟨e,h⟩:=h
  cases hv; cases hv'
  subst e
  refine ⟨by simp [Instr.sameNow,h],fun hb=>?_⟩
  subst hb
  have h:=eq_of_beq h
  subst h
  simp [Instr.sameBits]
 ·cases k <;> simp [eD] at hf
  cases k' <;> simp [dV] at h
  cases hv; cases hv'
  refine ⟨by simp [Instr.sameNow,h],fun hb=>?_⟩
  subst hb
  have h:=E6 _ _ h
  subst h
  simp [Instr.sameBits,Cl]
theorem qJ {d:TypeDesc} {kd:BK} {k:AV} {vk:Value} (hk:KD d kd) (hv:VR μ F w k vk) (hf:eD kd k=true):∀ (es:List (AV × AV)) (xs:List MapEntry) (i:Nat),LR μ F w (es.map (·.1)) (xs.map (·.key))->LR μ F w (es.map (·.2)) (xs.map (·.val)) ->
  (iB k es=some none->Instr.findNow d vk xs i=some none/\∀ v,im k v es=es++[(k,v)]) /\
  (∀ x,iB k es=some (some x)->∃ j e,xs[j]? = some e/\Instr.findNow d vk xs i=some (some (i+j,e.val))/\VR μ F w x e.val/\Instr.sameBits 10000 e.key vk=true/\∀ v,im k v es=es.set j (k,v))
 | [],[],i,_,_=>⟨fun _=>⟨rfl,fun _=>rfl⟩,fun x h=>by simp [iB] at h⟩
 | [],_ :: _,_,h,_=>by have:=h.1; simp at this
 | _ :: _,[],_,h,_=>by have:=h.1; simp at this
 | (k',v') :: es,e :: xs,i,h1,h2=>by
  have hk1:=h1.head
  have hv1:=h2.head
  obtain ⟨ih1,ih2⟩:=qJ hk hv hf es xs (i+1) h1.tail h2.tail
  simp only [iB,im,Instr.findNow]
  cases hs:dV k k' with
  | none=>exact ⟨fun h=>by simp at h,fun x h=>by simp at h⟩
  | some b =>
   obtain ⟨hn,hb⟩:=tf hk hv hk1 hf hs
   rw [hn]
   cases b with
   | true =>
    refine ⟨fun h=>by simp at h,fun x h=>?_⟩
    simp at h; subst h
    exact ⟨0,e,rfl,by simp,hv1,hb rfl,fun v=>rfl⟩
   | false =>
    simp only
    refine ⟨fun h=>⟨(ih1 h).1,fun v=>by rw [(ih1 h).2 v]; rfl⟩,fun x h=>?_⟩
    obtain ⟨j,e',g1,g2,g3,g4,g5⟩:=ih2 x h
    exact ⟨j+1,e',by simpa using g1,by rw [g2]; congr 3; omega,g3,g4,fun v=>by rw [g5 v]; rfl⟩
theorem g9 {L:oZ} {xs:Array MapEntry} {c:Nat} (h:w.heap[L.blk]? = some (.map xs c)):(getObj L.blk).run P w=.ok (.map xs c) w:=by
 simp [getObj,Sem.run,h]
theorem nH {L:oZ} {xs:Array MapEntry} {c:Nat} (h:w.heap[L.blk]? = some (.map xs c)) (o:Obj):(setObj L.blk o).run P w=.ok () (w.putObj L.blk o):=by
 simp [setObj,Sem.run,h,World.putObj]
theorem zd {x:AV} {vx:Value} {es:List (AV × AV)} (hH:HR P μ F H w) (hx:VR μ F w x vx) (h:lC H x=some es) :
  ∃ xs:Array MapEntry,LR μ F w (es.map (·.1)) (xs.toList.map (·.key))/\LR μ F w (es.map (·.2)) (xs.toList.map (·.val))/\((vx=.map none/\xs = #[])\/∃ (L:oZ) (c:Nat),vx=.map (some L.blk)/\w.heap[L.blk]? = some (.map xs c)):=by
 cases x <;> simp only [lC] at h <;> first | (cases h; done) | skip
 ·cases h; cases hx; exact ⟨#[],LR.nil,LR.nil,.inl ⟨rfl,rfl⟩⟩
 ·rename_i b
  split at h
  ·rename_i es' hb
   cases h
   cases hx with
   | map _ L hL =>
   obtain ⟨L',hL',hE⟩:=hH.ent b _ hb
   rw [hL] at hL'; cases hL'
   obtain ⟨_,xs,c,g1,g2,g3,_⟩:=hE
   exact ⟨xs,g2,g3,.inr ⟨L,c,rfl,g1⟩⟩
  ·rename_i es' hb
   cases h
   cases hx with
   | map _ L hL =>
   obtain ⟨L',hL',hE⟩:=hH.ent b _ hb
   rw [hL] at hL'; cases hL'
   obtain ⟨xs,c,g1,g2,g3,_⟩:=hE
   exact ⟨xs,g2,g3,.inr ⟨L,c,rfl,g1⟩⟩
  ·cases h
theorem nZ {t kt e:TypeId} {vx vi zv:Value} {ok:Bool} {xs:Array MapEntry} {d:TypeDesc} {res:Option (Nat × Value)} (ht:P.underlying t=some (.map kt e)) (hd:P.underlying kt=some d)
  (hck:∀ b,(Instr.checkKey b 10000 kt vi).run P w=.ok () w) (hz:(zeroValue e).run P w=.ok zv w)
  (hm:(vx=.map none/\xs = #[])\/∃ (L:oZ) (c:Nat),vx=.map (some L.blk)/\w.heap[L.blk]? = some (.map xs c)) (hf:Instr.findNow d vi xs.toList 0=some res) :
  (Instr.lookup t vx vi ok).run P w=.ok (match res with | some (_,v)=>if ok then .tuple #[v,.bool true] else v | none=>if ok then .tuple #[zv,.bool false] else zv) w:=by
 unfold Instr.lookup
 rcases hm with ⟨rfl,rfl⟩ | ⟨L,c,rfl,hL⟩
 ·simp only [Sem.run_bind,run_underlying ht,Result.andThen_ok,Sem.run_pure,hck,Instr.findKey,run_underlying hd,hf]
  cases res with
  | none=>cases ok <;> simp [hz]
  | some p=>cases ok <;> simp
 ·simp only [Sem.run_bind,run_underlying ht,Result.andThen_ok,Sem.run_pure,hck,Instr.findKey,run_underlying hd,g9 hL,hf]
  cases res with
  | none=>cases ok <;> simp [hz]
  | some p=>cases ok <;> simp
theorem qt {t kt e:TypeId} {kd:BK} {x i z v:AV} {vx vi zv:Value} {ok:Bool} (hH:HR P μ F H w) (ht:P.underlying t=some (.map kt e)) (hk1:pA P kt=true) (hk2:f8 P kt=some kd)
  (hz:((P.info? e).bind (·.zero))=some zv) (hza:kb zv=some z) (hx:VR μ F w x vx) (hi:VR μ F w i vi)
  (h:jg H kd z x i ok=some v):∃ u,(Instr.lookup t vx vi ok).run P w=.ok u w/\VR μ F w v u:=by
 obtain ⟨d,hd,hkd⟩:=zo hk1 hk2
 unfold jg at h
 split at h
 ·cases h
 rename_i hf
 have hf:eD kd i=true:=by simpa using hf
 have hzero:(zeroValue e).run P w=.ok zv w:=by
  obtain ⟨inf,hinf,hz'⟩:=Option.bind_eq_some_iff.1 hz
  simp [zeroValue,fN hinf,hz']
 have hzr:=ja (μ:=μ) (F:=F) (w:=w) hza
 split at h
 ·cases h
 rename_i es hes
 obtain ⟨xs,g1,g2,g3⟩:=zd hH hx hes
 obtain ⟨f1,f2⟩:=qJ hkd hi hf es xs.toList 0 g1 g2
 have two:∀ (x:AV) (v:Value) (b:Bool),VR μ F w x v->VR μ F w (.tup [x,.bool b]) (.tuple #[v,.bool b]):=fun x v b h=>by
  have:=LR.cons h (LR.cons (.bool b) (LR.nil (μ:=μ) (F:=F) (w:=w)))
  exact .tup _ _ rfl fun i c u h1 h2=>this.2 i c u h1 (by simpa using h2)
 have hck:∀ b,(Instr.checkKey b 10000 kt vi).run P w=.ok () w:=fun b=>mP hd hkd hi hf b
 split at h
 ·cases h
 ·rename_i hr
  cases h
  refine ⟨_,nZ ht hd hck hzero g3 (f1 hr).1,?_⟩
  cases ok
  ·exact hzr
  ·exact two _ _ _ hzr
 ·rename_i y hr
  cases h
  obtain ⟨j,e',q1,q2,q3,_⟩:=f2 y hr
  refine ⟨_,nZ ht hd hck hzero g3 q2,?_⟩
  cases ok
  ·exact q3
  ·exact two _ _ _ q3
theorem lA {t kt e:TypeId} {kd:BK} {m k v:AV} {vm vk vv:Value} {H':Heap} (hH:HR P μ F H w) (ht:P.underlying t=some (.map kt e)) (hk1:pA P kt=true) (hk2:f8 P kt=some kd)
  (hm:VR μ F w m vm) (hk:VR μ F w k vk) (hv:VR μ F w v vv) (h:iA H kd m k v=some H'):∃ w',(Instr.mapUpdate t vm vk vv).run P w=.ok () w'/\fL I P μ F H w .undef H' undef w' μ:=by
 obtain ⟨d,hd,hkd⟩:=zo hk1 hk2
 unfold iA at h
 split at h
 ·cases h
 rename_i hf
 have hf:eD kd k=true:=by simpa using hf
 have hck:∀ b,(Instr.checkKey b 10000 kt vk).run P w=.ok () w:=fun b=>mP hd hkd hk hf b
 cases m with
 | map b =>
  simp only at h
  split at h
  ·rename_i es hb
   cases hm with
   | map _ L hL =>
   obtain ⟨L',hL',hE⟩:=hH.ent b _ hb
   rw [hL] at hL'; cases hL'
   obtain ⟨hnF,xs,c,g1,g2,g3,g4⟩:=hE
   obtain ⟨f1,f2⟩:=qJ hkd hk hf es xs.toList 0 g2 g3
   have hlt:=(Array.getElem?_eq_some_iff.1 g1).1
   have fin:∀ (xs':Array MapEntry) (c':Nat),LR μ F w ((im k v es).map (·.1)) (xs'.toList.map (·.key))->LR μ F w ((im k v es).map (·.2)) (xs'.toList.map (·.val))->uw xs'.toList c' ->
     HR P μ F (H.put b (.map (im k v es))) (w.putObj L.blk (.map xs' c'))/\Stp I P μ F H w μ F (H.put b (.map (im k v es))) (w.putObj L.blk (.map xs' c')):=by
    intro xs' c' q1 q2 q3
    refine gg hH hb rfl hL _ (fun c hc=>World.putObj_heap_other hc) (by simp [World.putObj]) (Tp.same rfl rfl) rfl rfl (fun hw=>?_) rfl
    exact ⟨hnF,xs',c',World.putObj_heap_same hlt,q1.mono (fun _ _ h=>h) (fun _ h=>h) hw,q2.mono (fun _ _ h=>h) (fun _ h=>h) hw,q3⟩
   split at h
   ·cases h
   ·rename_i r hr
    cases h
    cases r with
    | none =>
     obtain ⟨q1,q2⟩:=f1 hr
     have hup:=q2 v
     obtain ⟨r1,r2⟩:=fin (xs.push { key:=vk,val:=vv,born:=c }) (c+1) (by rw [hup]; simp only [List.map_append,Array.toList_push,List.map_cons,List.map_nil]; exact g2.append (LR.cons hk LR.nil))
      (by rw [hup]; simp only [List.map_append,Array.toList_push,List.map_cons,List.map_nil]; exact g3.append (LR.cons hv LR.nil)) ⟨fun e he=>by
       simp only [Array.toList_push,List.mem_append,List.mem_singleton] at he
       rcases he with he | rfl
       ·have:=g4.1 e he; omega
       ·exact Nat.lt_succ_self _,by
       simp only [Array.toList_push,List.map_append,List.map_cons,List.map_nil]
       refine List.nodup_append.2 ⟨g4.2,by simp,fun a ha b hb=>?_⟩
       simp only [List.mem_singleton] at hb
       subst hb
       obtain ⟨e,he,rfl⟩:=List.mem_map.1 ha
       have:=g4.1 e he
       omega⟩
     refine ⟨_,?_,⟨.undef _,r1,r2⟩⟩
     unfold Instr.mapUpdate
     simp only [Sem.run_bind,run_underlying ht,Result.andThen_ok,g9 g1,hck,Instr.findKey,run_underlying hd,q1,Sem.run_pure,nH g1]
    | some y =>
     obtain ⟨j,e',q1,q2,q3,q4,q5⟩:=f2 y hr
     have hup:=q5 v
     have hj:xs[j]? = some e':=by simpa using q1
     have hjl:j<xs.size:=(Array.getElem?_eq_some_iff.1 hj).1
     have hl:(xs.modify j fun e=>{ e with key:=vk,val:=vv }).toList=xs.toList.set j { e' with key:=vk,val:=vv }:=by
      rw [Array.toList_modify]
      rw [List.modify_eq_set]
      rw [q1]; rfl
     obtain ⟨r1,r2⟩:=fin (xs.modify j fun e=>{ e with key:=vk,val:=vv }) c (by rw [hup,hl,List.map_set,List.map_set]; exact g2.set j hk) (by rw [hup,hl,List.map_set,List.map_set]; exact g3.set j hv) ⟨fun e he=>by
       rw [hl] at he
       rcases List.mem_or_eq_of_mem_set he with he | rfl
       ·exact g4.1 e he
       ·exact g4.1 e' (List.mem_of_getElem? q1),by
       have e0:(xs.toList.map (·.born)).set j e'.born=xs.toList.map (·.born):=by
        apply List.ext_getElem?
        intro i
        by_cases hi:j=i
        ·subst hi
         rw [List.getElem?_set_self',List.getElem?_map,q1]; rfl
        ·rw [List.getElem?_set_ne hi]
       rw [hl,List.map_set]
       show ((xs.toList.map (·.born)).set j e'.born).Nodup
       rw [e0]; exact g4.2⟩
     refine ⟨_,?_,⟨.undef _,r1,r2⟩⟩
     unfold Instr.mapUpdate
     simp only [Sem.run_bind,run_underlying ht,Result.andThen_ok,g9 g1,hck,Instr.findKey,run_underlying hd,q2,Sem.run_pure,Nat.zero_add,hj,Option.map_some,Option.getD_some,Instr.keyThatStays,q4,if_true,nH g1]
  ·cases h
 | _=>cases h
theorem rN {t:TypeId} (hH:HR P μ F H w) {id:Nat} (hid:μ id=none) (hlt:id<H.next) (hI:I id) :
  ∃ u w' μ',(Instr.makeMap t none).run P w=.ok u w'/\fL I P μ F H w (.map id) (H.put id (.map [])) u w' μ':=by
 obtain ⟨q1,q2⟩:=iQ hH hid hlt (.map #[] 0) (.map []) 0 0 (fun w' hw hn hnF=>⟨hnF,#[],0,hn,LR.nil,LR.nil,fun e he=>by simp at he,List.nodup_nil⟩) hI w rfl (Tp.same rfl rfl) rfl rfl
 exact ⟨_,_,_,by simp [Instr.makeMap],⟨.map id _ (upd_same id _),q1,q2⟩⟩
theorem qn {t:TypeId} {s:ByteArray} {vx:Value} (ht:P.underlying t=some .string) (hH:HR P μ F H w) {id:Nat} (hid:μ id=none) (hlt:id<H.next) (hI:I id) (hx:VR μ F w (.str s) vx) :
  ∃ u w' μ',(Instr.range t vx).run P w=.ok u w'/\fL I P μ F H w (.ptr id 0) (H.put id (.siter s 0)) u w' μ':=by
 cases hx
 obtain ⟨q1,q2⟩:=iQ hH hid hlt (.stringIter s 0) (.siter s 0) 0 0 (fun w' hw hn hnF=>⟨hnF,hn⟩) hI w rfl (Tp.same rfl rfl) rfl rfl
 exact ⟨_,_,_,by simp [Instr.range,run_underlying ht],⟨.ptr id 0 _ (upd_same id _),q1,q2⟩⟩
theorem rK {x v:AV} {vx:Value} {ty:TypeId} {H':Heap} (hH:HR P μ F H w) (hx:VR μ F w x vx) (h:tF H x=some (v,H')) :
  ∃ u w',(Instr.next vx true ty).run P w=.ok u w'/\fL I P μ F H w v H' u w' μ:=by
 unfold tF at h
 split at h
 ·rename_i b
  cases hx with
  | ptr _ _ L hL =>
  split at h
  ·rename_i s pos hb
   obtain ⟨L',hL',hE⟩:=hH.ent b _ hb
   rw [hL] at hL'; cases hL'
   obtain ⟨hnF,hh⟩:=hE
   have hg:(getObj L.blk).run P w=.ok (.stringIter s pos) w:=by simp [getObj,Sem.run,hh]
   split at h
   ·rename_i hlt
    cases h
    have hlt':=(Array.getElem?_eq_some_iff.1 hh).1
    have hs:∀ o,(setObj L.blk o).run P w=.ok () (w.putObj L.blk o):=fun o=>by simp [setObj,Sem.run,hh,World.putObj]
    obtain ⟨q1,q2⟩:=gg (I:=I) (e:=.siter s (pos+(Utf8.decode s pos).2)) hH hb rfl hL (w.putObj L.blk (.stringIter s (pos+(Utf8.decode s pos).2))) (fun c hc=>World.putObj_heap_other hc) (by simp [World.putObj]) (Tp.same rfl rfl) rfl rfl
     (fun hw=>⟨hnF,World.putObj_heap_same hlt'⟩) rfl
    refine ⟨.tuple #[.bool true,goInt pos,.int .i32 (Utf8.decode s pos).1],_,?_,⟨?_,q1,q2⟩⟩
    ·simp only [Instr.next,Sem.run_bind,hg,Result.andThen_ok,hlt,if_true,hs,Sem.run_pure]
    ·refine .tup _ _ rfl fun i c u hi hu=>?_
     have:i=0\/i=1\/i=2\/3<=i:=by omega
     rcases this with rfl | rfl | rfl | h3
     ·simp at hi hu; subst hi; subst hu; exact .bool _
     ·simp at hi hu; subst hi; subst hu; exact .int _ _
     ·simp at hi hu; subst hi; subst hu; exact .int _ _
     ·rw [List.getElem?_eq_none (by simpa using h3)] at hi; cases hi
   ·rename_i hlt
    cases h
    refine ⟨.tuple #[.bool false],w,?_,⟨?_,hH,Stp.refl _ _ _ _ _ _⟩⟩
    ·simp only [Instr.next,Sem.run_bind,hg,Result.andThen_ok,hlt,if_false,Sem.run_pure]
    ·refine .tup _ _ rfl fun i c u hi hu=>?_
     have:i=0\/1<=i:=by omega
     rcases this with rfl | h3
     ·simp at hi hu; subst hi; subst hu; exact .bool _
     ·rw [List.getElem?_eq_none (by simpa using h3)] at hi; cases hi
  ·cases h
 ·cases h
end
section
variable {I:Nat->Prop} {P:Program} {μ:Mu} {F:Nat->Prop} {H:Heap} {w:World} {T:Tm} {a:Act}
theorem yS {s:Sem Unit} {w':World} (h:s.run P w=.ok () w'):((do s; pure Next.skip):Sem Next).run P w=.ok .skip w':=by
 simp [h]
theorem sv {t e ty:TypeId} {size:Nat} {z:List AV} {x:AV} {vx:Value} {H':Heap} (ht:P.underlying t=some (.slice e)) (hs:sizeOf? P e=some size) (hz:zeroCells? P e=some z) (hH:HR P μ F H w) (hx:VR μ F w x vx)
  (h:jH H size z x=some H') :
  ∃ u w',(Builtin.clear_ #[t] ty #[vx]).run P w=.ok u w'/\fL I P μ F H w (.tup []) H' u w' μ:=by
 have hnil:VR μ F w (.tup []) (.tuple #[]):=.tup _ _ rfl fun i c v h=>by simp at h
 have hnil':∀ w,VR μ F w (.tup []) (.tuple #[]):=fun w=>.tup _ _ rfl fun i c v h=>by simp at h
 cases x with
 | nilSl =>
  cases h; cases hx
  exact ⟨_,w,by simp [Builtin.clear_,run_underlying ht],⟨hnil,hH,Stp.refl _ _ _ _ _ _⟩⟩
 | own b off n c sz ex =>
  cases hx with
  | own _ _ _ _ _ _ L cap h1 h2 h3 h4 h5 h6 =>
  simp only [jH] at h
  split at h
  ·rename_i cs ty' hb
   split at h
   ·rename_i hn
    cases h
    subst hn
    exact ⟨_,w,by simp [Builtin.clear_,run_underlying ht],⟨hnil,hH,Stp.refl _ _ _ _ _ _⟩⟩
   ·rename_i hn
    split at h
    ·rename_i hc
     obtain ⟨c1,c2,c3,c4⟩:=hc
     cases h
     subst c1
     obtain ⟨zv,hzv,hzr⟩:=jt hz w
     have hzs:zv.cells.size=sz:=by have:=(hzr μ F w).1; simp at this; omega
     have hrep:=(hzr μ F w).rep n
     have hlen:((List.replicate n z).flatten).length=n*sz:=by simp [c3]
     have hall:((List.replicate n z).flatten).all AV.one=true:=by
      rw [List.all_eq_true] at c4 ⊢
      intro y hy
      simp only [List.mem_flatten,List.mem_replicate] at hy
      obtain ⟨l,⟨_,rfl⟩,hy⟩:=hy
      exact c4 y hy
     obtain ⟨arr,fr,g1,g2,g3,g4,g5,g6,g7⟩:=gj hH hb h1
     obtain ⟨w',hrun,q1,q2⟩:=jY (I:=I) hH hb h1 (o:=off) hrep hall (by omega) (by omega)
     rw [hlen] at q1 q2
     refine ⟨_,w',?_,⟨hnil' _,q1,q2⟩⟩
     have hzc:(Builtin.zeroCells zv.cells n).toList=(List.replicate n zv.cells.toList).flatten:=by
      unfold Builtin.zeroCells
      exact eW _ _ rfl
     unfold Builtin.clear_
     simp only [List.getElem?_toArray,List.getElem?_cons_zero,Sem.run_bind,run_underlying ht,Result.andThen_ok]
     obtain ⟨k,rfl⟩:∃ k,n=k+1:=⟨n-1,by omega⟩
     simp only [Sem.run_bind,hzv,Result.andThen_ok,hzc,hrun,Sem.run_pure]
    ·cases h
  ·cases h
 | _=>cases h
theorem tW {t xt e ty:TypeId} {size:Nat} {x y v:AV} {vx vy:Value} {H':Heap} (ht:P.underlying t=some (.slice e)) (hs:sizeOf? P e=some size) (hH:HR P μ F H w) (hx:VR μ F w x vx) (hy:VR μ F w y vy)
  (h:zI H size x y=some (v,H')) :
  ∃ u w',(Builtin.copy_ #[t,xt] ty #[vx,vy]).run P w=.ok u w'/\fL I P μ F H w v H' u w' μ:=by
 unfold zI at h
 split at h
 ·cases h
 rename_i m hm
 have hlen:=j9 (P:=P) hy hm
 cases x with
 | nilSl =>
  cases hx
  simp only at h
  split at h
  ·rename_i news hnews
   cases h
   obtain ⟨hl,nv,hnv,hnl⟩:=gR (P:=P) hH hy hnews
   refine ⟨goInt ((0:Nat):Int),w,?_,.int _ _,hH,Stp.refl _ _ _ _ _ _⟩
   have hmin:Nat.min m 0=0:=Nat.min_eq_right (Nat.zero_le _)
   unfold Builtin.copy_
   simp only [List.getElem?_toArray,List.getElem?_cons_zero,List.getElem?_cons_succ,Sem.run_bind,run_underlying ht,Result.andThen_ok,bK hs,Sem.run_pure,hlen,hmin,hnv w rfl]
  ·cases h
 | own b off n c sz ex =>
  cases hx with
  | own _ _ _ _ _ _ L cap h1 h2 h3 h4 h5 h6 =>
  simp only at h
  split at h
  ·rename_i news cs ty' hnews hb
   split at h
   ·rename_i hc
    obtain ⟨c1,c2,c3⟩:=hc
    cases h
    subst c1
    obtain ⟨hl,nv,hnv,hnl⟩:=gR (P:=P) hH hy hnews
    have hle:Nat.min m n*sz<=cap*sz:=Nat.mul_le_mul_right _ (Nat.le_trans (Nat.min_le_right _ _) (Nat.le_trans h3 h4))
    obtain ⟨w',hrun,q1,q2⟩:=jY (I:=I) hH hb h1 (o:=off) hnl c3 c2 (by omega)
    refine ⟨goInt ((Nat.min m n:Nat):Int),w',?_,.int _ _,q1,q2⟩
    unfold Builtin.copy_
    simp only [List.getElem?_toArray,List.getElem?_cons_zero,List.getElem?_cons_succ,Sem.run_bind,run_underlying ht,Result.andThen_ok,bK hs,Sem.run_pure,hlen,hnv w rfl,hrun]
   ·cases h
  ·cases h
 | _=>cases h
def Ai (P:Program) (a:Act) (w:World) (o:Oper) (u:Value) (w':World):Prop :=
 (execOp a.eval o).run P w=.ok (.value u) w'\/((execOp a.eval o).run P w=.ok .skip w'/\u=undef)
theorem rj {cargs:Array Operand} {x y:Src} (hT:LR μ F w T a.tmps.toList) (h:cargs.toList.mapM bD=some [x,y]):∃ vx vy,cargs.map a.eval = #[vx,vy]/\VR μ F w (x.ev T) vx/\VR μ F w (y.ev T) vy:=by
 have hl:=iY hT h
 have h1:=hl.1
 simp only [List.map_cons,List.map_nil,List.length_cons,List.length_nil,List.length_map,Array.length_toList] at h1
 obtain ⟨l⟩:=cargs
 match l,h1 with
 | [p,q],_=>exact ⟨a.eval p,a.eval q,by simp,hl.2 0 _ _ rfl rfl,hl.2 1 _ _ rfl rfl⟩
theorem uJ {cargs:Array Operand} {x:Src} (hT:LR μ F w T a.tmps.toList) (h:cargs.toList.mapM bD=some [x]):∃ vx,cargs.map a.eval = #[vx]/\VR μ F w (x.ev T) vx:=by
 have hl:=iY hT h
 have h1:=hl.1
 simp only [List.map_cons,List.map_nil,List.length_cons,List.length_nil,List.length_map,Array.length_toList] at h1
 obtain ⟨l⟩:=cargs
 match l,h1 with
 | [p],_=>exact ⟨a.eval p,by simp,hl.2 0 _ _ rfl rfl⟩
theorem dO {dst:Option Tmp} {ty:TypeId} {pos:String} {after:Array Edge} {guard:Option (Nat × Bool)} {b:Builtin} {cargs:Array Operand} {argTypes:Array TypeId} {s:Sem Value} {u:Value} {w':World}
  (h1:s.run P w=.ok u w') (h2:∀ consts,builtin b argTypes ty consts (cargs.map a.eval)=(do pure (.value (<- s)))) :
  (execOp a.eval ⟨dst,.call ⟨.builtin b,cargs,argTypes⟩,ty,pos,after,guard⟩).run P w=.ok (.value u) w':=by
 simp only [execOp,resolve,Sem.run_bind,Sem.run_pure,Result.andThen_ok,invoke]
 exact (congrArg (fun s=>s.run P w) (h2 _)).trans (bN h1)
theorem pk {x v:AV} {vx:Value} {id size bytes ty m:Nat} {news:List AV} {fr:Option Nat} {H':Heap} (h:dm H id size bytes ty x m news fr=some (v,H')) (hx:VR μ F w x vx):∃ base n cap,vx=.slice base n cap:=by
 cases x with
 | nilSl=>cases hx; exact ⟨_,_,_,rfl⟩
 | own b off n c sz ex=>cases hx; exact ⟨_,_,_,rfl⟩
 | _=>cases h
theorem pb {t:TypeId} {z:List AV} (h:zeroCells? P t=some z):∃ i zv,P.info? t=some i/\i.zero=some zv/\vp zv=some z:=by
 simp only [zeroCells?,Option.bind_eq_bind,Option.bind_eq_some_iff] at h
 obtain ⟨i,hi,zv,hz,h⟩:=h
 exact ⟨i,zv,hi,hz,h⟩
theorem lT {t xt e ty n bytes id m:Nat} {z news:List AV} {x v y:AV} {vx vy:Value} {fr:Option Nat} {H':Heap} (ht:P.underlying t=some (.slice e)) (hn:sizeOf? P e=some n) (hb:bytesOf? P e=some bytes) (hz:zeroCells? P e=some z) (hzl:z.length=n)
  (hpl:Ac P xt) (hH:HR P μ F H w) (hid:μ id=none) (hlt:id<H.next) (hI:I id) (hx:VR μ F w x vx) (hy:VR μ F w y vy) (hm:gG y=some m) (hnews:bE H n m y=some news)
  (h:dm H id n bytes e x m news fr=some (v,H')) :
  ∃ u w' μ',(Builtin.append_ #[t,xt] ty #[vx,vy]).run P w=.ok u w'/\fL I P μ F H w v H' u w' μ':=by
 obtain ⟨i,zv,hi,hzv,hzc⟩:=pb hz
 have hzs:zv.cells.size=n:=by
  have:=(lB (μ:=μ) (F:=F) (w:=w) hzc).1
  simp at this; omega
 have hib:i.bytes=bytes:=by
  simp only [bytesOf?,hi,Option.map_some,Option.some.injEq] at hb; exact hb
 obtain ⟨base,k,cap,rfl⟩:=pk h hx
 obtain ⟨hlen,nv,hnv,hnl⟩:=gR hH hy hnews
 refine kz (nv:=nv.toArray) (zv:=zv) hH hid hlt hI hn hzs hx (by simpa using hnl) hlen h ?_ ?_
 ·intro base' n' cap' e1 hle
  cases e1
  exact xF ht hn hpl (j9 hy hm) (hnv w rfl) hle
 ·intro base' n' cap' ov e1 hnle hB hN hov
  cases e1
  exact um ht hn hi hib hzv hpl (j9 hy hm) hnv hov hnle hB hN
theorem sI {t xt e ty:TypeId} {size bytes n m cap:Nat} {base:Option Addr} {i:TypeInfo} {zv:Value} {kq kx:IntKind}
  (ht:P.underlying t=some (.slice e)) (hs:sizeOf? P e=some size) (hi:P.info? e=some i) (hib:i.bytes=bytes) (hz:i.zero=some zv) (hzs:zv.cells.size=size) (hx:P.underlying xt=some (.int kq))
  (hm:m<2^62) (hmb:m*bytes<=2^46) (hneed:n+m<=cap) :
  (Builtin.append_ #[t,xt] ty #[.slice base n cap,.int kx (m:Int)]).run P w=((match base with | some a=>storeCells (a.add (n*size)) (Builtin.zeroCells zv.cells m).toList | none=>pure ():Sem Unit).run P w).andThen fun _ w'=>.ok (.slice base (n+m) cap) w':=by
 have e1:=nb (c:=m) (by omega)
 have hneg:¬ ((m:Int)<0):=by omega
 have hbig:¬ ((m:Int)*(i.bytes:Int) > 2^48):=by
  have:((m*i.bytes:Nat):Int)=(m:Int)*(i.bytes:Int):=by simp
  rw [<- this,hib]; omega
 unfold Builtin.append_
 by_cases h0:m*size=0
 ·have hz0:Builtin.zeroCells zv.cells m = #[]:=by
   have:(Builtin.zeroCells zv.cells m).size=0:=by rw [pP,hzs,h0]
   exact Array.eq_empty_of_size_eq_zero this
  simp only [List.getElem?_toArray,List.getElem?_cons_zero,List.getElem?_cons_succ,Sem.run_bind,run_underlying ht,Result.andThen_ok,bK hs,run_underlying hx,Sem.run_pure,if_true,asInt,asIntOf,e1,hneg,if_false,fN hi,hbig,Int.toNat_natCast,Bool.not_true,Bool.false_eq_true,h0,hneed,hz0]
  cases base <;> simp
 ·simp only [List.getElem?_toArray,List.getElem?_cons_zero,List.getElem?_cons_succ,Sem.run_bind,run_underlying ht,Result.andThen_ok,bK hs,run_underlying hx,Sem.run_pure,if_true,asInt,asIntOf,e1,hneg,if_false,fN hi,hbig,Int.toNat_natCast,Bool.not_true,Bool.false_eq_true,h0,hneed,zeroValue,hz]
  cases base <;> simp
theorem qW {t xt e ty:TypeId} {size bytes n m cap:Nat} {base:Option Addr} {ov:Array Value} {i:TypeInfo} {zv:Value} {kq kx:IntKind}
  (ht:P.underlying t=some (.slice e)) (hs:sizeOf? P e=some size) (hi:P.info? e=some i) (hib:i.bytes=bytes) (hz:i.zero=some zv) (hzs:zv.cells.size=size) (hx:P.underlying xt=some (.int kq))
  (hm:m<2^62) (hmb:m*bytes<=2^46) (ho:∀ w',w'.heap=w.heap->(Builtin.firstCells size n (.slice base n cap)).run P w'=.ok ov w')
  (hneed:¬ n+m<=cap) (hb:(n+m)*bytes<=2^46) (hn:n+m<2^62) :
  ∃ cap',n+m<=cap'/\(Builtin.append_ #[t,xt] ty #[.slice base n cap,.int kx (m:Int)]).run P w =
   .ok (.slice (some ⟨w.heap.size,0,none⟩) (n+m) cap') (({ w with drawn:=w.drawn+1 }:World).alloc (.cells (ov++Builtin.zeroCells zv.cells m++Builtin.zeroCells zv.cells (cap'-(n+m))) e)):=by
 have e1:=nb (c:=m) (by omega)
 have hneg:¬ ((m:Int)<0):=by omega
 have hbig:¬ ((m:Int)*(i.bytes:Int) > 2^48):=by
  have:((m*i.bytes:Nat):Int)=(m:Int)*(i.bytes:Int):=by simp
  rw [<- this,hib]; omega
 have hnext:¬ Builtin.nextslicecap (n+m) cap*i.bytes > 2^48:=by
  have h1:=nW (need:=n+m) (cap:=cap) (by omega)
  have h2:Builtin.nextslicecap (n+m) cap*bytes<=2*(n+m)*bytes:=Nat.mul_le_mul_right _ h1
  rw [Nat.mul_assoc] at h2
  rw [hib]; omega
 have hmax:¬ ((↑(n+m):Int) > IntKind.i64.max/\(True\/i.bytes=0)):=by
  rintro ⟨h1,_⟩
  have:IntKind.i64.max=9223372036854775807:=by decide
  rw [this] at h1
  omega
 refine ⟨(Question.appendCap (n+m) cap e).cut (w.tape w.drawn (Question.appendCap (n+m) cap e)),by simp [Question.cut],?_⟩
 have hq:(choose (Question.appendCap (n+m) cap e)).run P w=.ok ((Question.appendCap (n+m) cap e).cut (w.tape w.drawn (Question.appendCap (n+m) cap e))) { w with drawn:=w.drawn+1 }:=by
  rw [run_choose,if_neg (by simp [Question.forced])]
 have ho':=ho { w with drawn:=w.drawn+1 } rfl
 generalize (Question.appendCap (n+m) cap e).cut (w.tape w.drawn (Question.appendCap (n+m) cap e))=c at hq
 unfold Builtin.append_
 by_cases h0:m*size=0
 ·have hz0:Builtin.zeroCells zv.cells m = #[]:=by
   have:(Builtin.zeroCells zv.cells m).size=0:=by rw [pP,hzs,h0]
   exact Array.eq_empty_of_size_eq_zero this
  simp only [List.getElem?_toArray,List.getElem?_cons_zero,List.getElem?_cons_succ,Sem.run_bind,run_underlying ht,Result.andThen_ok,bK hs,run_underlying hx,Sem.run_pure,if_true,asInt,asIntOf,e1,hneg,if_false,fN hi,hbig,Int.toNat_natCast,Bool.not_true,Bool.false_eq_true,h0,hneed,hz0,
   hmax,hnext,hq,run_askRoom,ho',zeroValue,hz,eI]
 ·simp only [List.getElem?_toArray,List.getElem?_cons_zero,List.getElem?_cons_succ,Sem.run_bind,run_underlying ht,Result.andThen_ok,bK hs,run_underlying hx,Sem.run_pure,if_true,asInt,asIntOf,e1,hneg,if_false,fN hi,hbig,Int.toNat_natCast,Bool.not_true,Bool.false_eq_true,h0,hneed,
   hmax,hnext,hq,run_askRoom,ho',zeroValue,hz,eI]
theorem oX {t xt e ty n bytes id m:Nat} {z:List AV} {x v y:AV} {vx vy:Value} {fr:Option Nat} {H':Heap} {kq:IntKind} (ht:P.underlying t=some (.slice e)) (hn:sizeOf? P e=some n) (hb:bytesOf? P e=some bytes) (hz:zeroCells? P e=some z) (hzl:z.length=n)
  (hxt:P.underlying xt=some (.int kq)) (hH:HR P μ F H w) (hid:μ id=none) (hlt:id<H.next) (hI:I id) (hx:VR μ F w x vx) (hy:VR μ F w y vy) (hm:iU y=some m) (hm1:m*bytes<=2^46) (hm2:m<2^62)
  (h:dm H id n bytes e x m ((List.replicate m z).flatten) fr=some (v,H')) :
  ∃ u w' μ',(Builtin.append_ #[t,xt] ty #[vx,vy]).run P w=.ok u w'/\fL I P μ F H w v H' u w' μ':=by
 obtain ⟨i,zv,hi,hzv,hzc⟩:=pb hz
 have hzr:=lB (μ:=μ) (F:=F) (w:=w) hzc
 have hzs:zv.cells.size=n:=by
  have:=hzr.1
  simp at this; omega
 have hib:i.bytes=bytes:=by
  simp only [bytesOf?,hi,Option.map_some,Option.some.injEq] at hb; exact hb
 obtain ⟨base,k,cap,rfl⟩:=pk h hx
 obtain ⟨kx,rfl⟩:∃ kx,vy=.int kx (m:Int):=by
  cases y with
  | int kx q =>
   cases q with
   | ofNat q=>simp only [iU,Option.some.injEq] at hm; subst hm; cases hy; exact ⟨kx,rfl⟩
   | negSucc q=>simp [iU] at hm
  | _=>simp [iU] at hm
 have hzl2:(Builtin.zeroCells zv.cells m).toList=(List.replicate m zv.cells.toList).flatten:=by
  unfold Builtin.zeroCells
  exact eW _ _ rfl
 have hnl:LR μ F w ((List.replicate m z).flatten) (Builtin.zeroCells zv.cells m).toList:=by rw [hzl2]; exact hzr.rep m
 refine kz (nv:=Builtin.zeroCells zv.cells m) (zv:=zv) hH hid hlt hI hn hzs hx hnl (by simp [hzl]) h ?_ ?_
 ·intro base' n' cap' e1 hle
  cases e1
  exact sI ht hn hi hib hzv hzs hxt hm2 hm1 hle
 ·intro base' n' cap' ov e1 hnle hB hN hov
  cases e1
  exact qW ht hn hi hib hzv hzs hxt hm2 hm1 hov hnle hB hN
theorem mS:∀ (cs:List AV) (s r:ByteArray) (nv:List Value),jL cs s=some r->LR μ F w cs nv->∃ ns:List Int,nv=ns.map (Value.int .u8)/\r=ns.foldl (fun r n=>r.push (UInt8.ofNat n.toNat)) s
 | [],s,r,nv,h,hl=>by
  have:=hl.1
  cases nv with
  | nil=>cases h; exact ⟨[],rfl,rfl⟩
  | cons x nv=>simp at this
 | c :: cs,s,r,nv,h,hl=>by
  cases nv with
  | nil=>have:=hl.1; simp at this
  | cons x nv =>
   have hx:=hl.head
   obtain ⟨q,rfl⟩:∃ q,c=.int .u8 q:=by
    unfold jL at h
    split at h
    ·rename_i e; cases e
    ·rename_i e; cases e; exact ⟨_,rfl⟩
    ·cases h
   simp only [jL] at h
   cases hx
   obtain ⟨ns,h1,h2⟩:=mS cs _ r nv h hl.tail
   exact ⟨q :: ns,by rw [h1]; rfl,by rw [h2]; rfl⟩
theorem rk {src dst e:TypeId} {x:AV} {vx:Value} {s:ByteArray} (hs:P.underlying src=some (.slice e)) (he:P.underlying e=some (.int .u8)) (hd:P.underlying dst=some .string)
  (hH:HR P μ F H w) (hx:VR μ F w x vx) (h:gZ H x=some s):(convert src dst vx).run P w=.ok (.string s) w:=by
 have hnostr:∀ t,x ≠ .str t:=fun t e=>by subst e; simp [gZ] at h
 have h':(match gG x with | none=>none | some n=>match bE H 1 n x with | none=>none | some cs=>jL cs .empty)=some s:=by
  unfold gZ at h
  split at h
  ·cases h
  ·exact h
 split at h'
 ·cases h'
 ·rename_i n hn
  split at h'
  ·cases h'
  ·rename_i cs hcs
   obtain ⟨-,nv,hnv,hnl⟩:=gR (P:=P) hH hx hcs
   obtain ⟨ns,hns,rfl⟩:=mS _ _ _ _ h' hnl
   have hlen:=j9 (P:=P) hx hn
   have hv:=hnv w rfl
   subst hns
   obtain ⟨base,k,cap,rfl⟩:∃ base k cap,vx=.slice base k cap:=by
    cases x <;> simp only [gG] at hn <;> first | (cases hn; done) | skip
    ·exact absurd rfl (hnostr _)
    ·cases hx; exact ⟨_,_,_,rfl⟩
    ·cases hx <;> exact ⟨_,_,_,rfl⟩
    ·cases hx; exact ⟨_,_,_,rfl⟩
   rw [run_convert_bytes_string w src dst e base k cap hs he hd]
   have hk:k=n:=by
    have e:(Builtin.lenOf (.slice base k cap)).run P w=.ok k w:=rfl
    rw [e] at hlen
    cases hlen; rfl
   subst hk
   cases base with
   | none =>
    have:ns=[]:=by
     have e:(Builtin.firstCells 1 k (.slice none k cap)).run P w=.ok #[] w:=rfl
     rw [e] at hv
     cases ns with
     | nil=>rfl
     | cons a l=>simp at hv
    subst this
    simp [Conv.bytesToString]
   | some a =>
    simp only [Builtin.firstCells,Nat.mul_one] at hv
    exact run_bytesToString w a k cap ns hv
theorem qF (w:World) (arr:Array Value) (ty:TypeId):(w.alloc (.cells arr ty)).freeze ⟨w.heap.size,arr.size,none⟩ 1=w.alloc (.cells arr ty (arr.size,arr.size+1)):=by
 simp only [World.freeze,World.alloc]
 rw [if_neg (by omega)]
 congr 1
 apply Array.ext_getElem?
 intro j
 rw [Array.getElem?_modify]
 by_cases hj:w.heap.size=j
 ·subst hj; simp
 ·rw [if_neg hj,Array.getElem?_push,Array.getElem?_push,if_neg (Ne.symm hj),if_neg (Ne.symm hj)]
theorem oK {src dst e:TypeId} {vx:Value} {s:ByteArray} {id:Nat} (hs:P.underlying src=some .string) (he:P.underlying e=some (.int .u8)) (hd:P.underlying dst=some (.slice e)) (hsz:sizeOf? P e=some 1)
  (hH:HR P μ F H w) (hid:μ id=none) (hlt:id<H.next) (hI:I id) (hx:VR μ F w (.str s) vx) :
  ∃ u w' μ',(convert src dst vx).run P w=.ok u w'/\fL I P μ F H w (.own id 0 s.size s.size 1 false) (H.put id (.cells (s.data.toList.map fun b=>.int .u8 b.toNat) e false)) u w' μ':=by
 cases hx
 obtain ⟨cap,hcap,hq⟩:∃ cap,s.size<=cap/\(choose (Question.appendCap s.size 0 e)).run P w=.ok cap { w with drawn:=w.drawn+1 } :=
  ⟨(Question.appendCap s.size 0 e).cut (w.tape w.drawn (Question.appendCap s.size 0 e)),by simp [Question.cut],by rw [run_choose,if_neg (by simp [Question.forced])]⟩
 obtain ⟨arr,harr⟩:∃ arr:Array Value,arr=(s.data.map fun b=>Value.int .u8 b.toNat)++Array.replicate (cap-s.size) (.int .u8 0):=⟨_,rfl⟩
 have hsd:s.data.size=s.size:=rfl
 have hasz:arr.size=cap:=by rw [harr]; simp; omega
 have hrun:(convert src dst (.string s)).run P w=.ok (.slice (some ⟨w.heap.size,0,none⟩) s.size cap) (({ w with drawn:=w.drawn+1 }:World).alloc (.cells arr e (arr.size,arr.size+1))):=by
  have h1:(convert src dst (.string s)).run P w=(Conv.stringToBytes e s).run P w:=by
   simp [convert,run_underlying hs,run_underlying hd,run_underlying he]
  rw [h1]
  unfold Conv.stringToBytes
  simp only [Sem.run_bind,hq,Result.andThen_ok,<- harr,eI,Sem.run_pure]
  have h2:(markStringish ⟨w.heap.size,0,none⟩).run P (({ w with drawn:=w.drawn+1 }:World).alloc (.cells arr e))=.ok () ((({ w with drawn:=w.drawn+1 }:World).alloc (.cells arr e)).freeze ⟨w.heap.size,arr.size,none⟩ 1):=by
   have hh:(({ w with drawn:=w.drawn+1 }:World).alloc (.cells arr e)).heap[w.heap.size]? = some (.cells arr e):=by simp [World.alloc]
   have hsh:(({ w with drawn:=w.drawn+1 }:World).alloc (.cells arr e)).shape? w.heap.size=some (e,arr.size):=by simp only [World.shape?,hh]
   unfold markStringish
   simp only [Sem.run_bind,run_shape,hsh,Result.andThen_ok,run_freeze]
  have h3:=qF ({ w with drawn:=w.drawn+1 }:World) arr e
  have h3:(({ w with drawn:=w.drawn+1 }:World).alloc (.cells arr e)).freeze ⟨w.heap.size,arr.size,none⟩ 1=({ w with drawn:=w.drawn+1 }:World).alloc (.cells arr e (arr.size,arr.size+1)):=h3
  rw [h3] at h2
  rw [h2]
  rfl
 obtain ⟨q1,q2⟩:=iQ (I:=I) hH hid hlt (.cells arr e (arr.size,arr.size+1)) (.cells (s.data.toList.map fun b=>AV.int .u8 b.toNat) e false) arr.size 1 (fun w' hw hn hnF =>
  ⟨arr,(arr.size,arr.size+1),hn,rfl,hsz,by simp [hasz]; omega,fun i c v hc hv=>by
   rw [List.getElem?_map,Option.map_eq_some_iff] at hc
   obtain ⟨b,hb,rfl⟩:=hc
   have hi:i<s.data.size:=by
    have:=(List.getElem?_eq_some_iff.1 hb).1
    simpa using this
   rw [harr,Array.getElem?_append_left (by simpa using hi),Array.getElem?_map] at hv
   have hb':s.data[i]? = some b:=by simpa using hb
   rw [hb'] at hv
   cases hv
   exact .int _ _,fun h=>(by cases h),fun _=>trivial⟩) hI ({ w with drawn:=w.drawn+1 }:World) rfl Tp.draw rfl rfl
 exact ⟨_,_,_,hrun,.own id 0 s.size s.size 1 false _ cap (upd_same id _) rfl (Nat.le_refl _) hcap (fun h=>by cases h) (by simp [hasz]),q1,q2⟩
end
section
variable {I:Nat->Prop} {P:Program} {μ:Mu} {F:Nat->Prop} {H:Heap} {w:World} {T:Tm} {a:Act}
theorem uX (hH:HR P μ F H w) {x:Operand} {cs:List AV} (h:tN x=some cs) {a:Act}:VR μ F w (.dp cs 0) (a.eval x):=by
 cases x with
 | global g=>exact hH.gl _ _ h
 | _=>cases h
theorem rV {o:Oper} {ao:AOp} {v:AV} {H':Heap} {id:Nat} (hc:sD P o=some ao) (hp:aX (Src.ev T) H id ao=some (v,H')) (hT:LR μ F w T a.tmps.toList) (hH:HR P μ F H w)
  (hid:μ id=none) (hlt:id<H.next) (hI:I id):∃ u w' μ',Ai P a w o u w'/\fL I P μ F H w v H' u w' μ':=by
 obtain ⟨dst,op,ty,pos,after,guard⟩:=o
 cases op <;> simp only [sD] at hc
 case alloc e =>
  simp only [Option.bind_eq_bind,Option.bind_eq_some_iff] at hc
  obtain ⟨z,hz,hc⟩:=hc; cases hc
  simp only [aX] at hp; cases hp
  obtain ⟨u,w',μ',h1,h2⟩:=sJ hz hH hid hlt hI
  exact ⟨u,w',μ',.inl (bN h1),h2⟩
 case box e x =>
  simp only [Option.bind_eq_bind,Option.bind_eq_some_iff] at hc
  obtain ⟨n,hn,s,hs,hc⟩:=hc; cases hc
  simp only [aX] at hp
  split at hp
  ·rename_i h1
   cases hp
   obtain ⟨u,w',μ',h1,h2⟩:=xr hn (aK hT hs) h1 hH hid hlt hI
   exact ⟨u,w',μ',.inl (bN h1),h2⟩
  ·cases hp
 case buildSlice t len parts =>
  simp only [Option.bind_eq_bind,Option.bind_eq_some_iff] at hc
  obtain ⟨d,hd,hc⟩:=hc
  split at hc
  ·rename_i e
   simp only [Option.bind_eq_some_iff] at hc
   obtain ⟨n,hn,z,hz,ps,hps,hc⟩:=hc
   split at hc
   ·rename_i hle
    cases hc
    simp only [aX] at hp
    split at hp
    ·cases hp
    ·rename_i cs hf
     cases hp
     obtain ⟨u,w',μ',h1,h2⟩:=my (parts:=parts.toList) hT hd hn hz hle.2 hle.1 hps hf hH hid hlt hI
     refine ⟨u,w',μ',.inl (bN ?_),h2⟩
     simpa using h1
   ·cases hc
  ·cases hc
 case indexAddr t x i =>
  simp only [Option.bind_eq_bind,Option.bind_eq_some_iff] at hc
  obtain ⟨d,hd,hc⟩:=hc
  split at hc
  ·simp only [Option.bind_eq_some_iff] at hc
   obtain ⟨n,hn,sx,hsx,si,hsi,hc⟩:=hc; cases hc; cases hp
  ·rename_i len e
   split at hc
   ·rename_i cs hcs
    simp only [Option.bind_eq_some_iff] at hc
    obtain ⟨n,hn,si,hsi,hc⟩:=hc; cases hc
    simp only [aX] at hp
    split at hp
    ·rename_i ix hix
     split at hp
     ·rename_i hlt
      cases hp
      obtain ⟨k,hk⟩:=eF hix (aK hT hsi)
      have hx:=uX hH hcs (a:=a)
      generalize hv:a.eval x=vx at hx
      cases hx with
      | dp _ _ blk off arr ty' fr g1 g2 g4 g5 =>
       have hrun:(Instr.indexAt t (a.eval x) (a.eval i)).run P w=.ok (.pointer (some ⟨blk,off+0+ix*n,none⟩)) w:=by
        rw [hv,hk]
        simp [Instr.indexAt,Instr.sureAddr,asIntOf,run_underlying hd,bK hn,gr,hlt]
       refine ⟨_,w,μ,.inl (bN hrun),⟨?_,hH,Stp.refl _ _ _ _ _ _⟩⟩
       rw [Nat.add_zero]
       exact .dp _ _ blk off arr ty' fr g1 g2 g4 g5
     ·cases hp
    ·cases hp
   ·simp only [Option.bind_eq_some_iff] at hc
    obtain ⟨n,hn,sx,hsx,si,hsi,hc⟩:=hc; cases hc; cases hp
  ·cases hc
 case load t x =>
  split at hc
  ·rename_i cs hcs
   simp only [Option.bind_eq_bind,Option.bind_eq_some_iff] at hc
   obtain ⟨k,hk,hc⟩:=hc; cases hc
   simp only [aX,Option.map_eq_some_iff] at hp
   obtain ⟨v',hv',hp⟩:=hp
   cases hp
   obtain ⟨u,h1,h2⟩:=n8 hH hk (uX hH hcs (a:=a)) (v:=v) hv'
   exact ⟨u,w,μ,.inl (bN h1),⟨h2,hH,Stp.refl _ _ _ _ _ _⟩⟩
  simp only [Option.bind_eq_bind,Option.bind_eq_some_iff] at hc
  obtain ⟨k,hk,s,hs,hc⟩:=hc; cases hc
  simp only [aX,Option.map_eq_some_iff] at hp
  obtain ⟨v',hv',hp⟩:=hp
  cases hp
  obtain ⟨u,h1,h2⟩:=n8 hH hk (aK hT hs) hv'
  exact ⟨u,w,μ,.inl (bN h1),⟨h2,hH,Stp.refl _ _ _ _ _ _⟩⟩
 case convert ta tb x =>
  simp only [Option.bind_eq_bind,Option.bind_eq_some_iff] at hc
  obtain ⟨d,hd,d',hd',hc⟩:=hc
  split at hc
  ·simp only [Option.bind_eq_some_iff] at hc
   obtain ⟨s,hs,hc⟩:=hc
   cases hc; cases hp
  ·simp only [Option.bind_eq_some_iff] at hc
   obtain ⟨s,hs,hc⟩:=hc
   cases hc; cases hp
  ·simp only [Option.bind_eq_some_iff] at hc
   obtain ⟨e,he,hc⟩:=hc
   split at hc
   ·simp only [Option.bind_eq_some_iff] at hc
    obtain ⟨s,hs,hc⟩:=hc
    cases hc
    simp only [aX,Option.map_eq_some_iff] at hp
    obtain ⟨r,hr,hp⟩:=hp
    cases hp
    exact ⟨_,w,μ,.inl (bN (rk hd he hd' hH (aK hT hs) hr)),⟨.str _,hH,Stp.refl _ _ _ _ _ _⟩⟩
   ·cases hc
  ·simp only [Option.bind_eq_some_iff] at hc
   obtain ⟨e,he,hc⟩:=hc
   split at hc
   ·simp only [Option.bind_eq_some_iff] at hc
    obtain ⟨n,hn,hc⟩:=hc
    split at hc
    ·rename_i hn1
     subst hn1
     simp only [Option.bind_eq_some_iff] at hc
     obtain ⟨s,hs,hc⟩:=hc
     cases hc
     simp only [aX] at hp
     split at hp
     ·rename_i str hstr
      cases hp
      obtain ⟨u,w',μ',h1,h2⟩:=oK hd he hd' hn hH hid hlt hI (hstr ▸ aK hT hs)
      exact ⟨u,w',μ',.inl (bN h1),h2⟩
     ·cases hp
    ·cases hc
   ·cases hc
  ·cases hc
 case store t x y =>
  simp only [Option.bind_eq_bind,Option.bind_eq_some_iff] at hc
  obtain ⟨n,hn,sx,hsx,sy,hsy,hc⟩:=hc; cases hc
  simp only [aX,Option.map_eq_some_iff] at hp
  obtain ⟨v',hv',hp⟩:=hp
  cases hp
  obtain ⟨w',h1,h2⟩:=rn (I:=I) hn hH (aK hT hsx) (aK hT hsy) hv'
  exact ⟨undef,w',μ,.inr ⟨yS h1,rfl⟩,h2⟩
 case makeMap t r =>
  simp only [Option.bind_eq_bind,Option.bind_eq_some_iff] at hc
  obtain ⟨d,hd,hc⟩:=hc
  split at hc
  ·split at hc
   ·rename_i hr
    cases hc
    simp only [aX] at hp; cases hp
    obtain rfl:r=none:=by simpa using hr
    obtain ⟨u,w',μ',h1,h2⟩:=rN (t:=t) hH hid hlt hI
    exact ⟨u,w',μ',.inl (bN h1),h2⟩
   ·cases hc
  ·cases hc
 case makeSlice t l c =>
  simp only [Option.bind_eq_bind,Option.bind_eq_some_iff] at hc
  obtain ⟨d,hd,hc⟩:=hc
  split at hc
  ·rename_i e
   simp only [Option.bind_eq_some_iff] at hc
   obtain ⟨n,hn,b,hb,z,hz,sl,hsl,sc,hsc,hc⟩:=hc; cases hc
   simp only [aX] at hp
   split at hp
   ·rename_i l' c' hl' hc'
    split at hp
    ·rename_i hcond
     cases hp
     obtain ⟨kl,hkl⟩:=eF hl' (aK hT hsl)
     obtain ⟨kc,hkc⟩:=eF hc' (aK hT hsc)
     obtain ⟨u,w',μ',h1,h2⟩:=tG hd hn hb hz hcond.2.2.2 hkl hkc hcond.1 hcond.2.1 hcond.2.2.1 hH hid hlt hI
     exact ⟨u,w',μ',.inl (bN h1),h2⟩
    ·cases hp
   ·cases hp
  ·cases hc
 case lookup t x i ok =>
  simp only [Option.bind_eq_bind,Option.bind_eq_some_iff] at hc
  obtain ⟨d,hd,hc⟩:=hc
  split at hc
  ·rename_i kt e
   split at hc
   ·rename_i hk
    simp only [Option.bind_eq_some_iff] at hc
    obtain ⟨zv,hzv,kd,hkd,z,hz,sx,hsx,si,hsi,hc⟩:=hc; cases hc
    simp only [aX,Option.map_eq_some_iff] at hp
    obtain ⟨v',hv',hp⟩:=hp
    cases hp
    obtain ⟨u,h1,h2⟩:=qt hH hd hk hkd (Option.bind_eq_some_iff.2 hzv) hz (aK hT hsx) (aK hT hsi) hv'
    exact ⟨u,w,μ,.inl (bN h1),⟨h2,hH,Stp.refl _ _ _ _ _ _⟩⟩
   ·cases hc
  ·cases hc
 case range t x =>
  simp only [Option.bind_eq_bind,Option.bind_eq_some_iff] at hc
  obtain ⟨d,hd,hc⟩:=hc
  split at hc
  ·simp only [Option.bind_eq_some_iff] at hc
   obtain ⟨s,hs,hc⟩:=hc
   cases hc
   simp only [aX] at hp
   split at hp
   ·rename_i str hstr
    cases hp
    obtain ⟨u,w',μ',h1,h2⟩:=qn (I:=I) hd hH hid hlt hI (hstr ▸ aK hT hs)
    exact ⟨u,w',μ',.inl (bN h1),h2⟩
   ·cases hp
  ·cases hc
 case next x sb =>
  split at hc
  ·rename_i hsb
   subst hsb
   simp only [Option.map_eq_some_iff] at hc
   obtain ⟨s,hs,hc⟩:=hc
   cases hc
   simp only [aX] at hp
   obtain ⟨u,w',h1,h2⟩:=rK (I:=I) (ty:=ty) hH (aK hT hs) hp
   exact ⟨u,w',μ,.inl (bN h1),h2⟩
  ·cases hc
 case mapUpdate t m k x =>
  simp only [Option.bind_eq_bind,Option.bind_eq_some_iff] at hc
  obtain ⟨d,hd,hc⟩:=hc
  split at hc
  ·rename_i kt e
   split at hc
   ·rename_i hk
    simp only [Option.bind_eq_some_iff] at hc
    obtain ⟨kd,hkd,sm,hsm,sk,hsk,sx,hsx,hc⟩:=hc; cases hc
    simp only [aX,Option.map_eq_some_iff] at hp
    obtain ⟨v',hv',hp⟩:=hp
    cases hp
    obtain ⟨w',h1,h2⟩:=lA (I:=I) hH hd hk hkd (aK hT hsm) (aK hT hsk) (aK hT hsx) hv'
    exact ⟨undef,w',μ,.inr ⟨yS h1,rfl⟩,h2⟩
   ·cases hc
  ·cases hc
 case insert t m k x =>
  simp only [Option.bind_eq_bind,Option.bind_eq_some_iff] at hc
  obtain ⟨d,hd,hc⟩:=hc
  split at hc
  ·rename_i kt e
   split at hc
   ·rename_i hk
    simp only [Option.bind_eq_some_iff] at hc
    obtain ⟨kd,hkd,sm,hsm,sk,hsk,sx,hsx,hc⟩:=hc; cases hc
    simp only [aX,Option.map_eq_some_iff] at hp
    obtain ⟨v',hv',hp⟩:=hp
    cases hp
    obtain ⟨w',h1,h2⟩:=lA (I:=I) hH hd hk hkd (aK hT hsm) (aK hT hsk) (aK hT hsx) hv'
    exact ⟨undef,w',μ,.inr ⟨yS h1,rfl⟩,h2⟩
   ·cases hc
  ·cases hc
 case call c =>
  simp only [Option.bind_eq_bind,Option.bind_eq_some_iff] at hc
  obtain ⟨args,hargs,hc⟩:=hc
  obtain ⟨callee,cargs,argTypes⟩:=c
  simp only at hc hargs
  cases callee with
  | value f =>
   simp only [Option.bind_eq_some_iff] at hc
   obtain ⟨s,hs,hc⟩:=hc; cases hc; cases hp
  | invoke r m=>cases hc
  | builtin b =>
   have two:∀ {x y:TypeId},argTypes.toList=[x,y]->argTypes = #[x,y]:=by
    intro x y h; obtain ⟨l⟩:=argTypes; simp at h; subst h; rfl
   have one:∀ {x:TypeId},argTypes.toList=[x]->argTypes = #[x]:=by
    intro x h; obtain ⟨l⟩:=argTypes; simp at h; subst h; rfl
   simp only at hc
   split at hc
   ·
    simp only [Option.bind_eq_some_iff] at hc
    obtain ⟨d,hd,hc⟩:=hc
    split at hc
    ·cases hc; cases hp
    ·cases hc; cases hp
    ·rename_i kt e
     cases hc
     obtain ⟨vx,hvx,hr⟩:=uJ hT hargs
     have hat:=one (by assumption)
     simp only [aX] at hp
     split at hp
     ·rename_i e'; rw [e'] at hr; cases hp; cases hr
      exact ⟨_,w,μ,.inl (dO (s:=Builtin.len_ argTypes ty (cargs.map a.eval)) (by rw [hvx,hat]; simp [Builtin.len_,run_underlying hd]; rfl) (fun _=>rfl)),⟨.int _ _,hH,Stp.refl _ _ _ _ _ _⟩⟩
     ·rename_i b e'; rw [e'] at hr
      split at hp
      ·rename_i es hb
       cases hp
       cases hr with
       | map _ L hL =>
       obtain ⟨L',hL',hE⟩:=hH.ent b _ hb
       rw [hL] at hL'; cases hL'
       obtain ⟨hnF,xs,c,g1,g2,g3⟩:=hE
       have hsz:xs.size=es.length:=by have:=g2.1; simp at this; omega
       refine ⟨_,w,μ,.inl (dO (s:=Builtin.len_ argTypes ty (cargs.map a.eval)) (by rw [hvx,hat]; simp [Builtin.len_,run_underlying hd,g9 g1]; rfl) (fun _=>rfl)),⟨?_,hH,Stp.refl _ _ _ _ _ _⟩⟩
       rw [hsz]
       exact .int _ _
      ·rename_i es hb
       cases hp
       cases hr with
       | map _ L hL =>
       obtain ⟨L',hL',hE⟩:=hH.ent b _ hb
       rw [hL] at hL'; cases hL'
       obtain ⟨xs,c,g1,g2,g3⟩:=hE
       have hsz:xs.size=es.length:=by have:=g2.1; simp at this; omega
       refine ⟨_,w,μ,.inl (dO (s:=Builtin.len_ argTypes ty (cargs.map a.eval)) (by rw [hvx,hat]; simp [Builtin.len_,run_underlying hd,g9 g1]; rfl) (fun _=>rfl)),⟨?_,hH,Stp.refl _ _ _ _ _ _⟩⟩
       rw [hsz]
       exact .int _ _
      ·cases hp
     ·cases hp
    ·cases hc
   ·
    simp only [Option.bind_eq_some_iff] at hc
    obtain ⟨d,hd,hc⟩:=hc
    split at hc
    ·cases hc; cases hp
    ·cases hc
   ·cases hc; cases hp
   ·cases hc; cases hp
   ·
    simp only [Option.bind_eq_some_iff] at hc
    obtain ⟨d,hd,d',hd',hc⟩:=hc
    have hat:=two (by assumption)
    obtain ⟨vx,vy,hv,hr1,hr2⟩:=rj hT hargs
    split at hc
    ·rename_i e e'
     simp only [Option.bind_eq_some_iff] at hc
     obtain ⟨n,hn,z,hz,hc⟩:=hc
     split at hc
     ·rename_i hzl
      simp only [Option.bind_eq_some_iff] at hc
      obtain ⟨by',hby,hc⟩:=hc
      cases hc
      simp only [aX] at hp
      split at hp
      ·cases hp
      ·rename_i m hm
       split at hp
       ·cases hp
       ·rename_i news hnews
        obtain ⟨u,w',μ',h1,h2⟩:=lT (ty:=ty) hd hn hby hz hzl (.inl ⟨e',hd'⟩) hH hid hlt hI hr1 hr2 hm hnews hp
        exact ⟨u,w',μ',.inl (dO (s:=Builtin.append_ argTypes ty (cargs.map a.eval)) (by rw [hv,hat]; exact h1) (fun _=>rfl)),h2⟩
     ·cases hc
    ·rename_i e
     simp only [Option.bind_eq_some_iff] at hc
     obtain ⟨n,hn,z,hz,hc⟩:=hc
     split at hc
     ·rename_i hzl
      simp only [Option.bind_eq_some_iff] at hc
      obtain ⟨by',hby,hc⟩:=hc
      cases hc
      simp only [aX] at hp
      split at hp
      ·cases hp
      ·rename_i m hm
       split at hp
       ·cases hp
       ·rename_i news hnews
        obtain ⟨u,w',μ',h1,h2⟩:=lT (ty:=ty) hd hn hby hz hzl (.inr hd') hH hid hlt hI hr1 hr2 hm hnews hp
        exact ⟨u,w',μ',.inl (dO (s:=Builtin.append_ argTypes ty (cargs.map a.eval)) (by rw [hv,hat]; exact h1) (fun _=>rfl)),h2⟩
     ·cases hc
    ·rename_i e
     simp only [Option.bind_eq_some_iff] at hc
     obtain ⟨n,hn,z,hz,hc⟩:=hc
     split at hc
     ·rename_i hzl
      simp only [Option.bind_eq_some_iff] at hc
      obtain ⟨by',hby,hc⟩:=hc
      cases hc
      simp only [aX] at hp
      split at hp
      ·cases hp
      ·rename_i m hm
       split at hp
       ·rename_i hcond
        obtain ⟨u,w',μ',h1,h2⟩:=oX (ty:=ty) hd hn hby hz hzl hd' hH hid hlt hI hr1 hr2 hm hcond.2.1 hcond.2.2 hp
        exact ⟨u,w',μ',.inl (dO (s:=Builtin.append_ argTypes ty (cargs.map a.eval)) (by rw [hv,hat]; exact h1) (fun _=>rfl)),h2⟩
       ·cases hp
     ·cases hc
    ·cases hc
   ·
    simp only [Option.bind_eq_some_iff] at hc
    obtain ⟨d,hd,hc⟩:=hc
    split at hc
    ·rename_i e
     simp only [Option.bind_eq_some_iff] at hc
     obtain ⟨n,hn,z,hz,hc⟩:=hc
     cases hc
     obtain ⟨vx,hvx,hr⟩:=uJ hT hargs
     have hat:=one (by assumption)
     simp only [aX,Option.map_eq_some_iff] at hp
     obtain ⟨v',hv',hp⟩:=hp
     cases hp
     obtain ⟨u,w',h1,h2⟩:=sv (I:=I) (ty:=ty) hd hn hz hH hr hv'
     exact ⟨u,w',μ,.inl (dO (s:=Builtin.clear_ argTypes ty (cargs.map a.eval)) (by rw [hvx,hat]; exact h1) (fun _=>rfl)),h2⟩
    ·cases hc
   ·
    simp only [Option.bind_eq_some_iff] at hc
    obtain ⟨d,hd,hc⟩:=hc
    split at hc
    ·rename_i e
     simp only [Option.bind_eq_some_iff] at hc
     obtain ⟨n,hn,hc⟩:=hc
     cases hc
     obtain ⟨vx,vy,hv,hr1,hr2⟩:=rj hT hargs
     have hat:=two (by assumption)
     simp only [aX] at hp
     obtain ⟨u,w',h1,h2⟩:=tW (I:=I) (ty:=ty) hd hn hH hr1 hr2 hp
     exact ⟨u,w',μ,.inl (dO (s:=Builtin.copy_ argTypes ty (cargs.map a.eval)) (by rw [hv,hat]; exact h1) (fun _=>rfl)),h2⟩
    ·cases hc
   ·cases hc
 all_goals (try simp only [Option.bind_eq_bind,Option.bind_eq_some_iff,Option.map_eq_some_iff] at hc)
 all_goals (repeat' (first | (cases hc; done) | (obtain ⟨_,_,hc⟩:=hc) | (simp only [Option.bind_eq_some_iff] at hc) | (split at hc)))
 all_goals first | (cases hp; done) | (cases hc; cases hp; done)
end
def Runs (F:Fence) (n:Nat) (P:Program) (r:Result Next) (post:Value->World->Prop):Prop :=
 match r with
 | .ok (.value u) w'=>post u w'
 | .ok (.enter f args) w'=>CallsIn F n P f args w' fun e w''=>∃ u,e=.returned u/\post u w''
 | .ok (.round l f tmps asg body) w'=>RoundIn F n P l f tmps asg body w' fun e w''=>∃ u,e=.returned u/\post u w''
 | _=>False
def FenceOK (F:Fence) (rd:Bool):Prop:=(rd=false/\F=Fence.wide)\/(rd=true/\∃ l,F=Fence.wide.inRound l)
def kA:Nat->Prop:=fun _=>False
def iq (P:Program) (μ:Mu) (t:Task) (vs:List Value) (w:World):Result Next :=
 match t with
 | .fn f _=>(callFunc f vs.toArray).run P w
 | .ent f _=>(callFunc f vs.toArray).run P w
 | .round b _=>match μ b with
  | some L=>(Instr.yield L.blk vs.toArray).run P w
  | none=>.halt (.stuck "") w
def Task.args:Task->List AV
 | .fn _ args=>args
 | .round _ args=>args
 | .ent _ args=>args
def gL (P:Program) (cal:iH):Prop:=∀ t H v H',cal t H=some (v,H')->∀ (μ:Mu) (F:Nat->Prop) (w:World) (vs:List Value) (fence:Fence) (rd:Bool) (n:Nat),FenceOK fence rd->HR P μ F H w->LR μ F w t.args vs ->
 (∀ b args,t=.round b args->∃ L,μ b=some L) ->
 (∀ f args,t=.ent f args->(callFunc f vs.toArray).run P w=.ok (.enter f vs.toArray) w)/\Runs fence n P (iq P μ t vs w) fun u w'=>∃ μ',fL kA P μ F H w v H' u w' μ'
section
variable {P:Program}
theorem Runs.mono {F:Fence} {n:Nat} {r:Result Next} {p q:Value->World->Prop} (h:Runs F n P r p) (hpq:∀ u w,p u w->q u w):Runs F n P r q:=by
 unfold Runs at *
 split at h
 ·exact hpq _ _ h
 ·exact h.mono fun e w ⟨u,h1,h2⟩=>⟨u,h1,hpq _ _ h2⟩
 ·exact h.mono fun e w ⟨u,h1,h2⟩=>⟨u,h1,hpq _ _ h2⟩
 ·exact h.elim
theorem FenceOK.fn {F:Fence} {rd:Bool} (h:FenceOK F rd) (f:FuncId):F.fn f:=by
 rcases h with ⟨_,rfl⟩ | ⟨_,l,rfl⟩ <;> trivial
theorem FenceOK.depth {F:Fence} {rd:Bool} (h:FenceOK F rd) (n:Nat):F.depth.isSome=true->1<=n:=by
 rcases h with ⟨_,rfl⟩ | ⟨_,l,rfl⟩ <;> intro h <;> cases h
theorem mf {fence:Fence} {rd:Bool} {n:Nat} {o:Oper} {a:Act} {w w':World} {u:Value} {next:Act->World->Prop} {Q:Exit->Act->World->Prop} (hF:FenceOK fence rd) (hd:∀ c,o.op ≠ .defer c)
  (h:Ai P a w o u w') (hn:next (a.put o.dst u) w'):o.wpIn fence n P a w next Q:=by
 refine ⟨fun f _=>hF.fn f,?_⟩
 rw [Oper.semAt_eq _ _ _ hd]
 rcases h with h | ⟨h,rfl⟩
 ·rw [h]; exact hn
 ·rw [h]; exact hn
theorem wy {fence:Fence} {rd:Bool} {n:Nat} {o:Oper} {a:Act} {w:World} {next:Act->World->Prop} {Q:Exit->Act->World->Prop} (hF:FenceOK fence rd) (hd:∀ c,o.op ≠ .defer c)
  (h:Runs fence (n-1) P ((execOp a.eval o).run P w) fun u w'=>next (a.put o.dst u) w'):o.wpIn fence n P a w next Q:=by
 refine ⟨fun f _=>hF.fn f,?_⟩
 rw [Oper.semAt_eq _ _ _ hd]
 generalize (execOp a.eval o).run P w=r at h
 unfold Runs at h
 split at h
 ·exact h
 ·exact ⟨hF.depth n,h.mono fun e w ⟨u,h1,h2⟩=>by subst h1; exact h2⟩
 ·exact ⟨hF.depth n,h.mono fun e w ⟨u,h1,h2⟩=>by subst h1; exact h2⟩
 ·exact h.elim
theorem xq {o:Oper} {ao:AOp} (h:sD P o=some ao):∀ c,o.op ≠ .defer c:=by
 intro c hc
 unfold sD at h
 rw [hc] at h
 cases h
variable {μ:Mu} {F:Nat->Prop} {H:Heap} {w:World} {T:Tm} {a:Act}
theorem rl {cal:iH} (hcal:gL P cal) {f:AV} {args:List AV} {t:Task} {v:AV} {H':Heap} {vf:Value} {vs:List Value} (hf:VR μ F w f vf) (hargs:LR μ F w args vs) (ht:gE f args=some t)
  (h:cal t H=some (v,H')) (hH:HR P μ F H w) {fence:Fence} {rd:Bool} (hF:FenceOK fence rd) (n:Nat) {c:Call} {ty:TypeId} {ρ:Operand->Value} {g:Operand} (hc:c.callee=.value g) (hg:ρ g=vf) (hvs:(c.args.map ρ).toList=vs) :
  Runs fence n P ((do let d <- resolve ρ c ty; invoke d.target d.args:Sem Next).run P w) fun u w'=>∃ μ',fL kA P μ F H w v H' u w' μ':=by
 have hvs':c.args.map ρ=vs.toArray:=by rw [<- hvs]
 cases f <;> simp only [gE] at ht <;> first | (cases ht; done) | skip
 ·rename_i fn first cap
  cases fn <;> simp only at ht <;> first | (cases ht; done) | skip
  rename_i fi
  cases ht
  cases hf with
  | fn _ _ _ us vs' h1 h2 h3 h4 =>
  have hl:=((LR.of_agg h1 h2).append hargs).append (LR.of_agg h3 h4)
  have:=(hcal _ _ _ _ h μ F w _ fence rd n hF hH hl (fun b args e=>by cases e)).2
  simp only [iq] at this
  have e:(do let d <- resolve ρ c ty; invoke d.target d.args:Sem Next).run P w=(callFunc fi (us.toList++vs++vs'.toList).toArray).run P w:=by
   simp only [resolve,hc,hg,hvs',Deferred.ofValue,Sem.run_bind,Sem.run_pure,Result.andThen_ok,invoke]
   congr 2
   apply Array.ext'; simp
  rw [e]; exact this
 ·rename_i b
  cases ht
  cases hf with
  | loopv _ L hL =>
  have:=(hcal _ _ _ _ h μ F w vs fence rd n hF hH hargs (fun b' args' e=>by cases e; exact ⟨L,hL⟩)).2
  simp only [iq,hL] at this
  have e:(do let d <- resolve ρ c ty; invoke d.target d.args:Sem Next).run P w=(Instr.yield L.blk vs.toArray).run P w:=by
   simp only [resolve,hc,hg,hvs',Deferred.ofValue,Sem.run_bind,Sem.run_pure,Result.andThen_ok,invoke]
   congr 2
   apply Array.ext'; simp
  rw [e]; exact this
theorem j3 {cal:iH} (hcal:gL P cal) {I:Nat->Prop} {o:Oper} {ao:AOp} {v:AV} {H':Heap} {id:Nat} (hc:sD P o=some ao) (hp:nh cal (Src.ev T) H id ao=some (v,H')) (hT:LR μ F w T a.tmps.toList) (hH:HR P μ F H w)
  (hid:μ id=none) (hlt:id<H.next) (hI:I id) {fence:Fence} {rd:Bool} (hF:FenceOK fence rd) {n:Nat} {next:Act->World->Prop} {Q:Exit->Act->World->Prop}
  (hn:∀ u w' μ',fL I P μ F H w v H' u w' μ'->next (a.put o.dst u) w'):o.wpIn fence n P a w next Q:=by
 have hd:=xq hc
 have easy:(match aF (Src.ev T) ao with | some v=>some (v,H) | none=>aX (Src.ev T) H id ao)=some (v,H')->o.wpIn fence n P a w next Q:=by
  intro hp
  split at hp
  ·rename_i v' hv'
   cases hp
   obtain ⟨u,h1,h2⟩:=rE hc hv' hT
   exact mf hF hd (.inl h1) (hn u w μ ⟨h2,hH,Stp.refl _ _ _ _ _ _⟩)
  ·obtain ⟨u,w',μ',h1,h2⟩:=rV hc hp hT hH hid hlt hI
   exact mf hF hd h1 (hn u w' μ' h2)
 cases ao with
 | call f args =>
  simp only [nh,Option.bind_eq_bind,Option.bind_eq_some_iff] at hp
  obtain ⟨t,ht,hp⟩:=hp
  obtain ⟨g,cargs,argTypes,hop,hg,hargs⟩:∃ g cargs argTypes,o.op=.call ⟨.value g,cargs,argTypes⟩/\bD g=some f/\cargs.toList.mapM bD=some args:=by
   obtain ⟨dst,op,ty,pos,after,guard⟩:=o
   cases op <;> simp only [sD] at hc
   case next x sb =>
    split at hc
    ·simp only [Option.map_eq_some_iff] at hc
     obtain ⟨_,_,hc⟩:=hc
     cases hc
    ·cases hc
   case call c =>
    simp only [Option.bind_eq_bind,Option.bind_eq_some_iff] at hc
    obtain ⟨as,has,hc⟩:=hc
    obtain ⟨callee,cargs,argTypes⟩:=c
    cases callee with
    | value g =>
     simp only [Option.bind_eq_some_iff] at hc
     obtain ⟨s,hs,hc⟩:=hc; cases hc
     exact ⟨g,cargs,argTypes,rfl,hs,has⟩
    | invoke r m=>cases hc
    | builtin b =>
     simp only at hc
     split at hc
     all_goals (try simp only [Option.bind_eq_some_iff] at hc)
     all_goals (repeat' (first | (cases hc; done) | (obtain ⟨_,_,hc⟩:=hc) | (simp only [Option.bind_eq_some_iff] at hc) | (split at hc)))
   all_goals (try simp only [Option.bind_eq_bind,Option.bind_eq_some_iff,Option.map_eq_some_iff] at hc)
   all_goals (repeat' (first | (cases hc; done) | (obtain ⟨_,_,hc⟩:=hc) | (simp only [Option.bind_eq_some_iff] at hc) | (split at hc)))
  have hl:=iY hT hargs
  refine wy hF hd ?_
  have hex:execOp a.eval o=(do let d <- resolve a.eval ⟨.value g,cargs,argTypes⟩ o.type; invoke d.target d.args:Sem Next):=by
   unfold execOp; rw [hop]
  rw [hex]
  have:=rl hcal (aK hT hg) hl ht hp hH hF (n-1) (c:=⟨.value g,cargs,argTypes⟩) (ty:=o.type) (ρ:=a.eval) (g:=g) rfl rfl (by simp)
  exact this.mono fun u w' ⟨μ',hμ'⟩=>hn u w' μ' ⟨hμ'.val,hμ'.heap,hμ'.stp.mono fun _ h=>h.elim⟩
 | _=>exact easy hp
end
section
variable {P:Program} {μ:Mu} {F:Nat->Prop} {H:Heap} {w:World} {T:Tm} {a:Act}
theorem nQ (hT:LR μ F w T a.tmps.toList) (d:Option Nat) {v:AV} {u:Value} (hv:VR μ F w v u):LR μ F w (gN T d v) (a.put d u).tmps.toList:=by
 cases d with
 | none=>exact hT
 | some d=>simp only [gN,Act.put,Array.toList_setIfInBounds]; exact hT.set d hv
theorem uB {μ:Mu} {F:Nat->Prop} {w:World}:VR μ F w (.tup []) undef:=.tup _ _ rfl fun i c v h=>by simp at h
theorem jT (hT:LR μ F w T a.tmps.toList) {ops:Array Oper} {o:Oper} {g:Option (Nat × Bool)} {b:Bool}
  (hg:oy ops o.guard=some g) (h:bG T g=some b):Region.wanted o (yielded ops a.tmps)=b:=by
 unfold Region.wanted
 cases hgu:o.guard with
 | none=>rw [hgu] at hg; cases hg; cases h; rfl
 | some p =>
  obtain ⟨j,want⟩:=p
  rw [hgu] at hg
  simp only [oy] at hg
  split at hg
  ·cases hg
  rename_i o' ho'
  split at hg
  ·cases hg
  rename_i d hd
  cases hg
  simp only [bG] at h
  have hy:yielded ops a.tmps j=match a.tmps[d]? with | some (.bool b)=>some b | _=>none:=by
   unfold yielded
   rw [ho']; simp [hd]; rfl
  simp only [hy]
  split at h
  ·rename_i c hc
   cases h
   obtain ⟨v,hv,hr⟩:=hT.get hc
   have:a.tmps[d]? = some v:=by simpa using hv
   cases hr
   rw [this]
   simp
  ·rename_i hc
   cases h
   obtain ⟨v,hv,hr⟩:=hT.get hc
   have:a.tmps[d]? = some v:=by simpa using hv
   cases hr
   rw [this]
   simp
  ·cases h
theorem kI {cal:iH} (hcal:gL P cal) {fence:Fence} {rd:Bool} (hF:FenceOK fence rd) {n:Nat} {ops:Array Oper} {Q:Exit->Act->World->Prop} {T':Tm} {H':Heap} {base top:Nat} {tail:List Nat} :
  ∀ (os:List Oper) (rs:List oF) (i id:Nat) (μ:Mu) (H:Heap) (w:World) (T:Tm) (a:Act),(∀ (k:Nat) (o:Oper),os[k]? = some o->ops[i+k]? = some o)->os.mapM (ow P ops)=some rs->io cal id rs T H=some (T',H')->base<=id->id+os.length<=top->id+os.length<=H.next ->
  (∀ j,id<=j->j<id+os.length->μ j=none)->LR μ F w T a.tmps.toList->HR P μ F H w ->
  (∀ a' w' μ',a'.defers=a.defers->LR μ' F w' T' a'.tmps.toList->HR P μ' F H' w'->Stp (fun b=>base<=b/\b<top) P μ F H w μ' F H' w'->wpOpsIn fence n P ops Q tail a' w') ->
  wpOpsIn fence n P ops Q (List.range' i os.length++tail) a w:=by
 intro os
 induction os with
 | nil =>
  intro rs i id μ H w T a hos hrs hrun _ _ _ _ hT hH hQ
  simp at hrs; subst hrs
  cases hrun
  exact hQ a w μ rfl hT hH (Stp.refl _ _ _ _ _ _)
 | cons o os ih =>
  intro rs i id μ H w T a hos hrs hrun hbase htop hnext hfresh hT hH hQ
  simp only [List.mapM_cons,Option.pure_def,Option.bind_eq_bind,Option.bind_eq_some_iff] at hrs
  obtain ⟨r,hr,rs',hrs',hrs⟩:=hrs
  cases hrs
  have hoi:ops[i]? = some o:=hos 0 o rfl
  have hos':∀ (k:Nat) (o:Oper),os[k]? = some o->ops[i+1+k]? = some o:=fun k o h=>by
   have:=hos (k+1) o (by simpa using h)
   rwa [show i+(k+1)=i+1+k by omega] at this
  simp only [ow,Option.map_eq_some_iff] at hr
  obtain ⟨g,hg,hr⟩:=hr
  cases hr
  simp only [List.length_cons] at htop hnext hfresh ⊢
  simp only [io] at hrun
  simp only [List.range'_succ,List.cons_append,wpOpsIn,hoi]
  split at hrun
  ·rename_i hw
   have hw':=jT (o:=o) hT hg hw
   rw [if_pos hw']
   split at hrun
   ·rename_i v H1 hop
    have hcop:sD P o=some ((sD P o).getD .bad):=by
     cases hco:sD P o with
     | some x=>rfl
     | none=>rw [hco] at hop; simp [nh,aF,aX] at hop
    refine j3 hcal (I:=fun b=>b=id) hcop hop hT hH (hfresh id (Nat.le_refl _) (by omega)) (by omega) rfl hF fun u w' μ' hdone=>?_
    refine ih rs' (i+1) (id+1) μ' H1 w' _ _ hos' hrs' hrun (by omega) (by omega) (by have:=hdone.stp.next; omega) (fun j h1 h2=>?_) (nQ (hdone.stp.lr hH hT) _ hdone.val) hdone.heap fun a' w2 μ2 hdef hT2 hH2 hS2=>?_
    ·exact hdone.stp.new j (by omega) (by omega) (hfresh j (by omega) (by omega))
    ·refine hQ a' w2 μ2 (hdef.trans ?_) hT2 hH2 ((hdone.stp.mono fun b hb=>?_).trans hS2)
     ·cases o.dst <;> rfl
     ·subst hb; exact ⟨hbase,by omega⟩
   ·cases hrun
  ·rename_i hw
   have hw':=jT (o:=o) hT hg hw
   rw [if_neg (by rw [hw']; decide)]
   refine ⟨fun f _=>hF.fn f,?_⟩
   refine ih rs' (i+1) (id+1) μ H w _ _ hos' hrs' hrun (by omega) (by omega) (by omega) (fun j h1 h2=>hfresh j (by omega) (by omega)) (nQ hT _ uB) hH fun a' w2 μ2 hdef hT2 hH2 hS2=>?_
   refine hQ a' w2 μ2 (hdef.trans ?_) hT2 hH2 hS2
   cases o.dst <;> rfl
  ·cases hrun
theorem HR.bump {H:Heap} (h:HR P μ F H w) (k:Nat):HR P μ F { H with next:=H.next+k } w :=
 ⟨fun b L hb=>⟨Nat.lt_of_lt_of_le (h.dom b L hb).1 (Nat.le_add_right _ _),(h.dom b L hb).2⟩,h.fb,h.ent,h.inj,h.gl⟩
theorem fu {H:Heap} (h:HR P μ F H w) {j:Nat} (hj:H.next<=j):μ j=none:=by
 cases hm:μ j with
 | none=>rfl
 | some L=>have:=(h.dom j L hm).1; omega
theorem qk {cal:iH} (hcal:gL P cal) {fence:Fence} {rd:Bool} (hF:FenceOK fence rd) {n id:Nat} {ops:Array Oper} {rs:List oF} {Q:Exit->Act->World->Prop} {T':Tm} {H':Heap}
  (hrs:ops.toList.mapM (ow P ops)=some rs) (hrun:io cal H.next rs T { H with next:=H.next+rs.length } = some (T',H')) (hT:LR μ F w T a.tmps.toList) (hH:HR P μ F H w)
  (hQ:∀ a' w' μ',a'.defers=a.defers->LR μ' F w' T' a'.tmps.toList->HR P μ' F H' w'->Stp kA P μ F H w μ' F H' w'->Q .normal a' w') :
  (Code.region id ops false).wpIn fence n P Q a w:=by
 refine wpIn_region ?_
 have hlen:rs.length=ops.toList.length:=by
  have key:∀ (l:List Oper) (rs:List oF),l.mapM (ow P ops)=some rs->rs.length=l.length:=by
   intro l
   induction l with
   | nil=>intro rs h; simp at h; subst h; rfl
   | cons o l ih =>
    intro rs h
    simp only [List.mapM_cons,Option.pure_def,Option.bind_eq_bind,Option.bind_eq_some_iff] at h
    obtain ⟨r,hr,rs',hrs',h⟩:=h
    cases h
    simp [ih rs' hrs']
  exact key _ _ hrs
 have:=kI hcal hF (n:=n) (ops:=ops) (Q:=Q) (base:=H.next) (top:=H.next+rs.length) (tail:=[]) ops.toList rs 0 H.next μ _ w T a (fun k o h=>by simpa using h) hrs hrun (Nat.le_refl _) (by simp [hlen]) (by simp [hlen]) (fun j h1 _=>fu hH h1) hT (hH.bump _) (fun a' w' μ' hd hT' hH' hS=>?_)
 ·rw [List.range_eq_range']; simpa using this
 ·refine hQ a' w' μ' hd hT' hH' ⟨hS.mu,hS.fr,hS.size,hS.keep,hS.rw,Nat.le_trans (Nat.le_add_right _ _) hS.next,fun b hb _ hn=>hS.new b (Nat.lt_of_lt_of_le hb (Nat.le_add_right _ _)) (by omega) hn,hS.rng,fun b e hb hl _=>hS.old b e hb (Nat.lt_of_lt_of_le hl (Nat.le_add_right _ _)) (by omega),hS.alv,hS.tape,hS.os,hS.out⟩
end
mutual
theorem AV.beq_eq:∀ (a b:AV),AV.beq a b=true->a=b
 | .undef,b,h=>by cases b <;> simp [AV.beq] at h ⊢
 | .bool a,b,h=>by cases b <;> simp [AV.beq] at h ⊢; exact h
 | .int k a,b,h=>by cases b <;> simp [AV.beq] at h ⊢; exact h
 | .str a,b,h=>by cases b <;> simp [AV.beq] at h ⊢; exact h
 | .nilPtr,b,h=>by cases b <;> simp [AV.beq] at h ⊢
 | .nilSl,b,h=>by cases b <;> simp [AV.beq] at h ⊢
 | .nilFn,b,h=>by cases b <;> simp [AV.beq] at h ⊢
 | .nilIf,b,h=>by cases b <;> simp [AV.beq] at h ⊢
 | .nilMap,b,h=>by cases b <;> simp [AV.beq] at h ⊢
 | .agg a,b,h=>by cases b <;> simp [AV.beq] at h ⊢; exact AV.beqs_eq _ _ h
 | .tup a,b,h=>by cases b <;> simp [AV.beq] at h ⊢; exact AV.beqs_eq _ _ h
 | .sl a n,b,h=>by cases b <;> simp [AV.beq] at h ⊢; exact ⟨AV.beqs_eq _ _ h.1,h.2⟩
 | .dp a n,b,h=>by cases b <;> simp [AV.beq] at h ⊢; exact ⟨AV.beqs_eq _ _ h.1,h.2⟩
 | .own ..,b,h=>by cases b <;> simp [AV.beq] at h ⊢; simpa [and_assoc] using h
 | .ptr ..,b,h=>by cases b <;> simp [AV.beq] at h ⊢; exact h
 | .fn f a c,b,h=>by cases b <;> simp [AV.beq] at h ⊢; exact ⟨h.1.1,AV.beqs_eq _ _ h.1.2,AV.beqs_eq _ _ h.2⟩
 | .ifc t a,b,h=>by cases b <;> simp [AV.beq] at h ⊢; exact ⟨h.1,AV.beq_eq _ _ h.2⟩
 | .map a,b,h=>by cases b <;> simp [AV.beq] at h ⊢; exact h
 | .loopv a,b,h=>by cases b <;> simp [AV.beq] at h ⊢; exact h
theorem AV.beqs_eq:∀ (a b:List AV),AV.beqs a b=true->a=b
 | [],b,h=>by cases b <;> simp [AV.beqs] at h ⊢
 | x :: a,b,h=>by cases b <;> simp [AV.beqs] at h ⊢; exact ⟨AV.beq_eq _ _ h.1,AV.beqs_eq _ _ h.2⟩
end
theorem oE (base:Nat) (Es:List (Option Ent)):∀ (adds:List Nat) (C:Heap) (b:Nat),
  (cV base Es C adds).get b=match (if base<=b/\(b-base)∈adds then Es.getD (b-base) none else none) with | some e=>some e | none=>C.get b:=by
 intro adds
 induction adds with
 | nil=>intro C b; simp [cV]
 | cons a adds ih =>
  intro C b
  have hstep:cV base Es C (a :: adds)=cV base Es (match Es.getD a none with | some e=>C.put (base+a) e | none=>C) adds:=rfl
  rw [hstep,ih]
  by_cases hb:base<=b
  ·by_cases hm:b-base∈adds
   ·rw [if_pos ⟨hb,hm⟩,if_pos ⟨hb,List.mem_cons_of_mem _ hm⟩]
    cases he:Es.getD (b-base) none with
    | some e=>rfl
    | none =>
     simp only
     by_cases hab:b-base=a
     ·subst hab; rw [he]
     ·cases Es.getD a none with
      | none=>rfl
      | some e=>simp only [Heap.get_put]; rw [if_neg (by omega)]
   ·rw [if_neg (fun h=>hm h.2)]
    by_cases hab:b-base=a
    ·rw [if_pos ⟨hb,by rw [hab]; exact List.mem_cons_self ..⟩]
     have:b=base+a:=by omega
     subst this
     simp only [Nat.add_sub_cancel_left]
     cases Es.getD a none with
     | none=>rfl
     | some e=>simp only [Heap.get_put,if_true]
    ·rw [if_neg (fun h=>(List.mem_cons.1 h.2).elim hab hm)]
     cases Es.getD a none with
     | none=>rfl
     | some e=>simp only [Heap.get_put]; rw [if_neg (by omega)]
  ·rw [if_neg (fun h=>hb h.1),if_neg (fun h=>hb h.1)]
   cases Es.getD a none with
   | none=>rfl
   | some e=>simp only [Heap.get_put]; rw [if_neg (by omega)]
theorem gX (base:Nat) (Es:List (Option Ent)):∀ (adds:List Nat) (C:Heap),(cV base Es C adds).next=C.next:=by
 intro adds
 induction adds with
 | nil=>intro C; rfl
 | cons a adds ih =>
  intro C
  have hstep:cV base Es C (a :: adds)=cV base Es (match Es.getD a none with | some e=>C.put (base+a) e | none=>C) adds:=rfl
  rw [hstep,ih]
  cases Es.getD a none <;> rfl
theorem uq (base:Nat) {Es Es':List (Option Ent)}:∀ (adds:List Nat) (C:Heap),(∀ a∈adds,Es.getD a none=Es'.getD a none)->cV base Es C adds=cV base Es' C adds:=by
 intro adds
 induction adds with
 | nil=>intro C _; rfl
 | cons a adds ih =>
  intro C h
  have hstep:∀ Es,cV base Es C (a :: adds)=cV base Es (match Es.getD a none with | some e=>C.put (base+a) e | none=>C) adds:=fun _=>rfl
  rw [hstep,hstep,h a (List.mem_cons_self ..),ih _ (fun x hx=>h x (List.mem_cons_of_mem _ hx))]
theorem sZ {T0:Tm} {Vs Vs':List AV} {us:List (Nat × Option Nat)} (h:∀ u∈us,∀ j,u.2=some j->Vs.getD j .undef=Vs'.getD j .undef):bL T0 Vs us=bL T0 Vs' us:=by
 unfold bL
 generalize (List.replicate T0.length AV.undef)=T
 induction us generalizing T with
 | nil=>rfl
 | cons u us ih =>
  have hu:il T0 Vs u=il T0 Vs' u:=by
   unfold il
   cases hj:u.2 with
   | none=>rfl
   | some j=>exact h u (List.mem_cons_self ..) j hj
  simp only [List.foldl_cons,hu]
  exact ih (fun u' hu'=>h u' (List.mem_cons_of_mem _ hu')) _
theorem AT (T0:Tm) (Vs:List AV) (us:List (Nat × Option Nat)):(bL T0 Vs us).length=T0.length /\
  ∀ (t:Nat) (c:AV),(bL T0 Vs us)[t]? = some c->c=.undef\/∃ u∈us,u.1=t/\c=il T0 Vs u:=by
 have key:∀ (us:List (Nat × Option Nat)) (T:Tm),(us.foldl (fun T u=>T.set u.1 (il T0 Vs u)) T).length=T.length /\
   ∀ (t:Nat) (c:AV),(us.foldl (fun T u=>T.set u.1 (il T0 Vs u)) T)[t]? = some c->T[t]? = some c\/∃ u∈us,u.1=t/\c=il T0 Vs u:=by
  intro us
  induction us with
  | nil=>intro T; exact ⟨rfl,fun t c h=>.inl h⟩
  | cons u us ih =>
   intro T
   obtain ⟨h1,h2⟩:=ih (T.set u.1 (il T0 Vs u))
   refine ⟨by rw [List.foldl_cons,h1,List.length_set],fun t c h=>?_⟩
   rw [List.foldl_cons] at h
   rcases h2 t c h with h | ⟨u',hu',h⟩
   ·by_cases e:u.1=t
    ·subst e
     rw [List.getElem?_set_self'] at h
     cases hc:T[u.1]? with
     | none=>rw [hc] at h; cases h
     | some x=>rw [hc] at h; cases h; exact .inr ⟨u,List.mem_cons_self ..,rfl,rfl⟩
    ·rw [List.getElem?_set_ne e] at h; exact .inl h
   ·exact .inr ⟨u',List.mem_cons_of_mem _ hu',h⟩
 obtain ⟨h1,h2⟩:=key us (List.replicate T0.length .undef)
 refine ⟨by rw [bL,h1,List.length_replicate],fun t c h=>?_⟩
 rcases h2 t c h with h | h
 ·rw [List.getElem?_replicate] at h
  split at h
  ·cases h; exact .inl rfl
  ·cases h
 ·exact .inr h
def Pre (s s':DS):Prop:=s.Vs <+: s'.Vs/\s.Cs <+: s'.Cs/\s.Es <+: s'.Es
theorem Pre.refl (s:DS):Pre s s:=⟨List.prefix_rfl,List.prefix_rfl,List.prefix_rfl⟩
theorem Pre.trans {a b c:DS} (h:Pre a b) (h':Pre b c):Pre a c:=⟨h.1.trans h'.1,h.2.1.trans h'.2.1,h.2.2.trans h'.2.2⟩
theorem gz {α:Type} {a b:List α} (h:a <+: b) {i:Nat} (hi:i<a.length) (d:α):b.getD i d=a.getD i d:=by
 obtain ⟨c,rfl⟩:=h
 rw [List.getD_eq_getElem?_getD,List.getD_eq_getElem?_getD,List.getElem?_append_left hi]
theorem l7 {α:Type} {a b:List α} {x:α} (h:a++[x] <+: b) (d:α):b.getD a.length d=x:=by
 rw [gz h (by simp),List.getD_eq_getElem?_getD]; simp
theorem mO {cal:iH} {base:Nat} {T0:Tm} {i:Nat} {d:gb} {s s':DS} (h:gk cal base T0 i d s=some s') (hcl:d.cls=0\/d.cls=1\/d.cls=2) :
  Pre s s'/\s'.Vs.length=s.Vs.length+1/\s'.Es.length=s.Es.length+1/\s'.Cs.length=s.Cs.length+(if d.cls=2 then 1 else 0):=by
 unfold gk at h
 cases hw:bG (bL T0 s.Vs d.uses) d.guard with
 | none=>simp only [hw] at h; cases h
 | some b =>
  cases b <;> simp only [hw] at h <;> rcases hcl with hcl | hcl | hcl <;> simp only [hcl] at h <;> (repeat' (split at h)) <;> first | (cases h; done) | skip
  all_goals (first | (exfalso; rename_i h0 _; exact h0 rfl) | (exfalso; rename_i h0; exact h0 rfl) | skip)
  all_goals (first | (cases h; exact ⟨⟨List.prefix_append _ _,by first | exact List.prefix_append _ _ | exact List.prefix_rfl,List.prefix_append _ _⟩,by simp,by simp,by simp [hcl]⟩) | skip)
theorem xm {cal:iH} {base:Nat} {T0:Tm}:∀ (ds:List gb) (i:Nat) (s0 s:DS),(∀ d∈ds,d.cls=0\/d.cls=1\/d.cls=2)->kO cal base T0 i ds s0=some s ->
  Pre s0 s/\s.Vs.length=s0.Vs.length+ds.length/\s.Es.length=s0.Es.length+ds.length/\s.Cs.length=s0.Cs.length+(ds.filter fun d=>d.cls == 2).length /\
  ∀ (q:Nat) (d:gb),ds[q]? = some d->∃ s1 s2,gk cal base T0 (i+q) d s1=some s2/\Pre s2 s/\s1.Vs.length=s0.Vs.length+q/\s1.Es.length=s0.Es.length+q /\
   s1.Cs.length=s0.Cs.length+((ds.take q).filter fun d=>d.cls == 2).length:=by
 intro ds
 induction ds with
 | nil=>intro i s0 s _ h; cases h; exact ⟨Pre.refl _,rfl,rfl,rfl,fun q d h=>by simp at h⟩
 | cons d ds ih =>
  intro i s0 s hcl h
  simp only [kO] at h
  split at h
  ·rename_i s1 h1
   obtain ⟨g1,g2,g3,g4⟩:=mO h1 (hcl d (List.mem_cons_self ..))
   obtain ⟨k1,k2,k3,k4,k5⟩:=ih (i+1) s1 s (fun d' hd'=>hcl d' (List.mem_cons_of_mem _ hd')) h
   have hfl:∀ (x:List gb),((d :: x).filter fun d=>d.cls == 2).length=(if d.cls=2 then 1 else 0)+(x.filter fun d=>d.cls == 2).length:=by
    intro x
    rw [List.filter_cons]
    by_cases hd:d.cls=2
    ·simp [hd]; omega
    ·simp [hd]
   refine ⟨g1.trans k1,by simp; omega,by simp; omega,by rw [hfl]; omega,fun q d' hq=>?_⟩
   cases q with
   | zero=>simp at hq; subst hq; exact ⟨s0,s1,h1,k1,rfl,rfl,rfl⟩
   | succ q =>
    obtain ⟨s2,s3,e1,e2,e3,e4,e5⟩:=k5 q d' (by simpa using hq)
    refine ⟨s2,s3,by rw [show i+(q+1)=i+1+q by omega]; exact e1,e2,by omega,by omega,?_⟩
    rw [List.take_succ_cons,hfl]; omega
  ·cases h
def E7 (cal:iH) (base:Nat) (T0:Tm) (s:DS) (i:Nat) (d:gb):Prop :=
 (bG (bL T0 s.Vs d.uses) d.guard=some false/\s.Vs.getD i .undef=.tup []/\s.Es.getD i none=none /\
  (d.cls=2->∀ k adds,d.looks=[(k,adds)]->s.Cs.getD (k+1) default=cV base s.Es (s.Cs.getD k default) adds)) \/
 (bG (bL T0 s.Vs d.uses) d.guard=some true /\
  ((d.cls=0/\s.Es.getD i none=none/\(aF (Src.ev (bL T0 s.Vs d.uses)) d.op=some (s.Vs.getD i .undef)\/(aF (Src.ev (bL T0 s.Vs d.uses)) d.op=none/\d.op.looks=true))) \/
   (d.cls=1/\d.op.makes=true/\∃ H',aX (Src.ev (bL T0 s.Vs d.uses)) (Heap.nil 0) (base+i) d.op=some (s.Vs.getD i .undef,H')/\s.Es.getD i none=H'.get (base+i)) \/
   (d.cls=2/\s.Es.getD i none=none/\∀ k adds,d.looks=[(k,adds)]->∃ H',nh cal (Src.ev (bL T0 s.Vs d.uses)) (cV base s.Es (s.Cs.getD k default) adds) (base+i) d.op=some (s.Vs.getD i .undef,H')/\H'.next=(s.Cs.getD (k+1) default).next/\∀ b,H'.get b=(s.Cs.getD (k+1) default).get b)))
theorem Dv {cal:iH} {base:Nat} {T0:Tm} {i:Nat} {d:gb} {s1 s2 s:DS} (h:gk cal base T0 i d s1=some s2) (hs:Pre s2 s) (hcl:d.cls=0\/d.cls=1\/d.cls=2)
  (hV:s1.Vs.length=i) (hE:s1.Es.length=i) (huse:∀ u∈d.uses,∀ j,u.2=some j->j<i)
  (hlk:d.cls=2->∀ k adds,d.looks=[(k,adds)]->s1.Cs.length=k+1/\∀ a∈adds,a<i):E7 cal base T0 s i d:=by
 have hg:=mO h hcl
 have hp1:Pre s1 s:=hg.1.trans hs
 have hT:bL T0 s1.Vs d.uses=bL T0 s.Vs d.uses:=sZ fun u hu j hj=>(gz hp1.1 (by rw [hV]; exact huse u hu j hj) _).symm
 have hadd:d.cls=2->∀ k adds,d.looks=[(k,adds)]->cV base s1.Es (s1.Cs.getD k default) adds=cV base s.Es (s.Cs.getD k default) adds:=by
  intro h2 k adds hl
  obtain ⟨hk,ha⟩:=hlk h2 k adds hl
  rw [gz hp1.2.1 (by omega) default]
  exact uq _ _ _ fun a hm=>(gz hp1.2.2 (by rw [hE]; exact ha a hm) _).symm
 have atV:∀ v,s2.Vs=s1.Vs++[v]->s.Vs.getD i .undef=v:=fun v e=>by
  have:=hs.1; rw [e] at this; rw [<- hV]; exact l7 this _
 have atE:∀ v,s2.Es=s1.Es++[v]->s.Es.getD i none=v:=fun v e=>by
  have:=hs.2.2; rw [e] at this; rw [<- hE]; exact l7 this _
 have atC:∀ k v,s1.Cs.length=k+1->s2.Cs=s1.Cs++[v]->s.Cs.getD (k+1) default=v:=fun k v hk e=>by
  have:=hs.2.1; rw [e] at this; rw [<- hk]; exact l7 this _
 unfold gk at h
 rw [hT] at h
 unfold E7
 cases hw:bG (bL T0 s.Vs d.uses) d.guard with
 | none=>simp only [hw] at h; cases h
 | some b =>
 cases b
 ·simp only [hw] at h
  refine .inl ⟨rfl,?_⟩
  rcases hcl with hcl | hcl | hcl
  ·simp only [hcl] at h; cases h; exact ⟨atV _ rfl,atE _ rfl,fun h2=>by omega⟩
  ·simp only [hcl] at h; cases h; exact ⟨atV _ rfl,atE _ rfl,fun h2=>by omega⟩
  ·simp only [hcl] at h
   cases hl:d.looks with
   | nil=>simp only [hl] at h; cases h
   | cons p r =>
    cases r with
    | cons p' r=>simp only [hl] at h; cases h
    | nil =>
     obtain ⟨k,adds⟩:=p
     simp only [hl] at h
     cases h
     refine ⟨atV _ rfl,atE _ rfl,fun _ k' adds' hl'=>?_⟩
     cases hl'
     rw [<- hadd hcl _ _ hl]
     exact atC k _ (hlk hcl _ _ hl).1 rfl
 ·simp only [hw] at h
  refine .inr ⟨rfl,?_⟩
  rcases hcl with hcl | hcl | hcl <;> simp only [hcl] at h
  ·refine .inl ⟨hcl,?_⟩
   cases hv:aF (Src.ev (bL T0 s.Vs d.uses)) d.op with
   | some v =>
    simp only [hv] at h
    cases h
    exact ⟨atE _ rfl,.inl (by rw [atV v rfl])⟩
   | none =>
    simp only [hv] at h
    split at h
    ·split at h
     ·rename_i hlk'
      split at h
      ·cases h; exact ⟨atE _ rfl,.inr ⟨rfl,hlk'⟩⟩
      ·cases h
     ·cases h
    ·cases h
  ·refine .inr (.inl ⟨hcl,?_⟩)
   split at h
   ·rename_i hm
    split at h
    ·rename_i v H' hv
     cases h
     exact ⟨hm,H',by rw [atV v rfl]; exact hv,atE _ rfl⟩
    ·cases h
   ·cases h
  ·refine .inr (.inr ⟨hcl,?_⟩)
   cases hl:d.looks with
   | nil=>simp only [hl] at h; cases h
   | cons p r =>
    cases r with
    | cons p' r=>simp only [hl] at h; cases h
    | nil =>
     obtain ⟨k,adds⟩:=p
     simp only [hl] at h
     split at h
     ·rename_i v H' hv
      cases h
      refine ⟨atE _ rfl,fun k' adds' hl'=>?_⟩
      cases hl'
      refine ⟨H',?_,?_⟩
      ·rw [<- hadd hcl _ _ hl,atV v rfl]; exact hv
      ·rw [atC k _ (hlk hcl _ _ hl).1 rfl]; exact ⟨rfl,fun _=>rfl⟩
     ·cases h
def cnt (S:Nat->Bool):Nat->Nat
 | 0=>0
 | n+1=>cnt S n+(if S n=true then 0 else 1)
def add (S:Nat->Bool) (i:Nat) (j:Nat):Bool:=if j=i then true else S j
theorem pE {S S':Nat->Bool}:∀ (n:Nat),(∀ j,j<n->S j=S' j)->cnt S n=cnt S' n
 | 0,_=>rfl
 | n+1,h=>by simp only [cnt]; rw [pE n (fun j hj=>h j (by omega)),h n (by omega)]
theorem vn {S:Nat->Bool} {i:Nat} (hS:S i=false):∀ (n:Nat),i<n->cnt (add S i) n+1=cnt S n
 | 0,h=>by omega
 | n+1,h=>by
  simp only [cnt]
  by_cases e:i=n
  ·subst e
   rw [pE (S:=add S i) (S':=S) i (fun j hj=>by simp [add]; omega)]
   simp [add,hS]
  ·have:=vn hS n (by omega)
   have:add S i n=S n:=by simp [add]; omega
   rw [this]; omega
theorem su {S:Nat->Bool}:∀ (n:Nat),cnt S n=0->∀ j,j<n->S j=true
 | 0,_,j,h=>by omega
 | n+1,h0,j,h=>by
  simp only [cnt] at h0
  by_cases e:j=n
  ·subst e
   cases hS:S j with
   | true=>rfl
   | false=>rw [hS] at h0; simp at h0
  ·exact su n (by omega) j (by omega)
theorem vj {S:Nat->Bool}:∀ (n:Nat),(∀ j,j<n->S j=false)->cnt S n=n
 | 0,_=>rfl
 | n+1,h=>by simp only [cnt]; rw [vj n (fun j hj=>h j (by omega)),h n (by omega)]; simp
section
variable (l:List DI) (T0:Tm) (s:DS)
def du (i:Nat):Option Nat:=(l.getD i default).dst
def jo (i:Nat):List Nat:=(l.getD i default).preds
def dY (i:Nat):Nat:=(l.getD i default).cls
def tv (S:Nat->Bool):Nat->Nat->AV
 | 0,t=>aa T0 t
 | n+1,t=>if S n=true/\du l n=some t then s.Vs.getD n .undef else tv S n t
variable {l T0 s}
theorem nC {S S':Nat->Bool} {t:Nat}:∀ (n:Nat),(∀ j,j<n->S j=S' j)->tv l T0 s S n t=tv l T0 s S' n t
 | 0,_=>rfl
 | n+1,h=>by simp only [tv]; rw [nC n (fun j hj=>h j (by omega)),h n (by omega)]
theorem yF {S:Nat->Bool} {i t:Nat} (hS:S i=false):∀ (n:Nat),i<n->(∀ j,i<j->j<n->S j=true->du l i≠none->du l i≠du l j) ->
  tv l T0 s (add S i) n t=if du l i=some t then s.Vs.getD i .undef else tv l T0 s S n t
 | 0,h,_=>by omega
 | n+1,h,hd=>by
  simp only [tv]
  by_cases e:i=n
  ·subst e
   rw [nC (S:=add S i) (S':=S) i (fun j hj=>by simp [add]; omega)]
   simp [add,hS]
  ·have h1:add S i n=S n:=by simp [add]; omega
   rw [h1,yF hS n (by omega) (fun j h1 h2=>hd j h1 (by omega))]
   by_cases hc:S n=true/\du l n=some t
   ·rw [if_pos hc,if_neg]
    ·rw [if_pos hc]
    ·intro hi
     exact hd n (by omega) (by omega) hc.1 (by rw [hi]; simp) (by rw [hi,hc.2])
   ·rw [if_neg hc,if_neg hc]
theorem yE {S:Nat->Bool} {j t:Nat} (hS:S j=true) (hd:du l j=some t):∀ (n:Nat),j<n->(∀ j',j<j'->j'<n->du l j'=some t->S j'=false) ->
  tv l T0 s S n t=s.Vs.getD j .undef
 | 0,h,_=>by omega
 | n+1,h,hn=>by
  simp only [tv]
  by_cases e:j=n
  ·subst e; rw [if_pos ⟨hS,hd⟩]
  ·rw [if_neg (fun hc=>by have:=hn n (by omega) (by omega) hc.2; rw [this] at hc; exact absurd hc.1 (by simp))]
   exact yE hS hd n (by omega) (fun j' h1 h2=>hn j' h1 (by omega))
theorem pY {S:Nat->Bool} {t:Nat}:∀ (n:Nat),(∀ j',j'<n->du l j'=some t->S j'=false)->tv l T0 s S n t=aa T0 t
 | 0,_=>rfl
 | n+1,hn=>by
  simp only [tv]
  rw [if_neg (fun hc=>by have:=hn n (by omega) hc.2; rw [this] at hc; exact absurd hc.1 (by simp))]
  exact pY n (fun j' h1=>hn j' (by omega))
variable (l T0 s)
def TS (S:Nat->Bool):Tm:=(List.range T0.length).map (tv l T0 s S l.length)
variable {l T0 s}
theorem mB {S:Nat->Bool}:(TS l T0 s S).length=T0.length:=by simp [TS]
theorem Aa:TS l T0 s (fun _=>false)=T0:=by
 apply List.ext_getElem?
 intro t
 by_cases ht:t<T0.length
 ·unfold TS
  rw [List.getElem?_map,List.getElem?_range ht]
  simp only [Option.map_some]
  rw [pY _ (fun _ _ _=>rfl),aa,List.getD_eq_getElem?_getD,List.getElem?_eq_getElem ht]
  rfl
 ·rw [List.getElem?_eq_none (by rw [mB]; omega),List.getElem?_eq_none (by omega)]
theorem Eb {S:Nat->Bool} {i:Nat} (hS:S i=false) (hi:i<l.length) (hd:∀ j,i<j->j<l.length->S j=true->du l i≠none->du l i≠du l j) :
  TS l T0 s (add S i)=gN (TS l T0 s S) (du l i) (s.Vs.getD i .undef):=by
 apply List.ext_getElem?
 intro t
 have hget:∀ S,(TS l T0 s S)[t]? = if t<T0.length then some (tv l T0 s S l.length t) else none:=by
  intro S
  unfold TS
  split
  ·rename_i ht; rw [List.getElem?_map,List.getElem?_range ht]; rfl
  ·rename_i ht; exact List.getElem?_eq_none (by simp; omega)
 rw [hget,yF hS _ hi hd]
 cases he:du l i with
 | none=>simp only [gN]; rw [hget]; simp
 | some d =>
  simp only [gN]
  by_cases hdt:d=t
  ·subst hdt
   rw [List.getElem?_set_self',hget]
   split <;> simp
  ·rw [List.getElem?_set_ne hdt,hget]
   have:¬ (some d=some t):=fun h=>hdt (by injection h)
   rw [if_neg this]
theorem mG:∀ (ds:List gb) (Vs:List AV) (T:Tm) (d:gb) (v:AV),ds.length=Vs.length->eJ T (ds++[d]) (Vs++[v])=gN (eJ T ds Vs) d.dst v
 | [],[],T,d,v,_=>rfl
 | [],_ :: _,_,_,_,h=>by simp at h
 | _ :: _,[],_,_,_,h=>by simp at h
 | d' :: ds,v' :: Vs,T,d,v,h=>by
  simp only [List.cons_append,eJ]
  exact mG ds Vs _ d v (by simpa using h)
theorem nR:∀ (ds:List gb) (Vs:List AV) (T:Tm),(eJ T ds Vs).length=T.length
 | [],[],T=>rfl
 | [],_ :: _,T=>rfl
 | _ :: _,[],T=>rfl
 | d :: ds,v :: Vs,T=>by
  simp only [eJ]
  rw [nR ds Vs]
  cases d.dst <;> simp [gN]
theorem wr {ds:List gb} (hlen:ds.length=l.length) (hv:s.Vs.length=l.length) (hd:∀ i,i<l.length->(ds.getD i default).dst=du l i) :
  eJ T0 ds s.Vs=TS l T0 s (fun _=>true):=by
 have key:∀ n,n<=l.length->∀ t,t<T0.length->(eJ T0 (ds.take n) (s.Vs.take n))[t]? = some (tv l T0 s (fun _=>true) n t):=by
  intro n
  induction n with
  | zero=>intro _ t ht; simp [eJ,tv,aa,List.getElem?_eq_getElem ht]
  | succ n ih =>
   intro hn t ht
   have h1:ds.take (n+1)=ds.take n++[ds.getD n default]:=by
    rw [List.take_succ_eq_append_getElem (by omega),List.getD_eq_getElem?_getD,List.getElem?_eq_getElem (by omega)]; rfl
   have h2:s.Vs.take (n+1)=s.Vs.take n++[s.Vs.getD n .undef]:=by
    rw [List.take_succ_eq_append_getElem (by omega),List.getD_eq_getElem?_getD,List.getElem?_eq_getElem (by omega)]; rfl
   rw [h1,h2,mG _ _ _ _ _ (by simp; omega),hd n (by omega)]
   have ih:=ih (by omega) t ht
   simp only [tv,true_and]
   cases he:du l n with
   | none=>simp only [gN]; rw [ih]; simp
   | some d =>
    simp only [gN]
    by_cases hdt:d=t
    ·subst hdt; rw [List.getElem?_set_self',ih]; simp
    ·have:¬ (some d=some t):=fun h=>hdt (by injection h)
     rw [List.getElem?_set_ne hdt,ih,if_neg this]
 apply List.ext_getElem?
 intro t
 by_cases ht:t<T0.length
 ·have:=key l.length (Nat.le_refl _) t ht
  rw [List.take_of_length_le (by omega),List.take_of_length_le (by omega)] at this
  rw [this]
  unfold TS
  rw [List.getElem?_map,List.getElem?_range ht]
  rfl
 ·rw [List.getElem?_eq_none (by rw [nR]; omega),List.getElem?_eq_none (by rw [mB]; omega)]
theorem qX {q q':Nat} (h:q<q') (hq:q'<(ax l).length):(ax l).getD q 0<(ax l).getD q' 0:=by
 have hp:List.Pairwise (· < ·) (ax l):=List.Pairwise.filter _ List.pairwise_lt_range
 rw [List.pairwise_iff_getElem] at hp
 rw [List.getD_eq_getElem?_getD,List.getD_eq_getElem?_getD,List.getElem?_eq_getElem (by omega),List.getElem?_eq_getElem hq]
 exact hp q q' (by omega) hq h
theorem jQ {q:Nat} (hq:q<(ax l).length):(ax l).getD q 0<l.length/\dY l ((ax l).getD q 0)=2:=by
 have:(ax l).getD q 0∈ax l:=by
  rw [List.getD_eq_getElem?_getD,List.getElem?_eq_getElem hq]; exact List.getElem_mem hq
 have key:∀ x,x∈ax l->x<l.length/\dY l x=2:=by
  intro x hx
  unfold ax at hx
  rw [List.mem_filter] at hx
  exact ⟨by simpa using hx.1,by simpa [dY] using hx.2⟩
 exact key _ this
theorem z7 {i:Nat} (hi:i<l.length) (hc:dY l i=2):((List.range i).filter fun i=>(l.getD i default).cls == 2).length<(ax l).length /\
  (ax l).getD ((List.range i).filter fun i=>(l.getD i default).cls == 2).length 0=i:=by
 have hsplit:List.range l.length=List.range i++(i :: (List.range' (i+1) (l.length-i-1))):=by
  rw [List.range_eq_range',List.range_eq_range',show l.length=i+((l.length-i-1)+1) by omega,<- List.range'_append_1,Nat.zero_add,List.range'_succ]
  congr 3
  omega
 have:ax l=(List.range i).filter (fun i=>(l.getD i default).cls == 2)++(i :: (List.range' (i+1) (l.length-i-1)).filter (fun i=>(l.getD i default).cls == 2)):=by
  unfold ax
  rw [hsplit,List.filter_append,List.filter_cons,if_pos (by simpa [dY] using hc)]
 rw [this]
 exact ⟨by simp,by rw [List.getD_eq_getElem?_getD,List.getElem?_append_right (Nat.le_refl _)]; simp⟩
theorem sK {q q':Nat} (hq:q<(ax l).length) (hq':q'<(ax l).length) (h:(ax l).getD q 0=(ax l).getD q' 0):q=q':=by
 rcases Nat.lt_trichotomy q q' with h1 | h1 | h1
 ·have:=qX h1 hq'; omega
 ·exact h1
 ·have:=qX h1 hq; omega
theorem zw {k a:Nat} (h:a∈cX l (k+1)):a∈jo l ((ax l).getD k 0)/\dY l a=1:=by
 simp only [cX,List.mem_filter,Bool.and_eq_true] at h
 exact ⟨by simpa [jo] using h.2.2,by simpa [dY] using h.2.1⟩
variable (l) in
def qq (S:Nat->Bool) (k:Nat):List Nat:=(List.range l.length).filter fun a=>S a && dY l a == 1 && !(cX l k).contains a
theorem mem_lst {S:Nat->Bool} {k a:Nat}:a∈qq l S k ↔ a<l.length/\S a=true/\dY l a=1/\a ∉ cX l k:=by
 simp [qq,List.mem_filter,and_assoc]
theorem BJ:qq l (fun _=>true) (ax l).length=ml l:=by
 simp [qq,ml,dY]
end
section
variable {P:Program} {μ μ':Mu} {F:Nat->Prop} {w w':World}
theorem HR.sub {A D:Heap} (hH:HR P μ F A w) (hsub:∀ b e,D.get b=some e->A.get b=some e) (hn:D.next=A.next):HR P μ F D w :=
 ⟨fun b L hb=>hn ▸ hH.dom b L hb,hH.fb,fun b e hb=>hH.ent b e (hsub b e hb),fun b b' e e' L L' h1 h2=>hH.inj b b' e e' L L' (hsub _ _ h1) (hsub _ _ h2),hH.gl⟩
theorem yH {I:Nat->Prop} {A D D' A':Heap} (hH:HR P μ F A w) (hsub:∀ b e,D.get b=some e->A.get b=some e) (hnx:D.next=A.next) (hr:HR P μ' F D' w')
  (st:Stp I P μ F D w μ' F D' w') (hn':A'.next=D'.next) (h':∀ b e,A'.get b=some e->D'.get b=some e\/(D.get b=none/\A.get b=some e)) :
  HR P μ' F A' w'/\Stp I P μ F A w μ' F A' w':=by
 have rwsub:∀ b,D.rwAt b->A.rwAt b:=fun b ⟨e,h1,h2⟩=>⟨e,hsub b e h1,h2⟩
 have beside:∀ b e L,D.get b=none->A.get b=some e->μ b=some L->w'.heap[L.blk]? = w.heap[L.blk]?:=by
  intro b e L hD hA hL
  refine st.keep _ (hH.dom b L hL).2 fun b0 L0 hb0 hL0 he=>?_
  obtain ⟨e0,h1,_⟩:=hb0
  have:=hH.inj b0 b e0 e L0 L (hsub _ _ h1) hA hL0 hL he
  subst this
  rw [hD] at h1; cases h1
 have apart:∀ b1 e1 L1 b2 e2 L2,D'.get b1=some e1->μ' b1=some L1->D.get b2=none->A.get b2=some e2->μ b2=some L2->L1.blk≠L2.blk:=by
  intro b1 e1 L1 b2 e2 L2 h1 hL1 hD h2 hL2 he
  rcases st.alv b1 e1 L1 h1 hL1 with hge | ⟨b0,e0,L0,h0,hL0,hq⟩
  ·have:=(hH.dom b2 L2 hL2).2; omega
  ·have:=hH.inj b0 b2 e0 e2 L0 L2 (hsub _ _ h0) h2 hL0 hL2 (hq.trans he)
   subst this
   rw [hD] at h0; cases h0
 have atμ:∀ b e L',A.get b=some e->μ' b=some L'->μ b=some L':=by
  intro b e L' hA hL'
  obtain ⟨L,hL,_⟩:=hH.ent b e hA
  have:=st.mu b L hL
  rw [hL'] at this; cases this
  exact hL
 refine ⟨⟨fun b L hb=>hn' ▸ hr.dom b L hb,hr.fb,fun b e hb=>?_,fun b1 b2 e1 e2 L1 L2 h1 h2 hL1 hL2 he=>?_,hr.gl⟩,⟨st.mu,st.fr,st.size,fun c hc hn=>st.keep c hc fun b L hb hL=>hn b L (rwsub b hb) hL,fun b L hb hL=>?_,?_,fun b hb hi hn=>st.new b (hnx ▸ hb) hi hn,st.rng,fun b e hb hl hi=>?_,fun b e L hb hL=>?_,st.tape,st.os,st.out⟩⟩
 ·rcases h' b e hb with h1 | ⟨hD,hA⟩
  ·exact hr.ent b e h1
  ·obtain ⟨L,hL,hE⟩:=hH.ent b e hA
   have hkeepF:∀ c,F c->w'.heap[c]? = w.heap[c]?:=(st.keepF (hH.sub hsub hnx))
   exact ⟨L,st.mu b L hL,hE.mono st.mu st.fr hkeepF (beside b e L hD hA hL) (fun hr'=>hE.notF hr')⟩
 ·rcases h' b1 e1 h1 with g1 | ⟨gD1,g1⟩ <;> rcases h' b2 e2 h2 with g2 | ⟨gD2,g2⟩
  ·exact hr.inj _ _ _ _ _ _ g1 g2 hL1 hL2 he
  ·exact absurd he (apart _ _ _ _ _ _ g1 hL1 gD2 g2 (atμ _ _ _ g2 hL2))
  ·exact absurd he.symm (apart _ _ _ _ _ _ g2 hL2 gD1 g1 (atμ _ _ _ g1 hL1))
  ·exact hH.inj _ _ _ _ _ _ g1 g2 (atμ _ _ _ g1 hL1) (atμ _ _ _ g2 hL2) he
 ·obtain ⟨e,h1,h2⟩:=hb
  rcases h' b e h1 with g | ⟨_,g⟩
  ·rcases st.rw b L ⟨e,g,h2⟩ hL with hge | ⟨b0,L0,h0,hL0,hq⟩
   ·exact .inl hge
   ·exact .inr ⟨b0,L0,rwsub _ h0,hL0,hq⟩
  ·exact .inr ⟨b,L,⟨e,g,h2⟩,atμ _ _ _ g hL,rfl⟩
 ·rw [<- hnx,hn']; exact st.next
 ·rcases h' b e hb with g | ⟨_,g⟩
  ·obtain ⟨e0,h0⟩:=st.old b e g (hnx ▸ hl) hi
   exact ⟨e0,hsub _ _ h0⟩
  ·exact ⟨e,g⟩
 ·rcases h' b e hb with g | ⟨_,g⟩
  ·rcases st.alv b e L g hL with hge | ⟨b0,e0,L0,h0,hL0,hq⟩
   ·exact .inl hge
   ·exact .inr ⟨b0,e0,L0,hsub _ _ h0,hL0,hq⟩
  ·exact .inr ⟨b,e,L,g,atμ _ _ _ g hL,rfl⟩
end
theorem wC {D A:Heap} (hsub:∀ b e,D.get b=some e->A.get b=some e) {x:AV} {es:List (AV × AV)} (h:lC D x=some es):lC A x=some es:=by
 cases x <;> simp only [lC] at h ⊢ <;> first | exact h | (cases h; done) | skip
 split at h
 ·rename_i es' he
  cases h
  rw [hsub _ _ he]
 ·rename_i es' he
  cases h
  rw [hsub _ _ he]
 ·cases h
theorem wH {T:Tm} {D A D':Heap} {op:AOp} {v:AV} {i j:Nat} (hsub:∀ b e,D.get b=some e->A.get b=some e) (hl:op.looks=true) (h:aX (Src.ev T) D i op=some (v,D')):aX (Src.ev T) A j op=some (v,A):=by
 cases op <;> simp only [AOp.looks] at hl <;> first | (cases hl; done) | skip
 case load k x =>
  simp only [aX,Option.map_eq_some_iff] at h ⊢
  obtain ⟨u,hu,h⟩:=h
  cases h
  refine ⟨v,?_,rfl⟩
  generalize x.ev T=y at hu ⊢
  cases y <;> simp only [bC] at hu ⊢ <;> first | exact hu | (cases hu; done) | skip
  split at hu
  ·rename_i cs ty rw he
   rw [hsub _ _ he]; exact hu
  ·cases hu
 case globIdx cs len size i =>
  simp only [aX] at h ⊢
  split at h
  ·split at h
   ·rename_i hlt
    cases h
    rw [if_pos hlt]
   ·cases h
  ·cases h
 case globLoad k cs =>
  simp only [aX,Option.map_eq_some_iff] at h ⊢
  obtain ⟨u,hu,h⟩:=h
  cases h
  exact ⟨v,hu,rfl⟩
 case lookup kd zero x i ok =>
  simp only [aX,Option.map_eq_some_iff] at h ⊢
  obtain ⟨u,hu,h⟩:=h
  cases h
  refine ⟨v,?_,rfl⟩
  unfold jg at hu ⊢
  split at hu
  ·cases hu
  ·rename_i hk
   rw [if_neg hk]
   cases hm:lC D (x.ev T) with
   | none=>rw [hm] at hu; cases hu
   | some es=>rw [hm] at hu; rw [wC hsub hm]; exact hu
 case lenMap x =>
  simp only [aX] at h ⊢
  generalize x.ev T=y at h ⊢
  cases y <;> simp only at h ⊢ <;> first | (cases h; done) | skip
  ·cases h; rfl
  ·split at h
   ·rename_i es he
    cases h
    rw [hsub _ _ he]
   ·rename_i es he
    cases h
    rw [hsub _ _ he]
   ·cases h
theorem wD {T:Tm} {H0 H1 A:Heap} {op:AOp} {v:AV} {id:Nat} (hl:op.makes=true) (h:aX (Src.ev T) H0 id op=some (v,H1)) :
  ∃ e,H1.get id=some e/\aX (Src.ev T) A id op=some (v,A.put id e)/\aF (Src.ev T) op=none:=by
 cases op <;> simp only [AOp.makes] at hl <;> first | (cases hl; done) | skip
 case alloc ty z=>cases h; exact ⟨_,by rw [Heap.get_put,if_pos rfl],rfl,rfl⟩
 case mkmap=>cases h; exact ⟨_,by rw [Heap.get_put,if_pos rfl],rfl,rfl⟩
 case box ty x =>
  simp only [aX] at h ⊢
  split at h
  ·rename_i hc
   cases h
   exact ⟨_,by rw [Heap.get_put,if_pos rfl],by rw [if_pos hc],rfl⟩
  ·cases h
 case buildSlice ty size zeros len parts =>
  simp only [aX] at h ⊢
  split at h
  ·cases h
  ·rename_i cs hc
   cases h
   exact ⟨_,by rw [Heap.get_put,if_pos rfl],rfl,rfl⟩
 case mksl ty size bytes zero l c =>
  simp only [aX] at h ⊢
  split at h
  ·rename_i l' c' h1 h2
   split at h
   ·rename_i hc
    cases h
    exact ⟨_,by rw [Heap.get_put,if_pos rfl],by rw [if_pos hc],rfl⟩
   ·cases h
  ·cases h
theorem yY {cal:iH} {T:Tm} {H:Heap} {id:Nat} {op:AOp} {v:AV} (h:aF (Src.ev T) op=some v):nh cal (Src.ev T) H id op=some (v,H):=by
 cases op <;> first | (simp only [nh,h]; done) | (simp [aF] at h; done)
theorem rG {cal:iH} {T:Tm} {H:Heap} {id:Nat} {op:AOp} {r:AV × Heap} (h:aF (Src.ev T) op=none) (hh:aX (Src.ev T) H id op=some r):nh cal (Src.ev T) H id op=some r:=by
 cases op <;> first | (simp only [nh,h]; exact hh) | (simp [aX] at hh; done)
theorem rt {base:Nat} {T0:Tm} {s:DS}:∀ (ds:List gb) (i:Nat),gW base T0 s i ds=true->∀ (q:Nat) (d:gb),ds[q]? = some d->gx base T0 s (i+q) d=true:=by
 intro ds
 induction ds with
 | nil=>intro i _ q d h; simp at h
 | cons d ds ih =>
  intro i h q d' hq
  simp only [gW,Bool.and_eq_true] at h
  cases q with
  | zero=>simp at hq; subst hq; exact h.1
  | succ q=>rw [show i+(q+1)=i+1+q by omega]; exact ih (i+1) h.2 q d' (by simpa using hq)
structure kU (P:Program) (ops:Array Oper) (l:List DI) (ds:List gb):Prop where
 len:l.length<=ops.size
 dlen:ds.length=l.length
 op:∀ i,i<l.length->∃ o,ops[i]? = some o/\o.dst=du l i/\oy ops o.guard=some (l.getD i default).guard/\(l.getD i default).op=(sD P o).getD .bad
 dso:∀ i,i<l.length->(ds.getD i default).dst=du l i/\(ds.getD i default).op=(l.getD i default).op/\(ds.getD i default).guard=(l.getD i default).guard/\(ds.getD i default).cls=dY l i
 cl:∀ i,i<l.length->dY l i=0\/dY l i=1\/dY l i=2
 back:∀ i o,i<l.length->ops[i]? = some o->∀ j∈gT o,j<i
 pre:∀ i o,i<l.length->ops[i]? = some o->∀ p∈jo l i,∃ j∈gT o,p=j\/p∈jo l j
 same:∀ i j,i<j->j<l.length->du l i≠none->du l i=du l j->i∈jo l j
 acts:∀ i j,i<j->j<l.length->dY l i=2->dY l j=2->i∈jo l j
 useS:∀ i,i<l.length->∀ t j,(t,some j)∈(ds.getD i default).uses->j∈jo l i/\du l j=some t/\j<i/\∀ j',j'<l.length->du l j'=some t->j'<=j\/i∈jo l j'\/j'=i
 useN:∀ i,i<l.length->∀ t,(t,none)∈(ds.getD i default).uses->∀ j',j'<l.length->du l j'=some t->j'=i\/i∈jo l j'
 look:∀ i,i<l.length->∀ k adds,(k,adds)∈(ds.getD i default).looks->∀ a∈adds,a∈jo l i/\dY l a=1/\a ∉ cX l k/\a<i
 seen:∀ i,i<l.length->dY l i=0->∀ k,k<=(ax l).length->(∃ q,q<(ax l).length/\(ax l).getD q 0∈jo l i/\k<=q)\/(∃ q,q<(ax l).length/\i∈jo l ((ax l).getD q 0)/\q<k) \/
  ∃ adds,(k,adds)∈(ds.getD i default).looks
 act:∀ i,i<l.length->dY l i=2->∃ k adds,(ds.getD i default).looks=[(k,adds)]/\k<(ax l).length/\(ax l).getD k 0=i/\∀ a,a<l.length->(a∈cX l (k+1) ↔ a∈cX l k\/a∈adds)
section
variable {P:Program} {ops:Array Oper} {l:List DI} {ds:List gb} {T0:Tm} {s:DS} {base:Nat} {F:Nat->Prop} {μ0:Mu} {H0:Heap} {w0:World} {df:List Deferred}
variable (l s base) in
def Hh (S:Nat->Bool) (k:Nat):Heap:=cV base s.Es (s.Cs.getD k default) (qq l S k)
variable (P l T0 s base F μ0 H0 w0 df) in
structure Inv (S:Nat->Bool) (k:Nat) (μ:Mu) (a:Act) (w:World):Prop where
 cl:∀ j,j<l.length->S j=true->∀ p∈jo l j,S p=true
 kle:k<=(ax l).length
 act:∀ q,q<(ax l).length->(S ((ax l).getD q 0)=true ↔ q<k)
 tm:LR μ F w (TS l T0 s S) a.tmps.toList
 hr:HR P μ F (Hh l s base S k) w
 noC:∀ j,j<l.length->dY l j=1->j ∉ cX l k->(s.Cs.getD k default).get (base+j)=none
 nx:base+l.length<=(s.Cs.getD k default).next
 un:∀ j,j<l.length->S j=false->μ (base+j)=none
 st:Stp (fun b=>base<=b) P μ0 F H0 w0 μ F (Hh l s base S k) w
 df:a.defers=df
theorem Inv.next {S:Nat->Bool} {k k' i:Nat} {μ μ':Mu} {a:Act} {w w':World} {D D':Heap} {o:Oper} {u:Value} (J:Inv P l T0 s base F μ0 H0 w0 df S k μ a w) (G:kU P ops l ds)
  (hi:i<l.length) (hS:S i=false) (hpre:∀ p∈jo l i,S p=true) (ho:o.dst=du l i) (hv:VR μ' F w' (s.Vs.getD i .undef) u)
  (hsub:∀ b e,D.get b=some e->(Hh l s base S k).get b=some e) (hnx:D.next=(Hh l s base S k).next) (hr:HR P μ' F D' w') (st:Stp (fun b=>b=base+i) P μ F D w μ' F D' w')
  (hn':(Hh l s base (add S i) k').next=D'.next) (h':∀ b e,(Hh l s base (add S i) k').get b=some e->D'.get b=some e\/(D.get b=none/\(Hh l s base S k).get b=some e))
  (hk:k'<=(ax l).length) (hact:∀ q,q<(ax l).length->(add S i ((ax l).getD q 0)=true ↔ q<k'))
  (hno:∀ j,j<l.length->dY l j=1->j ∉ cX l k'->(s.Cs.getD k' default).get (base+j)=none):Inv P l T0 s base F μ0 H0 w0 df (add S i) k' μ' (a.put o.dst u) w':=by
 obtain ⟨g1,g2⟩:=yH J.hr hsub hnx hr st hn' h'
 have hCn:∀ S k,(Hh l s base S k).next=(s.Cs.getD k default).next:=fun S k=>gX _ _ _ _
 refine ⟨fun j hj hSj p hp=>?_,hk,hact,?_,g1,hno,?_,fun j hj hSj=>?_,J.st.trans (g2.mono fun b hb=>?_),?_⟩
 ·simp only [add] at hSj ⊢
  by_cases e:p=i
  ·simp [e]
  ·simp only [e,if_false]
   by_cases e':j=i
   ·subst e'; exact hpre p hp
   ·simp only [e',if_false] at hSj; exact J.cl j hj hSj p hp
 ·rw [Eb hS hi,ho]
  ·have:=nQ (a:=a) (g2.lr J.hr J.tm) (du l i) hv
   exact this
  ·intro j h1 h2 h3 h4 h5
   have:=J.cl j h2 h3 i (G.same i j h1 h2 h4 h5)
   rw [hS] at this; cases this
 ·have:=g2.next
  rw [hCn,hCn] at this
  exact Nat.le_trans J.nx this
 ·simp only [add] at hSj
  split at hSj
  ·cases hSj
  ·rename_i hne
   have hn:=J.nx
   refine g2.new (base+j) (by rw [hCn]; omega) (fun e=>hne (by have e:base+j=base+i:=e; omega)) (J.un j hj hSj)
 ·have:b=base+i:=hb
  omega
 ·rw [<- J.df]; cases o.dst <;> rfl
theorem kS (S:Nat->Bool) (k b:Nat):(Hh l s base S k).get b=match (if base<=b/\(b-base)∈qq l S k then s.Es.getD (b-base) none else none) with | some e=>some e | none=>(s.Cs.getD k default).get b:=oE _ _ _ _ _
theorem Ae {S:Nat->Bool} {k i:Nat} (hi:i<l.length) (hc:dY l i≠1\/s.Es.getD i none=none) (b:Nat):(Hh l s base (add S i) k).get b=(Hh l s base S k).get b:=by
 rw [kS,kS]
 by_cases hb:base<=b
 ·by_cases hbi:b-base=i
  ·rw [hbi]
   rcases hc with hc | hc
   ·rw [if_neg (fun h=>hc (mem_lst.1 h.2).2.2.1),if_neg (fun h=>hc (mem_lst.1 h.2).2.2.1)]
   ·rw [hc]; simp
  ·have:(b-base∈qq l (add S i) k) ↔ (b-base∈qq l S k):=by
    simp only [mem_lst,add,hbi,if_false]
   by_cases hm:b-base∈qq l S k
   ·rw [if_pos ⟨hb,this.2 hm⟩,if_pos ⟨hb,hm⟩]
   ·rw [if_neg (fun h=>hm (this.1 h.2)),if_neg (fun h=>hm h.2)]
 ·rw [if_neg (fun h=>hb h.1),if_neg (fun h=>hb h.1)]
theorem pM {S:Nat->Bool} {k i:Nat} (h:∀ q,q<(ax l).length->(S ((ax l).getD q 0)=true ↔ q<k)) (hc:dY l i≠2) :
  ∀ q,q<(ax l).length->(add S i ((ax l).getD q 0)=true ↔ q<k):=by
 intro q hq
 have:(ax l).getD q 0≠i:=fun e=>hc (e ▸ (jQ hq).2)
 simp only [add,this,if_false]
 exact h q hq
theorem z8 {S:Nat->Bool} {k i kk:Nat} (G:kU P ops l ds) (hi:i<l.length) (hS:S i=false) (hpre:∀ p∈jo l i,S p=true) (hkle:k<=(ax l).length)
  (h:∀ q,q<(ax l).length->(S ((ax l).getD q 0)=true ↔ q<k)) (hc:dY l i=2) (hkk:kk<(ax l).length) (hki:(ax l).getD kk 0=i) :
  kk=k/\∀ q,q<(ax l).length->(add S i ((ax l).getD q 0)=true ↔ q<k+1):=by
 have e:kk=k:=by
  have h1:¬ kk<k:=fun hlt=>by have:=(h kk hkk).2 hlt; rw [hki,hS] at this; cases this
  have h2:¬ k<kk:=fun hlt=>by
   have hk:k<(ax l).length:=by omega
   have hm:=jQ hk
   have:=hpre _ (G.acts _ i (hki ▸ qX hlt hkk) hi hm.2 hc)
   have:=(h k hk).1 this
   omega
  omega
 refine ⟨e,fun q hq=>?_⟩
 subst e
 by_cases hq':q=kk
 ·subst hq'; rw [hki]; simp [add]
 ·have:(ax l).getD q 0≠i:=fun h=>hq' (sK hq hkk (h.trans hki.symm))
  simp only [add,this,if_false]
  rw [h q hq]; omega
def yR (base:Nat) (T0:Tm) (s:DS) (i k:Nat) (d:gb):Prop:=d.cls=0->bG (bL T0 s.Vs d.uses) d.guard=some true->aF (Src.ev (bL T0 s.Vs d.uses)) d.op=none->∀ adds,(k,adds)∈d.looks ->
 ∃ v D',aX (Src.ev (bL T0 s.Vs d.uses)) (cV base s.Es (s.Cs.getD k default) adds) 0 d.op=some (v,D')/\AV.beq v (s.Vs.getD i .undef)=true
theorem wg {base:Nat} {T0:Tm} {s:DS} {i:Nat} {d:gb} (h:gx base T0 s i d=true) (k:Nat):yR base T0 s i k d:=by
 intro h0 hw hp adds hm
 unfold gx at h
 rw [h0,hw,hp] at h
 simp only [List.all_eq_true] at h
 have hx:=h _ hm
 split at hx
 ·rename_i v D' hv; exact ⟨v,D',hv,hx⟩
 ·cases hx
theorem AS {S:Nat->Bool} {k i:Nat} {μ:Mu} {a:Act} {w:World} (J:Inv P l T0 s base F μ0 H0 w0 df S k μ a w) (G:kU P ops l ds) (hi:i<l.length) (hS:S i=false) (hpre:∀ p∈jo l i,S p=true) :
  LR μ F w (bL T0 s.Vs (ds.getD i default).uses) a.tmps.toList:=by
 obtain ⟨h1,h2⟩:=AT T0 s.Vs (ds.getD i default).uses
 refine ⟨by rw [h1,<- J.tm.1,mB],fun t c v hc hv=>?_⟩
 rcases h2 t c hc with rfl | ⟨⟨t',u⟩,hu,rfl,rfl⟩
 ·exact .undef v
 ·have ht:t'<T0.length:=by rw [<- h1]; exact (List.getElem?_eq_some_iff.1 hc).1
  have hTS:(TS l T0 s S)[t']? = some (tv l T0 s S l.length t'):=by
   unfold TS; rw [List.getElem?_map,List.getElem?_range ht]; rfl
  have hval:il T0 s.Vs (t',u)=tv l T0 s S l.length t':=by
   have hbusy:∀ j',j'<l.length->i∈jo l j'->S j'=false:=fun j' h1 h2=>by
    cases hb:S j' with
    | false=>rfl
    | true=>have:=J.cl j' h1 hb i h2; rw [hS] at this; cases this
   cases u with
   | none =>
    refine (pY _ fun j' hj' hd=>?_).symm
    rcases G.useN i hi t' hu j' hj' hd with e | e
    ·rw [e]; exact hS
    ·exact hbusy j' hj' e
   | some j =>
    obtain ⟨g1,g2,g3,g4⟩:=G.useS i hi t' j hu
    refine (yE (hpre j g1) g2 _ (by omega) fun j' hlt hj' hd=>?_).symm
    rcases g4 j' hj' hd with e | e | e
    ·omega
    ·exact hbusy j' hj' e
    ·rw [e]; exact hS
  rw [hval]
  exact J.tm.2 t' _ v hTS hv
theorem xl {cal:iH} (hcal:gL P cal) {fence:Fence} {rd:Bool} (hF:FenceOK fence rd) {n:Nat} {Q:Exit->Act->World->Prop} {S:Nat->Bool} {k i:Nat} {μ:Mu} {a:Act} {w:World}
  (J:Inv P l T0 s base F μ0 H0 w0 df S k μ a w) (G:kU P ops l ds) (hop:E7 cal base T0 s i (ds.getD i default)) (hsame:yR base T0 s i k (ds.getD i default))
  (hi:i<l.length) (hS:S i=false) (hpre:∀ p∈jo l i,S p=true) {K:Act->World->Prop}
  (hK:∀ a' w' μ' k',Inv P l T0 s base F μ0 H0 w0 df (add S i) k' μ' a' w'->K a' w'):wpOpIn fence n P ops Q i K a w:=by
 obtain ⟨o,hoi,hod,hog,hoo⟩:=G.op i hi
 obtain ⟨gd1,gd2,gd3,gd4⟩:=G.dso i hi
 have hT:=AS J G hi hS hpre
 have hid:μ (base+i)=none:=J.un i hi hS
 have hCn:∀ S k,(Hh l s base S k).next=(s.Cs.getD k default).next:=fun S k=>gX _ _ _ _
 have hlt:base+i<(Hh l s base S k).next:=by have:=J.nx; rw [hCn]; omega
 have hlook:∀ k' adds,(k',adds)∈(ds.getD i default).looks->k'=k->∀ b e,(cV base s.Es (s.Cs.getD k' default) adds).get b=some e->(Hh l s base S k).get b=some e:=by
  intro k' adds hm hk' b e hb
  subst hk'
  have ha:=G.look i hi k' adds hm
  rw [oE] at hb
  rw [kS]
  by_cases hc:base<=b/\(b-base)∈adds
  ·rw [if_pos hc] at hb
   obtain ⟨q1,q2,q3,q4⟩:=ha _ hc.2
   have hq:base<=b/\b-base∈qq l S k':=⟨hc.1,mem_lst.2 ⟨by omega,hpre _ q1,q2,q3⟩⟩
   rw [if_pos hq]; exact hb
  ·rw [if_neg hc] at hb
   simp only at hb
   by_cases hc':base<=b/\b-base∈qq l S k'
   ·have hm':=mem_lst.1 hc'.2
    have:=J.noC (b-base) hm'.1 hm'.2.2.1 hm'.2.2.2
    rw [show base+(b-base)=b by omega,hb] at this
    cases this
   ·rw [if_neg hc']; exact hb
 have hcop:∀ {T:Tm} {H:Heap} {id:Nat} {r:AV × Heap},nh cal (Src.ev T) H id (ds.getD i default).op=some r->sD P o=some (ds.getD i default).op:=by
  intro T H id r h
  rw [gd2,hoo] at h ⊢
  cases hco:sD P o with
  | some x=>rfl
  | none=>rw [hco] at h; simp [nh,aF,aX] at h
 unfold Go.wpOpIn
 simp only [hoi]
 have plain:dY l i≠2->(dY l i≠1\/s.Es.getD i none=none)->∀ {u w' μ'},fL (fun b=>b=base+i) P μ F (Hh l s base S k) w (s.Vs.getD i .undef) (Hh l s base S k) u w' μ'->K (a.put o.dst u) w':=by
  intro h2 h1 u w' μ' hd
  refine hK _ _ μ' k (J.next G hi hS hpre hod hd.val (fun _ _ h=>h) rfl hd.heap hd.stp (by rw [hCn,hCn]) (fun b e hb=>.inl ?_) J.kle (pM J.act h2) J.noC)
  rw [<- Ae hi h1]; exact hb
 have acts:dY l i=2->s.Es.getD i none=none->∀ kk adds,(ds.getD i default).looks=[(kk,adds)]->kk=k->(∀ q,q<(ax l).length->(add S i ((ax l).getD q 0)=true ↔ q<k+1))->kk<(ax l).length ->
   (∀ a,a<l.length->(a∈cX l (kk+1) ↔ a∈cX l kk\/a∈adds)) ->
   ∀ {u w' μ'},fL (fun b=>b=base+i) P μ F (cV base s.Es (s.Cs.getD kk default) adds) w (s.Vs.getD i .undef) (s.Cs.getD (kk+1) default) u w' μ'->K (a.put o.dst u) w':=by
  intro h2 hE kk adds hl hkk hact hlen hincl u w' μ' hd
  subst hkk
  have hmem:(kk,adds)∈(ds.getD i default).looks:=by rw [hl]; exact List.mem_cons_self ..
  have hD:(cV base s.Es (s.Cs.getD kk default) adds).next=(Hh l s base S kk).next:=by rw [gX,hCn]
  have hDget:∀ j,j<l.length->dY l j=1->j ∉ cX l (kk+1)->(cV base s.Es (s.Cs.getD kk default) adds).get (base+j)=none:=by
   intro j hj hj1 hj2
   rw [oE,if_neg]
   ·exact J.noC j hj hj1 (fun h=>hj2 ((hincl j hj).2 (.inl h)))
   ·intro h; rw [Nat.add_sub_cancel_left] at h; exact hj2 ((hincl j hj).2 (.inr h.2))
  refine hK _ _ μ' (kk+1) (J.next G hi hS hpre hod hd.val (hlook kk adds hmem rfl) hD hd.heap hd.stp (hCn _ _) (fun b e hb=>?_) (by omega) hact (fun j hj hj1 hj2=>?_))
  ·rw [kS] at hb
   by_cases hc:base<=b/\b-base∈qq l (add S i) (kk+1)
   ·rw [if_pos hc] at hb
    obtain ⟨m1,m2,m3,m4⟩:=mem_lst.1 hc.2
    cases hEe:s.Es.getD (b-base) none with
    | none=>rw [hEe] at hb; exact .inl hb
    | some e' =>
     rw [hEe] at hb
     cases hb
     have hne:b-base≠i:=fun h=>by rw [h] at m3; omega
     refine .inr ⟨?_,?_⟩
     ·have:=hDget _ m1 m3 m4
      rwa [show base+(b-base)=b by omega] at this
     ·rw [kS,if_pos ⟨hc.1,mem_lst.2 ⟨m1,by simpa [add,hne] using m2,m3,fun h=>m4 ((hincl _ m1).2 (.inl h))⟩⟩,hEe]
   ·rw [if_neg hc] at hb
    exact .inl hb
  ·cases hg:(s.Cs.getD (kk+1) default).get (base+j) with
   | none=>rfl
   | some e =>
    have hne:j≠i:=fun h=>by subst h; omega
    obtain ⟨e0,h0⟩:=hd.stp.old (base+j) e hg (by rw [gX]; have:=J.nx; omega) (fun h=>hne (by have h:base+j=base+i:=h; omega))
    rw [hDget j hj hj1 hj2] at h0; cases h0
 have actsFor:dY l i=2->∃ kk adds,(ds.getD i default).looks=[(kk,adds)]/\kk=k/\(∀ q,q<(ax l).length->(add S i ((ax l).getD q 0)=true ↔ q<k+1))/\kk<(ax l).length /\
   (∀ a,a<l.length->(a∈cX l (kk+1) ↔ a∈cX l kk\/a∈adds)):=by
  intro h2
  obtain ⟨kk,adds,hl,h3,h4,h5⟩:=G.act i hi h2
  obtain ⟨e,hact⟩:=z8 G hi hS hpre J.kle J.act h2 h3 h4
  exact ⟨kk,adds,hl,e,hact,h3,h5⟩
 rcases hop with ⟨hw,hV,hE,hC⟩ | ⟨hw,hrest⟩
 ·
  have hw':=jT (o:=o) hT (gd3 ▸ hog) hw
  rw [if_neg (by rw [hw']; decide)]
  refine ⟨fun f _=>hF.fn f,?_⟩
  have hu:VR μ F w (s.Vs.getD i .undef) undef:=by rw [hV]; exact uB
  by_cases h2:dY l i=2
  ·obtain ⟨kk,adds,hl,e,hact,hlen,hincl⟩:=actsFor h2
   refine acts h2 hE kk adds hl e hact hlen hincl (μ':=μ) (u:=undef) ?_
   rw [hC (gd4.trans h2) kk adds hl]
   exact ⟨hu,J.hr.sub (hlook kk adds (by rw [hl]; exact List.mem_cons_self ..) e) (by rw [gX,hCn,e]),Stp.refl _ _ _ _ _ _⟩
  ·exact plain h2 (.inr hE) (μ':=μ) ⟨hu,J.hr,Stp.refl _ _ _ _ _ _⟩
 ·have hw':=jT (o:=o) hT (gd3 ▸ hog) hw
  rw [if_pos hw']
  rcases hrest with ⟨h0,hE,hval⟩ | ⟨h1,hm,H',hh,hE⟩ | ⟨h2,hE,hact⟩
  ·have hc0:dY l i=0:=gd4 ▸ h0
   have hopA:nh cal (Src.ev (bL T0 s.Vs (ds.getD i default).uses)) (Hh l s base S k) (base+i) (ds.getD i default).op=some (s.Vs.getD i .undef,Hh l s base S k):=by
    rcases hval with hv | ⟨hp,hlk⟩
    ·exact yY hv
    ·
     obtain ⟨adds,hm⟩:∃ adds,(k,adds)∈(ds.getD i default).looks:=by
      rcases G.seen i hi hc0 k J.kle with ⟨q,hq,hq1,hq2⟩ | ⟨q,hq,hq1,hq2⟩ | h
      ·have:=(J.act q hq).1 (hpre _ hq1); omega
      ·have hx:=J.cl _ (jQ hq).1 ((J.act q hq).2 hq2) i hq1
       rw [hS] at hx; cases hx
      ·exact h
     obtain ⟨v,D',hv,hx⟩:=hsame h0 hw hp adds hm
     have:=AV.beq_eq _ _ hx
     subst this
     exact rG hp (wH (hlook k adds hm rfl) hlk hv)
   exact j3 hcal (I:=fun b=>b=base+i) (hcop hopA) hopA hT J.hr hid hlt rfl hF fun u w' μ' hd=>plain (by omega) (.inl (by omega)) hd
  ·have hc1:dY l i=1:=gd4 ▸ h1
   obtain ⟨e,he,hany,hp⟩:=wD (A:=Hh l s base S k) hm hh
   have hopA:nh cal (Src.ev (bL T0 s.Vs (ds.getD i default).uses)) (Hh l s base S k) (base+i) (ds.getD i default).op=some (s.Vs.getD i .undef,(Hh l s base S k).put (base+i) e):=rG hp hany
   refine j3 hcal (I:=fun b=>b=base+i) (hcop hopA) hopA hT J.hr hid hlt rfl hF fun u w' μ' hd=>?_
   have hni:i ∉ cX l k:=by
    cases k with
    | zero=>simp [cX]
    | succ k =>
     intro h
     have h1:=(zw h).1
     have hq:k<(ax l).length:=by have:=J.kle; omega
     have hx:=J.cl _ (jQ hq).1 ((J.act k hq).2 (by omega)) i h1
     rw [hS] at hx; cases hx
   refine hK _ _ μ' k (J.next G hi hS hpre hod hd.val (fun _ _ h=>h) rfl hd.heap hd.stp (by rw [Heap.next_put,hCn,hCn]) (fun b e' hb=>.inl ?_) J.kle (pM J.act (by omega)) J.noC)
   rw [Heap.get_put]
   rw [kS] at hb
   by_cases hbi:b=base+i
   ·subst hbi
    rw [Nat.add_sub_cancel_left,if_pos ⟨Nat.le_add_right _ _,mem_lst.2 ⟨hi,by simp [add],hc1,hni⟩⟩,hE,he] at hb
    rw [if_pos rfl]; exact hb
   ·rw [if_neg hbi,kS]
    by_cases hbb:base<=b
    ·have hne:b-base≠i:=by omega
     have:(b-base∈qq l (add S i) k) ↔ (b-base∈qq l S k):=by
      simp only [mem_lst,add,hne,if_false]
     by_cases hm:b-base∈qq l S k
     ·rw [if_pos ⟨hbb,this.2 hm⟩] at hb; rw [if_pos ⟨hbb,hm⟩]; exact hb
     ·rw [if_neg (fun h=>hm (this.1 h.2))] at hb; rw [if_neg (fun h=>hm h.2)]; exact hb
    ·rw [if_neg (fun h=>hbb h.1)] at hb; rw [if_neg (fun h=>hbb h.1)]; exact hb
  ·have hc2:dY l i=2:=gd4 ▸ h2
   obtain ⟨kk,adds,hl,e,hact',hlen,hincl⟩:=actsFor hc2
   obtain ⟨HA,hopA,hAn,hAg⟩:=hact kk adds hl
   have hsub:=hlook kk adds (by rw [hl]; exact List.mem_cons_self ..) e
   have hn:(cV base s.Es (s.Cs.getD kk default) adds).next=(Hh l s base S k).next:=by rw [gX,hCn,e]
   refine j3 hcal (I:=fun b=>b=base+i) (hcop hopA) hopA hT (J.hr.sub hsub hn) hid (by rw [hn]; exact hlt) rfl hF fun u w' μ' hd=>?_
   exact acts hc2 hE kk adds hl e hact' hlen hincl ⟨hd.val,hd.heap.congr hAn hAg,hd.stp.congr hAn fun x e' he=>⟨e',by rw [hAg]; exact he,rfl⟩⟩
end
end Go.Proofs.Ytekmejlgocineaa.Ev
