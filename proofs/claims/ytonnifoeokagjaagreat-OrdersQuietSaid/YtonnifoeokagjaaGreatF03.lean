/- The theorem quiet_holds of OrdersQuiet: part 3 of its proof; no conditions. -/
import Derived.Test.YtonnifoeokagjaaGreatF02
import Derived.Lib.Overlaps
import Derived.Conc.AtomicLaws2
import Derived.Defers
namespace Go.Proofs.YtonnifoeokagjaaGreat
set_option linter.all false
set_option maxRecDepth 8000
open Go Go.RowKit
open Option renaming some->J,none->B
open Bool renaming true->M,false->R
open List renaming length->O
namespace br
noncomputable section
variable{P:Program}{args:List u}{as:List Value}{b k m Y:Nat}{er:ER}{f:FuncId}{h Q:aE}{kd:TypeDesc}{r:dI}{t:TypeId}{AV:Value}{w w' w0:World}
def Im(hk:pE kd=M){x y}(h:Instr.sameNow kd x y=J M):Instr.sameBits 10000 y x=M:=by
 cases kd<;>simp[pE]at hk;unfold Instr.sameNow at h;split at h
 .split at h;.rename_i hk;subst hk;simp at h;simp[Instr.sameBits,h]
  .cases h
 .rename_i W;cases W
 .rename_i W;cases W
 .cases h
def ma{o:Obj}(hk:k<w.heap.size):Hk w {w with heap:=w.heap.setIfInBounds k o} k o:=
 ⟨Z,Z,Z,bR,λj hj=>by simp[tH (Ne.symm hj)],by simp[hk]⟩
def Bv(P)(hr:HR r h Y w0 w){m k v xm xk xv}(hm:VR r m xm)(hk:VR r k xk)(hv:VR r v xv)
 (V:sv P h t m k v=J Q):∃w',(Instr.mapUpdate t xm xk xv).run P w= .ok () w'/\HR r Q Y w0 w':=by
 unfold sv at V;split at V
 .rename_i kt et hu;split at V
  .rename_i kd sD;split at V
   .rename_i pd;split at V
    .rename_i b;cases hm with
     |mp D=>
     rename_i g n;split at V
     .rename_i es clock ho;have⟨ms,hg,Zf⟩:=hr.obj b _ g n ho D;have UG:g<w.heap.size:=(hr.zX b _ D).2.2;cases hq:jB kd k es 0 with
      |none=>rw[hq]at V;cases V
      |some q=>
       rw[hq]at V;obtain⟨rfl,F⟩|⟨j,a,AV,rfl,F,h3,_,e,h5,h6⟩:=sS hk es ms 0 q hq Zf
       .simp only[yZ,bF]at V;subst V;refine⟨_,?_,hr.set D ho trivial (o':= .map (es++[(k,v,clock)]) (clock+1)) ⟨_,Z,Zf.push hk hv⟩ (ma UG)⟩;simp only[Instr.mapUpdate,Sem.run_bind,run_underlying hu,Result.andThen_ok,getObj,setObj,Sem.run,hg,run_checkKey sD pd,run_findKey sD F];simp
       .simp only[yZ,bF,OQ]at V;subst V;have Bc:=Im pd h6;simp only[qk]at h5;have akk:∀w:World,(Instr.keyThatStays (((ms.toArray[j]?).map (·.key)).getD xk) xk).run P w= .ok xk w:=by intro w;simp[Instr.keyThatStays,h5,Bc]
        refine⟨_,?_,hr.set D ho trivial (o':= .map (es.modify j λe=>(k,v,e.2.2)) clock) ⟨_,Z,Zf.modify hk hv j⟩ (ma UG)⟩;have acD:(ms.toArray.modify j λe=>{e with key:=xk,val:=xv})=(ms.modify j λe=>{e with key:=xk,val:=xv}).toArray:=by apply CC;simp
        simp only[Instr.mapUpdate,Sem.run_bind,run_underlying hu,Result.andThen_ok,getObj,setObj,Sem.run,hg,run_checkKey sD pd,run_findKey sD F,akk,acD]
     .cases V
    .cases V
   .cases V
  .cases V
 .cases V
def uM(P)(hr:HR r h Y w0 w){off}(D:r b=J (k,m)){v}(hv:VR r v AV)(A:v.dh=M)
 (G:fL h b off [v]=J Q):∃w',(∀md,(store ⟨k,off,B⟩ AV md).run P w= .ok () w')/\HR r Q Y w0 w':=by
 have hu:=yO A hv;have⟨w',eV,qE,_⟩:=mS P hr D (.cons hv .nil) (Mf hu) G;refine⟨w',λmd=>?_,qE⟩;simp only[storeCells,Sem.run_bind,jN,dP]at eV;have W:(store ⟨k,off,B⟩ AV .plain).run P w= .ok () w':=by
  cases jS:(store ⟨k,off,B⟩ AV .plain).run P w with
  |ok a w1=>rw[jS]at eV;simp at eV;simp[eV]
  |halt a w1=>rw[jS]at eV;simp at eV
 rw[run_store P w _ AV _ hu]at W⊢;cases kg:w.cell? ⟨k,off,B⟩with
 |some x=>rw[kg]at W;exact W
 |none=>
  exfalso;unfold fL at G;split at G
  .rename_i cs e ho;obtain⟨c,hk,A⟩:=hr.obj b _ k m ho D;have zk:=A.length;split at G;.rename_i q hq;obtain⟨_,hle⟩:=uD _ _ _ _ hq;simp only[bD,fx]at hle;simp[World.cell?,hk]at kg;omega
   .cases G
  .rename_i cs e es ho;obtain⟨c,c',hk,A,K⟩:=hr.obj b _ k m ho D;have zk:=A.length;split at G;.rename_i q hq;obtain⟨_,hle⟩:=uD _ _ _ _ hq;simp only[bD,fx]at hle;simp[World.cell?,hk]at kg;omega
   .cases G
  .cases G
def vI(hr:HR r h Y w0 w){off}(D:r b=J (k,m)){v}(K:dt h b off 1=J [v]):
 ∃AV,VR r v AV/\w.cell? ⟨k,off,B⟩=J AV/\w.frozen? ⟨k,off,B⟩=R/\∃c e,w.heap[k]?=J (.cells c e (0,0)):=by
 have⟨vs,va,cf,kg,c,e,hk,_⟩:=oL hr D K;cases va with
 |cons hv ht=>
 rename_i AV us;cases ht;have:=kg 0 AV Z;rw[jN,dP]at this;exact⟨AV,hv,this,by simp[World.frozen?,hk],c,e,hk⟩
def Vf:Ext->(Array Value->Sem Value)->Prop
 | .cmp,f=>f=Extern.BytealgCompare.compare
 | .O0 t,f=>∃tR,f=Extern.SlicesOverlaps.overlaps #[t,t] #[tR]
 | .load t,f=>f=Extern.Atomic.loadT t
 | .store,f=>f=Extern.Atomic.storeT
 | .cas t,f=>f=Extern.Atomic.casT t
 | .add k,f=>f=Extern.Atomic.update (Op.intArith .add) k M
 | .mark1,f=>∃m,f=Extern.Race.marked m
 | .mark0,f=>∃m,f=λ_=>do mark m;pure Extern.Race.none_
structure PK(P:Program)(xt:FuncId->Option Ext):Prop where
 Ot:∀(f:FuncId) (fn:Func),P.funcs[f]?=J fn->(fn.name== "runtime.NumGoroutine")=R
 ext:∀(f:FuncId) (e:Ext),xt f=J e->∃fn row,P.funcs[f]?=J fn/\fn.body=B/\Extern.findNext fn=B/\Extern.find fn=J row/\Vf e row
 mixed:P.follows .mixedOrders=M
 O0:∀(f:FuncId) (t:TypeId),xt f=J (.O0 t)->∃e n,P.underlying t=J (.slice e)/\cZ P e=J n
def yx{s:Sem Unit}{x}(V:mz x=J er)(k:∀Q,x=J Q->∃w',s.run P w= .ok () w'/\HR r Q Y w0 w'):
 Ls P r h Y w0 w (do s;pure .skip) er:=by
 unfold mz at V;split at V
 .rename_i Q;injection V with V;subst V
  have⟨w',eV,qE⟩:=k Q Z;exact⟨.skip,undef,w',by simp[eV],.inr ⟨Z,Z⟩,.g _,qE⟩
 .cases V
def Mk{a:Addr}(h:(store a AV .atomic).run P w= .ok () w'):(Extern.Atomic.storeT [.pointer (J a),AV].toArray).run P w= .ok Extern.Atomic.none_ w':=by show(do store a AV .atomic;pure Extern.Atomic.none_:Sem Value).run P w=_;simp only[Sem.run_bind,h,Result.andThen_ok,Sem.run_pure]
def xU(hr:HR r h Y w0 w)(D:r b=J (k,m))(K:j8 h b=M):
 (∃t n,n≠0/\w.shape? k=J (t,n))/\∃o,N h b=J o/\o.live/\∀off,w.frozen? ⟨k,off,B⟩=R:=by
 unfold j8 at K;split at K
 .rename_i o ho;split at K;.rename_i a l A;obtain⟨c,c',e,hk,hv⟩:=hr.cells D ho A;have cf:=hv.length;refine⟨⟨e,(c++c').length,by simp only[bD,aq]at cf⊢;omega,by simp[World.shape?,hk]⟩,o,ho,?_,λoff=>by simp[World.frozen?,hk]⟩;cases o<;>simp_all[AO.cells?,AO.live]
  .cases K
 .cases K
def R6(hr:HR r h Y w0 w){e}{row:Array Value->Sem Value}(J':Vf e row)(ha:fv r args as)
 (hov:∀t,e= .O0 t->∃el n,P.underlying t=J (.slice el)/\cZ P el=J n)
 (V:dW h e args=J er):Ls P r h Y w0 w (do pure (.value (<-row as.toArray))) er:=by
 unfold dW at V;split at V
 ·
  obtain⟨tR,rfl⟩:=J';have⟨el,n,EV,tU⟩:=hov _ Z;split at V
  .split at V
   .rename_i b D;split at V
    .rename_i b' iQ;split at V
     .rename_i A;have⟨cD,l1,l2⟩:=A;injection V with V;subst V
      cases ha with|cons W ha=>
      cases ha with|cons F ha=>
      cases ha;have look:∀{x:u} {AV:Value} {b:Nat},VR r x AV->KJ x=J b->∃k off m len cap,AV= .slice (J ⟨k,off,B⟩) len cap/\r b=J (k,m):=by
       intro x AV b L D;unfold KJ at D;split at D
       .injection D with D;subst D
        cases L with|sl e=>exact⟨_,_,_,_,_,rfl,e⟩
       .injection D with D;subst D
        cases L with|og e _=>exact⟨_,_,_,_,_,rfl,e⟩
       .cases D
      obtain⟨k,off,m,len,cap,rfl,e1⟩:=look W D;obtain⟨k',QK,m',len',tq,rfl,e2⟩:=look F iQ;have⟨⟨t1,n1,z1,s1⟩,o1,g1,v1,f1⟩:=xU hr e1 l1;have⟨⟨t2,n2,z2,s2⟩,o2,g2,v2,f2⟩:=xU hr e2 l2;have ET:k≠k':=λe=>cD (hr.inj b b' o1 o2 k _ _ g1 g2 v1 v2 e1 (e▸e2));have eV:=Go.Lib.run_overlaps_apart (P:=P) w _ tR el EV n (λw=>eU tU w) ⟨k,off,B⟩ ⟨k',QK,B⟩ len cap len' tq ET t1 t2 n1 n2 s1 s2 z2 (f1 _) (f1 _);exact⟨_,_,w,gi eV,.inl Z,.g _,hr⟩
     .cases V
    .cases V
   .cases V
  .cases V
 ·
  obtain rfl:=J';split at V
  .injection V with V;subst V
   cases ha with|cons W ha=>
   cases ha with|cons F ha=>
   cases ha;cases W;cases F;exact⟨_,_,w,Z,.inl Z,.g _,hr⟩
  .cases V
 ·
  obtain rfl:=J';split at V
  .cases ha with|cons W ha=>
   cases ha;cases W with|ptr D=>
   unfold yU at V;split at V
   .rename_i v K;have⟨AV,hu,eV,_,_⟩:=vI hr D K;split at V
    .split at V
     .rename_i k' n hp;obtain rfl:=kE hp hu;split at V
      .rename_i ET;injection V with V;subst V
       exact⟨_,_,w,gi (show(Extern.Atomic.read _ _).run P w=_ by simp[Extern.Atomic.read,eV,ET]),.inl Z,hu,hr⟩
      .cases V
     .cases V
    .split at V
     .rename_i hU;injection V with V;subst V
      have:∃a,AV= .pointer a:=by
       unfold isU at hU;split at hU;.cases hu;exact⟨_,Z⟩
       .cases hu;exact⟨_,Z⟩
       .cases hU
      obtain⟨a,rfl⟩:=this;exact⟨_,_,w,gi (show(Extern.Atomic.read _ _).run P w=_ by simp[Extern.Atomic.read,eV]),.inl Z,hu,hr⟩
     .cases V
   .cases V
  .cases V
 ·
  obtain rfl:=J';split at V
  .cases ha with|cons W ha=>
   cases ha with|cons F ha=>
   cases ha;cases W with|ptr D=>
   unfold yg at V;split at V
   .rename_i kg;unfold mz at V;split at V
    .rename_i Q jS;injection V with V;subst V
     have⟨w',eV,qE⟩:=uM P hr D F kg jS;exact⟨_,_,w',gi (Mk (eV .atomic)),.inl Z,.g _,qE⟩
    .cases V
   .cases V
  .cases V
 ·
  obtain rfl:=J';split at V
  .cases ha with|cons W ha=>
   cases ha with|cons F ha=>
   cases ha with|cons h3 ha=>
   cases ha;cases W with|ptr D=>
   unfold MX at V;split at V
   .rename_i k';split at V
    .rename_i v K;have⟨AV,hu,eV,wI,c,e,hk⟩:=vI hr D K;split at V
     .rename_i k hd hz;obtain rfl:=kE hz hu;split at V
      .rename_i k1 x L;obtain rfl:=kE L F;split at V
       .rename_i k2 y hy;obtain rfl:=kE hy h3;split at V
        .rename_i ET;obtain⟨rfl,rfl,rfl⟩:=ET;unfold J5 at V;split at V
         .rename_i hzx;subst hzx;split at V
          .rename_i Q jS;injection V with V;subst V
           have⟨w',fL,qE⟩:=uM P hr D (.g _) Z jS;have hw:=fL .atomic;rw[run_store P w _ _ _ Z,eV]at hw;simp only[wI]at hw;injection hw with _ hw;subst hw;exact⟨_,_,_,gi (Go.Conc.run_cas_hit_entry eV wI),.inl Z,.g _,qE⟩
          .cases V
         .rename_i hzx;injection V with V;subst V
          exact⟨_,_,w,gi (Go.Conc.run_cas_miss_entry eV wI hzx),.inl Z,.g _,hr⟩
        .cases V
       .cases V
      .cases V
     .cases V
    .cases V
   .cases V
  .cases V
 ·
  obtain rfl:=J';split at V
  .cases ha with|cons W ha=>
   cases ha with|cons F ha=>
   cases ha;cases W with|ptr D=>
   unfold XF at V;split at V
   .rename_i v K;have⟨AV,hu,eV,wI,c,e,hk⟩:=vI hr D K;split at V
    .rename_i k2 x L;obtain rfl:=kE L hu;split at V
     .rename_i k1 y hy;obtain rfl:=kE hy F;split at V
      .rename_i ET;obtain⟨rfl,rfl⟩:=ET;split at V
       .rename_i Q jS;injection V with V;subst V
        have⟨w',fL,qE⟩:=uM P hr D (.g _) Z jS;have hw:=fL .atomic;rw[run_store P w _ _ _ Z,eV,je]at hw;simp only[wI]at hw;injection hw with _ hw;subst hw;refine⟨_,_,_,gi (Go.Conc.run_add_entry eV wI),.inl Z,?_,qE⟩;rw[je];exact .g _
       .cases V
      .cases V
     .cases V
    .cases V
   .cases V
  .cases V
 ·
  obtain⟨m,rfl⟩:=J';split at V
  .cases ha with|cons W ha=>
   cases ha;rename_i v AV;split at V
   .rename_i hp;injection V with V;subst V
    have:∃a,AV= .pointer (J a):=by
     unfold aey at hp;split at hp;.cases W;exact⟨_,Z⟩
     .cases W;exact⟨_,Z⟩
     .cases hp
    obtain⟨a,rfl⟩:=this;have HM:(Extern.Race.at_ [Value.pointer (J a)].toArray:Sem Addr)=pure a:=by simp[Extern.Race.at_]
    exact⟨_,_,w,by simp only[Extern.Race.marked,HM];simp;rfl,.inl Z,.g _,hr⟩
   .cases V
  .cases V
 ·
  obtain⟨m,rfl⟩:=J';split at V
  .cases ha;injection V with V;subst V
   exact⟨_,_,w,by simp;rfl,.inl Z,.g _,hr⟩
  .cases V
def BG{xt:FuncId->Option Ext}(pk:PK P xt)(hr:HR r h Y w0 w)(ha:fv r args as)
 (V:gg P xt h f args=J er):Ls P r h Y w0 w (callFunc f as.toArray) er:=by
 unfold gg at V;split at V
 .split at V
  .rename_i fn hf;split at V
   .rename_i c D;injection V with V;subst V
    have hn:=pk.Ot f fn hf;refine⟨as,?_,ha⟩;have xd:¬fn.name= "runtime.NumGoroutine" :=Mf hn
    simp[callFunc,hf,xd,D]
   .cases V
  .cases V
 .rename_i e L;have⟨fn,row,hf,D,W,F,h3⟩:=pk.ext f e L;have hn:=pk.Ot f fn hf;have xd:¬fn.name= "runtime.NumGoroutine" :=Mf hn
  have:=R6 (P:=P) (w:=w) hr h3 ha (λt ht=>pk.O0 f t (by rw[L,ht])) V;have eV:∀w,(callFunc f as.toArray).run P w=(do pure (.value (<-row as.toArray)):Sem Next).run P w:=by intro w;simp[callFunc,hf,xd,D,W,F]
  cases er<;>simp only[Ls,eV]at this⊢<;>exact this
variable{a:u}{cs:List u}{n size:Nat}{types:Array TypeId}{us:List Value}{vd:Value}
def G9(P)(hr:HR r h Y w0 w){x}(L:VR r a x){l}(V:eD h size a=J (m,l)):
 ∃vs,fv r l vs/\(Builtin.lenOf x).run P w= .ok m w/\∀n,n<=m->(Builtin.firstCells size n x).run P w= .ok (vs.take (n*size)).toArray w:=by
 have Ba:∀{k off len cap:Nat} {vs:List Value},fv r l vs->O vs=len*size->(∀j v,vs[j]?=J v->w.cell? ⟨k,off+j,B⟩=J v)->
  ∃vs,fv r l vs/\(Builtin.lenOf (.slice (J ⟨k,off,B⟩) len cap)).run P w= .ok len w/\∀n,n<=len->(Builtin.firstCells size n (.slice (J ⟨k,off,B⟩) len cap)).run P w= .ok (vs.take (n*size)).toArray w:=by
  intro k off len cap vs hv cf A;refine⟨vs,hv,Z,λn hn=>?_⟩;have hle:n*size<=len*size:=aM _ hn;have:=run_loadCells_list (P:=P) w ⟨k,off,B⟩ (vs.take (n*size)) λj v hj=>by
   rw[jN];rw[eQ]at hj;split at hj;.exact A j v hj
   .cases hj
  rw[ax,show min (n*size) (O vs)=n*size from U]at this;exact this
 have ua:∀{base:Option Addr} {cap:Nat},l=[]->∃vs,fv r l vs/\(Builtin.lenOf (.slice base 0 cap)).run P w= .ok 0 w/\∀n,n<=0->(Builtin.firstCells size n (.slice base 0 cap)).run P w= .ok (vs.take (n*size)).toArray w:=by intro base cap K;subst K;refine⟨[],.nil,Z,λn hn=>?_⟩;obtain rfl:n=0:=U;cases base<;>simp[Builtin.firstCells,loadCells,loadCellsFrom]
 unfold eD at V;split at V
 .split at V
  .rename_i hn;injection V with V;injection V with W F;subst W;subst hn
   cases L;exact ua F.symm
  .cases V
 .split at V
  .rename_i q hq;injection V with V;injection V with W F;subst W;subst F
   cases L with
   |sl D=>
   exact avj
  .cases V
 .split at V
  .rename_i q hq;injection V with V;injection V with W F;subst W;subst F
   cases L with
   |og D _=>
   exact avj
  .cases V
 .injection V with V;injection V with W F;subst W
  cases L;exact ua F.symm
 .injection V with V;injection V with W F;subst W
  cases L<;>exact ua F.symm
 .rename_i n' cs;split at V
  .rename_i zk;injection V with V;injection V with W F;subst W;subst F
   cases L with
   |EM=>exact ua rfl
   |Ee=>exact ua rfl
   |fz hz A hv=>exact Ba hv (by have:=hv.length;omega) (AN hr hz)
  .cases V
 .cases V
def BV{d x}(L:VR r d x)(h:qN d=J n):∃base cap,x= .slice base n cap:=by
 unfold qN at h;split at h;.injection h with h;subst h;cases L;exact⟨_,_,Z⟩
 .injection h with h;subst h;cases L;exact⟨_,_,Z⟩
 .injection h with h;subst h;cases L<;>exact⟨_,_,Z⟩
 .injection h with h;subst h;cases L;exact⟨_,_,Z⟩
 .split at h;.rename_i h0;injection h with h;subst h;subst h0;cases L;exact⟨_,_,Z⟩
  .cases h
 .cases h
def x8(P)(hr:HR r h Y w0 w){d x}(L:VR r d x)(hv:fv r cs us)
 (A:cs.all u.dh=M) (G:qx h cs d=J Q):∃a len cap w',x= .slice (J a) len cap/\(storeCells a us).run P w= .ok () w'/\HR r Q Y w0 w':=by
 unfold qx at G;split at G
 .cases L with
  |sl D=>
  have⟨w',W,F,_⟩:=mS P hr D hv (hv.tS A) G;exact⟨_,_,_,w',Z,W,F⟩
 .cases L with
  |og D _=>
  have⟨w',W,F,_⟩:=mS P hr D hv (hv.tS A) G;exact⟨_,_,_,w',Z,W,F⟩
 .cases G
def L9(P)(hr:HR r h Y w0 w){ty d s vs}(z:VR r d vd)(G:VR r s vs)
 (V:rO P h types d s=J er):Ls P r h Y w0 w (do pure (.value (<-Builtin.copy_ types ty #[vd,vs]))) er:=by
 unfold rO at V;split at V
 .rename_i t t' zQ;have Kt:types= #[t,t']:=by rw[<-fg (xs:=types),zQ]
  subst Kt;split at V
  .rename_i e ht;split at V
   .split at V
    .rename_i size vj;split at V
     .rename_i dn hdn;obtain⟨base,cap,rfl⟩:=BV z hdn;split at V
      .rename_i p hp;have⟨m,l⟩:=p;have⟨us,hus,cf,agY⟩:=G9 P hr G hp;have hf:=agY (Nat.min m dn) (X0 _ _);unfold wS at V;split at V
       .rename_i h0;injection V with V;subst V
        simp only at h0;rw[h0]at hf;simp only[fJ,dJ]at hf;refine⟨_,_,w,gi (v:=goInt 0) ?_,.inl Z,.g _,hr⟩;cases base<;>simp[Builtin.copy_,run_underlying ht,cf,eU vj,h0,hf,storeCells]
       .split at V
        .rename_i q hq;obtain⟨rfl,hle⟩:=rW _ _ _ hq;split at V
         .rename_i kg;split at V
          .rename_i Q jS;injection V with V;subst V
           have⟨a,len,tq,w',L,eV,qE⟩:=x8 P hr z (hus.take (Nat.min m dn*size)) kg jS;injection L with SM Qh hx3;subst SM;refine⟨_,_,w',gi (v:=goInt (Nat.min m dn)) ?_,.inl Z,.g _,qE⟩;simp[Builtin.copy_,run_underlying ht,cf,eU vj,hf,eV]
          .cases V
         .cases V
        .cases V
      .cases V
     .cases V
    .cases V
   .cases V
  .cases V
 .cases V
def La(P)(hr:HR r h Y w0 w){ty d}(z:VR r d vd)
 (V:sw P h types d=J er):Ls P r h Y w0 w (do pure (.value (<-Builtin.clear_ types ty #[vd]))) er:=by
 unfold sw at V;split at V
 .rename_i t zQ;have Kt:types= #[t]:=by rw[<-fg (xs:=types),zQ]
  subst Kt;split at V
  .rename_i e ht;split at V
   .rename_i zl hz;obtain⟨hd,JG,rfl⟩:=yQ hz;split at V
    .rename_i n hn;obtain⟨base,cap,rfl⟩:=BV z hn;split at V
     .rename_i h0;injection V with V;subst V;subst h0
      refine⟨_,_,w,gi (v:= .tuple #[]) ?_,.inl Z,.g _,hr⟩;cases base<;>simp[Builtin.clear_,run_underlying ht]
     .rename_i h0;split at V
      .rename_i kg;unfold mz at V;split at V
       .rename_i Q jS;injection V with V;subst V
        have hv:fv r (gT n (hd.cells.toList.map .g)) (gT n hd.cells.toList):=(fv.Jn _).rep n;have A:(gT n (hd.cells.toList.map u.g)).all u.dh=M:=by
         have:∀(n:Nat) (l:List u),l.all u.dh=M->(gT n l).all u.dh=M:=by
          intro n l K
          induction n with
          |zero=>rfl
          |succ n ih=>simp only[gT,vt,K,ih,Bool.and_self]
         exact this n _ kg
        have⟨a,len,tq,w',L,eV,qE⟩:=x8 P hr z hv A jS;injection L with SM Qh hx3;subst SM;refine⟨_,_,w',gi (v:= .tuple #[]) ?_,.inl Z,.g _,qE⟩;have hzc:(Builtin.zeroCells hd.cells n).toList=gT n hd.cells.toList:=by have:=vV hd.cells n (n*hd.cells.size) Z;unfold Builtin.zeroCells;rw[this]
        cases n with
        |zero=>exact absurd Z h0
        |succ n=>simp[Builtin.clear_,run_underlying ht,oq JG,hzc,eV]
       .cases V
      .cases V
    .cases V
   .cases V
  .cases V
 .cases V
def xE.erase{r}:∀{a:List (u×u×Nat)} {d:List MapEntry},xE r a d->∀i,xE r (a.eraseIdx i) (d.eraseIdx i)
 |_,_,.nil,i=>by simpa using xE.nil
 |_,_,.cons a b t,0=>t
 |_,_,.cons a b t,i+1=> .cons a b (xE.erase t i)
def IS(P)(hr:HR r h Y w0 w){ty m k vm vk}(hm:VR r m vm)(hk:VR r k vk)
 (V:xw P h types m k=J er):Ls P r h Y w0 w (do pure (.value (<-Builtin.delete_ types ty #[vm,vk]))) er:=by
 unfold xw at V;split at V
 .rename_i t l zQ;have Kt:types[0]?=J t:=by rw[<-fg (xs:=types),zQ];simp
  split at V
  .rename_i kt et hu;split at V
   .rename_i kd sD;split at V
    .rename_i pd;split at V
     .rename_i b;cases hm with
      |mp D=>
      rename_i g n;split at V
      .rename_i es clock ho;have⟨ms,hg,Zf⟩:=hr.obj b _ g n ho D;have UG:g<w.heap.size:=(hr.zX b _ D).2.2;unfold mz at V;split at V
       .rename_i Q z;injection V with V;subst V
        cases hq:jB kd k es 0 with
        |none=>rw[hq]at z;cases z
        |some q=>
         rw[hq]at z;obtain⟨rfl,F⟩|⟨j,a,AV,rfl,F,h3,_,e,h5,h6⟩:=sS hk es ms 0 q hq Zf
         .simp only[GH,bF]at z;subst z;refine⟨_,_,_,gi (v:= .tuple #[]) ?_,.inl Z,.g _,hr.set D ho trivial (o':= .map es clock) ⟨_,Z,Zf⟩ (ma UG)⟩;exact auS
         .simp only[GH,bF]at z;subst z;have acD:(ms.toArray.eraseIdxIfInBounds j)=(ms.eraseIdx j).toArray:=by simp only[qk]at h5;have dc:=(dD.1 h5).1;unfold Array.eraseIdxIfInBounds;rw[dif_pos (Mf dc)];simp
          refine⟨_,_,_,gi (v:= .tuple #[]) ?_,.inl Z,.g _,hr.set D ho trivial (o':= .map (es.eraseIdx j) clock) ⟨_,Z,Zf.erase j⟩ (ma UG)⟩;exact auS
       .cases V
      .cases V
     .cases V
    .cases V
   .cases V
  .cases V
 .cases V
variable{ae:Operand->u}{name:String}{o:Oper}
def Ls.congr{s s':Sem Next}(G:s'.run P w=s.run P w)(V:Ls P r h Y w0 w s er):Ls P r h Y w0 w s' er:=by cases er<;>simp only[Ls,G]at V⊢<;>exact V
def wk{xt:FuncId->Option Ext}(pk:PK P xt)(hr:HR r h Y w0 w){x}(L:VR r a x)(ha:fv r args as)
 (V:p8 P xt h a args=J er):Ls P r h Y w0 w (do let d<-Deferred.ofValue x as.toArray;invoke d.target d.args) er:=by
 unfold p8 at V;split at V
 .rename_i f cap;cases L with
  |fn A=>
  rename_i c;have:=BG pk hr (ha.append A) V;refine this.congr ?_;simp[Deferred.ofValue,invoke]
 .rename_i l;cases L with
  |um D=>
  rename_i k n;split at V
  .rename_i al ho;split at V
   .rename_i cf;injection V with V;subst V
    have⟨lo,hk,Gs⟩:=hr.obj l _ k n ho D;refine⟨k,n,as,lo,al,D,ho,hk,Gs,ha,cf,?_⟩;have Lt:lo.params.size=O as:=by
     have W:lo.params.toList=al.params:=Gs.2.2.2.2.2.1;have F:=ha.length;have h3:lo.params.toList.length=as.length:=by rw[W,cf,F]
     simpa using h3
    simp[Deferred.ofValue,invoke,Instr.yield,Instr.getLoop,getObj,Sem.run,hk,Lt]
   .cases V
  .cases V
 .cases V
def Jp(h:nj P t name=J f)(v)(n:Nat)(w):(method (n+1) t v name).run P w= .ok (f,v) w:=by
 unfold nj at h;split at h
 .rename_i i H;split at h
  .rename_i m hm;split at h
   .rename_i hp;have Jf:m.path.toList=[]:=Mf hp
    split at h
    .rename_i f' p hf;have hm':i.methods.find? (λx=>x.name==name)=J m:=by rw[<-hm];simp
     rw[method];simp only[Sem.run_bind,xq H,Result.andThen_ok,hm',Jf,follow,Sem.run_pure,hf];split at h
     .rename_i e hu;split at h
      .rename_i XY;injection h with h;subst h;subst XY
       simp[receiverAt,run_underlying hu,Place.get]
      .cases h
     .rename_i d z hu;split at h;.cases h
      .rename_i XY;injection h with h;subst h
       have XY:p=R:=Mf XY
       subst XY;simp only[receiverAt,Sem.run_bind,run_underlying hu,Result.andThen_ok];cases d<;>first|rfl|exact(z _ Z).elim
     .cases h
    .cases h
   .cases h
  .cases h
 .cases h
def DY{xt:FuncId->Option Ext}(pk:PK P xt)(hr:HR r h Y w0 w){ev:Operand->Value}(jd:∀x∈o.op.operands.toList,VR r (ae x) (ev x))
  (V:pg P xt h ae o=J er):Ls P r h Y w0 w (execOp ev o) er:=by
 unfold pg at V;obtain⟨dst,op,type,pos,after,guard⟩:=o;dsimp only at V jd;cases op
 case assign x=>
  injection V with V;subst V
  exact⟨_,ev x,w,by simp[execOp],.inl Z,jd x gN,hr⟩
 case store t a x=>
  replace V:vY P h t (ae a) (ae x)=J er:=V;have ha:=jd a gN;have L:=jd x gN;unfold vY at V;split at V
  .rename_i b off e;rw[e]at ha;split at V
   .rename_i cs zU;split at V
    .rename_i n hn;split at V
     .rename_i A;simp only[aS,kN]at A;have Mo:=wG zU L;have cf:=Mo.length;generalize hua:ev a=AV at*;cases ha with
      |ptr D=>
      rename_i k m;refine(yx (s:=Instr.storeAt t (.pointer (J ⟨k,off,B⟩)) (ev x)) V λQ jS=>?_).congr (by simp[execOp,hua]);obtain⟨w',eV,qE,_⟩:=mS P hr D Mo (Mo.tS A.2) jS;refine⟨w',?_,qE⟩;have tU:¬(ev x).cells.size≠n:=by simp only[fQ]at cf;omega
      simp[Instr.storeAt,Instr.sureAddr,storeVar,eU hn,tU,eV]
     .cases V
    .cases V
   .cases V
  .cases V
 case mapUpdate t m k x=>replace V:mz (sv P h t (ae m) (ae k) (ae x))=J er:=V;exact(yx (s:=Instr.mapUpdate t (ev m) (ev k) (ev x)) V λQ jS=>Bv P hr (jd m gN) (jd k gN) (jd x gN) jS).congr (by simp[execOp])
 case insert t m k x=>replace V:mz (sv P h t (ae m) (ae k) (ae x))=J er:=V;exact(yx (s:=Instr.mapUpdate t (ev m) (ev k) (ev x)) V λQ jS=>Bv P hr (jd m gN) (jd k gN) (jd x gN) jS).congr (by simp[execOp])
 case call c=>
  replace V:vi P xt h ae c=J er:=V;obtain⟨callee,args,argTypes⟩:=c;simp only[Op.operands,Call.operands]at jd;have zJ:fv r (args.toList.map ae) (args.toList.map ev):=fv.map ae ev _ λx L=>jd x (by simp;exact .inr (Mf L));have YQ:args.map ev=(args.toList.map ev).toArray:=by apply CC;simp
  unfold vi at V;dsimp only at V;split at V;.rename_i f;have:=wk pk hr (jd f bR) zJ V;refine this.congr ?_;simp only[execOp,resolve,YQ]
  .rename_i rcv name;have hrc:=jd rcv bR;unfold mQ at V;split at V
   .rename_i t v e;rw[e]at hrc;split at V
    .rename_i f hf;generalize hur:ev rcv=AV at*;cases hrc with
     |lP hv=>
     rename_i AV;have:=BG pk hr (fv.cons hv zJ) V;refine this.congr ?_;have hm:=Jp hf AV;simp only[execOp,resolve,YQ,hur,Sem.run_bind,Sem.run_pure,Result.andThen_ok,invoke];have h0:(#[Value.iface t AV]++(args.toList.map ev).toArray)[0]?=J (.iface t AV):=bR;have W:(#[Value.iface t AV]++(args.toList.map ev).toArray).extract 1 (#[Value.iface t AV]++(args.toList.map ev).toArray).size=(args.toList.map ev).toArray:=by apply CC;simp;exact aH bR
     simp only[h0,W,callMethod,Sem.run_bind,run_program,Result.andThen_ok];rw[show P.types.size+Made.depth=(P.types.size+99)+1 from Z,hm];simp
    .cases V
   .cases V
  .rename_i b;split at V
   .split at V
    .rename_i s x kU;have rJ:args= #[s,x]:=by rw[<-fg (xs:=args),kU]
     subst rJ;have:=HN (ty:=type) P hr (jd s bR) (jd x bR) V;exact auk
    .cases V
   .split at V
    .rename_i d s kU;have rJ:args= #[d,s]:=by rw[<-fg (xs:=args),kU]
     subst rJ;have:=L9 (ty:=type) P hr (jd d bR) (jd s bR) V;exact auk
    .cases V
   .split at V
    .rename_i d kU;have rJ:args= #[d]:=by rw[<-fg (xs:=args),kU]
     subst rJ;have:=La (ty:=type) P hr (jd d bR) V;exact auk
    .cases V
   .split at V
    .rename_i m k kU;have rJ:args= #[m,k]:=by rw[<-fg (xs:=args),kU]
     subst rJ;have:=IS (ty:=type) P hr (jd m bR) (jd k bR) V;exact auk
    .cases V
   .cases V
 case defer c=>
  replace V:rj ae c=J er:=V;obtain⟨callee,args,argTypes⟩:=c;simp only[Op.operands,Call.operands]at jd;have zJ:fv r (args.toList.map ae) (args.toList.map ev):=fv.map ae ev _ λx L=>jd x (by simp;exact .inr (Mf L));have YQ:args.map ev=(args.toList.map ev).toArray:=by apply CC;simp
  unfold rj at V;dsimp only at V;split at V
  .rename_i f;have hf:=jd f bR;unfold Hf at V;split at V
   .rename_i fn cap e;rw[e]at hf;injection V with V;subst V
    generalize huf:ev f=AV at*;cases hf with
    |fn A=>
    exact⟨_,by simp[execOp,resolve,huf,Deferred.ofValue,YQ],.fn A zJ⟩
   .cases V
  .cases V
 all_goals cases V
variable{ds:List Deferred}{fn:Func}{i:Nat}{ops:Array Oper}{params:Array Tmp}{qJ:Option Code}{rest:List Nat}
section steps
variable{P:Program}{f:Frame}{k:List Item}{cs:List Frame}{w:World}
def IC{i:Item}{todo}(hm:f.mode= .run)(ht:f.todo=i::k)
 (h:(i= .code .skip/\todo=k)\/(∃id,i= .inBlock id/\todo=k)\/(∃a b,i= .code (.seq a b)/\todo= .code a:: .code b::k)\/(∃id b,i= .code (.block id b)/\todo= .code b:: .inBlock id::k)\/
  (∃b,i= .code (.loop b)/\todo= .code b:: .inLoop b::k)\/(∃b,i= .inLoop b/\todo= .code b:: .inLoop b::k)\/(∃id ops,i= .code (.region id ops R)/\todo= .inRegion ops (List.range ops.size)::k)\/
  (∃ops,i= .inRegion ops []/\todo=k)):
 step P (lone f cs w)= .next (lone {f with todo} cs w):=by
 have⟨fn,tmps,td,defers,mode,kind,roundOf⟩:=f;simp only at hm ht;subst hm;subst ht;refine step_lone_go ?_;rcases h with⟨rfl,rfl⟩|⟨id,rfl,rfl⟩|⟨a,b,rfl,rfl⟩|⟨id,b,rfl,rfl⟩|⟨b,rfl,rfl⟩|⟨b,rfl,rfl⟩|⟨id,ops,rfl,rfl⟩|⟨ops,rfl,rfl⟩<;>simp[stepG,stepG.exec]
def afw{c x y t}(hm:f.mode= .run)(ht:f.todo= .code (.cond c x y)::k)(h:f.eval c= .bool t):
 step P (lone f cs w)= .next (lone {f with todo:= .code (if t then x else y)::k} cs w):=by
 exact aur
def ae1{id k'}(hm:f.mode= .run)(ht:f.todo= .code (.exit id)::k)(h:exitTo id k=J k'):
 step P (lone f cs w)= .next (lone {f with todo:=k'} cs w):=by
 exact aur
def ahn{id}(L:P.follows .mixedOrders=M)(hm:f.mode= .run)(ht:f.todo= .code (.region id ops M)::k):
 ∃t,step P (lone f cs w)= .next (lone {f with todo:= .inRegion ops (Region.linearise .any ops t)::k} cs {w with drawn:=w.drawn+1}):=by
 have⟨fn,tmps,td,defers,mode,kind,roundOf⟩:=f;simp only at hm ht;subst hm;subst ht;exact⟨w.tape w.drawn (.order fn id),step_lone_go (by simp[stepG,stepG.exec,choose,Sem.run,Question.forced,Question.cut,Region.schedule,L])⟩
def al7{todo}(hm:f.mode= .run)(hr:f.roundOf=B)(ht:f.todo=[]\/∃k,f.todo= .code .ret::k)(V:todo=f.todo):
 step P (lone f cs w)= .next (lone {f with mode:= .returning} cs w):=by
 have⟨fn,tmps,td,defers,mode,kind,roundOf⟩:=f;simp only at hm ht hr;subst hm;subst hr;rcases ht with rfl|⟨k,rfl⟩<;>exact step_lone_go (by simp[stepG,stepG.exec])
def L5(hm:f.mode= .run)(ht:f.todo= .inRegion ops (i::rest)::k)(h:((ops[i]?).map (Region.wanted · (yielded ops f.tmps))).getD R=R):
 step P (lone f cs w)= .next (lone (f.finish undef) cs w):=by
 have⟨fn,tmps,td,defers,mode,kind,roundOf⟩:=f;simp only at hm ht h;subst hm;subst ht;exact step_lone_go (by simp[stepG,stepG.exec,h])
def Ic(hm:f.mode= .run)(ht:f.todo= .inRegion ops (i::rest)::k)(ho:ops[i]?=J o)(hw:Region.wanted o (yielded ops f.tmps)=M)
 (z:f.roundOf=B\/∀c,o.op≠ .defer c):
 stepG P M {frame:=f,callers:=cs,status:= .running,dying:=B} w=stepG.apply P M f cs B (execOp f.eval o) w:=by
 have⟨fn,tmps,td,defers,mode,kind,roundOf⟩:=f;simp only at hm ht hw z;subst hm;subst ht;simp only[stepG,stepG.exec,ho,eB,fI,hw,cA,stepG.oper,Frame.oper?];split
 .rename_i zh;obtain z|z:=z
  .cases z
  .exact absurd zh (z _)
 .rfl
def sV(P:Program)(f0:Frame)(w0:World)(f:Frame)(cs:List Frame)(s:Sem Next)(w:World):Prop:=
 ∀st,(stepG.apply P M f cs B s w).bare=st->(stepG P M {frame:=f0,callers:=cs,status:= .running,dying:=B} w0).bare=st
def sV.of_eq{s:Sem Next}(hg:stepG P M {frame:=f,callers:=cs,status:= .running,dying:=B} w=stepG.apply P M f cs B s w):sV P f w f cs s w:=λst h=>by rw[hg];exact h
def xy{f0}{s:Sem Next}{n:Next}{v}(hg:sV P f0 w0 f cs s w)
 (hr:s.run P w= .ok n w') (hn:n= .value v\/(n= .skip/\v=undef)):step P (lone f0 cs w0)= .next (lone (f.finish v) cs w'):=by
 refine step_lone_go (hg _ ?_);rcases hn with rfl|⟨rfl,rfl⟩<;>simp[stepG.apply,hr]
def YC{f0}{s:Sem Next}{g args}(hg:sV P f0 w0 f cs s w)
 (hr:s.run P w= .ok (.enter g args) w') (ht:∀d r v k,f.todo≠ .call d M r v::k):step P (lone f0 cs w0)= .next (lone (Frame.enter P g args .normal) (f::cs) w'):=by
 refine step_lone_go (hg _ ?_);simp only[stepG.apply,Sem.runT_eq,cA,hr,GStep.bare_after];rfl
def aas{f0}{s:Sem Next}{d:Deferred}(hg:sV P f0 w0 f cs s w)
 (hr:s.run P w= .ok (.defer d) w'):step P (lone f0 cs w0)= .next (lone ({f with defers:=d::f.defers}.finish undef) cs w'):=by
 refine step_lone_go (hg _ ?_);simp[stepG.apply,hr]
def ac1{f0}{s:Sem Next}{l g tmps a b}(hg:sV P f0 w0 f cs s w)
 (hr:s.run P w= .ok (.round l g tmps a b) w'):step P (lone f0 cs w0)= .next (lone (Frame.round l g tmps a b .normal) (f::cs) w'):=by
 refine step_lone_go (hg _ ?_);simp[stepG.apply,hr]
def abG{l}(hm:f.mode= .run)(ht:f.todo= .beginRound::k)(K:f.roundOf=J l)(hr:(Instr.beginRound l).run P w= .ok () w'):
 step P (lone f cs w)= .next (lone (f.finish undef) cs w'):=by
 have⟨fn,tmps,td,defers,mode,kind,roundOf⟩:=f;simp only at hm ht K;subst hm;subst ht;subst K;exact step_lone_go (by simp[stepG,stepG.exec,stepG.apply,hr])
def Nb{l j}(hm:f.mode= .run)(ht:f.todo= .endRangeFunc l::k)(hr:(Instr.endLoop l).run P w= .ok j w'):
 step P (lone f cs w)= .next (lone {f with todo:=(j.map Item.code).toList++k} cs w'):=by
 have⟨fn,tmps,td,defers,mode,kind,roundOf⟩:=f;simp only at hm ht;subst hm;subst ht;exact step_lone_go (by simp[stepG,stepG.exec,hr])
def Pa{g a b l mark}(hm:f.mode= .run)(ht:f.todo= .code (.rangeFunc g params a b)::k)
 (hr:(Instr.enterLoop f.fn f.tmps params a b f.roundOf).run P w= .ok (l,mark) w'):
 sV P f w {f with todo:= .inRangeFunc l::k,defers:=mark++f.defers} cs (do let d<-Deferred.ofValue (f.eval g) #[.func (.yield l) #[] #[]];invoke d.target d.args) w':=by
 intro st jS;have⟨fn,tmps,td,defers,mode,kind,roundOf⟩:=f;simp only at hm ht hr jS;subst hm;subst ht;subst jS;simp only[stepG,stepG.exec,Sem.runT_eq,hr,GStep.bare_after];simp only[resolve,List.map_toArray,cB,n7,Frame.eval]
def NC{c:Frame}{l v}(hm:f.mode= .run)(hk:f.kind= .normal)(K:f.roundOf=J l)
 (ht:(f.todo=[]/\qJ=B)\/(∃k,f.todo= .code .ret::k/\qJ=J .ret)\/(∃id k,f.todo= .code (.exit id)::k/\exitTo id k=B/\qJ=J (.exit id)))
 (hr:(Instr.endRound l qJ).run P w= .ok v w'):step P (lone f (c::cs) w)= .next (lone (c.finish v) cs w'):=by
 have⟨fn,tmps,td,defers,mode,kind,roundOf⟩:=f;simp only at hm ht K hk;subst hm;subst K;subst hk;obtain⟨rfl,rfl⟩|⟨k,rfl,rfl⟩|⟨id,k,rfl,V,rfl⟩:=ht;.exact step_lone_go (by simp[stepG,stepG.exec,hr,doReturn])
 .exact step_lone_go (by simp[stepG,stepG.exec,hr,doReturn])
 .exact step_lone_go (by simp[stepG,stepG.exec,V,hr,doReturn])
def af6{args:Array Value}{calls:List Deferred}(hm:f.mode= .returning)(z:f.defers={target:= .collected b,args}::ds)(hr:(Instr.takeDeferred b).run P w= .ok calls w'):
 step P (lone f cs w)= .next (lone {f with defers:=calls++ds} cs w'):=by
 have⟨fn,tmps,td,defers,mode,kind,roundOf⟩:=f;simp only at hm z;subst hm;subst z;exact step_lone_go (by simp[stepG,unwind,hr])
def LQ{g:FuncId}{cap args:Array Value}(hm:f.mode= .returning)(z:f.defers={target:= .fn (.func g) cap,args}::ds)
 (hr:(callFunc g (args++cap)).run P w= .ok (.enter g (args++cap)) w):
 step P (lone f cs w)= .next (lone (Frame.enter P g (args++cap) .deferred) ({f with defers:=ds}::cs) w):=by
 have⟨fn',tmps,td,defers,mode,kind,roundOf⟩:=f;simp only at hm z;subst hm;subst z;exact step_lone_go (by simp[stepG,unwind,callDeferred,invoke,hr])
def Xl{c:Frame}{v}(hm:f.mode= .returning)(z:f.defers=[])(hk:f.kind= .normal)(hf:P.funcs[f.fn]?=J fn)(hr:(results fn f.tmps).run P w= .ok v w):
 step P (lone f (c::cs) w)= .next (lone (c.finish v) cs w):=step_leave_returned ⟨hm,z,hk,fn,hf,hr⟩
def PX{c:Frame}{v}(hm:f.mode= .returning)(z:f.defers=[])(hk:f.kind= .deferred)(hf:P.funcs[f.fn]?=J fn)(hr:(results fn f.tmps).run P w= .ok v w)(A:c.mode= .returning):
 step P (lone f (c::cs) w)= .next (lone c cs w):=by
 have⟨fn',tmps,td,defers,mode,kind,roundOf⟩:=f;simp only at hm z hk hf hr;subst hm;subst z;subst hk;exact step_lone_go (by simp[stepG,unwind,doReturn,hf,hr,A])
end steps
variable{a':bY}{r':dI}
inductive IR(r:dI):dO->Item->Prop
 |code (c:Code):IR r (.code c) (.code c)
 |inBlock (id:Nat):IR r (.inBlock id) (.inBlock id)
 |inLoop (b:Code):IR r (.inLoop b) (.inLoop b)
 |ops {l:List Oper} {ops:Array Oper} {idx:List Nat} (h:idx.map (ops[·]?)=l.map J):IR r (.ops l ops) (.inRegion ops idx)
 |kW {l k n:Nat} (h:r l=J (k,n)):IR r (.kW l) (.inRangeFunc k)
 |lA {l k n:Nat} (h:r l=J (k,n)):IR r (.lA l) (.endRangeFunc k)
 |beginRound:IR r .beginRound .beginRound
def IR.mono{r:dI}(h:dI.le r r'){a:dO}{i:Item}:IR r a i->IR r' a i
 | .code c=> .code c
 | .inBlock id=> .inBlock id
 | .inLoop b=> .inLoop b
 | .ops e=> .ops e
 | .kW e=> .kW (h.1 _ _ e)
 | .lA e=> .lA (h.1 _ _ e)
 | .beginRound=> .beginRound
inductive G7(r:dI):List dO->List Item->Prop
 |nil:G7 r [] []
 |cons {a:dO} {i:Item} {as:List dO} {is:List Item} (h:IR r a i) (t:G7 r as is):G7 r (a::as) (i::is)
def G7.mono{r r':dI}(h:dI.le r r'):∀{a:List dO} {i:List Item},G7 r a i->G7 r' a i
 |_,_,.nil=> .nil
 |_,_,.cons e t=> .cons (e.mono h) (G7.mono h t)
structure tE(r:dI)(s:BT u)(t:Array Value)(g:mI)(hc:List ey)(todo:List Nat):Prop where
 Ah:hc=lU g.ops.toList 0 []
 ok:ve g.ops hc=M
 dlt:∀x∈hc,∀d,x.o.dst=J d->d<t.size
 infos:g.infos=hc.filter (!·.zG)
 eT:∀x∈hc,x.zG=M->(x.i∈todo↔x∈g.eT)
 u9:∀x∈g.eT,x∈hc/\x.zG=M
 sorted:g.eT.Pairwise (λx y=>x.i<y.i)
 nodup:todo.Nodup
 lt:∀i∈todo,i<g.ops.size
 order:todo.Pairwise (λi j=>∀x∈hc,x.i=i->x.Ah.testBit j=R)
 closed:∀x∈hc,∀y∈hc,x.i∉todo->x.Ah.testBit y.i=M->y.i∉todo
 vJ:∀x∈hc,x.zG=R->x.i∈todo->r (g.base+x.i)=B
 cX:∀n,(∃x∈hc,x.zG=R/\x.i∈todo/\x.o.dst=J n)\/VR r (X s n) (t.getD n undef)
 unsat:g.phase= .unsat->∀x∈hc,x.zG=R->sP g.last x=M->x.i∈todo
 UR:(g.phase= .unsat\/g.phase= .sat)->∀x∈hc,x.zG=R->si g.last x=M->x.i∉todo
 wait:g.phase= .wait->∃e rest BZ,g.eT=e::rest/\todo=e.i::BZ
def tE.mono{r r'}(h:dI.le r r'){s:BT u}{t g hc todo}(hg:tE r s t g hc todo)(hu:∀b,g.base<=b->b<g.base+g.ops.size->r' b=r b):tE r' s t g hc todo where
 Ah:=hg.Ah
 ok:=hg.ok
 dlt:=hg.dlt
 infos:=hg.infos
 eT:=hg.eT
 u9:=hg.u9
 sorted:=hg.sorted
 nodup:=hg.nodup
 lt:=hg.lt
 order:=hg.order
 closed:=hg.closed
 vJ x L V H:=by rw[hu _ U (EB (hg.lt _ H))];exact hg.vJ x L V H
 cX n:=(hg.cX n).imp id (VR.mono h)
 unsat:=hg.unsat
 UR:=hg.UR
 wait:=hg.wait
inductive Az(r:dI)(s:BT u)(t:Array Value)(lo H:Nat):List dO->List Item->Prop
 |plain {ai:List dO} {ci:List Item} (h:G7 r ai ci) (ht:TR r s t):Az r s t lo H ai ci
 |kR {g:mI} {hc:List ey} {todo:List Nat} {k:List dO} {k':List Item} (hk:G7 r k k') (hg:tE r s t g hc todo) (W:lo<=g.base) (F:g.base+g.ops.size<=H):
  Az r s t lo H (.kR g::k) (.inRegion g.ops todo::k')
def Az.mono{r r':dI}(h:dI.le r r'){s:BT u}{t lo H oM}(hh:H<=oM)(hu:∀b,b<H->r' b=r b){a c}:Az r s t lo H a c->Az r' s t lo oM a c
 | .plain e ht=> .plain (e.mono h) (ht.mono h)
 | .kR hk hg W F=> .kR (hk.mono h) (hg.mono h λb _ D=>hu b U) W U
def H9(r:dI):Option Nat->Option Nat->Prop
 |none,B=>True
 |some l,J k=>∃n,r l=J (k,n)
 |_,_=>False
def H9.mono{r}(h:dI.le r r'){a b}(e:H9 r a b):H9 r' a b:=by cases a<;>cases b<;>first|exact e|(have⟨n,e⟩:=e;exact⟨n,h.1 _ _ e⟩)
structure FR(r:dI)(lo H:Nat)(a:bY)(f:Frame):Prop where
 fn:f.fn=a.fn
 size:f.tmps.size=a.size
 defers:Gy r a.defers f.defers
 mode:f.mode=if a.ret then .returning else .run
 kind:f.kind=if a.deferred then .deferred else .normal
 round:H9 r a.roundOf f.roundOf
 top:Az r a.cX f.tmps lo H a.todo f.todo
def FR.mono{r r'}(h:dI.le r r'){lo H oM}(hh:H<=oM)(hu:∀b,b<H->r' b=r b){a f}(e:FR r lo H a f):FR r' lo oM a f:=
 ⟨e.fn,e.size,e.defers.mono h,e.mode,e.kind,e.round.mono h,e.top.mono h hh hu⟩
structure Bs where
 fs:List Frame
 r0:dI
 n0:Nat
inductive DO(r:dI)(base:Bs):Nat->List bY->List Frame->Prop
 |nil (n:Nat) (W:dI.le base.r0 r) (F:∀b,b<base.n0->r b=base.r0 b) (h3:base.n0<=n):DO r base n [] base.fs
 |cons {n lo:Nat} {a:bY} {f:Frame} {as:List bY} {fs:List Frame} (h:FR r lo n a f) (K:lo<=n) (t:DO r base lo as fs):DO r base n (a::as) (f::fs)
def DO.mono{r r' base}(h:dI.le r r'){n as fs}(hu:∀b,b<n->r' b=r b)(A:DO r base n as fs):DO r' base n as fs:=by
 induction A with
 |nil n W F h3=>exact .nil n (dI.le_trans W h) (λb D=>(hu b U).trans (F b D)) h3
 |cons e K t ih=>exact .cons (e.mono h (an _) hu) K (ih λb D=>hu b U)
def Er(P:Program)(r:mI)(s:BT u)(h:aE)(x:ey):Prop:=match eM r.ops s x.o with
 |some M=>∃q,en P h (qw s) x.o=J q/\(∀d,x.o.dst=J d->X s d=q.av (r.base+x.i))/\(∀o,q.obj=J o->N h (r.base+x.i)=J o)
 |some R=>∀d,x.o.dst=J d->X s d= .g undef
 |none=>False
def yj(P:Program)(r:mI)(rem:Nat)(s:BT u)(h:aE)(l:List ey):Prop:=∀x∈l,mw rem x=M->si r.last x=R->Er P r s h x
structure MR(P:Program)(w0:World)(base:Bs)(m:AM)(f:Frame)(cs:List Frame)(w:World):Prop where
 ex:∃r lo,FR r lo m.next m.fr f/\lo<=m.next/\DO r base lo m.callers cs/\HR r m.heap m.next w0 w
 sat:∀g k,m.fr.todo= .kR g::k->g.phase= .sat->m.fr.ret=R->yj P g (jM g.eT) m.fr.cX m.heap g.infos
def WG{a:bY}{d v}(h:a.put d v=J a'):
 (d=B/\a'=a)\/∃n,d=J n/\n<a.size/\a'=a.Aw (sset a.cX n v):=by
 unfold bY.put at h;split at h;.injection h with h;exact .inl ⟨Z,h.symm⟩
 .split at h;.rename_i n hn;injection h with h;exact .inr ⟨n,Z,hn,h.symm⟩
  .cases h
def C2(d:Option Tmp)(t:Array Value)(AV:Value):Array Value:=match d with
 |some d=>t.setIfInBounds d AV
 |none=>t
def iz(d:Option Tmp)(s:BT u)(v:u):BT u:=match d with
 |some d=>sset s d v
 |none=>s
def mW{a:bY}{d:Option Tmp}{v:u}(h:a.put d v=J a'):a'=a.Aw (iz d a.cX v)/\(∀n,d=J n->n<a.size):=by
 obtain⟨rfl,rfl⟩|⟨n,rfl,hn,rfl⟩:=WG h;.exact⟨Z,λn h=>by cases h⟩
 .exact⟨Z,λm h=>by cases h;exact hn⟩
def lg(d t AV):(C2 d t AV).size=t.size:=by cases d<;>simp[C2]
def TR.put{r}{s:BT u}{t}(e:TR r s t){d}(z:∀n,d=J n->n<t.size){v}(hv:VR r v AV):TR r (iz d s v) (C2 d t AV):=by
 cases d with
 |none=>exact e
 |some d=>exact e.set (z d Z) hv
def Gn(d)(s:BT u)(v n):X (iz d s v) n=if d=J n then v else X s n:=by
 cases d with
 |none=>rfl
 |some d=>
  simp only[iz,pX,bF];by_cases h:n=d;.subst h;simp
  .have:¬d=n:=λe=>h e.symm;simp[h,this]
def Gh(d)(t:Array Value)(AV)(z:∀n,d=J n->n<t.size)(n):(C2 d t AV).getD n undef=if d=J n then AV else t.getD n undef:=by
 cases d with
 |none=>rfl
 |some d=>
  simp only[C2,bF];by_cases h:d=n;.subst h;simp[z d Z]
  .simp[h,fN,tH h]
def pI:∀(l:List Oper) (i:Nat) (acc:List Nat) (x:ey),x∈lU l i acc->i<=x.i/\x.i<i+O l/\l[x.i-i]?=J x.o/\x.zG=cH x.o.op
 |[],_,_,_,h=>by simp[lU]at h
 |o::l,i,acc,x,h=>by
  simp only[lU,bJ]at h;obtain rfl|h:=h
  .simp
  .have⟨W,F,h3,h4⟩:=pI l (i+1) _ x h;refine⟨U,gr,?_,h4⟩;have:x.i-i=(x.i-(i+1))+1:=U;rw[this];simpa using h3
def KD:∀(l:List Oper) (i:Nat) (acc:List Nat) (x y:ey),x∈lU l i acc->y∈lU l i acc->x.i=y.i->x=y
 |[],_,_,_,_,h,_,_=>by simp[lU]at h
 |o::l,i,acc,x,y,L,hy,V=>by
  simp only[lU,bJ]at L hy;rcases L with rfl|L<;>obtain rfl|hy:=hy
  .rfl
  .have:=(pI l (i+1) _ y hy).1;simp at V;omega
  .have:=(pI l (i+1) _ x L).1;simp at V;omega
  .exact KD l (i+1) _ x y L hy V
def C7:∀(l:List Oper) (i:Nat) (acc:List Nat) (j:Nat),j<O l->∃x∈lU l i acc,x.i=i+j
 |[],_,_,j,h=>by simp at h
 |o::l,i,acc,0,_=>⟨_,by simp only[lU];exact jh,Z⟩
 |o::l,i,acc,j+1,h=>by have⟨x,L,V⟩:=C7 l (i+1) (acc++[o.after.toList.foldl (λs e=>if Region.binds .any e then s|||2^e.on|||(match iS e.on acc with|some x=>x|none=>0)else s) 0]) j (by simp at h;omega);exact⟨x,by simp only[lU];exact bP _ L,U⟩
section
variable{r:dI}{s:BT u}{t:Array Value}{g:mI}{hc:List ey}{todo:List Nat}(hg:tE r s t g hc todo)
include hg
def tE.oper{x}(L:x∈hc):g.ops[x.i]?=J x.o/\x.zG=cH x.o.op/\x.i<g.ops.size:=by rw[hg.Ah]at L;have⟨_,F,h3,h4⟩:=pI _ _ _ _ L;simp at F h3;exact⟨h3,h4,F⟩
def tE.inj{x y}(L:x∈hc)(hy:y∈hc)(h:x.i=y.i):x=y:=by rw[hg.Ah]at L hy;exact KD _ _ _ _ _ L hy h
def tE.has(h:i<g.ops.size):∃x∈hc,x.i=i:=by have⟨x,L,V⟩:=C7 g.ops.toList 0 [] i (Mf h);exact⟨x,by rw[hg.Ah];exact L,U⟩
end
def tE.next{r}{s:BT u}{t g hc}{e:ey}{rest todo}(hg:tE r s t g hc (e.i::todo))(V:g.eT=e::rest)
 {v}  (hv:VR r v AV) (z:∀n,e.o.dst=J n->n<t.size):tE r (iz e.o.dst s v) (C2 e.o.dst t AV) (g.after rest e) hc todo:=by
 have⟨heA,heE⟩:=hg.u9 e (by rw[V];simp);have CL:=iG.1 hg.nodup;have AQ:=eP.1 hg.order;have rM:=hg.sorted;rw[V]at rM;have rM:=eP.1 rM;have aeS:∀(rest:List ey) (e:ey),(g.after rest e).ops=g.ops/\(g.after rest e).infos=g.infos/\(g.after rest e).eT=rest/\(g.after rest e).base=g.base/\(g.after rest e).phase= .unsat/\(g.after rest e).last=J e:=λ_ _=>⟨Z,Z,Z,Z,Z,Z⟩;have⟨a1,a2,a3,a4,a5,a6⟩:=aeS rest e;have hq:∀x∈hc,x.zG=R->(x.i∈todo↔x.i∈e.i::todo):=by
  intro x L xT;constructor;.exact λh=>bP _ h
  .intro h;obtain h|h:=bJ.1 h
   .exact absurd (hg.inj L heA h) (λe'=>by subst e';rw[heE]at xT;cases xT)
   .exact h
 constructor;.rw[a1];exact hg.Ah
 .rw[a1];exact hg.ok
 .intro x L d uu;rw[lg];exact hg.dlt x L d uu
 .rw[a2];exact hg.infos
 .intro x L xT;rw[a3];have:=hg.eT x L xT;rw[V]at this;constructor
  .intro h;rcases bJ.1 (this.1 (bP _ h))with W|W
   .subst W;exact absurd h CL.1
   .exact W
  .intro h;rcases bJ.1 (this.2 (bP _ h))with W|W
   .have:=rM.1 x h;omega
   .exact W
 .intro x L;rw[a3]at L;exact hg.u9 x (V▸(bP _ L))
 .rw[a3];exact rM.2
 .exact CL.2
 .intro i H;rw[a1];exact hg.lt i (bP _ H)
 .exact AQ.2
 .intro x L y hy hxt D;by_cases xT:x.i=e.i;.intro Lo;have:=AQ.1 y.i Lo x L xT;rw[this]at D;cases D
  .intro Lo;exact hg.closed x L y hy (by simp[xT,hxt]) D (bP _ Lo)
 .intro x L xT hxt;rw[a4];exact hg.vJ x L xT (bP _ hxt)
 .intro n;rw[Gn,Gh _ _ _ z];by_cases hn:e.o.dst=J n;.right;simp only[hn,cA];exact hv
  .simp only[hn,cU];obtain⟨x,L,xT,hxt,hxd⟩|h:=hg.cX n
   .exact .inl ⟨x,L,xT,(hq x L xT).2 hxt,hxd⟩
   .exact .inr h
 .intro _ x L xT sC;rw[a6]at sC;simp only[sP]at sC;rw[hq x L xT];refine cJ λhxt=>?_;exact hg.closed x L e heA hxt sC bR
 .intro _ x L xT F3;rw[a6]at F3;simp only[si]at F3;intro hxt;have:=AQ.1 x.i hxt e heA Z;rw[this]at F3;cases F3
 .intro h;rw[a5]at h;cases h
def jx(f:Frame){k:List Item}(ht:f.todo= .inRegion ops (i::rest)::k)(ho:ops[i]?=J o)(AV):
 f.finish AV={f with tmps:=C2 o.dst f.tmps AV,todo:= .inRegion ops rest::k}:=by
 have⟨fn,tmps,td,defers,mode,kind,roundOf⟩:=f;simp only at ht;subst ht;simp only[Frame.finish,ho,aT];cases o.dst<;>rfl
def mR{r lo H a f}(h:FR r lo H a f){v:u}(hf:a.finish v=J a')(hv:VR r v AV):FR r lo H a' (f.finish AV):=by
 obtain⟨XQ,vj,hdefers,im,pd,pU,iM⟩:=h;obtain⟨afn,aslots,asize,atodo,adefers,aret,adef,around⟩:=a;unfold bY.finish at hf;simp only at*;split at hf
 ·
  rename_i o l ops k;split at hf
  .rename_i b pM;injection hf with hf;subst hf
   obtain⟨rfl,z⟩:=mW pM;generalize oR:f.todo=ft at iM;cases iM with
   |plain lE oi=>
   cases lE with|cons H ht=>
   cases H with|ops HC=>
   rename_i is idx;cases idx with
   |nil=>simp at HC
   |cons i rest=>
   simp only[cB,Ek]at HC;rw[jx f oR HC.1 AV];exact⟨XQ,by rw[lg];exact vj,hdefers,im,pd,pU,.plain (.cons (.ops HC.2) ht) (oi.put (λn hn=>by rw[vj];exact z n hn) hv)⟩
  .cases hf
 .rename_i g k;split at hf
  .rename_i e rest zL uR;split at hf
   .rename_i b pM;injection hf with hf;subst hf
    obtain⟨rfl,z⟩:=mW pM;generalize oR:f.todo=ft at iM;cases iM with
    |plain lE _=>cases lE with|cons H _=>cases H
    |kR hk hg W F=>
    rename_i hc todo k';have⟨e',zN,BZ,tN,xW⟩:=hg.wait zL;rw[uR]at tN;injection tN with h3 h4;subst h3;subst h4;subst xW
    have⟨heA,_⟩:=hg.u9 e (by rw[uR];simp);rw[jx f oR (hg.oper heA).1 AV];exact⟨XQ,by rw[lg];exact vj,hdefers,im,pd,pU,.kR (g:=g.after rest e) hk (hg.next uR hv (λn hn=>by rw[vj];exact z n hn)) W F⟩
   .cases hf
  .cases hf
 .rename_i l k;injection hf with hf;subst hf
  generalize oR:f.todo=ft at iM;cases iM with
  |plain lE oi=>
  cases lE with|cons H ht=>
  cases H with|kW K=>
  have⟨fn,tmps,td,defers,mode,kind,roundOf⟩:=f;simp only at oR;subst oR;exact⟨XQ,vj,hdefers,im,pd,pU,.plain (.cons (.lA K) ht) oi⟩
 .cases hf
variable{base:Bs}{m':AM}{wait:bY}
def qY:∀(l:List u) (i:Nat) (t:BT u) (n:Nat),X (eK l i t) n=if i<=n then(match l[n-i]? with|some v=>v|none=>X t n)else X t n
 |[],i,t,n=>by simp[eK]
 |v::l,i,t,n=>by
  rw[eK,qY l (i+1) _ n,pX];by_cases W:i+1<=n;.have F:i<=n:=U;have h3:n-i=(n-(i+1))+1:=U;simp[W,F,h3,(U:¬n=i)]
  .by_cases F:n=i;.subst F;simp;intro h;omega
   .simp[W,F,(U:¬i<=n)]
def wL{g d a}(ha:fv r args as)(V:bY.enter P g args d=J a)(n):
 FR r n n a (Frame.enter P g as.toArray (if d then .deferred else .normal))/\a.ret=R/\(∃c,a.todo=[.code c])/\a.roundOf=B:=by
 unfold bY.enter at V;split at V
 .rename_i fn hf;split at V
  .rename_i c D;split at V
   .rename_i cf;injection V with V;subst V
    have K:=ha.length;refine⟨⟨rfl,?_,.nil,rfl,rfl,trivial,?_⟩,rfl,⟨c,rfl⟩,rfl⟩;.simp[Frame.enter,hf];omega
    .have ht:(Frame.enter P g as.toArray (if d then CallKind.deferred else CallKind.normal)).todo=[.code c]:=by simp[Frame.enter,hf,D]
     rw[ht];refine .plain (.cons (.code c) .nil) λi=>?_;rw[qY];simp only[aQ,cA,qk,Ed];have htm:(Frame.enter P g as.toArray (if d then CallKind.deferred else CallKind.normal)).tmps=as.toArray++Array.replicate (fn.ntmps-(O as)) undef:=by simp[Frame.enter,hf]
     rw[htm];cases H:args[i]? with
     |some v=>
      have⟨AV,hu,P'⟩:=ha.get H;have:(as.toArray++Array.replicate (fn.ntmps-(O as)) undef).getD i undef=AV:=by rw[fN,Array.getElem?_append_left (Mf ((dD.1 hu).1))];simp[hu]
      rw[this];exact P'
     |none=>
      have DF:=List.getElem?_eq_none_iff.1 H;have:(as.toArray++Array.replicate (fn.ntmps-(O as)) undef).getD i undef=undef:=by rw[fN,Array.getElem?_append_right gr];simp only[Array.getElem?_replicate];split<;>rfl
      rw[this];exact .g _
   .cases V
  .cases V
 .cases V
def uX{r}:∀(ps:List Tmp) (vs:List u) (as:List Value) (t t':BT u) (arr:Array Value),kr ps vs arr.size t=J t'->fv r vs as->TR r t arr->
 TR r t' ((ps.zip as).foldl (λtmps (x:Tmp×Value)=>tmps.setIfInBounds x.1 x.2) arr)/\((ps.zip as).foldl (λtmps (x:Tmp×Value)=>tmps.setIfInBounds x.1 x.2) arr).size=arr.size
 |[],vs,as,t,t',arr,h,hv,ht=>by
  cases vs with
  |nil=>simp only[kr,bF]at h;subst h;exact⟨ht,Z⟩
  |cons v vs=>simp[kr]at h
 |p::ps,vs,as,t,t',arr,h,hv,ht=>by
  cases hv with
  |nil=>simp[kr]at h
  |cons hv va=>
  simp only[kr]at h;split at h;.rename_i hp;simp only[List.zip_cons_cons,DK];have:=uX ps _ _ _ t' (arr.setIfInBounds p _) (Mf h) va (ht.set hp hv);exact⟨this.1,by rw[this.2];simp⟩
  .cases h
def oJ{a:bY}{v:u}(h:a.finish v=J a'):a'.ret=a.ret/\∀g k,a'.todo= .kR g::k->g.phase= .unsat:=by
 unfold bY.finish at h;split at h
 .split at h
  .rename_i b pM;injection h with h;subst h
   obtain⟨rfl,_⟩:=mW pM;exact⟨Z,λg k e=>by simp[bY.lz]at e⟩
  .cases h
 .split at h
  .split at h
   .rename_i b pM;injection h with h;subst h
    obtain⟨rfl,_⟩:=mW pM;refine⟨Z,λg k e=>?_⟩;simp only[bY.lz,Ek,dO.kR.injEq]at e;rw[<-e.1];rfl
   .cases h
  .cases h
 .injection h with h;subst h
  exact⟨Z,λg k e=>by simp[bY.lz]at e⟩
 .cases h
def FR.abC{lo H a f}(h:FR r lo H a f):∀d x v k,f.todo≠ .call d M x v::k:=by
 intro d x v k e;have:=h.top;rw[e]at this;generalize a.todo=q at this;cases this with
 |plain lE _=>cases lE with|cons H _=>cases H
def MR.mk'{m:AM}{f cs lo}(W:FR r lo m.next m.fr f)(F:lo<=m.next)(h3:DO r base lo m.callers cs)(h4:HR r m.heap m.next w0 w)
 (h5:∀g k,m.fr.todo= .kR g::k->g.phase= .sat->m.fr.ret=R->yj P g (jM g.eT) m.fr.cX m.heap g.infos):MR P w0 base m f cs w:=⟨⟨r,lo,W,F,h3,h4⟩,h5⟩
def uF{m:AM}{f0 f cs wa wb}{s:Sem Next}{lo H}
 (hF:FR r lo H wait f) (jL:lo<=H) (Cj:H<=m.next) (hC:DO r base lo m.callers cs) (hH:HR r m.heap m.next w0 wb)
 (hg:sV P f0 wa f cs s wb) (V:Ls P r m.heap m.next w0 wb s er) (hu:upon P m wait er=J m'):
 ∃f' tw w',step P (lone f0 cs wa)= .next (lone f' tw w')/\MR P w0 base m' f' tw w':=by
 have⟨Bi,Mc,mh,my⟩:=m;simp only at Cj hC hH V;cases er with
 |val v Q=>
  obtain⟨n,AV,w',eV,hn,hv,Q4⟩:=V;simp only[upon]at hu;split at hu
  .rename_i fr pB;injection hu with hu;subst hu
   obtain⟨ht1,Ln⟩:=oJ pB;exact⟨_,cs,w',xy hg eV hn,MR.mk' (r:=r) (lo:=lo) ((mR hF pB hv).mono (dI.le_refl _) Cj λ_ _=>rfl) (by show lo<=my;omega) hC Q4 λg k e G=>by rw[Ln g k e]at G;cases G⟩
  .cases hu
 |rf o len Q=>
  have⟨k,aw,w',eV,cf,VF,Q4⟩:=V;simp only[upon]at hu;split at hu
  .rename_i fr pB;injection hu with hu;subst hu
   have⟨ht1,Ln⟩:=oJ pB;have hle:=dI.vR (x:=(k,aw)) VF;have rL:∀b,b<H->r.upd my (k,aw) b=r b:=λb D=>dI.kP _ _ U;have Pn:=hF.mono hle (an H) rL;have hv:VR (r.upd my (k,aw)) (.og my 0 0 len) (.slice (J ⟨k,0,B⟩) len aw):=VR.og (j:=0) (dI.iT _ _ _) U;exact⟨_,cs,w',xy hg eV (.inl Z),MR.mk' (r:=r.upd my (k,aw)) (lo:=lo) ((mR Pn pB hv).mono (dI.le_refl _) (by show H<=my+1;omega) λ_ _=>rfl) (by show lo<=my+1;omega)
    (hC.mono hle λb D=>rL b U) Q4 λg k e G=>by rw[Ln g k e]at G;cases G⟩
  .cases hu
 |enter g args=>
  have⟨as,eV,hv⟩:=V;simp only[upon]at hu;split at hu
  .rename_i fr N7;injection hu with hu;subst hu
   have⟨e1,e2,⟨c,e3⟩,e4⟩:=wL hv N7 my;exact⟨_,f::cs,wb,YC hg eV hF.abC,MR.mk' (r:=r) (lo:=my) e1 (an _) (.cons (hF.mono (dI.le_refl _) Cj λ_ _=>rfl) U hC) hH λg k e=>by have:fr.todo= .kR g::k:=e;rw[e3]at this;cases this⟩
  .cases hu
 |defer d=>
  have⟨d',eV,z⟩:=V;simp only[upon]at hu;split at hu
  .rename_i CJ;split at hu
   .rename_i fr pB;injection hu with hu;subst hu
    have⟨ht1,Ln⟩:=oJ pB;have Pn:FR r lo H (wait.xx (d::wait.defers)) {f with defers:=d'::f.defers}:=⟨hF.fn,hF.size,.cons z hF.defers,hF.mode,hF.kind,hF.round,hF.top⟩;exact⟨_,cs,wb,aas hg eV,MR.mk' (r:=r) (lo:=lo) ((mR Pn pB (.g _)).mono (dI.le_refl _) Cj λ_ _=>rfl) (by show lo<=my;omega) hC hH λg k e G=>by rw[Ln g k e]at G;cases G⟩
   .cases hu
  .cases hu
 |round l args=>
  have⟨k,n,as,ke,al,K,Sn,hk,Gs,hv,cf,eV⟩:=V;simp only[upon,Sn]at hu;split at hu
  .rename_i cX Lt;injection hu with hu;subst hu
   have⟨l1,l2,l3,l4,l5,l6,l7,l8,l9⟩:=Gs;have XY:=uX al.params args as al.cX cX ke.tmps (l5▸Lt) hv l4;have N4:(ke.params.zip as.toArray).foldl (λtmps (x:Tmp×Value)=>tmps.setIfInBounds x.1 x.2) ke.tmps=(al.params.zip as).foldl (λtmps (x:Tmp×Value)=>tmps.setIfInBounds x.1 x.2) ke.tmps:=by rw[<-Array.foldl_toList,Array.toList_zip,l6]
   refine⟨_,f::cs,wb,ac1 hg eV,MR.mk' (r:=r) (lo:=my) ⟨l3,?_,.nil,Z,Z,⟨n,K⟩,?_⟩ (an _) (.cons (hF.mono (dI.le_refl _) Cj λ_ _=>rfl) U hC) hH λg k e=>by have:[dO.code al.assign,.beginRound,.code al.body]= .kR g::k:=e;cases this⟩;.show((ke.params.zip as.toArray).foldl (λtmps (x:Tmp×Value)=>tmps.setIfInBounds x.1 x.2) ke.tmps).size=al.size;rw[N4,XY.2,l5]
   .rw[N4,l7,l8];exact .plain (.cons (.code _) (.cons .beginRound (.cons (.code _) .nil))) XY.1
  .cases hu
variable{todo:List dO}
def xh{s:BT u}{f:Frame}(h:TR r s f.tmps)(x):VR r (qw s x) (f.eval x):=by
 cases x with
 |tmp t=>exact h t
 |const v=>exact .g v
 |global g=>exact .g _
 |func g=>exact .fn .nil
def yv{r}(id):∀{a:List dO} {c:List Item},G7 r a c->(∀a',pj id a=J a'->∃c',exitTo id c=J c'/\G7 r a' c')/\(pj id a=B->exitTo id c=B)
 |_,_,.nil=>⟨λ_ h=>(by simp[pj]at h),λ_=>rfl⟩
 |_,_,.cons (a:=a) (as:=as) h t=>by
  have ih:=yv id t;cases h with
  |inBlock Cg=>
   simp only[pj,exitTo];by_cases Jg:(Cg==id)=M;.simp only[Jg,cA];exact⟨λa' e=>by cases e;exact⟨_,Z,t⟩,λe=>by cases e⟩
   .simp only[Jg];exact ih
  |code c=>simpa[pj,exitTo]using ih
  |inLoop b=>simpa[pj,exitTo]using ih
  |ops e=>simpa[pj,exitTo]using ih
  |kW e=>simpa[pj,exitTo]using ih
  |lA e=>simpa[pj,exitTo]using ih
  |beginRound=>simpa[pj,exitTo]using ih
def zy{s:BT u}{t:Array Value}{b}(h:eM ops s o=J b)
 (G:∀j w o' d,o.guard=J (j,w)->ops[j]?=J o'->o'.dst=J d->VR r (X s d) (t.getD d undef)):Region.wanted o (yielded ops t)=b:=by
 unfold eM at h;unfold Region.wanted;split at h;.rename_i hg;injection h with h;rw[hg];exact h
 .rename_i j want hg;rw[hg];split at h
  .rename_i o' ho;split at h
   .rename_i d z;have hv:=G j want o' d hg ho z;have N:t.getD d undef=(t[d]?).getD undef:=fN ..;split at h
    .rename_i q hq;rw[hq]at hv;injection h with h;subst h
     rw[N]at hv;simp only[yielded,ho,aT,z];cases ht:t[d]? with
     |none=>rw[ht]at hv;cases hv
     |some AV=>rw[ht]at hv;simp only[fI]at hv;cases hv;cases q<;>cases want<;>rfl
    .rename_i q hq;rw[hq]at hv;injection h with h;subst h
     rw[N]at hv;simp only[yielded,ho,aT,z];cases ht:t[d]? with
     |none=>rfl
     |some AV=>rw[ht]at hv;simp only[fI]at hv;cases hv;rfl
    .cases h
   .cases h
  .cases h
def BJ{s:BT u}{f:Frame}(h:TR r s f.tmps)(o:Oper):∀x∈o.op.operands.toList,VR r (qw s x) (f.eval x):=λx _=>xh h x
def Dv{xt:FuncId->Option Ext}(V:pg P xt h ae o=J er){c:Call}(A:o.op= .defer c):∃d,er= .defer d:=by
 unfold pg at V;rw[A]at V;replace V:rj ae c=J er:=V;unfold rj at V;split at V
 .unfold Hf at V;split at V;.injection V with V;exact⟨_,V.symm⟩
  .cases V
 .cases V
def tT{m d l}(h:wait.roundOf=J l):upon P m wait (.defer d)=B:=by simp[upon,h]
def uI(hr:HR r h Y w0 w){o obj}(Va:OR r o 0 (J obj)):
 HR (r.upd Y (w.heap.size,0)) (aI h Y o) (Y+1) w0 {w with heap:=w.heap.push obj}:=
 hr.alloc (hr.fresh (an _)) (aZ _) (bG _) (by simp[aj]) (λb x e=>by rw[aj,ak];have:=(hr.zX b x e).1;omega) Va
def Pw.obj{ev:Operand->Value}{q}(h:Pw P r ev o w q){ob}(hq:q.obj=J ob):
 ∃x AV,(execOp ev o).run P w= .ok (.value AV) {w with heap:=w.heap.push x}/\OR r ob 0 (J x)/\∀(r':dI) (id:Nat),r' id=J (w.heap.size,0)->VR r' (q.av id) AV:=by
 cases q with
 |val v=>cases hq
 |wF o'=>cases hq;have⟨x,W,F⟩:=h;exact⟨x,_,W,F,λr' id e=> .ptr e⟩
 |ri o' len cap=>cases hq;have⟨x,W,F⟩:=h;exact⟨x,_,W,F,λr' id e=> .sl e⟩
 |AT o'=>cases hq;have⟨x,W,F⟩:=h;exact⟨x,_,W,F,λr' id e=> .mp e⟩
def rX(P:Program)(w0:World)(base:Bs)(f:Frame)(cs:List Frame)(w:World)(m':AM):Prop:=
 ∃f' tw w',Steps P (lone f cs w) (lone f' tw w')/\MR P w0 base m' f' tw w'
def mK{m:AM}{f cs lo}(hF:FR r lo m.next m.fr f)(jL:lo<=m.next)(hC:DO r base lo m.callers cs)(hH:HR r m.heap m.next w0 w)
 (iy:m.fr.ret=R)  {ad0} (ht:to m todo=J m') (lE:G7 r todo ad0) (oi:TR r m.fr.cX f.tmps) (jS:step P (lone f cs w)= .next (lone {f with todo:=ad0} cs w)):rX P w0 base f cs w m':=by
 unfold to at ht;cases ht;have⟨Bi,Mc,mh,my⟩:=m;refine⟨_,cs,w,.one jS,MR.mk' (r:=r) (lo:=lo) ⟨hF.fn,hF.size,hF.defers,hF.mode,hF.kind,hF.round,.plain lE oi⟩ jL hC hH λg k e=>?_⟩;have e:todo= .kR g::k:=e;rw[e]at lE;cases lE with|cons H _=>cases H
def RH{xt:FuncId->Option Ext}(pk:PK P xt){m:AM}{f cs lo}(hF:FR r lo m.next m.fr f)(jL:lo<=m.next)
 (hC:DO r base lo m.callers cs) (hH:HR r m.heap m.next w0 w) (iy:m.fr.ret=R) {l k} (kI:m.fr.todo= .ops l ops::k) (G:H6 P xt m l ops k=J m'):rX P w0 base f cs w m':=by
 have im:f.mode= .run:=by rw[hF.mode,iy];rfl
 have iM:=hF.top;rw[kI]at iM;generalize oR:f.todo=ft at iM;cases iM with
 |plain lE oi=>
 cases lE with|cons H lE=>
 cases H with|ops HC=>
 rename_i is idx;unfold H6 at G;split at G
 ·
  have:idx=[]:=Mf HC
  subst this;exact mK hF jL hC hH iy G lE oi (IC im oR (Fp ⟨ops,Z,Z⟩))
 .rename_i o l;cases idx with
  |nil=>simp at HC
  |cons i rest=>
  simp only[cB,Ek]at HC;obtain⟨hio,hrest⟩:=HC;unfold XS at G;split at G
  .rename_i b hw;have i':Region.wanted o (yielded ops f.tmps)=b:=zy hw λ_ _ _ d _ _ _=>oi d
   cases b with
   |false=>
    simp only[du,cU]at G;unfold AK at G;split at G
    .rename_i fr pM;injection G with G;subst G
     obtain⟨rfl,z⟩:=mW pM;have jS:=L5 (P:=P) (cs:=cs) (w:=w) im oR (by simp[hio,i']);rw[jx f oR hio]at jS;obtain⟨Bi,Mc,mh,my⟩:=m;refine⟨_,cs,w,.one jS,MR.mk' (r:=r) (lo:=lo) ⟨hF.fn,by rw[lg];exact hF.size,hF.defers,hF.mode,hF.kind,hF.round,.plain (.cons (.ops hrest) lE) (oi.put (λn hn=>by rw[hF.size];exact z n hn) (.g _))⟩ jL hC hH λg k' e=>?_⟩;have e:dO.ops l ops::k= .kR g::k':=e;cases e
    .cases G
   |true=>
    simp only[cA]at G;split at G
    ·
     unfold ud at G;split at G
     .rename_i er Rm;have z:f.roundOf=B\/∀c,o.op≠ .defer c:=by
       cases CJ:f.roundOf with
       |none=>exact .inl Z
       |some l'=>
        right;intro c A;obtain⟨d,rfl⟩:=Dv Rm A;have uP:=hF.round;rw[CJ]at uP;cases har:m.fr.roundOf with
        |none=>rw[har]at uP;exact uP
        |some l2=>rw[tT har]at G;cases G
      have hg:=Ic (P:=P) (cs:=cs) (w:=w) im oR hio i' z;have tm:=DY pk hH (BJ oi o) Rm;have⟨f',tw,w',W,F⟩:=uF hF jL (an _) hC hH (.of_eq hg) tm G;exact⟨f',tw,w',.one W,F⟩
     .cases G
    ·
     rename_i uR;have CL:f.roundOf=B\/∀c,o.op≠ .defer c:= .inr λc A=>by rw[A]at uR;simp[cH]at uR
     have hg:=Ic (P:=P) (cs:=cs) (w:=w) im oR hio i' CL;unfold yN at G;split at G
     .rename_i q hq;have tm:=zc P hH (BJ oi o) hq;split at G
      .rename_i Sn;cases q with
       |wF _=>cases Sn
       |ri _ _ _=>cases Sn
       |AT _=>cases Sn
       |val v=>
       split at G
       .rename_i fr pM;injection G with G;subst G
        obtain⟨rfl,z⟩:=mW pM;have⟨AV,eV,hv⟩:=tm;have jS:=xy (.of_eq hg) eV (.inl Z);rw[jx f oR hio]at jS;have⟨Bi,Mc,mh,my⟩:=m;refine⟨_,cs,w,.one jS,MR.mk' (r:=r) (lo:=lo) ⟨hF.fn,by rw[lg];exact hF.size,hF.defers,hF.mode,hF.kind,hF.round,.plain (.cons (.ops hrest) lE) (oi.put (λn hn=>by rw[hF.size];exact z n hn) hv)⟩ jL hC hH λg k' e=>?_⟩;have e:dO.ops l ops::k= .kR g::k':=e;cases e
       .cases G
      .rename_i ob Sn;split at G
       .rename_i fr pM;injection G with G;subst G
        obtain⟨rfl,z⟩:=mW pM;have⟨x,AV,eV,Va,hv⟩:=tm.obj Sn;have jS:=xy (.of_eq hg) eV (.inl Z);rw[jx f oR hio]at jS;have⟨Bi,Mc,mh,my⟩:=m;have VF:r my=B:=hH.fresh (an _);have hle:=dI.vR (x:=(w.heap.size,0)) VF;have rL:∀b,b<my->r.upd my (w.heap.size,0) b=r b:=λb D=>dI.kP _ _ U;have Pn:=hF.mono hle (bG my) rL;refine⟨_,cs,_,.one jS,MR.mk' (r:=r.upd my (w.heap.size,0)) (lo:=lo) ⟨Pn.fn,by rw[lg];exact Pn.size,Pn.defers,Pn.mode,Pn.kind,Pn.round,.plain (.cons (.ops hrest) (lE.mono hle)) ((oi.mono hle).put (λn hn=>by rw[hF.size];exact z n hn) (hv _ _ (dI.iT _ _ _)))⟩
         (by show lo<=my+1;simp only at jL;omega) (hC.mono hle λb D=>rL b (by simp only at jL;omega)) (uI hH Va) λg k' e=>?_⟩
        have e:dO.ops l ops::k= .kR g::k':=e;cases e
       .cases G
     .cases G
  .cases G
def OY:∀(n:Nat) (l:List Nat),(∀j,j<n->j∈l)->n<=O l
 |0,_,_=>aQ _
 |n+1,l,h=>by have hn:=h n (aZ _);have:=OY n (l.erase n) λj hj=>(F5 U).2 (h j U);rw[zW hn]at this;have K:=nX hn;omega
def least(p:Nat->Prop):∀(n:Nat),(∃j,j<n/\p j)->∃j,j<n/\p j/\∀i,i<j->¬p i
 |0,h=>by have⟨j,hj,_⟩:=h;omega
 |n+1,h=>by
  by_cases hn:∃j,j<n/\p j;.have⟨j,W,F,h3⟩:=least p n hn;exact⟨j,U,F,h3⟩
  .have⟨j,hj,hp⟩:=h;refine⟨j,hj,hp,λi H hpi=>hn ⟨i,U,hpi⟩⟩
def FY(acc j):∀(es:List Edge) (s:Nat),
 (es.foldl (λs e=>if Region.binds .any e then s|||2^e.on|||(match iS e.on acc with|some x=>x|none=>0)else s) s).testBit j=M->
 s.testBit j=M\/∃e∈es,Region.binds .any e=M/\(e.on=j\/∃a,acc[e.on]?=J a/\a.testBit j=M)
 |[],s,h=> .inl h
 |e::es,s,h=>by
  simp only[DK]at h;obtain W|⟨e',tN,F⟩:=FY acc j es _ h
  .split at W
   .rename_i D;rw[Nat.testBit_or,Nat.testBit_or]at W;simp only[vu]at W;obtain (W|W)|W:=W
    .exact .inl W
    .right;refine⟨e,bR,D,.inl ?_⟩;rw[Nat.testBit_two_pow]at W;simpa using W
    .right;refine⟨e,bR,D,.inr ?_⟩;rw[xi]at W;cases ha:acc[e.on]? with
     |none=>rw[ha]at W;simp at W
     |some a=>rw[ha]at W;exact⟨a,Z,W⟩
   .exact .inl W
  .exact .inr ⟨e',by simp[tN],F⟩
def KT:∀(l:List Oper) (i:Nat) (acc:List Nat),O acc=i->∀x∈lU l i acc,∀j,x.Ah.testBit j=M->
 ∃e∈x.o.after.toList,Region.binds .any e=M/\(e.on=j\/(∃a,acc[e.on]?=J a/\a.testBit j=M)\/∃y∈lU l i acc,y.i=e.on/\y.Ah.testBit j=M)
 |[],_,_,_,x,h,_,_=>by simp[lU]at h
 |o::l,i,acc,cf,x,h,j,hj=>by
  simp only[lU,bJ]at h;obtain rfl|h:=h
  .simp only at hj;obtain W|⟨e,V,D,F⟩:=FY acc j _ 0 hj
   .simp at W
   .exact⟨e,V,D,F.imp id .inl⟩
  .have⟨e,V,D,F⟩:=KT l (i+1) _ (by simp[cf]) x h j hj;refine⟨e,V,D,?_⟩;obtain F|⟨a,ha,F⟩|⟨y,hy,F⟩:=F;.exact .inl F
   .by_cases dc:e.on<O acc;.rw[bX dc]at ha;exact .inr (.inl ⟨a,ha,F⟩)
    .rw[cE U]at ha;have h0:e.on-(O acc)=0:=by
      cases hq:e.on-(O acc) with
      |zero=>rfl
      |succ q=>rw[hq]at ha;simp at ha
     rw[h0]at ha;simp only[B',bF]at ha;refine FF ⟨⟨i,o,_,cH o.op⟩,by simp only[lU];exact jh,by show i=e.on;omega,?_⟩;rw[<-ha]at F;exact F
   .exact FF ⟨y,by simp only[lU];exact bP _ hy,F⟩
def Bq:∀(l:List Oper) (i:Nat) (acc:List Nat),(lU l i acc).Pairwise (λx y=>x.i<y.i)
 |[],_,_=>by simp only[lU];exact List.Pairwise.nil
 |o::l,i,acc=>by simp only[lU];refine eP.2 ⟨λy hy=>?_,Bq l _ _⟩;have:=(pI l _ _ y hy).1;show i<y.i;omega
def KZ{hc}(h:ve ops hc=M){x}(L:x∈hc){e:Edge}(V:e∈x.o.after.toList)(D:Region.binds .any e=M):e.on<x.i:=by simp only[ve,aS,fU]at h;have:=h.1.1 x L e V;simpa[D]using this
def y8{ops:Array Oper}{hc}(hA:hc=lU ops.toList 0 [])(tm:ve ops hc=M):
 ∀(fuel t:Nat) (listed:Array Bool) (acc:List Nat),listed.size=ops.size->(∀j,listed.getD j R=M↔j∈acc)->acc.Nodup->(∀j∈acc,j<ops.size)->O acc+fuel=ops.size->
 (∀x∈hc,x.i∈acc->∀j,x.Ah.testBit j=M->j∈acc)->acc.Pairwise (λj i=>∀x∈hc,x.i=i->x.Ah.testBit j=R)->
 let σ:=Region.linearise.go .any ops fuel t listed acc
 σ.Nodup/\(∀j,j∈σ↔j<ops.size)/\σ.Pairwise (λi j=>∀x∈hc,x.i=i->x.Ah.testBit j=R)
 |0,t,listed,acc,tU,K,CL,dc,cf,hclo,AQ=>by
  simp only[Region.linearise.go];refine⟨List.pairwise_reverse.2 (CL.imp λh=>Ne.symm h),λj=>?_,by rw[List.pairwise_reverse];exact AQ⟩;rw[List.mem_reverse];refine⟨dc j,λhj=>?_⟩;refine cJ λhn=>?_;have W:(j::acc).Nodup:=iG.2 ⟨hn,CL⟩;have F:=W.length_le_of_subset (l₂:=List.range ops.size) λx L=>by
   obtain rfl|L:=bJ.1 L;.exact dQ.2 hj
   .exact dQ.2 (dc x L)
  simp only[bD,NO]at F;omega
 |fuel+1,t,listed,acc,tU,K,CL,dc,cf,hclo,AQ=>by
  have hun:∃j,j<ops.size/\¬j∈acc:=by refine cJ λhn=>?_;have:=OY ops.size acc λj hj=>cJ λh=>hn ⟨j,hj,h⟩;omega
  obtain⟨j,hj,PI,Bh⟩:=least (λj=>¬j∈acc) _ hun;have jk:∀i,i<ops.size->∃x∈hc,x.i=i/\ops[i]?=J x.o:=by intro i H;have⟨x,L,V⟩:=C7 ops.toList 0 [] i (Mf H);have h3:=(pI _ _ _ _ L).2.2.1;refine⟨x,by rw[hA];exact L,U,?_⟩;have:i=x.i-0:=U;rw[this];simpa using h3
  have aiN:∀i,i<ops.size->(listed.getD i M=R↔¬i∈acc):=by intro i H;rw[<-K i];simp[fN,tU,H]
  have MF:j∈Region.ready .any ops listed:=by rw[mem_ready];have⟨x,L,V,ho⟩:=jk j hj;refine⟨(aiN j hj).2 PI,x.o,ho,λe hee D=>?_⟩;have ti:=KZ tm L (Mf hee) D;rw[K];exact cJ λh=>Bh e.on U h
  have Up:∀(rs:List Nat),j∈rs->∃i,rs[t%O rs]?=J i/\i∈rs:=by intro rs hj;have Rh:=nX hj;have hm:=Nat.mod_lt t Rh;exact⟨rs[t%O rs],aF hm,bO hm⟩
  have⟨i,H,lE⟩:=Up _ MF;have Sy:Region.linearise.go .any ops (fuel+1) t listed acc=Region.linearise.go .any ops fuel (t / O (Region.ready .any ops listed)) (listed.setIfInBounds i M) (i::acc):=by
   simp only[Region.linearise.go]
   change(match(Region.ready .any ops listed)[t%O (Region.ready .any ops listed)]? with
    |some i=>Region.linearise.go .any ops fuel (t / O (Region.ready .any ops listed)) (listed.setIfInBounds i M) (i::acc)
    |none=>acc.reverse)=_
   rw[H]
  rw[Sy];have⟨Gu,o,hio,hdeps⟩:=mem_ready.1 lE;have yo:i<ops.size:=(Array.getElem?_eq_some_iff.1 hio).1;have mO:¬i∈acc:=(aiN i yo).1 Gu;have aki:∀x∈hc,x.i=i->∀q,x.Ah.testBit q=M->q∈acc:=by
   intro x L hxi q hq;have hxA:=L;rw[hA]at hxA;have⟨e,V,D,F⟩:=KT ops.toList 0 [] Z x hxA q hq;have Yb:ops[x.i]?=J x.o:=by have h3:=(pI _ _ _ _ hxA).2.2.1;simpa using h3
   rw[hxi,hio]at Yb;injection Yb with Yb
   have hon:e.on∈acc:=(K e.on).1 (hdeps e (by rw[Yb];simpa using V) D);obtain F|⟨a,ha,_⟩|⟨y,hy,II,hyq⟩:=F
   .rw[<-F];exact hon
   .simp at ha
   .exact hclo y (hA▸hy) (II▸hon) q hyq
  refine y8 hA tm fuel _ _ (i::acc) (by simp[tU]) (λq=>?_) (iG.2 ⟨mO,CL⟩) (λq hq=>?_) (by simp only[bD];omega) (λx L hxa q hq=>?_) (eP.2 ⟨λq hq x L Zl=>?_,AQ⟩)
  .by_cases hqi:q=i;.subst hqi;simp[fN,tU,yo]
   .rw[getD_set_ne R (Ne.symm hqi),K q];simp[hqi]
  .obtain rfl|hq:=bJ.1 hq;.exact yo
   .exact dc q hq
  .obtain hxi|hxa:=bJ.1 hxa;.exact bP _ (aki x L hxi q hq)
   .exact bP _ (hclo x L hxa q hq)
  .cases D:x.Ah.testBit i with
   |false=>rfl
   |true=>exact absurd (hclo x L (Zl▸hq) i D) mO
def HL(tm:ve ops (lU ops.toList 0 [])=M)(t):
 (Region.linearise .any ops t).Nodup/\(∀j,j∈Region.linearise .any ops t↔j<ops.size)/\(Region.linearise .any ops t).Pairwise (λi j=>∀x∈lU ops.toList 0 [],x.i=i->x.Ah.testBit j=R):=by
 refine y8 Z tm ops.size t (Array.replicate ops.size R) [] bR (λj=>?_) nC bR bR bR List.Pairwise.nil;simp only[List.not_mem_nil,iff_false];rw[fN];simp only[Array.getElem?_replicate];split<;>simp
variable{rem:Nat}
def Gv{n}:∀{l:List ey},BQ n l=M->∀x∈l,∀d,x.o.dst=J d->d<n
 |[],_,x,L,_,_=>by cases L
 |y::l,h,x,L,d,z=>by
  simp only[BQ,aS]at h;obtain rfl|L:=bJ.1 L
  .have:=h.1;rw[z]at this;simpa using this
  .exact Gv h.2 x L d z
def Az.ahM{s:BT u}{t lo H g k}{i:Item}{k'}(h:Az r s t lo H (.kR g::k) (i::k')):G7 r k k':=by
 generalize hq:(dO.kR g::k)=q at h;generalize hq':(i::k')=q' at h;cases h with
 |plain lE _=>subst hq;subst hq';cases lE with|cons H _=>cases H
 |kR hk _ _ _=>
  injection hq with _ hq;subst hq
  injection hq' with _ hq';subst hq'
  exact hk
def Np(pk:∃xt,PK P xt){m:AM}{f cs lo}(hF:FR r lo m.next m.fr f)(jL:lo<=m.next)
 (hC:DO r base lo m.callers cs) (hH:HR r m.heap m.next w0 w) (iy:m.fr.ret=R) {id:Nat}  {k:List dO} (kI:m.fr.todo= .code (.region id ops M)::k)
 (G:D0 m ops k (lU ops.toList 0 [])=J m'):rX P w0 base f cs w m':=by
 obtain⟨xt,pk⟩:=pk;have im:f.mode= .run:=by rw[hF.mode,iy];rfl
 have iM:=hF.top;rw[kI]at iM;generalize oR:f.todo=ft at iM;cases iM with
 |plain lE oi=>
 cases lE with|cons H lE=>
 cases H;unfold D0 at G;split at G
 .rename_i tm;simp only[aS]at tm;obtain⟨tm,NL⟩:=tm;injection G with G;subst G
  obtain⟨t,jS⟩:=ahn (P:=P) (cs:=cs) (w:=w) pk.mixed im oR;obtain⟨W,F,h3⟩:=HL tm t;obtain⟨Bi,Mc,mh,my⟩:=m;simp only at hF jL hC hH oi lE;refine⟨_,cs,_,.one jS,MR.mk' (r:=r) (lo:=lo) ⟨hF.fn,hF.size,hF.defers,hF.mode,hF.kind,hF.round,
   .kR (g:={phase:= .unsat,infos:=(lU ops.toList 0 []).filter (!·.zG),eT:=(lU ops.toList 0 []).filter (·.zG),last:=B,base:=my,ops}) lE (hc:=lU ops.toList 0 []) ?_ jL (an _)⟩
   (by show lo<=my+ops.size;omega) hC (hH.drew.next (by show my<=my+ops.size;omega)) λg k' e zL=>?_⟩
  .have lX:∀x∈lU ops.toList 0 [],x.i∈Region.linearise .any ops t:=λx L=>(F x.i).2 (by have:=(pI _ _ _ _ L).2.1;simpa using this);constructor;.rfl
   .exact tm
   .intro x L d z;rw[hF.size];exact Gv NL x L d z
   .rfl
   .intro x L V;exact⟨λ_=>cR.2 ⟨L,V⟩,λ_=>lX x L⟩
   .intro x L;exact cR.1 L
   .exact(Bq _ _ _).filter _
   .exact W
   .exact λi H=>(F i).1 H
   .exact h3
   .exact λx L _ _ hn=>absurd (lX x L) hn
   .intro x L _ _;exact hH.fresh (by show my<=my+x.i;omega)
   .exact λn=> .inr (oi n)
   .exact λ_ x L _ _=>lX x L
   .intro _ x L _ hp;simp[si]at hp
   .intro h;cases h
  .have e:dO.kR _::k= .kR g::k':=e;injection e with e _
   injection e with e
   rw[<-e]at zL;cases zL
 .cases G
def Ky{hc}(h:ve ops hc=M){x}(L:x∈hc)(hq:x.zG=R){d}(z:x.o.dst=J d):
 ¬d∈x.o.looksAt ops/\∀y∈hc,y.i≠x.i->(d∈y.o.looksAt ops\/y.o.dst=J d)->y.Ah.testBit x.i=M:=by
 simp only[ve,aS,fU]at h;have W:=h.2 x L;rw[hq,z]at W;simp only[qP,aS,jF,fU]at W;refine⟨λA=>?_,λy hy cD A=>?_⟩;.have:=W.1;simp[A]at this
 .have F:=W.2 y hy;simp only[vu,kN,cD,false_or,jF]at F;obtain F|F:=F
  .exfalso;obtain A|A:=A
   .simp[A]at F
   .simp[A]at F
  .exact F
def LK{hc}(h:ve ops hc=M){x y}(L:x∈hc)(hy:y∈hc)(xT:x.zG=M)(II:y.zG=M)(dc:x.i<y.i):y.Ah.testBit x.i=M:=by simp only[ve,aS,fU]at h;have W:=h.1.2 x L;rw[xT]at W;simp only[gL,qP,fU]at W;have F:=W y hy;rw[II]at F;simpa[dc]using F
def F8{s:BT u}{t g hc}{x:ey}(hg:tE r s t g hc (x.i::rest))(L:x∈hc)(n)(hn:n∈x.o.looksAt g.ops):VR r (X s n) (t.getD n undef):=by
 obtain⟨y,hy,II,Lo,hyd⟩|h:=hg.cX n
 .exfalso;have⟨W,F⟩:=Ky hg.ok hy II hyd;by_cases Ie:x.i=y.i;.have:=hg.inj L hy Ie;subst this;exact W hn
  .have h3:=F x L Ie (.inl hn);have h4:=(eP.1 hg.order).1 y.i (by
    obtain h|h:=bJ.1 Lo;.exact absurd h.symm Ie
    .exact h) x L Z
   rw[h4]at h3;cases h3
 .exact h
def GX{s:BT u}{f:Frame}{g:mI}{hc:List ey}{x:ey}(hg:tE r s f.tmps g hc (x.i::rest))(L:x∈hc):∀y∈x.o.op.operands.toList,VR r (qw s y) (f.eval y):=by
 intro y hy;cases y with
 |tmp n=>exact F8 hg L n (jn _ (List.mem_filterMap.2 ⟨.tmp n,hy,Z⟩))
 |const v=>exact .g v
 |global g=>exact .g _
 |func g=>exact .fn .nil
def yy{s:BT u}{t g hc}{x:ey}(hg:tE r s t g hc (x.i::rest))(L:x∈hc){b}(h:eM g.ops s x.o=J b):Region.wanted x.o (yielded g.ops t)=b:=
 zy h λj w o' d hgd ho z=>F8 hg L d (List.mem_append_right _ (by simp[hgd,ho,z]))
def tE.quiet{s:BT u}{t g hc}{x:ey}(hg:tE r s t g hc (x.i::rest))(L:x∈hc)(xT:x.zG=R)(zL:g.phase= .sat)
 (hle:dI.le r r') (rL:∀b,b≠g.base+x.i->r' b=r b)  (hu:∀d,x.o.dst=J d->VR r' (X s d) AV/\d<t.size):tE r' s (C2 x.o.dst t AV) g hc rest:=by
 have CL:=iG.1 hg.nodup;have AQ:=eP.1 hg.order;constructor;.exact hg.Ah
 .exact hg.ok
 .intro y hy d z;rw[lg];exact hg.dlt y hy d z
 .exact hg.infos
 .intro y hy II;rw[<-hg.eT y hy II];constructor;.exact λh=>bP _ h
  .intro h;obtain h|h:=bJ.1 h
   .have:=hg.inj hy L h;subst this;rw[xT]at II;cases II
   .exact h
 .exact hg.u9
 .exact hg.sorted
 .exact CL.2
 .exact λi H=>hg.lt i (bP _ H)
 .exact AQ.2
 .intro y hy hd hz Lo D;by_cases hyx:y.i=x.i;.intro hzt;have:=AQ.1 hd.i hzt y hy hyx;rw[this]at D;cases D
  .intro hzt;exact hg.closed y hy hd hz (by simp[hyx,Lo]) D (bP _ hzt)
 .intro y hy II Lo;rw[rL _ (λh=>CL.1 (by have:y.i=x.i:=U;rw[<-this];exact Lo))];exact hg.vJ y hy II (bP _ Lo)
 .intro n;rw[Gh _ _ _ (λm hm=>(hu m hm).2)];by_cases hn:x.o.dst=J n;.right;simp only[hn,cA];exact(hu n hn).1
  .simp only[hn,cU];obtain⟨y,hy,II,Lo,hyd⟩|h:=hg.cX n
   .obtain h|h:=bJ.1 Lo;.have:=hg.inj hy L h;subst this;exact absurd hyd hn
    .exact .inl ⟨y,hy,II,h,hyd⟩
   .exact .inr (h.mono hle)
 .intro h;rw[zL]at h;cases h
 .intro h y hy II hp Lo;exact hg.UR h y hy II hp (bP _ Lo)
 .intro h;rw[zL]at h;cases h
def y7{P g rem}{s:BT u}{h}:∀{l:List ey},wx P g rem s h l=M->∀x∈l,mw rem x=M->si g.last x=R->Eg P g s h x=M
 |[],_,x,L,_,_=>by cases L
 |y::l,A,x,L,W,F=>by
  simp only[wx,aS,vu,jF]at A;obtain rfl|L:=bJ.1 L
  .obtain (A|A)|A:=A.1;.rw[W]at A;cases A
   .rw[F]at A;cases A
   .exact A
  .exact y7 A.2 x L W F
def Gj(a:Nat):∀(l:List ey),(∀x∈l,a.testBit x.i=R)->a&&&jM l=0
 |[],_=>by simp[jM]
 |x::l,h=>by
  simp only[jM];apply Nat.eq_of_testBit_eq;intro j;have ih':(a&&&jM l).testBit j=R:=by rw[Gj a l λy hy=>h y (by simp[hy])];simp
  rw[Nat.testBit_and]at ih'⊢;rw[Nat.testBit_or,Nat.testBit_two_pow];by_cases hj:x.i=j;.have:=h x bR;rw[hj]at this;simp[this]
  .simp[hj,ih']
def G'{g}{s:BT u}{l}(A:wx P g rem s h l=M):yj P g rem s h l:=by
 intro x L W F;have xG:=y7 A x L W F;unfold Eg at xG;unfold Er;split at xG
 .rename_i hw;rw[hw];split at xG
  .rename_i q hq;simp only[aS]at xG;refine⟨q,hq,λd z=>?_,λo ho=>?_⟩;.have:=xG.1;rw[z]at this;exact uv _ _ this
   .have Mp:=xG.2;rw[ho]at Mp;simp only at Mp;split at Mp;.rename_i o' ho';have:=NA _ _ Mp;subst this;exact ho'
    .cases Mp
  .cases xG
 .rename_i hw;rw[hw];intro d z;rw[z]at xG;exact uv _ _ xG
 .cases xG
def CA{P w0 base lo Y g hc k k' h}{a:bY}{acs cs}(HM:a.todo= .kR g::k)(iy:a.ret=R)
 (zL:g.phase= .sat) (Lq:yj P g (jM g.eT) a.cX h g.infos):
 ∀(todo:List Nat) (r:dI) (f:Frame) (w:World),f.todo= .inRegion g.ops todo::k'->FR r lo Y a f->tE r a.cX f.tmps g hc todo->lo<=g.base->g.base+g.ops.size<=Y->DO r base lo acs cs->HR r h Y w0 w->
  ∃BZ r' f' w',Steps P (lone f cs w) (lone f' cs w')/\f'.todo= .inRegion g.ops BZ::k'/\FR r' lo Y a f'/\tE r' a.cX f'.tmps g hc BZ/\DO r' base lo acs cs/\HR r' h Y w0 w'/\
   dI.le r r'/\((BZ=[]/\g.eT=[])\/∃e rest Ef,g.eT=e::rest/\BZ=e.i::Ef)
 |[],r,f,w,oR,hF,hg,W,F,hC,hH=>by
  refine⟨[],r,f,w,Steps.refl P _,oR,hF,hg,hC,hH,dI.le_refl r,.inl ⟨Z,?_⟩⟩;cases V:g.eT with
  |nil=>rfl
  |cons e rest=>obtain⟨ha,hee⟩:=hg.u9 e (by rw[V];simp);have:=(hg.eT e ha hee).2 (by rw[V];simp);cases this
 |i::rest,r,f,w,oR,hF,hg,W,F,hC,hH=>by
  obtain⟨x,L,rfl⟩:=hg.has (hg.lt i bR);obtain⟨Yb,hxeff,hxlt⟩:=hg.oper L;have CL:=iG.1 hg.nodup;have AQ:=eP.1 hg.order;have im:f.mode= .run:=by rw[hF.mode,iy];rfl
  cases xT:x.zG with
  |true=>
   have hxm:=(hg.eT x L xT).1 bR;cases V:g.eT with
   |nil=>rw[V]at hxm;cases hxm
   |cons e zN=>
    refine⟨_,r,f,w,Steps.refl P _,oR,hF,hg,hC,hH,dI.le_refl r,.inr ⟨e,zN,rest,Z,?_⟩⟩;rw[V]at hxm;obtain rfl|hxm:=bJ.1 hxm
    .rfl
    .exfalso;obtain⟨hea,hee⟩:=hg.u9 e (by rw[V];simp);have G:=hg.sorted;rw[V]at G;have dc:=(eP.1 G).1 x hxm;have D:=LK hg.ok hea L hee xT dc;obtain h|h:=bJ.1 ((hg.eT e hea hee).2 (by rw[V];simp))
     .omega
     .have:=AQ.1 e.i h x L Z;rw[this]at D;cases D
  |false=>
   have MF:mw (jM g.eT) x=M:=by
    simp only[mw,kN];refine Gj _ _ λy hy=>?_;obtain⟨hya,II⟩:=hg.u9 y hy;obtain h|h:=bJ.1 ((hg.eT y hya II).2 hy)
    .have:=hg.inj hya L h;subst this;rw[xT]at II;cases II
    .exact AQ.1 y.i h x L Z
   have F3:si g.last x=R:=by
    cases hp:si g.last x with
    |false=>rfl
    |true=>exact absurd (jh) (hg.UR (.inr zL) x L xT hp)
   have xG:=Lq x (by rw[hg.infos];exact cR.2 ⟨L,by simp[xT]⟩) MF F3;have aqN:f.roundOf=B\/∀c,x.o.op≠ .defer c:= .inr λc A=>by rw[xT,A]at hxeff;simp[cH]at hxeff
   have agJ:∀d,x.o.dst=J d->d<f.tmps.size:=hg.dlt x L;unfold Er at xG;split at xG
   .rename_i hw;have i':=yy hg L hw;have Sy:=Ic (P:=P) (cs:=cs) (w:=w) im oR Yb i' aqN;obtain⟨q,hq,adU,Mp⟩:=xG
    .have tm:=zc P hH (GX hg L) hq;cases Sn:q.obj with
     |none=>
      cases q with
      |wF _=>cases Sn
      |ri _ _ _=>cases Sn
      |AT _=>cases Sn
      |val v=>
      have⟨AV,eV,hv⟩:=tm;have jS:=xy (.of_eq Sy) eV (.inl Z);rw[jx f oR Yb]at jS;have SQ:=hg.quiet L xT zL (dI.le_refl r) (λ_ _=>rfl) (AV:=AV) λd z=>⟨by rw[adU d z];exact hv,agJ d z⟩;have⟨t1,r1,f1,w1,s1,rest1⟩:=CA HM iy zL Lq rest r {f with tmps:=C2 x.o.dst f.tmps AV,todo:= .inRegion g.ops rest::k'} w Z
       ⟨hF.fn,by rw[lg];exact hF.size,hF.defers,hF.mode,hF.kind,hF.round,by rw[HM];exact .kR (by have:=hF.top;rw[HM,oR]at this;exact this.ahM) SQ W F⟩ SQ W F hC hH
      exact⟨t1,r1,f1,w1,.head jS s1,rest1⟩
     |some ob=>
      have⟨xo,AV,eV,Va,hv⟩:=tm.obj Sn;have jS:=xy (.of_eq Sy) eV (.inl Z);rw[jx f oR Yb]at jS;have hun:=hg.vJ x L xT bR;have hle:=dI.vR (x:=(w.heap.size,0)) hun;have rL:∀b,b≠g.base+x.i->r.upd (g.base+x.i) (w.heap.size,0) b=r b:=λb D=>dI.kP _ _ D
      .skip
       have Q4:=hH.alloc hun (show g.base+x.i<Y from U) (an _) (Mp ob Sn) (λ_ _ _=>rfl) Va;have SQ:=hg.quiet L xT zL hle rL (AV:=AV) λd z=>⟨by rw[adU d z];exact hv _ _ (dI.iT _ _ _),agJ d z⟩;have⟨t1,r1,f1,w1,s1,s2,s3,s4,s5,s6,s7,s8⟩:=CA HM iy zL Lq rest _ {f with tmps:=C2 x.o.dst f.tmps AV,todo:= .inRegion g.ops rest::k'} _ Z
        ⟨hF.fn,by rw[lg];exact hF.size,hF.defers.mono hle,hF.mode,hF.kind,hF.round.mono hle,by rw[HM];exact .kR (by have:=hF.top;rw[HM,oR]at this;exact this.ahM.mono hle) SQ W F⟩ SQ W F (hC.mono hle λb D=>rL b U) Q4
       exact⟨t1,r1,f1,w1,.head jS s1,s2,s3,s4,s5,s6,dI.le_trans hle s7,s8⟩
   .rename_i hw;have jS:=L5 (P:=P) (cs:=cs) (w:=w) im oR (by simp[Yb,yy hg L hw]);rw[jx f oR Yb]at jS;have SQ:=hg.quiet L xT zL (dI.le_refl r) (λ_ _=>rfl) (AV:=undef) λd z=>⟨by rw[xG d z];exact .g _,agJ d z⟩
    have⟨t1,r1,f1,w1,s1,rest1⟩:=CA HM iy zL Lq rest r {f with tmps:=C2 x.o.dst f.tmps undef,todo:= .inRegion g.ops rest::k'} w Z
     ⟨hF.fn,by rw[lg];exact hF.size,hF.defers,hF.mode,hF.kind,hF.round,by rw[HM];exact .kR (by have:=hF.top;rw[HM,oR]at this;exact this.ahM) SQ W F⟩ SQ W F hC hH
    exact⟨t1,r1,f1,w1,.head jS s1,rest1⟩
   .exact xG.elim
def th{P g rem}:∀(l:List ey) (a:bY) (h:aE) (a':bY) (Q:aE),saturate P g rem l a h=J (a',Q)->
 (∃s,a'=a.Aw s/\∀n,(∃x∈l,sP g.last x=M/\x.o.dst=J n)\/X s n=X a.cX n)/\
 (∀b,(∃x∈l,sP g.last x=M/\b=g.base+x.i)\/N Q b=N h b)
 |[],a,h,a',Q,G=>by simp only[saturate,bF,Prod.mk.injEq]at G;obtain⟨rfl,rfl⟩:=G;exact⟨⟨a.cX,Z,λ_=> .inr Z⟩,λ_=> .inr Z⟩
 |x::l,a,h,a',Q,G=>by
  have fin:∀{b:bY} {v:u} {W:aE},a.put x.o.dst v=J b->sP g.last x=M->saturate P g rem l b W=J (a',Q)->(∀c,c=g.base+x.i\/N W c=N h c)->
   (∃s,a'=a.Aw s/\∀n,(∃y∈x::l,sP g.last y=M/\y.o.dst=J n)\/X s n=X a.cX n)/\
   (∀b,(∃y∈x::l,sP g.last y=M/\b=g.base+y.i)\/N Q b=N h b):=by
   intro b v W pM sC G hh;obtain⟨rfl,_⟩:=mW pM;obtain⟨⟨s,rfl,F⟩,h3⟩:=th l _ _ a' Q G;refine⟨⟨s,Z,λn=>?_⟩,λb=>?_⟩
   .obtain⟨y,hy,h4⟩|h4:=F n;.exact .inl ⟨y,bP _ hy,h4⟩
    .by_cases z:x.o.dst=J n;.exact .inl ⟨x,bR,sC,z⟩
     .right;rw[h4];show X (iz x.o.dst a.cX v) n=_;rw[Gn,ak z]
   .obtain⟨y,hy,h4⟩|h4:=h3 b;.exact .inl ⟨y,bP _ hy,h4⟩
    .obtain h5|h5:=hh b;.exact .inl ⟨x,bR,sC,h5⟩
     .exact .inr (h4.trans h5)
  simp only[saturate]at G;split at G
  .rename_i A;simp only[aS]at A;split at G
   .split at G
    .rename_i q hq;split at G
     .rename_i b pM;refine fin pM A.2 G λc=>?_
      split
      .rw[aj];by_cases NS:c=g.base+x.i;.exact .inl NS
       .right;rw[ak NS]
      .exact .inr Z
     .cases G
    .cases G
   .split at G;.rename_i b pM;exact fin pM A.2 G λc=> .inr Z
    .cases G
   .cases G
  .have⟨⟨s,W,F⟩,h3⟩:=th l a h a' Q G;refine⟨⟨s,W,λn=>?_⟩,λb=>?_⟩
   .obtain⟨y,hy,h4⟩|h4:=F n;.exact .inl ⟨y,bP _ hy,h4⟩
    .exact .inr h4
   .obtain⟨y,hy,h4⟩|h4:=h3 b;.exact .inl ⟨y,bP _ hy,h4⟩
    .exact .inr h4
def Gp{m:AM}{f:Frame}{cs:List Frame}{lo:Nat}(hF:FR r lo m.next m.fr f)(jL:lo<=m.next)
 (hC:DO r base lo m.callers cs) (hH:HR r m.heap m.next w0 w) {g k} (kI:m.fr.todo= .kR g::k) (zL:g.phase= .unsat)  
 (Ez:saturate P g (jM g.eT) g.infos m.fr m.heap=J (a',Q)) (Lq:yj P g (jM g.eT) a'.cX Q g.infos):
 MR P w0 base (m.Iq (a'.lz (.kR (g.pT .sat)::k)) Q) f cs w:=by
 obtain⟨⟨s,rfl,ahW⟩,am7⟩:=th _ _ _ _ _ Ez;have iM:=hF.top;rw[kI]at iM;generalize oR:f.todo=ft at iM;cases iM with
 |plain lE _=>cases lE with|cons H _=>cases H
 |kR hk hg W F=>
 rename_i hc todo k';have jk:∀x∈g.infos,x∈hc/\x.zG=R:=by intro x L;rw[hg.infos]at L;have:=cR.1 L;exact⟨this.1,by simpa using this.2⟩
 have sC:∀x∈g.infos,sP g.last x=M->x.i∈todo:=λx L hn=>hg.unsat zL x (jk x L).1 (jk x L).2 hn;have Q4:HR r Q m.next w0 w:=hH.heap λb y e=>by
  obtain⟨x,L,hn,rfl⟩|h:=am7 b;.have:=hg.vJ x (jk x L).1 (jk x L).2 (sC x L hn);rw[this]at e;cases e
  .exact h
 have SQ:tE r s f.tmps (g.pT .sat) hc todo:=by
  constructor;.exact hg.Ah
  .exact hg.ok
  .exact hg.dlt
  .exact hg.infos
  .exact hg.eT
  .exact hg.u9
  .exact hg.sorted
  .exact hg.nodup
  .exact hg.lt
  .exact hg.order
  .exact hg.closed
  .exact hg.vJ
  .intro n;obtain⟨x,L,hn,z⟩|h:=ahW n
   .exact .inl ⟨x,(jk x L).1,(jk x L).2,sC x L hn,z⟩
   .rw[h];exact hg.cX n
  .intro h;cases h
  .intro _ x L xT hp;exact hg.UR (.inl zL) x L xT hp
  .intro h;cases h
 have⟨Bi,Mc,mh,my⟩:=m;refine MR.mk' (r:=r) (lo:=lo) ⟨hF.fn,hF.size,hF.defers,hF.mode,hF.kind,hF.round,?_⟩ jL hC Q4 λg' k'' e hp=>?_;.rw[oR];exact .kR (g:=g.pT .sat) hk SQ W F
 .have e:dO.kR (g.pT .sat)::k= .kR g'::k'':=e;injection e with e _
  injection e with e;subst e
  intro _;exact Lq
def Fw{m:AM}{f cs lo}(hF:FR r lo m.next m.fr f)(jL:lo<=m.next)
 (hC:DO r base lo m.callers cs) (hH:HR r m.heap m.next w0 w) {g k} (kI:m.fr.todo= .kR g::k) (zL:g.phase= .unsat)
 (G:IJ P m g k (saturate P g (jM g.eT) g.infos m.fr m.heap)=J m'):rX P w0 base f cs w m':=by
 cases Ez:saturate P g (jM g.eT) g.infos m.fr m.heap with
 |none=>rw[Ez]at G;cases G
 |some p=>
 have⟨a',Q⟩:=p;rw[Ez]at G;simp only[IJ]at G;split at G
 .rename_i Lq;injection G with G;subst G
  exact⟨f,cs,w,Steps.refl P _,Gp hF jL hC hH kI zL Ez (G' Lq)⟩
 .cases G
def asZ{xt:FuncId->Option Ext}(pk:PK P xt){m:AM}{f cs lo}(hF:FR r lo m.next m.fr f)(jL:lo<=m.next)
 (hC:DO r base lo m.callers cs) (hH:HR r m.heap m.next w0 w) (iy:m.fr.ret=R) {g k} (kI:m.fr.todo= .kR g::k)
 (Lq:g.phase= .sat->yj P g (jM g.eT) m.fr.cX m.heap g.infos) (G:Iv P xt m g k=J m'):rX P w0 base f cs w m':=by
 unfold Iv at G;split at G;.rename_i zL;exact Fw hF jL hC hH kI zL G
 .rename_i zL;have iM:=hF.top;rw[kI]at iM;generalize oR:f.todo=ft at iM;cases iM with
  |plain lE _=>cases lE with|cons H _=>cases H
  |kR hk hg W F=>
  rename_i hc todo k';have⟨BZ,r',f',w',s1,s2,s3,s4,s5,s6,s7,s8⟩:=CA kI iy zL (Lq zL) todo r f w oR hF hg W F hC hH;have im:f'.mode= .run:=by rw[s3.mode,iy];rfl
  split at G
  .rename_i uR;obtain⟨rfl,_⟩|⟨e,rest,Ef,V,_⟩:=s8
   .have oi:TR r' m.fr.cX f'.tmps:=by
     intro n;obtain⟨x,_,_,L,_⟩|h:=s4.cX n
     .cases L
     .exact h
    obtain⟨f2,NK,w2,h3,h4⟩:=mK s3 jL s5 s6 iy G (hk.mono s7) oi (IC im s2 (.inr (.inr (.inr (.inr (.inr (.inr (.inr ⟨_,rfl,rfl⟩))))))));exact⟨f2,NK,w2,s1.trans h3,h4⟩
   .rw[uR]at V;cases V
  .rename_i e rest uR;obtain⟨_,V⟩|⟨e',zN,Ef,V,rfl⟩:=s8
   .rw[uR]at V;cases V
   .rw[uR]at V;injection V with h3 h4;subst h3;subst h4
    have⟨heA,heE⟩:=s4.u9 e (by rw[uR];simp);have⟨heo,_,_⟩:=s4.oper heA;unfold rF at G;split at G
    .rename_i b hw;have i':=yy s4 heA hw;have ET:G7 r' k k':=hk.mono s7;cases b with
     |false=>
      simp only[du,cU]at G;unfold AK at G;split at G
      .rename_i fr pM;injection G with G;subst G
       obtain⟨rfl,z⟩:=mW pM;have jS:=L5 (P:=P) (cs:=cs) (w:=w') im s2 (by simp[heo,i']);rw[jx f' s2 heo]at jS;have⟨Bi,Mc,mh,my⟩:=m;refine⟨_,cs,w',s1.trans (.one jS),MR.mk' (r:=r') (lo:=lo) ⟨s3.fn,by rw[lg];exact s3.size,s3.defers,s3.mode,s3.kind,s3.round,.kR (g:=g.after rest e) ET (s4.next uR (.g _) λn hn=>by rw[s3.size];exact z n hn) W F⟩ jL s5 s6 λg' k'' e' hp=>?_⟩;have e':dO.kR (g.after rest e)::k= .kR g'::k'':=e';injection e' with e' _;injection e' with e';subst e';cases hp
      .cases G
     |true=>
      simp only[cA]at G;unfold ud at G;split at G
      .rename_i er Rm;have z:f'.roundOf=B\/∀c,e.o.op≠ .defer c:=by
        cases CJ:f'.roundOf with
        |none=>exact .inl Z
        |some l'=>
         right;intro c A;obtain⟨d,rfl⟩:=Dv Rm A;have uP:=s3.round;rw[CJ]at uP;cases har:m.fr.roundOf with
         |none=>rw[har]at uP;exact uP
         |some l2=>have:(m.fr.lz (.kR (g.pT .wait)::k)).roundOf=J l2:=har;rw[tT this]at G;cases G
       have Sy:=Ic (P:=P) (cs:=cs) (w:=w') im s2 heo i' z;have hgw:tE r' m.fr.cX f'.tmps (g.pT .wait) hc (e.i::Ef):=by
        constructor;.exact s4.Ah
        .exact s4.ok
        .exact s4.dlt
        .exact s4.infos
        .exact s4.eT
        .exact s4.u9
        .exact s4.sorted
        .exact s4.nodup
        .exact s4.lt
        .exact s4.order
        .exact s4.closed
        .exact s4.vJ
        .exact s4.cX
        .intro h;cases h
        .intro h;rcases h with h|h<;>cases h
        .intro _;exact⟨e,rest,Ef,uR,Z⟩
       have hFw:FR r' lo m.next (m.fr.lz (.kR (g.pT .wait)::k)) f':=⟨s3.fn,s3.size,s3.defers,s3.mode,s3.kind,s3.round,by rw[s2];exact .kR (g:=g.pT .wait) ET hgw W F⟩;have⟨f2,NK,w2,h5,h6⟩:=uF hFw jL (an _) s5 s6 (.of_eq Sy) (DY pk s6 (GX s4 heA) Rm) G;exact⟨f2,NK,w2,s1.trans (.one h5),h6⟩
      .cases G
    .cases G
 .cases G
variable{al:nR}
def zI(hr:HR r h Y w0 w){l}(K:r l=J (k,n))(ho:N h l=J (.loop al)):
 ∃lo,LR r al lo/\w.heap[k]?=J (.loop lo)/\(Instr.getLoop k).run P w= .ok lo w/\k<w.heap.size:=by
 have⟨lo,hk,Gs⟩:=hr.obj l _ k n ho K;exact⟨lo,Gs,hk,by simp[Instr.getLoop,getObj,Sem.run,hk],(hr.zX l _ K).2.2⟩
def yC{x o}(hk:w.heap[k]?=J o)(ho:∀c e f,o≠ .cells c e f):(setObj k x).run P w= .ok () {w with heap:=w.heap.setIfInBounds k x}:=by cases o<;>simp_all[setObj,Sem.run]
def Dc(hr:HR r h Y w0 w){l}(K:r l=J (k,n))(ho:N h l=J (.loop al)){lo:Loop}(Gs:LR r al lo)(hk:k<w.heap.size)(st:LoopState)(p):
 HR r (aI h l (.loop (al.iD st p))) Y w0 {w with heap:=w.heap.setIfInBounds k (.loop {lo with state:=st,pending:=p})}:=by
 refine hr.set K ho trivial (o':= .loop (al.iD st p)) ⟨_,Z,?_⟩ (ma hk);have⟨_,_,a3,a4,a5,a6,a7,a8,a9⟩:=Gs;exact⟨Z,Z,a3,a4,a5,a6,a7,a8,a9⟩
def Jj{m:AM}{f cs lo}(hF:FR r lo m.next m.fr f)(jL:lo<=m.next)
 (hC:DO r base lo m.callers cs) (hH:HR r m.heap m.next w0 w) (iy:m.fr.ret=R) {k} (kI:m.fr.todo= .beginRound::k) (G:AB m k=J m'):rX P w0 base f cs w m':=by
 have im:f.mode= .run:=by rw[hF.mode,iy];rfl
 have iM:=hF.top;rw[kI]at iM;generalize oR:f.todo=ft at iM;cases iM with
 |plain lE oi=>
 cases lE with|cons H lE=>
 cases H;unfold AB at G;split at G
 .rename_i l pU;split at G
  .rename_i al ho;split at G
   .rename_i jS;injection G with G;subst G
    have uP:=hF.round;rw[pU]at uP;cases CJ:f.roundOf with
    |none=>rw[CJ]at uP;exact uP.elim
    |some kk=>
    rw[CJ]at uP;have⟨n,K⟩:=uP;have⟨ke,Gs,hk,N,dc⟩:=zI (P:=P) hH K ho;have eV:(Instr.beginRound kk).run P w= .ok () {w with heap:=w.heap.setIfInBounds kk (.loop {ke with state:= .busy})}:=by simp[Instr.beginRound,N,yC hk bR,(Gs.1.trans jS:ke.state= .ready)]
    have aeP:=abG (cs:=cs) im oR CJ eV;have NU:ke.pending=al.pending:=Gs.2.1;have aI:=Dc hH K ho Gs dc .busy al.pending;have Xc:({ke with state:= .busy,pending:=al.pending}:Loop)={ke with state:= .busy}:=by rw[<-NU]
    rw[Xc]at aI;have⟨fn,tmps,td,defers,mode,kind,roundOf⟩:=f;simp only at oR;subst oR;have⟨Bi,Mc,mh,my⟩:=m;refine⟨_,cs,_,.one aeP,MR.mk' (r:=r) (lo:=lo) ⟨hF.fn,hF.size,hF.defers,hF.mode,hF.kind,hF.round,.plain lE oi⟩ jL hC aI λg k' e=>?_⟩;have e:k= .kR g::k':=e;rw[e]at lE;cases lE with|cons H _=>cases H
   .cases G
  .cases G
 .cases G
def asP{m:AM}{f cs lo}(hF:FR r lo m.next m.fr f)(jL:lo<=m.next)
 (hC:DO r base lo m.callers cs) (hH:HR r m.heap m.next w0 w) (iy:m.fr.ret=R) {l k} (kI:m.fr.todo= .lA l::k) (G:qU m l k (N m.heap l)=J m'):rX P w0 base f cs w m':=by
 have im:f.mode= .run:=by rw[hF.mode,iy];rfl
 have iM:=hF.top;rw[kI]at iM;generalize oR:f.todo=ft at iM;cases iM with
 |plain lE oi=>
 cases lE with|cons H lE=>
 cases H with|lA K=>
 rename_i is kk n;cases ho:N m.heap l with
 |none=>rw[ho]at G;cases G
 |some o=>
 rw[ho]at G;cases o with
 |loop al=>
  simp only[qU]at G;have⟨ke,Gs,hk,N,dc⟩:=zI (P:=P) hH K ho;have ahx:ke.state=al.state:=Gs.1;have NU:ke.pending=al.pending:=Gs.2.1;have key:al.state≠ .busy->J (m.Iq (m.fr.lz ((match al.pending with|some c=>[dO.code c]|none=>[])++k)) (aI m.heap l (.loop (al.iD .exhausted al.pending))))=J m'->rX P w0 base f cs w m':=by
   intro D G;injection G with G;subst G
   have eV:(Instr.endLoop kk).run P w= .ok al.pending {w with heap:=w.heap.setIfInBounds kk (.loop {ke with state:= .exhausted})}:=by
    simp[Instr.endLoop,N,yC hk bR,(ahx▸D:¬ke.state=LoopState.busy),NU]
   have aI:=Dc hH K ho Gs dc .exhausted al.pending;have Xc:({ke with state:= .exhausted,pending:=al.pending}:Loop)={ke with state:= .exhausted}:=by rw[<-NU]
   rw[Xc]at aI;have adM:G7 r ((match al.pending with|some c=>[dO.code c]|none=>[])++k) ((al.pending.map Item.code).toList++is):=by
    cases al.pending with
    |none=>exact lE
    |some c=>exact .cons (.code c) lE
   have⟨Bi,Mc,mh,my⟩:=m;refine⟨_,cs,_,.one (Nb (cs:=cs) im oR eV),MR.mk' (r:=r) (lo:=lo) ⟨hF.fn,hF.size,hF.defers,hF.mode,hF.kind,hF.round,.plain adM oi⟩ jL hC aI λg k' e=>?_⟩;have e:(match al.pending with|some c=>[dO.code c]|none=>[])++k= .kR g::k':=e;rw[e]at adM;generalize((al.pending.map Item.code).toList++is)=q at adM;cases adM with|cons H _=>cases H
  split at G;.cases G
  .rename_i D;exact key D G
 |cells _ _=>cases G
 |fM _ _ _=>cases G
 |map _ _=>cases G
 |defs _=>cases G
 |dead=>cases G
 |it _=>cases G
def wO{m:AM}{f cs lo}(hF:FR r lo m.next m.fr f)(jL:lo<=m.next)
 (hC:DO r base lo m.callers cs) (hH:HR r m.heap m.next w0 w) (iy:m.fr.ret=R) 
 (kI:(m.fr.todo=[]/\qJ=B)\/(∃k,m.fr.todo= .code .ret::k/\qJ=J .ret)\/(∃id k,m.fr.todo= .code (.exit id)::k/\pj id k=B/\qJ=J (.exit id))) (G:leave m qJ=J m'):rX P w0 base f cs w m':=by
 have im:f.mode= .run:=by rw[hF.mode,iy];rfl
 have afu:∃ft,f.todo=ft/\G7 r m.fr.todo ft/\TR r m.fr.cX f.tmps:=by
  have iM:=hF.top;generalize oR:f.todo=ft at iM;generalize HM:m.fr.todo=at' at iM kI;cases iM with
  |plain lE oi=>exact⟨ft,Z,lE,oi⟩
  |kR _ _ _ _=>rcases kI with⟨h,_⟩|⟨k,h,_⟩|⟨id,k,h,_⟩<;>cases h
 have⟨ft,oR,lE,oi⟩:=afu;have LV:(f.todo=[]/\qJ=B)\/(∃k,f.todo= .code .ret::k/\qJ=J .ret)\/(∃id k,f.todo= .code (.exit id)::k/\exitTo id k=B/\qJ=J (.exit id)):=by
  rw[oR];obtain⟨h,F⟩|⟨k,h,F⟩|⟨id,k,h,F,h3⟩:=kI
  .rw[h]at lE;cases lE;exact .inl ⟨Z,F⟩
  .rw[h]at lE;cases lE with|cons H lE=>cases H;exact .inr (.inl ⟨_,Z,F⟩)
  .rw[h]at lE;cases lE with|cons H lE=>cases H;exact FF ⟨id,_,Z,(yv id lE).2 F,h3⟩
 unfold leave at G;split at G
 .rename_i pU;have CJ:f.roundOf=B:=by
   exact avc
  have fin:J (m.wFr m.fr.anb)=J m'->(f.todo=[]\/∃k,f.todo= .code .ret::k)->rX P w0 base f cs w m':=by
   intro G ht;injection G with G;subst G
   have jS:=al7 (P:=P) (cs:=cs) (w:=w) im CJ ht Z;have⟨Bi,Mc,mh,my⟩:=m;refine⟨_,cs,w,.one jS,MR.mk' (r:=r) (lo:=lo) ⟨hF.fn,hF.size,hF.defers,Z,hF.kind,hF.round,hF.top⟩ jL hC hH λg k' e hp hr=>?_⟩;cases hr
  split at G
  .refine fin G ?_;obtain⟨h,F⟩|⟨k,h,F⟩|⟨id,k,h,_,F⟩:=LV
   .exact .inl h
   .cases F
   .cases F
  .refine fin G ?_;obtain⟨h,F⟩|⟨k,h,F⟩|⟨id,k,h,_,F⟩:=LV
   .cases F
   .exact .inr ⟨k,h⟩
   .cases F
  .cases G
 .rename_i l pU;split at G;.cases G
  rename_i pd;unfold endRound at G;split at G
  .rename_i al c acs ho zU;split at G
   .rename_i fr pB;injection G with G;subst G
    have uP:=hF.round;rw[pU]at uP;cases CJ:f.roundOf with
    |none=>rw[CJ]at uP;exact uP.elim
    |some kk=>
    rw[CJ]at uP;have⟨n,K⟩:=uP;have⟨ke,Gs,hk,N,dc⟩:=zI (P:=P) hH K ho;have eV:(Instr.endRound kk qJ).run P w= .ok (.bool qJ.isNone) {w with heap:=w.heap.setIfInBounds kk (.loop {ke with state:=if qJ.isNone then .ready else .done,pending:=qJ})}:=by simp[Instr.endRound,N,yC hk bR]
    rw[zU]at hC
    have⟨Bi,Mc,mh,my⟩:=m;simp only at jL;cases hC with
    |cons A XP hC=>
    rename_i Jh c' tw;have jS:=NC (P:=P) (c:=c') (cs:=tw) im (by rw[hF.kind,ak pd]) CJ LV eV;have⟨ht1,Ln⟩:=oJ pB;refine⟨_,tw,_,.one jS,MR.mk' (r:=r) (lo:=Jh) ((mR A pB (.g _)).mono (dI.le_refl r) jL λ_ _=>rfl) (by show Jh<=my;omega) hC (Dc hH K ho Gs dc (if qJ.isNone then .ready else .done) qJ) λg k' e hp=>?_⟩;rw[Ln g k' e]at hp;cases hp
   .cases G
  .cases G
end
end br
end Go.Proofs.YtonnifoeokagjaaGreat
