/- The theorem plans_holds of OrdersPlans: part 3 of its proof; no conditions. -/
import Derived.Test.YtonnifoeokagjaaGreatF02
import Derived.Lib.Overlaps
import Derived.Conc.AtomicLaws2
import Derived.Defers
namespace Go.Proofs.YtonnifoeokagjaaGreat
set_option linter.all false
set_option maxRecDepth 8000
open Go Go.RowKit
namespace bC
noncomputable section
variable{P:Program}{args:List AV}{as:List Value}{b k nx:Nat}{er:ER}{f:FuncId}{h h':aG}{kd:TypeDesc}{r:dG}{t:TypeId}{u:Value}{w w' w0:World}
theorem ET(hk:nP kd=true){x y:Value}(h:Instr.sameNow kd x y=some true):Instr.sameBits 10000 y x=true:=by
 cases kd<;>simp[nP]at hk;unfold Instr.sameNow at h;split at h
 .split at h;.rename_i hk;subst hk;simp at h;simp[Instr.sameBits,h]
  .cases h
 .rename_i h1;cases h1
 .rename_i h1;cases h1
 .cases h
theorem kF{o:Obj}(hk:k<w.heap.size):FH w {w with heap:=w.heap.setIfInBounds k o} k o:=
 ⟨rfl,rfl,rfl,bL,λj hj=>by simp[rZ (Ne.symm hj)],by simp[hk]⟩
theorem zD(P:Program)(hr:HR r h nx w0 w){m k v:AV}{xm xk xv:Value}(hm:VR r m xm)(hk:VR r k xk)(hv:VR r v xv)
 (he:qA P h t m k v=some h'):∃w',(Instr.mapUpdate t xm xk xv).run P w= .ok () w'/\HR r h' nx w0 w':=by
 unfold qA at he;split at he
 .rename_i kt et hu;split at he
  .rename_i kd qN;split at he
   .rename_i nR;split at he
    .rename_i b;cases hm with
     |mp hb=>
     rename_i g n;split at he
     .rename_i es clock ho;obtain⟨ms,hg,Xh⟩:=hr.obj b _ g n ho hb;have Uj:g<w.heap.size:=(hr.xP b _ hb).2.2;cases hq:iF kd k es 0 with
      |none=>rw[hq]at he;cases he
      |some q=>
       rw[hq]at he;rcases qX hk es ms 0 q hq Xh with⟨rfl,h2⟩|⟨j,a,u,rfl,h2,h3,_,e,h5,h6⟩
       .simp only[xC,bA]at he;subst he;refine⟨_,?_,hr.set hb ho trivial (o':= .map (es++[(k,v,clock)]) (clock+1)) ⟨_,rfl,Xh.push hk hv⟩ (kF Uj)⟩;simp only[Instr.mapUpdate,Sem.run_bind,run_underlying hu,Result.andThen_ok,getObj,setObj,Sem.run,hg,run_checkKey qN nR,run_findKey qN h2];simp
       .simp only[xC,bA,LV]at he;subst he;have CL:=ET nR h6;simp only[oI]at h5;have ahm:∀w:World,(Instr.keyThatStays (((ms.toArray[j]?).map (·.key)).getD xk) xk).run P w= .ok xk w:=by intro w;simp[Instr.keyThatStays,h5,CL]
        refine⟨_,?_,hr.set hb ho trivial (o':= .map (es.modify j λe=>(k,v,e.2.2)) clock) ⟨_,rfl,Xh.modify hk hv j⟩ (kF Uj)⟩;have Wv:(ms.toArray.modify j λe=>{e with key:=xk,val:=xv})=(ms.modify j λe=>{e with key:=xk,val:=xv}).toArray:=by apply An;simp
        simp only[Instr.mapUpdate,Sem.run_bind,run_underlying hu,Result.andThen_ok,getObj,setObj,Sem.run,hg,run_checkKey qN nR,run_findKey qN h2,ahm,Wv]
     .cases he
    .cases he
   .cases he
  .cases he
 .cases he
theorem sU(P:Program)(hr:HR r h nx w0 w){m off:Nat}(hb:r b=some (k,m)){v:AV}(hv:VR r v u)(hc:v.cy=true)
 (hs:eQ h b off [v]=some h'):∃w',(∀md,(store ⟨k,off,none⟩ u md).run P w= .ok () w')/\HR r h' nx w0 w':=by
 have hu:=xJ hc hv;obtain⟨w',ec,qa,_⟩:=lD P hr hb (.cons hv .nil) (by simpa using hu) hs;refine⟨w',λmd=>?_,qa⟩;simp only[storeCells,Sem.run_bind,iT,dD]at ec;have h1:(store ⟨k,off,none⟩ u .plain).run P w= .ok () w':=by
  cases jf:(store ⟨k,off,none⟩ u .plain).run P w with
  |ok a w1=>rw[jf]at ec;simp at ec;simp[ec]
  |halt a w1=>rw[jf]at ec;simp at ec
 rw[run_store P w _ u _ hu]at h1⊢;cases jo:w.cell? ⟨k,off,none⟩with
 |some x=>rw[jo]at h1;exact h1
 |none=>
  exfalso;unfold eQ at hs;split at hs
  .rename_i cs e ho;obtain⟨c,hk,hc⟩:=hr.obj b _ k m ho hb;have xy:=hc.length;split at hs;.rename_i q hq;obtain⟨_,hle⟩:=sH _ _ _ _ hq;simp only[bD,eB]at hle;simp[World.cell?,hk]at jo;omega
   .cases hs
  .rename_i cs e es ho;obtain⟨c,c',hk,hc,hl⟩:=hr.obj b _ k m ho hb;have xy:=hc.length;split at hs;.rename_i q hq;obtain⟨_,hle⟩:=sH _ _ _ _ hq;simp only[bD,eB]at hle;simp[World.cell?,hk]at jo;omega
   .cases hs
  .cases hs
theorem uc(hr:HR r h nx w0 w){m off:Nat}(hb:r b=some (k,m)){v:AV}(hl:cK h b off 1=some [v]):
 ∃u,VR r v u/\w.cell? ⟨k,off,none⟩=some u/\w.frozen? ⟨k,off,none⟩=false/\∃c e,w.heap[k]?=some (.cells c e (0,0)):=by
 obtain⟨vs,ti,bP,jo,c,e,hk,_⟩:=mL hr hb hl;cases ti with
 |cons hv ht=>
 rename_i u us;cases ht;have:=jo 0 u rfl;rw[iT,dD]at this;exact⟨u,hv,this,by simp[World.frozen?,hk],c,e,hk⟩
def Th:Ext->(Array Value->Sem Value)->Prop
 | .cmp,f=>f=Extern.BytealgCompare.compare
 | .Mq t,f=>∃tR,f=Extern.SlicesOverlaps.overlaps #[t,t] #[tR]
 | .load t,f=>f=Extern.Atomic.loadT t
 | .store,f=>f=Extern.Atomic.storeT
 | .cas t,f=>f=Extern.Atomic.casT t
 | .add k,f=>f=Extern.Atomic.update (Op.intArith .add) k true
 | .mark1,f=>∃m,f=Extern.Race.marked m
 | .mark0,f=>∃m,f=λ_=>do mark m;pure Extern.Race.none_
structure PK(P:Program)(xt:FuncId->Option Ext):Prop where
 K4:∀(f:FuncId) (fn:Func),P.funcs[f]?=some fn->(fn.name== "runtime.NumGoroutine")=false
 ext:∀(f:FuncId) (e:Ext),xt f=some e->∃(fn:Func) (row:Array Value->Sem Value),P.funcs[f]?=some fn/\fn.body=none/\Extern.findNext fn=none/\Extern.find fn=some row/\Th e row
 mixed:P.follows .mixedOrders=true
 Mq:∀(f:FuncId) (t:TypeId),xt f=some (.Mq t)->∃e n,P.underlying t=some (.slice e)/\cN P e=some n
theorem vR{s:Sem Unit}{x:Option aG}(he:kR x=some er)(k:∀h',x=some h'->∃w',s.run P w= .ok () w'/\HR r h' nx w0 w'):
 ID P r h nx w0 w (do s;pure .skip) er:=by
 unfold kR at he;split at he
 .rename_i h';injection he with he;subst he
  obtain⟨w',ec,qa⟩:=k h' rfl;exact⟨.skip,undef,w',by simp[ec],.inr ⟨rfl,rfl⟩,.g _,qa⟩
 .cases he
theorem JK{a:Addr}(h:(store a u .atomic).run P w= .ok () w'):(Extern.Atomic.storeT [.pointer (some a),u].toArray).run P w= .ok Extern.Atomic.none_ w':=by show(do store a u .atomic;pure Extern.Atomic.none_:Sem Value).run P w=_;simp only[Sem.run_bind,h,Result.andThen_ok,Sem.run_pure]
theorem vL(hr:HR r h nx w0 w){m:Nat}(hb:r b=some (k,m))(hl:jl h b=true):
 (∃t n,n≠0/\w.shape? k=some (t,n))/\∃o,au h b=some o/\o.live/\∀off,w.frozen? ⟨k,off,none⟩=false:=by
 unfold jl at hl;split at hl
 .rename_i o ho;split at hl;.rename_i a l hc;obtain⟨c,c',e,hk,hv⟩:=hr.cells hb ho hc;have bP:=hv.length;refine⟨⟨e,(c++c').length,by simp only[bD,aq]at bP⊢;omega,by simp[World.shape?,hk]⟩,o,ho,?_,λoff=>by simp[World.frozen?,hk]⟩;cases o<;>simp_all[AO.cells?,AO.live]
  .cases hl
 .cases hl
theorem Pf(hr:HR r h nx w0 w){e:Ext}{row:Array Value->Sem Value}(zS:Th e row)(ha:eM r args as)
 (hov:∀t,e= .Mq t->∃el n,P.underlying t=some (.slice el)/\cN P el=some n)
 (he:dt h e args=some er):ID P r h nx w0 w (do pure (.value (<-row as.toArray))) er:=by
 unfold dt at he;split at he
 ·
  obtain⟨tR,rfl⟩:=zS;obtain⟨el,n,CC,tz⟩:=hov _ rfl;split at he
  .split at he
   .rename_i b hb;split at he
    .rename_i b' gC;split at he
     .rename_i hc;obtain⟨cx,l1,l2⟩:=hc;injection he with he;subst he
      cases ha with|cons h1 ha=>
      cases ha with|cons h2 ha=>
      cases ha;have look:∀{x:AV} {u:Value} {b:Nat},VR r x u->Hm x=some b->∃k off m len cap,u= .slice (some ⟨k,off,none⟩) len cap/\r b=some (k,m):=by
       intro x u b hx hb;unfold Hm at hb;split at hb
       .injection hb with hb;subst hb
        cases hx with|sl e=>exact⟨_,_,_,_,_,rfl,e⟩
       .injection hb with hb;subst hb
        cases hx with|mD e _=>exact⟨_,_,_,_,_,rfl,e⟩
       .cases hb
      obtain⟨k,off,m,len,cap,rfl,e1⟩:=look h1 hb;obtain⟨k',MP,m',len',rD,rfl,e2⟩:=look h2 gC;obtain⟨⟨t1,n1,z1,s1⟩,o1,g1,v1,f1⟩:=vL hr e1 l1;obtain⟨⟨t2,n2,z2,s2⟩,o2,g2,v2,f2⟩:=vL hr e2 l2;have CA:k≠k':=λe=>cx (hr.inj b b' o1 o2 k _ _ g1 g2 v1 v2 e1 (by rw[e];exact e2));have ec:=Go.Lib.run_overlaps_apart (P:=P) w _ tR el CC n (λw=>en tz w) ⟨k,off,none⟩ ⟨k',MP,none⟩ len cap len' rD CA t1 t2 n1 n2 s1 s2 z2 (f1 _) (f1 _);exact⟨_,_,w,fA ec,.inl rfl,.g _,hr⟩
     .cases he
    .cases he
   .cases he
  .cases he
 ·
  obtain rfl:=zS;split at he
  .injection he with he;subst he
   cases ha with|cons h1 ha=>
   cases ha with|cons h2 ha=>
   cases ha;cases h1;cases h2;exact⟨_,_,w,rfl,.inl rfl,.g _,hr⟩
  .cases he
 ·
  obtain rfl:=zS;split at he
  .cases ha with|cons h1 ha=>
   cases ha;cases h1 with|ptr hb=>
   unfold xe at he;split at he
   .rename_i v hl;obtain⟨u,hu,ec,_,_⟩:=uc hr hb hl;split at he
    .split at he
     .rename_i k' n hp;obtain rfl:=jC hp hu;split at he
      .rename_i CA;injection he with he;subst he
       exact⟨_,_,w,fA (show(Extern.Atomic.read _ _).run P w=_ by simp[Extern.Atomic.read,ec,CA]),.inl rfl,hu,hr⟩
      .cases he
     .cases he
    .split at he
     .rename_i hU;injection he with he;subst he
      have:∃a,u= .pointer a:=by
       unfold isU at hU;split at hU;.cases hu;exact⟨_,rfl⟩
       .cases hu;exact⟨_,rfl⟩
       .cases hU
      obtain⟨a,rfl⟩:=this;exact⟨_,_,w,fA (show(Extern.Atomic.read _ _).run P w=_ by simp[Extern.Atomic.read,ec]),.inl rfl,hu,hr⟩
     .cases he
   .cases he
  .cases he
 ·
  obtain rfl:=zS;split at he
  .cases ha with|cons h1 ha=>
   cases ha with|cons h2 ha=>
   cases ha;cases h1 with|ptr hb=>
   unfold wC at he;split at he
   .rename_i jo;unfold kR at he;split at he
    .rename_i h' jf;injection he with he;subst he
     obtain⟨w',ec,qa⟩:=sU P hr hb h2 jo jf;exact⟨_,_,w',fA (JK (ec .atomic)),.inl rfl,.g _,qa⟩
    .cases he
   .cases he
  .cases he
 ·
  obtain rfl:=zS;split at he
  .cases ha with|cons h1 ha=>
   cases ha with|cons h2 ha=>
   cases ha with|cons h3 ha=>
   cases ha;cases h1 with|ptr hb=>
   unfold JM at he;split at he
   .rename_i k';split at he
    .rename_i v hl;obtain⟨u,hu,ec,tP,c,e,hk⟩:=uc hr hb hl;split at he
     .rename_i k z hz;obtain rfl:=jC hz hu;split at he
      .rename_i k1 x hx;obtain rfl:=jC hx h2;split at he
       .rename_i k2 y hy;obtain rfl:=jC hy h3;split at he
        .rename_i CA;obtain⟨rfl,rfl,rfl⟩:=CA;unfold Ik at he;split at he
         .rename_i hzx;subst hzx;split at he
          .rename_i h' jf;injection he with he;subst he
           obtain⟨w',eQ,qa⟩:=sU P hr hb (.g _) rfl jf;have hw:=eQ .atomic;rw[run_store P w _ _ _ rfl,ec]at hw;simp only[tP]at hw;injection hw with _ hw;subst hw;exact⟨_,_,_,fA (Go.Conc.run_cas_hit_entry ec tP),.inl rfl,.g _,qa⟩
          .cases he
         .rename_i hzx;injection he with he;subst he
          exact⟨_,_,w,fA (Go.Conc.run_cas_miss_entry ec tP hzx),.inl rfl,.g _,hr⟩
        .cases he
       .cases he
      .cases he
     .cases he
    .cases he
   .cases he
  .cases he
 ·
  obtain rfl:=zS;split at he
  .cases ha with|cons h1 ha=>
   cases ha with|cons h2 ha=>
   cases ha;cases h1 with|ptr hb=>
   unfold RY at he;split at he
   .rename_i v hl;obtain⟨u,hu,ec,tP,c,e,hk⟩:=uc hr hb hl;split at he
    .rename_i k2 x hx;obtain rfl:=jC hx hu;split at he
     .rename_i k1 y hy;obtain rfl:=jC hy h2;split at he
      .rename_i CA;obtain⟨rfl,rfl⟩:=CA;split at he
       .rename_i h' jf;injection he with he;subst he
        obtain⟨w',eQ,qa⟩:=sU P hr hb (.g _) rfl jf;have hw:=eQ .atomic;rw[run_store P w _ _ _ rfl,ec,gT]at hw;simp only[tP]at hw;injection hw with _ hw;subst hw;refine⟨_,_,_,fA (Go.Conc.run_add_entry ec tP),.inl rfl,?_,qa⟩;rw[gT];exact .g _
       .cases he
      .cases he
     .cases he
    .cases he
   .cases he
  .cases he
 ·
  obtain⟨m,rfl⟩:=zS;split at he
  .cases ha with|cons h1 ha=>
   cases ha;rename_i v u;split at he
   .rename_i hp;injection he with he;subst he
    have:∃a,u= .pointer (some a):=by
     unfold abF at hp;split at hp;.cases h1;exact⟨_,rfl⟩
     .cases h1;exact⟨_,rfl⟩
     .cases hp
    obtain⟨a,rfl⟩:=this;have IJ:(Extern.Race.at_ [Value.pointer (some a)].toArray:Sem Addr)=pure a:=by simp[Extern.Race.at_]
    exact⟨_,_,w,by simp only[Extern.Race.marked,IJ];simp;rfl,.inl rfl,.g _,hr⟩
   .cases he
  .cases he
 ·
  obtain⟨m,rfl⟩:=zS;split at he
  .cases ha;injection he with he;subst he
   exact⟨_,_,w,by simp;rfl,.inl rfl,.g _,hr⟩
  .cases he
theorem zb{xt:FuncId->Option Ext}(pk:PK P xt)(hr:HR r h nx w0 w)(ha:eM r args as)
 (he:fk P xt h f args=some er):ID P r h nx w0 w (callFunc f as.toArray) er:=by
 unfold fk at he;split at he
 .split at he
  .rename_i fn hf;split at he
   .rename_i c hb;injection he with he;subst he
    have hn:=pk.K4 f fn hf;refine⟨as,?_,ha⟩;have C0:¬fn.name= "runtime.NumGoroutine" :=by simpa using hn
    simp[callFunc,hf,C0,hb]
   .cases he
  .cases he
 .rename_i e hx;obtain⟨fn,row,hf,hb,h1,h2,h3⟩:=pk.ext f e hx;have hn:=pk.K4 f fn hf;have C0:¬fn.name= "runtime.NumGoroutine" :=by simpa using hn
  have:=Pf (P:=P) (w:=w) hr h3 ha (λt ht=>pk.Mq f t (by rw[hx,ht])) he;have ec:∀w,(callFunc f as.toArray).run P w=(do pure (.value (<-row as.toArray)):Sem Next).run P w:=by intro w;simp[callFunc,hf,C0,hb,h1,h2]
  cases er<;>simp only[ID,ec]at this⊢<;>exact this
variable{a:AV}{cs:List AV}{n size:Nat}{types:Array TypeId}{us:List Value}{vd:Value}
theorem F6(P:Program)(hr:HR r h nx w0 w){m:Nat}{x:Value}(hx:VR r a x){l:List AV}(he:dV h size a=some (m,l)):
 ∃vs,eM r l vs/\(Builtin.lenOf x).run P w= .ok m w/\∀n,n<=m->(Builtin.firstCells size n x).run P w= .ok (vs.take (n*size)).toArray w:=by
 have x9:∀{k off len cap:Nat} {vs:List Value},eM r l vs->vs.length=len*size->(∀j v,vs[j]?=some v->w.cell? ⟨k,off+j,none⟩=some v)->
  ∃vs,eM r l vs/\(Builtin.lenOf (.slice (some ⟨k,off,none⟩) len cap)).run P w= .ok len w/\∀n,n<=len->(Builtin.firstCells size n (.slice (some ⟨k,off,none⟩) len cap)).run P w= .ok (vs.take (n*size)).toArray w:=by
  intro k off len cap vs hv bP hc;refine⟨vs,hv,rfl,λn hn=>?_⟩;have hle:n*size<=len*size:=aI _ hn;have:=run_loadCells_list (P:=P) w ⟨k,off,none⟩ (vs.take (n*size)) λj v hj=>by
   rw[iT];rw[eE]at hj;split at hj;.exact hc j v hj
   .cases hj
  rw[ax,show min (n*size) vs.length=n*size from ah]at this;exact this
 have so:∀{base:Option Addr} {cap:Nat},l=[]->∃vs,eM r l vs/\(Builtin.lenOf (.slice base 0 cap)).run P w= .ok 0 w/\∀n,n<=0->(Builtin.firstCells size n (.slice base 0 cap)).run P w= .ok (vs.take (n*size)).toArray w:=by intro base cap hl;subst hl;refine⟨[],.nil,rfl,λn hn=>?_⟩;obtain rfl:n=0:=ah;cases base<;>simp[Builtin.firstCells,loadCells,loadCellsFrom]
 unfold dV at he;split at he
 .split at he
  .rename_i hn;injection he with he;injection he with h1 h2;subst h1;subst hn
   cases hx;exact so h2.symm
  .cases he
 .split at he
  .rename_i q hq;injection he with he;injection he with h1 h2;subst h1;subst h2
   cases hx with
   |sl hb=>
   obtain⟨vs,ti,bP,jo,_⟩:=mL hr hb hq;exact x9 ti bP λj v hj=>by have:=jo j v hj;rwa[iT]at this
  .cases he
 .split at he
  .rename_i q hq;injection he with he;injection he with h1 h2;subst h1;subst h2
   cases hx with
   |mD hb _=>
   obtain⟨vs,ti,bP,jo,_⟩:=mL hr hb hq;exact x9 ti bP λj v hj=>by have:=jo j v hj;rwa[iT]at this
  .cases he
 .injection he with he;injection he with h1 h2;subst h1
  cases hx;exact so h2.symm
 .injection he with he;injection he with h1 h2;subst h1
  cases hx<;>exact so h2.symm
 .rename_i n' cs;split at he
  .rename_i xy;injection he with he;injection he with h1 h2;subst h1;subst h2
   cases hx with
   |Cx=>exact so rfl
   |Br=>exact so rfl
   |fz hz hc hv=>exact x9 hv (by have:=hv.length;omega) (yZ hr hz)
  .cases he
 .cases he
theorem zj{d:AV}{x:Value}(hx:VR r d x)(h:pI d=some n):∃base cap,x= .slice base n cap:=by
 unfold pI at h;split at h;.injection h with h;subst h;cases hx;exact⟨_,_,rfl⟩
 .injection h with h;subst h;cases hx;exact⟨_,_,rfl⟩
 .injection h with h;subst h;cases hx<;>exact⟨_,_,rfl⟩
 .injection h with h;subst h;cases hx;exact⟨_,_,rfl⟩
 .split at h;.rename_i h0;injection h with h;subst h;subst h0;cases hx;exact⟨_,_,rfl⟩
  .cases h
 .cases h
theorem vF(P:Program)(hr:HR r h nx w0 w){d:AV}{x:Value}(hx:VR r d x)(hv:eM r cs us)
 (hc:cs.all AV.cy=true) (hs:oW h cs d=some h'):∃a len cap w',x= .slice (some a) len cap/\(storeCells a us).run P w= .ok () w'/\HR r h' nx w0 w':=by
 unfold oW at hs;split at hs
 .cases hx with
  |sl hb=>
  obtain⟨w',h1,h2,_⟩:=lD P hr hb hv (hv.si hc) hs;exact⟨_,_,_,w',rfl,h1,h2⟩
 .cases hx with
  |mD hb _=>
  obtain⟨w',h1,h2,_⟩:=lD P hr hb hv (hv.si hc) hs;exact⟨_,_,_,w',rfl,h1,h2⟩
 .cases hs
theorem IV(P:Program)(hr:HR r h nx w0 w){ty:TypeId}{d s:AV}{vs:Value}(hd:VR r d vd)(hs:VR r s vs)
 (he:qK P h types d s=some er):ID P r h nx w0 w (do pure (.value (<-Builtin.copy_ types ty #[vd,vs]))) er:=by
 unfold qK at he;split at he
 .rename_i t t' Db;have H7:types= #[t,t']:=by rw[<-dF (xs:=types),Db]
  subst H7;split at he
  .rename_i e ht;split at he
   .split at he
    .rename_i size tg;split at he
     .rename_i dn hdn;obtain⟨base,cap,rfl⟩:=zj hd hdn;split at he
      .rename_i p hp;obtain⟨m,l⟩:=p;obtain⟨us,hus,bP,adS⟩:=F6 P hr hs hp;have hf:=adS (Nat.min m dn) (UC _ _);unfold tQ at he;split at he
       .rename_i h0;injection he with he;subst he
        simp only at h0;rw[h0]at hf;simp only[eN,dv]at hf;refine⟨_,_,w,fA (v:=goInt 0) ?_,.inl rfl,.g _,hr⟩;cases base<;>simp[Builtin.copy_,run_underlying ht,bP,en tg,h0,hf,storeCells]
       .split at he
        .rename_i q hq;obtain⟨rfl,hle⟩:=qj _ _ _ hq;split at he
         .rename_i jo;split at he
          .rename_i h' jf;injection he with he;subst he
           obtain⟨a,len,rD,w',hx,ec,qa⟩:=vF P hr hd (hus.take (Nat.min m dn*size)) jo jf;injection hx with PB UF hx3;subst PB;refine⟨_,_,w',fA (v:=goInt (Nat.min m dn)) ?_,.inl rfl,.g _,qa⟩;simp[Builtin.copy_,run_underlying ht,bP,en tg,hf,ec]
          .cases he
         .cases he
        .cases he
      .cases he
     .cases he
    .cases he
   .cases he
  .cases he
 .cases he
theorem HJ(P:Program)(hr:HR r h nx w0 w){ty:TypeId}{d:AV}(hd:VR r d vd)
 (he:qi P h types d=some er):ID P r h nx w0 w (do pure (.value (<-Builtin.clear_ types ty #[vd]))) er:=by
 unfold qi at he;split at he
 .rename_i t Db;have H7:types= #[t]:=by rw[<-dF (xs:=types),Db]
  subst H7;split at he
  .rename_i e ht;split at he
   .rename_i zl hz;obtain⟨z,GH,rfl⟩:=xu hz;split at he
    .rename_i n hn;obtain⟨base,cap,rfl⟩:=zj hd hn;split at he
     .rename_i h0;injection he with he;subst he;subst h0
      refine⟨_,_,w,fA (v:= .tuple #[]) ?_,.inl rfl,.g _,hr⟩;cases base<;>simp[Builtin.clear_,run_underlying ht]
     .rename_i h0;split at he
      .rename_i jo;unfold kR at he;split at he
       .rename_i h' jf;injection he with he;subst he
        have hv:eM r (fK n (z.cells.toList.map .g)) (fK n z.cells.toList):=(eM.HL _).rep n;have hc:(fK n (z.cells.toList.map AV.g)).all AV.cy=true:=by
         have:∀(n:Nat) (l:List AV),l.all AV.cy=true->(fK n l).all AV.cy=true:=by
          intro n l hl
          induction n with
          |zero=>rfl
          |succ n ih=>simp only[fK,tL,hl,ih,Bool.and_self]
         exact this n _ jo
        obtain⟨a,len,rD,w',hx,ec,qa⟩:=vF P hr hd hv hc jf;injection hx with PB UF hx3;subst PB;refine⟨_,_,w',fA (v:= .tuple #[]) ?_,.inl rfl,.g _,qa⟩;have hzc:(Builtin.zeroCells z.cells n).toList=fK n z.cells.toList:=by have:=ug z.cells n (n*z.cells.size) rfl;unfold Builtin.zeroCells;rw[this]
        cases n with
        |zero=>exact absurd rfl h0
        |succ n=>simp[Builtin.clear_,run_underlying ht,mH GH,hzc,ec]
       .cases he
      .cases he
    .cases he
   .cases he
  .cases he
 .cases he
theorem vw.erase{r:dG}:∀{a:List (AV×AV×Nat)} {d:List MapEntry},vw r a d->∀i,vw r (a.eraseIdx i) (d.eraseIdx i)
 |_,_,.nil,i=>by simpa using vw.nil
 |_,_,.cons a b t,0=>t
 |_,_,.cons a b t,i+1=> .cons a b (vw.erase t i)
theorem Fl(P:Program)(hr:HR r h nx w0 w){ty:TypeId}{m k:AV}{vm vk:Value}(hm:VR r m vm)(hk:VR r k vk)
 (he:uX P h types m k=some er):ID P r h nx w0 w (do pure (.value (<-Builtin.delete_ types ty #[vm,vk]))) er:=by
 unfold uX at he;split at he
 .rename_i t l Db;have H7:types[0]?=some t:=by rw[<-dF (xs:=types),Db];simp
  split at he
  .rename_i kt et hu;split at he
   .rename_i kd qN;split at he
    .rename_i nR;split at he
     .rename_i b;cases hm with
      |mp hb=>
      rename_i g n;split at he
      .rename_i es clock ho;obtain⟨ms,hg,Xh⟩:=hr.obj b _ g n ho hb;have Uj:g<w.heap.size:=(hr.xP b _ hb).2.2;unfold kR at he;split at he
       .rename_i h' hd;injection he with he;subst he
        cases hq:iF kd k es 0 with
        |none=>rw[hq]at hd;cases hd
        |some q=>
         rw[hq]at hd;rcases qX hk es ms 0 q hq Xh with⟨rfl,h2⟩|⟨j,a,u,rfl,h2,h3,_,e,h5,h6⟩
         .simp only[Ei,bA]at hd;subst hd;refine⟨_,_,_,fA (v:= .tuple #[]) ?_,.inl rfl,.g _,hr.set hb ho trivial (o':= .map es clock) ⟨_,rfl,Xh⟩ (kF Uj)⟩;simp[Builtin.delete_,H7,run_underlying hu,getObj,setObj,Sem.run,hg,run_checkKey qN nR,run_findKey qN h2]
         .simp only[Ei,bA]at hd;subst hd;have Wv:(ms.toArray.eraseIdxIfInBounds j)=(ms.eraseIdx j).toArray:=by simp only[oI]at h5;have db:=(cT.1 h5).1;unfold Array.eraseIdxIfInBounds;rw[dif_pos (by simpa using db)];simp
          refine⟨_,_,_,fA (v:= .tuple #[]) ?_,.inl rfl,.g _,hr.set hb ho trivial (o':= .map (es.eraseIdx j) clock) ⟨_,rfl,Xh.erase j⟩ (kF Uj)⟩;simp[Builtin.delete_,H7,run_underlying hu,getObj,setObj,Sem.run,hg,run_checkKey qN nR,run_findKey qN h2]
       .cases he
      .cases he
     .cases he
    .cases he
   .cases he
  .cases he
 .cases he
variable{ae:Operand->AV}{name:String}{o:Oper}
theorem ID.congr{s s':Sem Next}(hs:s'.run P w=s.run P w)(he:ID P r h nx w0 w s er):ID P r h nx w0 w s' er:=by cases er<;>simp only[ID,hs]at he⊢<;>exact he
theorem uK{xt:FuncId->Option Ext}(pk:PK P xt)(hr:HR r h nx w0 w){x:Value}(hx:VR r a x)(ha:eM r args as)
 (he:ou P xt h a args=some er):ID P r h nx w0 w (do let d<-Deferred.ofValue x as.toArray;invoke d.target d.args) er:=by
 unfold ou at he;split at he
 .rename_i f cap;cases hx with
  |fn hc=>
  rename_i c;have:=zb pk hr (ha.append hc) he;refine this.congr ?_;simp[Deferred.ofValue,invoke]
 .rename_i l;cases hx with
  |sO hb=>
  rename_i k n;split at he
  .rename_i al ho;split at he
   .rename_i bP;injection he with he;subst he
    obtain⟨lo,hk,Eo⟩:=hr.obj l _ k n ho hb;refine⟨k,n,as,lo,al,hb,ho,hk,Eo,ha,bP,?_⟩;have Ub:lo.params.size=as.length:=by
     have h1:lo.params.toList=al.params:=Eo.2.2.2.2.2.1;have h2:=ha.length;have h3:lo.params.toList.length=as.length:=by rw[h1,bP,h2]
     simpa using h3
    simp[Deferred.ofValue,invoke,Instr.yield,Instr.getLoop,getObj,Sem.run,hk,Ub]
   .cases he
  .cases he
 .cases he
theorem Hp(h:lT P t name=some f)(v:Value)(n:Nat)(w:World):(method (n+1) t v name).run P w= .ok (f,v) w:=by
 unfold lT at h;split at h
 .rename_i i hi;split at h
  .rename_i m hm;split at h
   .rename_i hp;have L7:m.path.toList=[]:=by simpa using hp
    split at h
    .rename_i f' p hf;have hm':i.methods.find? (λx=>x.name==name)=some m:=by rw[<-hm];simp
     rw[method];simp only[Sem.run_bind,u9 hi,Result.andThen_ok,hm',L7,follow,Sem.run_pure,hf];split at h
     .rename_i e hu;split at h
      .rename_i hpp;injection h with h;subst h;subst hpp
       simp[receiverAt,run_underlying hu,Place.get]
      .cases h
     .rename_i d hd hu;split at h;.cases h
      .rename_i hpp;injection h with h;subst h
       have hpp:p=false:=by simpa using hpp
       subst hpp;simp only[receiverAt,Sem.run_bind,run_underlying hu,Result.andThen_ok];cases d<;>first|rfl|exact(hd _ rfl).elim
     .cases h
    .cases h
   .cases h
  .cases h
 .cases h
theorem BO{xt:FuncId->Option Ext}(pk:PK P xt)(hr:HR r h nx w0 w){ev:Operand->Value}(iq:∀x∈o.op.operands.toList,VR r (ae x) (ev x))
  (he:nE P xt h ae o=some er):ID P r h nx w0 w (execOp ev o) er:=by
 unfold nE at he;obtain⟨dst,op,type,pos,after,guard⟩:=o;dsimp only at he iq;cases op
 case assign x=>
  injection he with he;subst he
  exact⟨_,ev x,w,by simp[execOp],.inl rfl,iq x fV,hr⟩
 case store t a x=>
  replace he:uq P h t (ae a) (ae x)=some er:=he;have ha:=iq a fV;have hx:=iq x fV;unfold uq at he;split at he
  .rename_i b off e;rw[e]at ha;split at he
   .rename_i cs xV;split at he
    .rename_i n hn;split at he
     .rename_i hc;simp only[aV,kT]at hc;have Kk:=uR xV hx;have bP:=Kk.length;generalize hua:ev a=u at*;cases ha with
      |ptr hb=>
      rename_i k m;refine(vR (s:=Instr.storeAt t (.pointer (some ⟨k,off,none⟩)) (ev x)) he λh' jf=>?_).congr (by simp[execOp,hua]);obtain⟨w',ec,qa,_⟩:=lD P hr hb Kk (Kk.si hc.2) jf;refine⟨w',?_,qa⟩;have tz:¬(ev x).cells.size≠n:=by simp only[eU]at bP;omega
      simp[Instr.storeAt,Instr.sureAddr,storeVar,en hn,tz,ec]
     .cases he
    .cases he
   .cases he
  .cases he
 case mapUpdate t m k x=>replace he:kR (qA P h t (ae m) (ae k) (ae x))=some er:=he;exact(vR (s:=Instr.mapUpdate t (ev m) (ev k) (ev x)) he λh' jf=>zD P hr (iq m fV) (iq k fV) (iq x fV) jf).congr (by simp[execOp])
 case insert t m k x=>replace he:kR (qA P h t (ae m) (ae k) (ae x))=some er:=he;exact(vR (s:=Instr.mapUpdate t (ev m) (ev k) (ev x)) he λh' jf=>zD P hr (iq m fV) (iq k fV) (iq x fV) jf).congr (by simp[execOp])
 case call c=>
  replace he:tp P xt h ae c=some er:=he;obtain⟨callee,args,argTypes⟩:=c;simp only[Op.operands,Call.operands]at iq;have xD:eM r (args.toList.map ae) (args.toList.map ev):=eM.map ae ev _ λx hx=>iq x (by simp;exact .inr (by simpa using hx));have U5:args.map ev=(args.toList.map ev).toArray:=by apply An;simp
  unfold tp at he;dsimp only at he;split at he;.rename_i f;have:=uK pk hr (iq f bL) xD he;refine this.congr ?_;simp only[execOp,resolve,U5]
  .rename_i rcv name;have hrc:=iq rcv bL;unfold nO at he;split at he
   .rename_i t v e;rw[e]at hrc;split at he
    .rename_i f hf;generalize hur:ev rcv=u at*;cases hrc with
     |kB hv=>
     rename_i u;have:=zb pk hr (eM.cons hv xD) he;refine this.congr ?_;have hm:=Hp hf u;simp only[execOp,resolve,U5,hur,Sem.run_bind,Sem.run_pure,Result.andThen_ok,invoke];have h0:(#[Value.iface t u]++(args.toList.map ev).toArray)[0]?=some (.iface t u):=bL;have h1:(#[Value.iface t u]++(args.toList.map ev).toArray).extract 1 (#[Value.iface t u]++(args.toList.map ev).toArray).size=(args.toList.map ev).toArray:=by apply An;simp;exact aD bL
     simp only[h0,h1,callMethod,Sem.run_bind,run_program,Result.andThen_ok];rw[show P.types.size+Made.depth=(P.types.size+99)+1 from rfl,hm];simp
    .cases he
   .cases he
  .rename_i b;split at he
   .split at he
    .rename_i s x ko;have qm:args= #[s,x]:=by rw[<-dF (xs:=args),ko]
     subst qm;have:=F3 (ty:=type) P hr (iq s bL) (iq x bL) he;refine this.congr ?_;simp[execOp,resolve,invoke,builtin]
    .cases he
   .split at he
    .rename_i d s ko;have qm:args= #[d,s]:=by rw[<-dF (xs:=args),ko]
     subst qm;have:=IV (ty:=type) P hr (iq d bL) (iq s bL) he;refine this.congr ?_;simp[execOp,resolve,invoke,builtin]
    .cases he
   .split at he
    .rename_i d ko;have qm:args= #[d]:=by rw[<-dF (xs:=args),ko]
     subst qm;have:=HJ (ty:=type) P hr (iq d bL) he;refine this.congr ?_;simp[execOp,resolve,invoke,builtin]
    .cases he
   .split at he
    .rename_i m k ko;have qm:args= #[m,k]:=by rw[<-dF (xs:=args),ko]
     subst qm;have:=Fl (ty:=type) P hr (iq m bL) (iq k bL) he;refine this.congr ?_;simp[execOp,resolve,invoke,builtin]
    .cases he
   .cases he
 case defer c=>
  replace he:pW ae c=some er:=he;obtain⟨callee,args,argTypes⟩:=c;simp only[Op.operands,Call.operands]at iq;have xD:eM r (args.toList.map ae) (args.toList.map ev):=eM.map ae ev _ λx hx=>iq x (by simp;exact .inr (by simpa using hx));have U5:args.map ev=(args.toList.map ev).toArray:=by apply An;simp
  unfold pW at he;dsimp only at he;split at he
  .rename_i f;have hf:=iq f bL;unfold ES at he;split at he
   .rename_i fn cap e;rw[e]at hf;injection he with he;subst he
    generalize huf:ev f=u at*;cases hf with
    |fn hc=>
    exact⟨_,by simp[execOp,resolve,huf,Deferred.ofValue,U5],.fn hc xD⟩
   .cases he
  .cases he
 all_goals cases he
variable{ds:List Deferred}{fn:Func}{i:Nat}{ops:Array Oper}{pD:Option Code}{params:Array Tmp}{rest:List Nat}
section steps
variable{P:Program}{f:Frame}{k:List Item}{cs:List Frame}{w:World}
theorem Ep{i:Item}{todo:List Item}(hm:f.mode= .run)(ht:f.todo=i::k)
 (h:(i= .code .skip/\todo=k)\/(∃id,i= .inBlock id/\todo=k)\/(∃a b,i= .code (.seq a b)/\todo= .code a:: .code b::k)\/(∃id b,i= .code (.block id b)/\todo= .code b:: .inBlock id::k)\/
  (∃b,i= .code (.loop b)/\todo= .code b:: .inLoop b::k)\/(∃b,i= .inLoop b/\todo= .code b:: .inLoop b::k)\/(∃id ops,i= .code (.region id ops false)/\todo= .inRegion ops (List.range ops.size)::k)\/
  (∃ops,i= .inRegion ops []/\todo=k)):
 step P (lone f cs w)= .next (lone {f with todo} cs w):=by
 obtain⟨fn,tmps,td,defers,mode,kind,roundOf⟩:=f;simp only at hm ht;subst hm;subst ht;refine step_lone_go ?_;rcases h with⟨rfl,rfl⟩|⟨id,rfl,rfl⟩|⟨a,b,rfl,rfl⟩|⟨id,b,rfl,rfl⟩|⟨b,rfl,rfl⟩|⟨b,rfl,rfl⟩|⟨id,ops,rfl,rfl⟩|⟨ops,rfl,rfl⟩<;>simp[stepG,stepG.exec]
theorem acq{c:Operand}{x y:Code}{t:Bool}(hm:f.mode= .run)(ht:f.todo= .code (.cond c x y)::k)(h:f.eval c= .bool t):
 step P (lone f cs w)= .next (lone {f with todo:= .code (if t then x else y)::k} cs w):=by
 obtain⟨fn,tmps,td,defers,mode,kind,roundOf⟩:=f;simp only at hm ht;subst hm;subst ht;exact step_lone_go (by simp[stepG,stepG.exec,h])
theorem adH{id:Nat}{k':List Item}(hm:f.mode= .run)(ht:f.todo= .code (.exit id)::k)(h:exitTo id k=some k'):
 step P (lone f cs w)= .next (lone {f with todo:=k'} cs w):=by
 obtain⟨fn,tmps,td,defers,mode,kind,roundOf⟩:=f;simp only at hm ht;subst hm;subst ht;exact step_lone_go (by simp[stepG,stepG.exec,h])
theorem adN{id:Nat}(hx:P.follows .mixedOrders=true)(hm:f.mode= .run)(ht:f.todo= .code (.region id ops true)::k):
 ∃t,step P (lone f cs w)= .next (lone {f with todo:= .inRegion ops (Region.linearise .any ops t)::k} cs {w with drawn:=w.drawn+1}):=by
 obtain⟨fn,tmps,td,defers,mode,kind,roundOf⟩:=f;simp only at hm ht;subst hm;subst ht;exact⟨w.tape w.drawn (.order fn id),step_lone_go (by simp[stepG,stepG.exec,choose,Sem.run,Question.forced,Question.cut,Region.schedule,hx])⟩
theorem agI{todo:List Item}(hm:f.mode= .run)(hr:f.roundOf=none)(ht:f.todo=[]\/∃k,f.todo= .code .ret::k)(he:todo=f.todo):
 step P (lone f cs w)= .next (lone {f with mode:= .returning} cs w):=by
 obtain⟨fn,tmps,td,defers,mode,kind,roundOf⟩:=f;simp only at hm ht hr;subst hm;subst hr;rcases ht with rfl|⟨k,rfl⟩<;>exact step_lone_go (by simp[stepG,stepG.exec])
theorem J8(hm:f.mode= .run)(ht:f.todo= .inRegion ops (i::rest)::k)(h:((ops[i]?).map (Region.wanted · (yielded ops f.tmps))).getD false=false):
 step P (lone f cs w)= .next (lone (f.finish undef) cs w):=by
 obtain⟨fn,tmps,td,defers,mode,kind,roundOf⟩:=f;simp only at hm ht h;subst hm;subst ht;exact step_lone_go (by simp[stepG,stepG.exec,h])
theorem EC(hm:f.mode= .run)(ht:f.todo= .inRegion ops (i::rest)::k)(ho:ops[i]?=some o)(hw:Region.wanted o (yielded ops f.tmps)=true)
 (hd:f.roundOf=none\/∀c,o.op≠ .defer c):
 stepG P true {frame:=f,callers:=cs,status:= .running,dying:=none} w=stepG.apply P true f cs none (execOp f.eval o) w:=by
 obtain⟨fn,tmps,td,defers,mode,kind,roundOf⟩:=f;simp only at hm ht hw hd;subst hm;subst ht;simp only[stepG,stepG.exec,ho,dC,eK,hw,cz,stepG.oper,Frame.oper?];split
 .rename_i xA;rcases hd with hd|hd
  .cases hd
  .exact absurd xA (hd _)
 .rfl
def qW(P:Program)(f0:Frame)(w0:World)(f:Frame)(cs:List Frame)(s:Sem Next)(w:World):Prop:=
 ∀st,(stepG.apply P true f cs none s w).bare=st->(stepG P true {frame:=f0,callers:=cs,status:= .running,dying:=none} w0).bare=st
theorem qW.of_eq{s:Sem Next}(hg:stepG P true {frame:=f,callers:=cs,status:= .running,dying:=none} w=stepG.apply P true f cs none s w):qW P f w f cs s w:=λst h=>by rw[hg];exact h
theorem uU{f0:Frame}{s:Sem Next}{n:Next}{v:Value}(hg:qW P f0 w0 f cs s w)
 (hr:s.run P w= .ok n w') (hn:n= .value v\/(n= .skip/\v=undef)):step P (lone f0 cs w0)= .next (lone (f.finish v) cs w'):=by
 refine step_lone_go (hg _ ?_);rcases hn with rfl|⟨rfl,rfl⟩<;>simp[stepG.apply,hr]
theorem XS{f0:Frame}{s:Sem Next}{g:FuncId}{args:Array Value}(hg:qW P f0 w0 f cs s w)
 (hr:s.run P w= .ok (.enter g args) w') (ht:∀d r v k,f.todo≠ .call d true r v::k):step P (lone f0 cs w0)= .next (lone (Frame.enter P g args .normal) (f::cs) w'):=by
 refine step_lone_go (hg _ ?_);simp only[stepG.apply,Sem.runT_eq,cz,hr,GStep.bare_after];rfl
theorem aaw{f0:Frame}{s:Sem Next}{d:Deferred}(hg:qW P f0 w0 f cs s w)
 (hr:s.run P w= .ok (.defer d) w'):step P (lone f0 cs w0)= .next (lone ({f with defers:=d::f.defers}.finish undef) cs w'):=by
 refine step_lone_go (hg _ ?_);simp[stepG.apply,hr]
theorem Zg{f0:Frame}{s:Sem Next}{l:Nat}{g:FuncId}{tmps:Array Value}{a b:Code}(hg:qW P f0 w0 f cs s w)
 (hr:s.run P w= .ok (.round l g tmps a b) w'):step P (lone f0 cs w0)= .next (lone (Frame.round l g tmps a b .normal) (f::cs) w'):=by
 refine step_lone_go (hg _ ?_);simp[stepG.apply,hr]
theorem aaE{l:Nat}(hm:f.mode= .run)(ht:f.todo= .beginRound::k)(hl:f.roundOf=some l)(hr:(Instr.beginRound l).run P w= .ok () w'):
 step P (lone f cs w)= .next (lone (f.finish undef) cs w'):=by
 obtain⟨fn,tmps,td,defers,mode,kind,roundOf⟩:=f;simp only at hm ht hl;subst hm;subst ht;subst hl;exact step_lone_go (by simp[stepG,stepG.exec,stepG.apply,hr])
theorem JC{l:Nat}{j:Option Code}(hm:f.mode= .run)(ht:f.todo= .endRangeFunc l::k)(hr:(Instr.endLoop l).run P w= .ok j w'):
 step P (lone f cs w)= .next (lone {f with todo:=(j.map Item.code).toList++k} cs w'):=by
 obtain⟨fn,tmps,td,defers,mode,kind,roundOf⟩:=f;simp only at hm ht;subst hm;subst ht;exact step_lone_go (by simp[stepG,stepG.exec,hr])
theorem LW{g:Operand}{a b:Code}{l:Nat}{mark:List Deferred}(hm:f.mode= .run)(ht:f.todo= .code (.rangeFunc g params a b)::k)
 (hr:(Instr.enterLoop f.fn f.tmps params a b f.roundOf).run P w= .ok (l,mark) w'):
 qW P f w {f with todo:= .inRangeFunc l::k,defers:=mark++f.defers} cs (do let d<-Deferred.ofValue (f.eval g) #[.func (.yield l) #[] #[]];invoke d.target d.args) w':=by
 intro st jf;obtain⟨fn,tmps,td,defers,mode,kind,roundOf⟩:=f;simp only at hm ht hr jf;subst hm;subst ht;subst jf;simp only[stepG,stepG.exec,Sem.runT_eq,hr,GStep.bare_after];simp only[resolve,List.map_toArray,dQ,oQ,Frame.eval]
theorem KH{c:Frame}{l:Nat}{v:Value}(hm:f.mode= .run)(hk:f.kind= .normal)(hl:f.roundOf=some l)
 (ht:(f.todo=[]/\pD=none)\/(∃k,f.todo= .code .ret::k/\pD=some .ret)\/(∃id k,f.todo= .code (.exit id)::k/\exitTo id k=none/\pD=some (.exit id)))
 (hr:(Instr.endRound l pD).run P w= .ok v w'):step P (lone f (c::cs) w)= .next (lone (c.finish v) cs w'):=by
 obtain⟨fn,tmps,td,defers,mode,kind,roundOf⟩:=f;simp only at hm ht hl hk;subst hm;subst hl;subst hk;rcases ht with⟨rfl,rfl⟩|⟨k,rfl,rfl⟩|⟨id,k,rfl,he,rfl⟩;.exact step_lone_go (by simp[stepG,stepG.exec,hr,doReturn])
 .exact step_lone_go (by simp[stepG,stepG.exec,hr,doReturn])
 .exact step_lone_go (by simp[stepG,stepG.exec,he,hr,doReturn])
theorem adm{args:Array Value}{calls:List Deferred}(hm:f.mode= .returning)(hd:f.defers={target:= .collected b,args}::ds)(hr:(Instr.takeDeferred b).run P w= .ok calls w'):
 step P (lone f cs w)= .next (lone {f with defers:=calls++ds} cs w'):=by
 obtain⟨fn,tmps,td,defers,mode,kind,roundOf⟩:=f;simp only at hm hd;subst hm;subst hd;exact step_lone_go (by simp[stepG,unwind,hr])
theorem Kc{g:FuncId}{cap args:Array Value}(hm:f.mode= .returning)(hd:f.defers={target:= .fn (.func g) cap,args}::ds)
 (hr:(callFunc g (args++cap)).run P w= .ok (.enter g (args++cap)) w):
 step P (lone f cs w)= .next (lone (Frame.enter P g (args++cap) .deferred) ({f with defers:=ds}::cs) w):=by
 obtain⟨fn',tmps,td,defers,mode,kind,roundOf⟩:=f;simp only at hm hd;subst hm;subst hd;exact step_lone_go (by simp[stepG,unwind,callDeferred,invoke,hr])
theorem SV{c:Frame}{v:Value}(hm:f.mode= .returning)(hd:f.defers=[])(hk:f.kind= .normal)(hf:P.funcs[f.fn]?=some fn)(hr:(results fn f.tmps).run P w= .ok v w):
 step P (lone f (c::cs) w)= .next (lone (c.finish v) cs w):=step_leave_returned ⟨hm,hd,hk,fn,hf,hr⟩
theorem NS{c:Frame}{v:Value}(hm:f.mode= .returning)(hd:f.defers=[])(hk:f.kind= .deferred)(hf:P.funcs[f.fn]?=some fn)(hr:(results fn f.tmps).run P w= .ok v w)(hc:c.mode= .returning):
 step P (lone f (c::cs) w)= .next (lone c cs w):=by
 obtain⟨fn',tmps,td,defers,mode,kind,roundOf⟩:=f;simp only at hm hd hk hf hr;subst hm;subst hd;subst hk;exact step_lone_go (by simp[stepG,unwind,doReturn,hf,hr,hc])
end steps
variable{a':bI}{lo:Nat}{r':dG}
inductive IR(r:dG):dc->Item->Prop
 |code (c:Code):IR r (.code c) (.code c)
 |inBlock (id:Nat):IR r (.inBlock id) (.inBlock id)
 |inLoop (b:Code):IR r (.inLoop b) (.inLoop b)
 |ops {l:List Oper} {ops:Array Oper} {idx:List Nat} (h:idx.map (ops[·]?)=l.map some):IR r (.ops l ops) (.inRegion ops idx)
 |jQ {l k n:Nat} (h:r l=some (k,n)):IR r (.jQ l) (.inRangeFunc k)
 |jW {l k n:Nat} (h:r l=some (k,n)):IR r (.jW l) (.endRangeFunc k)
 |beginRound:IR r .beginRound .beginRound
theorem IR.mono{r:dG}(h:dG.le r r'){a:dc}{i:Item}:IR r a i->IR r' a i
 | .code c=> .code c
 | .inBlock id=> .inBlock id
 | .inLoop b=> .inLoop b
 | .ops e=> .ops e
 | .jQ e=> .jQ (h.1 _ _ e)
 | .jW e=> .jW (h.1 _ _ e)
 | .beginRound=> .beginRound
inductive FY(r:dG):List dc->List Item->Prop
 |nil:FY r [] []
 |cons {a:dc} {i:Item} {as:List dc} {is:List Item} (h:IR r a i) (t:FY r as is):FY r (a::as) (i::is)
theorem FY.mono{r r':dG}(h:dG.le r r'):∀{a:List dc} {i:List Item},FY r a i->FY r' a i
 |_,_,.nil=> .nil
 |_,_,.cons e t=> .cons (e.mono h) (FY.mono h t)
structure rU(r:dG)(s:BT AV)(t:Array Value)(g:lA)(A:List dz)(todo:List Nat):Prop where
 yD:A=kE g.ops.toList 0 []
 ok:te g.ops A=true
 dlt:∀x∈A,∀d,x.o.dst=some d->d<t.size
 infos:g.infos=A.filter (!·.xL)
 dX:∀x∈A,x.xL=true->(x.i∈todo↔x∈g.dX)
 tj:∀x∈g.dX,x∈A/\x.xL=true
 sorted:g.dX.Pairwise (λx y=>x.i<y.i)
 nodup:todo.Nodup
 lt:∀i∈todo,i<g.ops.size
 order:todo.Pairwise (λi j=>∀x∈A,x.i=i->x.yD.testBit j=false)
 closed:∀x∈A,∀y∈A,x.i∉todo->x.yD.testBit y.i=true->y.i∉todo
 uH:∀x∈A,x.xL=false->x.i∈todo->r (g.base+x.i)=none
 cE:∀n,(∃x∈A,x.xL=false/\x.i∈todo/\x.o.dst=some n)\/VR r (ao s n) (t.getD n undef)
 unsat:g.phase= .unsat->∀x∈A,x.xL=false->rz g.last x=true->x.i∈todo
 Ux:(g.phase= .unsat\/g.phase= .sat)->∀x∈A,x.xL=false->qy g.last x=true->x.i∉todo
 wait:g.phase= .wait->∃e rest zM,g.dX=e::rest/\todo=e.i::zM
theorem rU.mono{r r':dG}(h:dG.le r r'){s:BT AV}{t:Array Value}{g:lA}{A:List dz}{todo:List Nat}(hg:rU r s t g A todo)(hu:∀b,g.base<=b->b<g.base+g.ops.size->r' b=r b):rU r' s t g A todo where
 yD:=hg.yD
 ok:=hg.ok
 dlt:=hg.dlt
 infos:=hg.infos
 dX:=hg.dX
 tj:=hg.tj
 sorted:=hg.sorted
 nodup:=hg.nodup
 lt:=hg.lt
 order:=hg.order
 closed:=hg.closed
 uH x hx he hi:=by rw[hu _ ah (by have:=hg.lt _ hi;omega)];exact hg.uH x hx he hi
 cE n:=(hg.cE n).imp id (VR.mono h)
 unsat:=hg.unsat
 Ux:=hg.Ux
 wait:=hg.wait
inductive yQ(r:dG)(s:BT AV)(t:Array Value)(lo hi:Nat):List dc->List Item->Prop
 |plain {ai:List dc} {ci:List Item} (h:FY r ai ci) (ht:TR r s t):yQ r s t lo hi ai ci
 |jK {g:lA} {A:List dz} {todo:List Nat} {k:List dc} {k':List Item} (hk:FY r k k') (hg:rU r s t g A todo) (h1:lo<=g.base) (h2:g.base+g.ops.size<=hi):
  yQ r s t lo hi (.jK g::k) (.inRegion g.ops todo::k')
theorem yQ.mono{r r':dG}(h:dG.le r r'){s:BT AV}{t:Array Value}{lo hi rX:Nat}(hh:hi<=rX)(hu:∀b,b<hi->r' b=r b){a:List dc}{c:List Item}:yQ r s t lo hi a c->yQ r' s t lo rX a c
 | .plain e ht=> .plain (e.mono h) (ht.mono h)
 | .jK hk hg h1 h2=> .jK (hk.mono h) (hg.mono h λb _ hb=>hu b ah) h1 ah
def EJ(r:dG):Option Nat->Option Nat->Prop
 |none,none=>True
 |some l,some k=>∃n,r l=some (k,n)
 |_,_=>False
theorem EJ.mono{r:dG}(h:dG.le r r'){a b:Option Nat}(e:EJ r a b):EJ r' a b:=by cases a<;>cases b<;>first|exact e|(obtain⟨n,e⟩:=e;exact⟨n,h.1 _ _ e⟩)
structure FR(r:dG)(lo hi:Nat)(a:bI)(f:Frame):Prop where
 fn:f.fn=a.fn
 size:f.tmps.size=a.size
 defers:Ec r a.defers f.defers
 mode:f.mode=if a.ret then .returning else .run
 kind:f.kind=if a.deferred then .deferred else .normal
 round:EJ r a.roundOf f.roundOf
 top:yQ r a.cE f.tmps lo hi a.todo f.todo
theorem FR.mono{r r':dG}(h:dG.le r r'){lo hi rX:Nat}(hh:hi<=rX)(hu:∀b,b<hi->r' b=r b){a:bI}{f:Frame}(e:FR r lo hi a f):FR r' lo rX a f:=
 ⟨e.fn,e.size,e.defers.mono h,e.mode,e.kind,e.round.mono h,e.top.mono h hh hu⟩
structure Bs where
 fs:List Frame
 r0:dG
 n0:Nat
inductive AR(r:dG)(base:Bs):Nat->List bI->List Frame->Prop
 |nil (n:Nat) (h1:dG.le base.r0 r) (h2:∀b,b<base.n0->r b=base.r0 b) (h3:base.n0<=n):AR r base n [] base.fs
 |cons {n lo:Nat} {a:bI} {f:Frame} {as:List bI} {fs:List Frame} (h:FR r lo n a f) (hl:lo<=n) (t:AR r base lo as fs):AR r base n (a::as) (f::fs)
theorem AR.mono{r r':dG}{base:Bs}(h:dG.le r r'){n:Nat}{as:List bI}{fs:List Frame}(hu:∀b,b<n->r' b=r b)(hc:AR r base n as fs):AR r' base n as fs:=by
 induction hc with
 |nil n h1 h2 h3=>exact .nil n (dG.le_trans h1 h) (λb hb=>(hu b ah).trans (h2 b hb)) h3
 |cons e hl t ih=>exact .cons (e.mono h (an _) hu) hl (ih λb hb=>hu b ah)
def Cq(P:Program)(r:lA)(s:BT AV)(h:aG)(x:dz):Prop:=match dO r.ops s x.o with
 |some true=>∃q,dE P h (oZ s) x.o=some q/\(∀d,x.o.dst=some d->ao s d=q.av (r.base+x.i))/\(∀o,q.obj=some o->au h (r.base+x.i)=some o)
 |some false=>∀d,x.o.dst=some d->ao s d= .g undef
 |none=>False
def wj(P:Program)(r:lA)(rem:Nat)(s:BT AV)(h:aG)(l:List dz):Prop:=∀x∈l,kN rem x=true->qy r.last x=false->Cq P r s h x
structure MR(P:Program)(w0:World)(base:Bs)(m:AM)(f:Frame)(cs:List Frame)(w:World):Prop where
 ex:∃r lo,FR r lo m.next m.fr f/\lo<=m.next/\AR r base lo m.callers cs/\HR r m.heap m.next w0 w
 sat:∀g k,m.fr.todo= .jK g::k->g.phase= .sat->m.fr.ret=false->wj P g (iR g.dX) m.fr.cE m.heap g.infos
theorem RE{a:bI}{d:Option Tmp}{v:AV}(h:a.put d v=some a'):
 (d=none/\a'=a)\/∃n,d=some n/\n<a.size/\a'=a.yP (sset a.cE n v):=by
 unfold bI.put at h;split at h;.injection h with h;exact .inl ⟨rfl,h.symm⟩
 .split at h;.rename_i n hn;injection h with h;exact .inr ⟨n,rfl,hn,h.symm⟩
  .cases h
def BG(d:Option Tmp)(t:Array Value)(u:Value):Array Value:=match d with
 |some d=>t.setIfInBounds d u
 |none=>t
def fT(d:Option Tmp)(s:BT AV)(v:AV):BT AV:=match d with
 |some d=>sset s d v
 |none=>s
theorem lJ{a:bI}{d:Option Tmp}{v:AV}(h:a.put d v=some a'):a'=a.yP (fT d a.cE v)/\(∀n,d=some n->n<a.size):=by
 rcases RE h with⟨rfl,rfl⟩|⟨n,rfl,hn,rfl⟩;.exact⟨rfl,λn h=>by cases h⟩
 .exact⟨rfl,λm h=>by cases h;exact hn⟩
theorem jX(d:Option Tmp)(t:Array Value)(u:Value):(BG d t u).size=t.size:=by cases d<;>simp[BG]
theorem TR.put{r:dG}{s:BT AV}{t:Array Value}(e:TR r s t){d:Option Tmp}(hd:∀n,d=some n->n<t.size){v:AV}(hv:VR r v u):TR r (fT d s v) (BG d t u):=by
 cases d with
 |none=>exact e
 |some d=>exact e.set (hd d rfl) hv
theorem Dn(d:Option Tmp)(s:BT AV)(v:AV)(n:Nat):ao (fT d s v) n=if d=some n then v else ao s n:=by
 cases d with
 |none=>rfl
 |some d=>
  simp only[fT,oq,bA];by_cases h:n=d;.subst h;simp
  .have:¬d=n:=λe=>h e.symm;simp[h,this]
theorem D6(d:Option Tmp)(t:Array Value)(u:Value)(hd:∀n,d=some n->n<t.size)(n:Nat):(BG d t u).getD n undef=if d=some n then u else t.getD n undef:=by
 cases d with
 |none=>rfl
 |some d=>
  simp only[BG,bA];by_cases h:d=n;.subst h;simp[hd d rfl]
  .simp[h,eR,rZ h]
theorem nB:∀(l:List Oper) (i:Nat) (acc:List Nat) (x:dz),x∈kE l i acc->i<=x.i/\x.i<i+l.length/\l[x.i-i]?=some x.o/\x.xL=ct x.o.op
 |[],_,_,_,h=>by simp[kE]at h
 |o::l,i,acc,x,h=>by
  simp only[kE,bE]at h;rcases h with rfl|h
  .simp
  .obtain⟨h1,h2,h3,h4⟩:=nB l (i+1) _ x h;refine⟨ah,fE,?_,h4⟩;have:x.i-i=(x.i-(i+1))+1:=ah;rw[this];simpa using h3
theorem HS:∀(l:List Oper) (i:Nat) (acc:List Nat) (x y:dz),x∈kE l i acc->y∈kE l i acc->x.i=y.i->x=y
 |[],_,_,_,_,h,_,_=>by simp[kE]at h
 |o::l,i,acc,x,y,hx,hy,he=>by
  simp only[kE,bE]at hx hy;rcases hx with rfl|hx<;>rcases hy with rfl|hy
  .rfl
  .have:=(nB l (i+1) _ y hy).1;simp at he;omega
  .have:=(nB l (i+1) _ x hx).1;simp at he;omega
  .exact HS l (i+1) _ x y hx hy he
theorem Cj:∀(l:List Oper) (i:Nat) (acc:List Nat) (j:Nat),j<l.length->∃x∈kE l i acc,x.i=i+j
 |[],_,_,j,h=>by simp at h
 |o::l,i,acc,0,_=>⟨_,by simp only[kE];exact gY,rfl⟩
 |o::l,i,acc,j+1,h=>by obtain⟨x,hx,he⟩:=Cj l (i+1) (acc++[o.after.toList.foldl (λs e=>if Region.binds .any e then s|||2^e.on|||(match iW e.on acc with|some x=>x|none=>0)else s) 0]) j (by simp at h;omega);exact⟨x,by simp only[kE];exact bB _ hx,ah⟩
section
variable{r:dG}{s:BT AV}{t:Array Value}{g:lA}{A:List dz}{todo:List Nat}(hg:rU r s t g A todo)
include hg
theorem rU.oper{x:dz}(hx:x∈A):g.ops[x.i]?=some x.o/\x.xL=ct x.o.op/\x.i<g.ops.size:=by rw[hg.yD]at hx;obtain⟨_,h2,h3,h4⟩:=nB _ _ _ _ hx;simp at h2 h3;exact⟨h3,h4,h2⟩
theorem rU.inj{x y:dz}(hx:x∈A)(hy:y∈A)(h:x.i=y.i):x=y:=by rw[hg.yD]at hx hy;exact HS _ _ _ _ _ hx hy h
theorem rU.has(h:i<g.ops.size):∃x∈A,x.i=i:=by obtain⟨x,hx,he⟩:=Cj g.ops.toList 0 [] i (by simpa using h);exact⟨x,by rw[hg.yD];exact hx,ah⟩
end
theorem rU.next{r:dG}{s:BT AV}{t:Array Value}{g:lA}{A:List dz}{e:dz}{rest:List dz}{todo:List Nat}(hg:rU r s t g A (e.i::todo))(he:g.dX=e::rest)
 {v:AV}  (hv:VR r v u) (hd:∀n,e.o.dst=some n->n<t.size):rU r (fT e.o.dst s v) (BG e.o.dst t u) (g.after rest e) A todo:=by
 obtain⟨heA,heE⟩:=hg.tj e (by rw[he];simp);have DE:=jG.1 hg.nodup;have ye:=dS.1 hg.order;have rL:=hg.sorted;rw[he]at rL;have rL:=dS.1 rL;have ad7:∀(rest:List dz) (e:dz),(g.after rest e).ops=g.ops/\(g.after rest e).infos=g.infos/\(g.after rest e).dX=rest/\(g.after rest e).base=g.base/\(g.after rest e).phase= .unsat/\(g.after rest e).last=some e:=λ_ _=>⟨rfl,rfl,rfl,rfl,rfl,rfl⟩;obtain⟨a1,a2,a3,a4,a5,a6⟩:=ad7 rest e;have hq:∀x∈A,x.xL=false->(x.i∈todo↔x.i∈e.i::todo):=by
  intro x hx vI;constructor;.exact λh=>bB _ h
  .intro h;rcases bE.1 h with h|h
   .exact absurd (hg.inj hx heA h) (λe'=>by subst e';rw[heE]at vI;cases vI)
   .exact h
 constructor;.rw[a1];exact hg.yD
 .rw[a1];exact hg.ok
 .intro x hx d uu;rw[jX];exact hg.dlt x hx d uu
 .rw[a2];exact hg.infos
 .intro x hx vI;rw[a3];have:=hg.dX x hx vI;rw[he]at this;constructor
  .intro h;rcases bE.1 (this.1 (bB _ h))with h1|h1
   .subst h1;exact absurd h DE.1
   .exact h1
  .intro h;rcases bE.1 (this.2 (bB _ h))with h1|h1
   .have:=rL.1 x h;omega
   .exact h1
 .intro x hx;rw[a3]at hx;exact hg.tj x (by rw[he];exact bB _ hx)
 .rw[a3];exact rL.2
 .exact DE.2
 .intro i hi;rw[a1];exact hg.lt i (bB _ hi)
 .exact ye.2
 .intro x hx y hy WA hb;by_cases vI:x.i=e.i;.intro Ix;have:=ye.1 y.i Ix x hx vI;rw[this]at hb;cases hb
  .intro Ix;exact hg.closed x hx y hy (by simp[vI,WA]) hb (bB _ Ix)
 .intro x hx vI WA;rw[a4];exact hg.uH x hx vI (bB _ WA)
 .intro n;rw[Dn,D6 _ _ _ hd];by_cases hn:e.o.dst=some n;.right;simp only[hn,cz];exact hv
  .simp only[hn,cC];rcases hg.cE n with⟨x,hx,vI,WA,hxd⟩|h
   .exact .inl ⟨x,hx,vI,(hq x hx vI).2 WA,hxd⟩
   .exact .inr h
 .intro _ x hx vI qO;rw[a6]at qO;simp only[rz]at qO;rw[hq x hx vI];refine cS λWA=>?_;exact hg.closed x hx e heA WA qO bL
 .intro _ x hx vI Ej;rw[a6]at Ej;simp only[qy]at Ej;intro WA;have:=ye.1 x.i WA e heA rfl;rw[this]at Ej;cases Ej
 .intro h;rw[a5]at h;cases h
theorem iB(f:Frame){k:List Item}(ht:f.todo= .inRegion ops (i::rest)::k)(ho:ops[i]?=some o)(u:Value):
 f.finish u={f with tmps:=BG o.dst f.tmps u,todo:= .inRegion ops rest::k}:=by
 obtain⟨fn,tmps,td,defers,mode,kind,roundOf⟩:=f;simp only at ht;subst ht;simp only[Frame.finish,ho,aS];cases o.dst<;>rfl
theorem lL{r:dG}{hi:Nat}{a:bI}{f:Frame}(h:FR r lo hi a f){v:AV}(hf:a.finish v=some a')(hv:VR r v u):FR r lo hi a' (f.finish u):=by
 obtain⟨UH,tg,hdefers,fP,nR,od,gy⟩:=h;obtain⟨afn,aslots,asize,atodo,adefers,aret,adef,around⟩:=a;unfold bI.finish at hf;simp only at*;split at hf
 ·
  rename_i o l ops k;split at hf
  .rename_i b nX;injection hf with hf;subst hf
   obtain⟨rfl,hd⟩:=lJ nX;generalize mU:f.todo=ft at gy;cases gy with
   |plain jZ mG=>
   cases jZ with|cons hi ht=>
   cases hi with|ops FD=>
   rename_i is idx;cases idx with
   |nil=>simp at FD
   |cons i rest=>
   simp only[dQ,UL]at FD;rw[iB f mU FD.1 u];exact⟨UH,by rw[jX];exact tg,hdefers,fP,nR,od,.plain (.cons (.ops FD.2) ht) (mG.put (λn hn=>by rw[tg];exact hd n hn) hv)⟩
  .cases hf
 .rename_i g k;split at hf
  .rename_i e rest wP sF;split at hf
   .rename_i b nX;injection hf with hf;subst hf
    obtain⟨rfl,hd⟩:=lJ nX;generalize mU:f.todo=ft at gy;cases gy with
    |plain jZ _=>cases jZ with|cons hi _=>cases hi
    |jK hk hg h1 h2=>
    rename_i A todo k';obtain⟨e',wR,zM,tM,vC⟩:=hg.wait wP;rw[sF]at tM;injection tM with h3 h4;subst h3;subst h4;subst vC
    obtain⟨heA,_⟩:=hg.tj e (by rw[sF];simp);rw[iB f mU (hg.oper heA).1 u];exact⟨UH,by rw[jX];exact tg,hdefers,fP,nR,od,.jK (g:=g.after rest e) hk (hg.next sF hv (λn hn=>by rw[tg];exact hd n hn)) h1 h2⟩
   .cases hf
  .cases hf
 .rename_i l k;injection hf with hf;subst hf
  generalize mU:f.todo=ft at gy;cases gy with
  |plain jZ mG=>
  cases jZ with|cons hi ht=>
  cases hi with|jQ hl=>
  obtain⟨fn,tmps,td,defers,mode,kind,roundOf⟩:=f;simp only at mU;subst mU;exact⟨UH,tg,hdefers,fP,nR,od,.plain (.cons (.jW hl) ht) mG⟩
 .cases hf
variable{base:Bs}{m m':AM}{wait:bI}
theorem pY:∀(l:List AV) (i:Nat) (t:BT AV) (n:Nat),ao (ey l i t) n=if i<=n then(match l[n-i]? with|some v=>v|none=>ao t n)else ao t n
 |[],i,t,n=>by simp[ey]
 |v::l,i,t,n=>by
  rw[ey,pY l (i+1) _ n,oq];by_cases h1:i+1<=n;.have h2:i<=n:=ah;have h3:n-i=(n-(i+1))+1:=ah;have h4:¬n=i:=ah;simp[h1,h2,h3,h4]
  .by_cases h2:n=i;.subst h2;simp;intro h;omega
   .have h3:¬i<=n:=ah;simp[h1,h2,h3]
theorem uG{g:FuncId}{d:Bool}{a:bI}(ha:eM r args as)(he:bI.enter P g args d=some a)(n:Nat):
 FR r n n a (Frame.enter P g as.toArray (if d then .deferred else .normal))/\a.ret=false/\(∃c,a.todo=[.code c])/\a.roundOf=none:=by
 unfold bI.enter at he;split at he
 .rename_i fn hf;split at he
  .rename_i c hb;split at he
   .rename_i bP;injection he with he;subst he
    have hl:=ha.length;refine⟨⟨rfl,?_,.nil,rfl,rfl,trivial,?_⟩,rfl,⟨c,rfl⟩,rfl⟩;.simp[Frame.enter,hf];omega
    .have ht:(Frame.enter P g as.toArray (if d then CallKind.deferred else CallKind.normal)).todo=[.code c]:=by simp[Frame.enter,hf,hb]
     rw[ht];refine .plain (.cons (.code c) .nil) λi=>?_;rw[pY];simp only[aY,cz,oI,Cg];have htm:(Frame.enter P g as.toArray (if d then CallKind.deferred else CallKind.normal)).tmps=as.toArray++Array.replicate (fn.ntmps-as.length) undef:=by simp[Frame.enter,hf]
     rw[htm];cases hi:args[i]? with
     |some v=>
      obtain⟨u,hu,NR⟩:=ha.get hi;have db:=(cT.1 hu).1;have:(as.toArray++Array.replicate (fn.ntmps-as.length) undef).getD i undef=u:=by rw[eR,Array.getElem?_append_left (by simpa using db)];simp[hu]
      rw[this];exact NR
     |none=>
      have Cb:=List.getElem?_eq_none_iff.1 hi;have:(as.toArray++Array.replicate (fn.ntmps-as.length) undef).getD i undef=undef:=by rw[eR,Array.getElem?_append_right fE];simp only[Array.getElem?_replicate];split<;>rfl
      rw[this];exact .g _
   .cases he
  .cases he
 .cases he
theorem tf{r:dG}:∀(ps:List Tmp) (vs:List AV) (as:List Value) (t t':BT AV) (arr:Array Value),ju ps vs arr.size t=some t'->eM r vs as->TR r t arr->
 TR r t' ((ps.zip as).foldl (λtmps (x:Tmp×Value)=>tmps.setIfInBounds x.1 x.2) arr)/\((ps.zip as).foldl (λtmps (x:Tmp×Value)=>tmps.setIfInBounds x.1 x.2) arr).size=arr.size
 |[],vs,as,t,t',arr,h,hv,ht=>by
  cases vs with
  |nil=>simp only[ju,bA]at h;subst h;exact⟨ht,rfl⟩
  |cons v vs=>simp[ju]at h
 |p::ps,vs,as,t,t',arr,h,hv,ht=>by
  cases hv with
  |nil=>simp[ju]at h
  |cons hv ti=>
  simp only[ju]at h;split at h;.rename_i hp;simp only[List.zip_cons_cons,BB];have:=tf ps _ _ _ t' (arr.setIfInBounds p _) (by simpa using h) ti (ht.set hp hv);exact⟨this.1,by rw[this.2];simp⟩
  .cases h
theorem mJ{a:bI}{v:AV}(h:a.finish v=some a'):a'.ret=a.ret/\∀g k,a'.todo= .jK g::k->g.phase= .unsat:=by
 unfold bI.finish at h;split at h
 .split at h
  .rename_i b nX;injection h with h;subst h
   obtain⟨rfl,_⟩:=lJ nX;exact⟨rfl,λg k e=>by simp[bI.jV]at e⟩
  .cases h
 .split at h
  .split at h
   .rename_i b nX;injection h with h;subst h
    obtain⟨rfl,_⟩:=lJ nX;refine⟨rfl,λg k e=>?_⟩;simp only[bI.jV,UL,dc.jK.injEq]at e;rw[<-e.1];rfl
   .cases h
  .cases h
 .injection h with h;subst h
  exact⟨rfl,λg k e=>by simp[bI.jV]at e⟩
 .cases h
theorem FR.aag{hi:Nat}{a:bI}{f:Frame}(h:FR r lo hi a f):∀d x v k,f.todo≠ .call d true x v::k:=by
 intro d x v k e;have:=h.top;rw[e]at this;generalize a.todo=q at this;cases this with
 |plain jZ _=>cases jZ with|cons hi _=>cases hi
theorem MR.mk'{f:Frame}{cs:List Frame}(h1:FR r lo m.next m.fr f)(h2:lo<=m.next)(h3:AR r base lo m.callers cs)(h4:HR r m.heap m.next w0 w)
 (h5:∀g k,m.fr.todo= .jK g::k->g.phase= .sat->m.fr.ret=false->wj P g (iR g.dX) m.fr.cE m.heap g.infos):MR P w0 base m f cs w:=⟨⟨r,lo,h1,h2,h3,h4⟩,h5⟩
theorem sX{f0 f:Frame}{cs:List Frame}{wa wb:World}{s:Sem Next}{hi:Nat}
 (hF:FR r lo hi wait f) (je:lo<=hi) (C4:hi<=m.next) (hC:AR r base lo m.callers cs) (hH:HR r m.heap m.next w0 wb)
 (hg:qW P f0 wa f cs s wb) (he:ID P r m.heap m.next w0 wb s er) (hu:upon P m wait er=some m'):
 ∃f' rJ w',step P (lone f0 cs wa)= .next (lone f' rJ w')/\MR P w0 base m' f' rJ w':=by
 obtain⟨yr,Kj,mh,kO⟩:=m;simp only at C4 hC hH he;cases er with
 |val v h'=>
  obtain⟨n,u,w',ec,hn,hv,Nt⟩:=he;simp only[upon]at hu;split at hu
  .rename_i fr nJ;injection hu with hu;subst hu
   obtain⟨ht1,IQ⟩:=mJ nJ;exact⟨_,cs,w',uU hg ec hn,MR.mk' (r:=r) (lo:=lo) ((lL hF nJ hv).mono (dG.le_refl _) C4 λ_ _=>rfl) (by show lo<=kO;omega) hC Nt λg k e hs=>by rw[IQ g k e]at hs;cases hs⟩
  .cases hu
 |pT o len h'=>
  obtain⟨k,N,w',ec,bP,Sf,Nt⟩:=he;simp only[upon]at hu;split at hu
  .rename_i fr nJ;injection hu with hu;subst hu
   obtain⟨ht1,IQ⟩:=mJ nJ;have hle:=dG.uM (x:=(k,N)) Sf;have qD:∀b,b<hi->r.upd kO (k,N) b=r b:=λb hb=>dG.jI _ _ ah;have LG:=hF.mono hle (an hi) qD;have hv:VR (r.upd kO (k,N)) (.mD kO 0 0 len) (.slice (some ⟨k,0,none⟩) len N):=VR.mD (j:=0) (dG.gD _ _ _) ah;exact⟨_,cs,w',uU hg ec (.inl rfl),MR.mk' (r:=r.upd kO (k,N)) (lo:=lo) ((lL LG nJ hv).mono (dG.le_refl _) (by show hi<=kO+1;omega) λ_ _=>rfl) (by show lo<=kO+1;omega)
    (hC.mono hle λb hb=>qD b ah) Nt λg k e hs=>by rw[IQ g k e]at hs;cases hs⟩
  .cases hu
 |enter g args=>
  obtain⟨as,ec,hv⟩:=he;simp only[upon]at hu;split at hu
  .rename_i fr LX;injection hu with hu;subst hu
   obtain⟨e1,e2,⟨c,e3⟩,e4⟩:=uG hv LX kO;exact⟨_,f::cs,wb,XS hg ec hF.aag,MR.mk' (r:=r) (lo:=kO) e1 (an _) (.cons (hF.mono (dG.le_refl _) C4 λ_ _=>rfl) ah hC) hH λg k e=>by have:fr.todo= .jK g::k:=e;rw[e3]at this;cases this⟩
  .cases hu
 |defer d=>
  obtain⟨d',ec,hd⟩:=he;simp only[upon]at hu;split at hu
  .rename_i Aj;split at hu
   .rename_i fr nJ;injection hu with hu;subst hu
    obtain⟨ht1,IQ⟩:=mJ nJ;have LG:FR r lo hi (wait.uW (d::wait.defers)) {f with defers:=d'::f.defers}:=⟨hF.fn,hF.size,.cons hd hF.defers,hF.mode,hF.kind,hF.round,hF.top⟩;exact⟨_,cs,wb,aaw hg ec,MR.mk' (r:=r) (lo:=lo) ((lL LG nJ (.g _)).mono (dG.le_refl _) C4 λ_ _=>rfl) (by show lo<=kO;omega) hC hH λg k e hs=>by rw[IQ g k e]at hs;cases hs⟩
   .cases hu
  .cases hu
 |round l args=>
  obtain⟨k,n,as,jn,al,hl,OY,hk,Eo,hv,bP,ec⟩:=he;simp only[upon,OY]at hu;split at hu
  .rename_i cE Ub;injection hu with hu;subst hu
   obtain⟨l1,l2,l3,l4,l5,l6,l7,l8,l9⟩:=Eo;have hpp:=tf al.params args as al.cE cE jn.tmps (by rw[l5];exact Ub) hv l4;have Ld:(jn.params.zip as.toArray).foldl (λtmps (x:Tmp×Value)=>tmps.setIfInBounds x.1 x.2) jn.tmps=(al.params.zip as).foldl (λtmps (x:Tmp×Value)=>tmps.setIfInBounds x.1 x.2) jn.tmps:=by rw[<-Array.foldl_toList,Array.toList_zip,l6]
   refine⟨_,f::cs,wb,Zg hg ec,MR.mk' (r:=r) (lo:=kO) ⟨l3,?_,.nil,rfl,rfl,⟨n,hl⟩,?_⟩ (an _) (.cons (hF.mono (dG.le_refl _) C4 λ_ _=>rfl) ah hC) hH λg k e=>by have:[dc.code al.assign,.beginRound,.code al.body]= .jK g::k:=e;cases this⟩;.show((jn.params.zip as.toArray).foldl (λtmps (x:Tmp×Value)=>tmps.setIfInBounds x.1 x.2) jn.tmps).size=al.size;rw[Ld,hpp.2,l5]
   .show yQ r cE ((jn.params.zip as.toArray).foldl (λtmps (x:Tmp×Value)=>tmps.setIfInBounds x.1 x.2) jn.tmps) _ _ [.code al.assign,.beginRound,.code al.body] [.code jn.assign,.beginRound,.code jn.body];rw[Ld,l7,l8];exact .plain (.cons (.code _) (.cons .beginRound (.cons (.code _) .nil))) hpp.1
  .cases hu
variable{s:BT AV}{todo:List dc}
theorem u0{f:Frame}(h:TR r s f.tmps)(x:Operand):VR r (oZ s x) (f.eval x):=by
 cases x with
 |tmp t=>exact h t
 |const v=>exact .g v
 |global g=>exact .g _
 |func g=>exact .fn .nil
theorem vS{r:dG}(id:Nat):∀{a:List dc} {c:List Item},FY r a c->(∀a',nL id a=some a'->∃c',exitTo id c=some c'/\FY r a' c')/\(nL id a=none->exitTo id c=none)
 |_,_,.nil=>⟨λ_ h=>(by simp[nL]at h),λ_=>rfl⟩
 |_,_,.cons (a:=a) (as:=as) h t=>by
  have ih:=vS id t;cases h with
  |inBlock zQ=>
   simp only[nL,exitTo];by_cases Gw:(zQ==id)=true;.simp only[Gw,cz];exact⟨λa' e=>by cases e;exact⟨_,rfl,t⟩,λe=>by cases e⟩
   .simp only[Gw];exact ih
  |code c=>simpa[nL,exitTo]using ih
  |inLoop b=>simpa[nL,exitTo]using ih
  |ops e=>simpa[nL,exitTo]using ih
  |jQ e=>simpa[nL,exitTo]using ih
  |jW e=>simpa[nL,exitTo]using ih
  |beginRound=>simpa[nL,exitTo]using ih
theorem xx{t:Array Value}{b:Bool}(h:dO ops s o=some b)
 (hs:∀j w o' d,o.guard=some (j,w)->ops[j]?=some o'->o'.dst=some d->VR r (ao s d) (t.getD d undef)):Region.wanted o (yielded ops t)=b:=by
 unfold dO at h;unfold Region.wanted;split at h;.rename_i hg;injection h with h;rw[hg];exact h
 .rename_i j want hg;rw[hg];split at h
  .rename_i o' ho;split at h
   .rename_i d hd;have hv:=hs j want o' d hg ho hd;have au:t.getD d undef=(t[d]?).getD undef:=eR ..;split at h
    .rename_i q hq;rw[hq]at hv;injection h with h;subst h
     rw[au]at hv;simp only[yielded,ho,aS,hd];cases ht:t[d]? with
     |none=>rw[ht]at hv;cases hv
     |some u=>rw[ht]at hv;simp only[eK]at hv;cases hv;cases q<;>cases want<;>rfl
    .rename_i q hq;rw[hq]at hv;injection h with h;subst h
     rw[au]at hv;simp only[yielded,ho,aS,hd];cases ht:t[d]? with
     |none=>rfl
     |some u=>rw[ht]at hv;simp only[eK]at hv;cases hv;rfl
    .cases h
   .cases h
  .cases h
theorem zp{f:Frame}(h:TR r s f.tmps)(o:Oper):∀x∈o.op.operands.toList,VR r (oZ s x) (f.eval x):=λx _=>u0 h x
theorem AT{xt:FuncId->Option Ext}(he:nE P xt h ae o=some er){c:Call}(hc:o.op= .defer c):∃d,er= .defer d:=by
 unfold nE at he;rw[hc]at he;replace he:pW ae c=some er:=he;unfold pW at he;split at he
 .unfold ES at he;split at he;.injection he with he;exact⟨_,he.symm⟩
  .cases he
 .cases he
theorem sf{d:AD}{l:Nat}(h:wait.roundOf=some l):upon P m wait (.defer d)=none:=by simp[upon,h]
theorem sI(hr:HR r h nx w0 w){o:AO}{obj:Obj}(PR:OR r o 0 (some obj)):
 HR (r.upd nx (w.heap.size,0)) (aK h nx o) (nx+1) w0 {w with heap:=w.heap.push obj}:=
 hr.alloc (hr.fresh (an _)) (aW _) (bz _) (by simp[aj]) (λb x e=>by rw[aj,ak];have:=(hr.xP b x e).1;omega) PR
theorem LJ.obj{ev:Operand->Value}{q:QR}(h:LJ P r ev o w q){ob:AO}(hq:q.obj=some ob):
 ∃x u,(execOp ev o).run P w= .ok (.value u) {w with heap:=w.heap.push x}/\OR r ob 0 (some x)/\∀(r':dG) (id:Nat),r' id=some (w.heap.size,0)->VR r' (q.av id) u:=by
 cases q with
 |val v=>cases hq
 |xa o'=>cases hq;obtain⟨x,h1,h2⟩:=h;exact⟨x,_,h1,h2,λr' id e=> .ptr e⟩
 |pS o' len cap=>cases hq;obtain⟨x,h1,h2⟩:=h;exact⟨x,_,h1,h2,λr' id e=> .sl e⟩
 |yC o'=>cases hq;obtain⟨x,h1,h2⟩:=h;exact⟨x,_,h1,h2,λr' id e=> .mp e⟩
def qs(P:Program)(w0:World)(base:Bs)(f:Frame)(cs:List Frame)(w:World)(m':AM):Prop:=
 ∃f' rJ w',Steps P (lone f cs w) (lone f' rJ w')/\MR P w0 base m' f' rJ w'
theorem kZ{f:Frame}{cs:List Frame}(hF:FR r lo m.next m.fr f)(je:lo<=m.next)(hC:AR r base lo m.callers cs)(hH:HR r m.heap m.next w0 w)
 (fU:m.fr.ret=false)  {abf:List Item} (ht:to m todo=some m') (jZ:FY r todo abf) (mG:TR r m.fr.cE f.tmps) (jf:step P (lone f cs w)= .next (lone {f with todo:=abf} cs w)):qs P w0 base f cs w m':=by
 unfold to at ht;cases ht;obtain⟨yr,Kj,mh,kO⟩:=m;refine⟨_,cs,w,.one jf,MR.mk' (r:=r) (lo:=lo) ⟨hF.fn,hF.size,hF.defers,hF.mode,hF.kind,hF.round,.plain jZ mG⟩ je hC hH λg k e=>?_⟩;have e:todo= .jK g::k:=e;rw[e]at jZ;cases jZ with|cons hi _=>cases hi
theorem Nm{xt:FuncId->Option Ext}(pk:PK P xt){f:Frame}{cs:List Frame}(hF:FR r lo m.next m.fr f)(je:lo<=m.next)
 (hC:AR r base lo m.callers cs) (hH:HR r m.heap m.next w0 w) (fU:m.fr.ret=false) {l:List Oper}  {k:List dc} (jx:m.fr.todo= .ops l ops::k) (hs:EL P xt m l ops k=some m'):qs P w0 base f cs w m':=by
 have fP:f.mode= .run:=by rw[hF.mode,fU];rfl
 have gy:=hF.top;rw[jx]at gy;generalize mU:f.todo=ft at gy;cases gy with
 |plain jZ mG=>
 cases jZ with|cons hi jZ=>
 cases hi with|ops FD=>
 rename_i is idx;unfold EL at hs;split at hs
 ·
  have:idx=[]:=by simpa using FD
  subst this;exact kZ hF je hC hH fU hs jZ mG (Ep fP mU (.inr (.inr (.inr (.inr (.inr (.inr (.inr ⟨ops,rfl,rfl⟩))))))))
 .rename_i o l;cases idx with
  |nil=>simp at FD
  |cons i rest=>
  simp only[dQ,UL]at FD;obtain⟨hio,hrest⟩:=FD;unfold UQ at hs;split at hs
  .rename_i b hw;have gJ:Region.wanted o (yielded ops f.tmps)=b:=xx hw λ_ _ _ d _ _ _=>mG d
   cases b with
   |false=>
    simp only[dk,cC]at hs;unfold yo at hs;split at hs
    .rename_i fr nX;injection hs with hs;subst hs
     obtain⟨rfl,hd⟩:=lJ nX;have jf:=J8 (P:=P) (cs:=cs) (w:=w) fP mU (by simp[hio,gJ]);rw[iB f mU hio]at jf;obtain⟨yr,Kj,mh,kO⟩:=m;refine⟨_,cs,w,.one jf,MR.mk' (r:=r) (lo:=lo) ⟨hF.fn,by rw[jX];exact hF.size,hF.defers,hF.mode,hF.kind,hF.round,.plain (.cons (.ops hrest) jZ) (mG.put (λn hn=>by rw[hF.size];exact hd n hn) (.g _))⟩ je hC hH λg k' e=>?_⟩;have e:dc.ops l ops::k= .jK g::k':=e;cases e
    .cases hs
   |true=>
    simp only[cz]at hs;split at hs
    ·
     unfold se at hs;split at hs
     .rename_i er Of;have hd:f.roundOf=none\/∀c,o.op≠ .defer c:=by
       cases Aj:f.roundOf with
       |none=>exact .inl rfl
       |some l'=>
        right;intro c hc;obtain⟨d,rfl⟩:=AT Of hc;have sL:=hF.round;rw[Aj]at sL;cases har:m.fr.roundOf with
        |none=>rw[har]at sL;exact sL
        |some l2=>rw[sf har]at hs;cases hs
      have hg:=EC (P:=P) (cs:=cs) (w:=w) fP mU hio gJ hd;have rQ:=BO pk hH (zp mG o) Of;obtain⟨f',rJ,w',h1,h2⟩:=sX hF je (an _) hC hH (.of_eq hg) rQ hs;exact⟨f',rJ,w',.one h1,h2⟩
     .cases hs
    ·
     rename_i sF;have DE:f.roundOf=none\/∀c,o.op≠ .defer c:= .inr λc hc=>by rw[hc]at sF;simp[ct]at sF
     have hg:=EC (P:=P) (cs:=cs) (w:=w) fP mU hio gJ DE;unfold xj at hs;split at hs
     .rename_i q hq;have rQ:=xH P hH (zp mG o) hq;split at hs
      .rename_i OY;cases q with
       |xa _=>cases OY
       |pS _ _ _=>cases OY
       |yC _=>cases OY
       |val v=>
       split at hs
       .rename_i fr nX;injection hs with hs;subst hs
        obtain⟨rfl,hd⟩:=lJ nX;obtain⟨u,ec,hv⟩:=rQ;have jf:=uU (.of_eq hg) ec (.inl rfl);rw[iB f mU hio]at jf;obtain⟨yr,Kj,mh,kO⟩:=m;refine⟨_,cs,w,.one jf,MR.mk' (r:=r) (lo:=lo) ⟨hF.fn,by rw[jX];exact hF.size,hF.defers,hF.mode,hF.kind,hF.round,.plain (.cons (.ops hrest) jZ) (mG.put (λn hn=>by rw[hF.size];exact hd n hn) hv)⟩ je hC hH λg k' e=>?_⟩;have e:dc.ops l ops::k= .jK g::k':=e;cases e
       .cases hs
      .rename_i ob OY;split at hs
       .rename_i fr nX;injection hs with hs;subst hs
        obtain⟨rfl,hd⟩:=lJ nX;obtain⟨x,u,ec,PR,hv⟩:=rQ.obj OY;have jf:=uU (.of_eq hg) ec (.inl rfl);rw[iB f mU hio]at jf;obtain⟨yr,Kj,mh,kO⟩:=m;have Sf:r kO=none:=hH.fresh (an _);have hle:=dG.uM (x:=(w.heap.size,0)) Sf;have qD:∀b,b<kO->r.upd kO (w.heap.size,0) b=r b:=λb hb=>dG.jI _ _ ah;have LG:=hF.mono hle (bz kO) qD;refine⟨_,cs,_,.one jf,MR.mk' (r:=r.upd kO (w.heap.size,0)) (lo:=lo) ⟨LG.fn,by rw[jX];exact LG.size,LG.defers,LG.mode,LG.kind,LG.round,.plain (.cons (.ops hrest) (jZ.mono hle)) ((mG.mono hle).put (λn hn=>by rw[hF.size];exact hd n hn) (hv _ _ (dG.gD _ _ _)))⟩
         (by show lo<=kO+1;simp only at je;omega) (hC.mono hle λb hb=>qD b (by simp only at je;omega)) (sI hH PR) λg k' e=>?_⟩
        have e:dc.ops l ops::k= .jK g::k':=e;cases e
       .cases hs
     .cases hs
  .cases hs
theorem Md:∀(n:Nat) (l:List Nat),(∀j,j<n->j∈l)->n<=l.length
 |0,_,_=>aY _
 |n+1,l,h=>by have hn:=h n (aW _);have:=Md n (l.erase n) λj hj=>(DJ ah).2 (h j ah);rw[xS hn]at this;have hl:=mB hn;omega
theorem least(p:Nat->Prop):∀(n:Nat),(∃j,j<n/\p j)->∃j,j<n/\p j/\∀i,i<j->¬p i
 |0,h=>by obtain⟨j,hj,_⟩:=h;omega
 |n+1,h=>by
  by_cases hn:∃j,j<n/\p j;.obtain⟨j,h1,h2,h3⟩:=least p n hn;exact⟨j,ah,h2,h3⟩
  .obtain⟨j,hj,hp⟩:=h;refine⟨j,hj,hp,λi hi hpi=>hn ⟨i,ah,hpi⟩⟩
theorem D9(acc:List Nat)(j:Nat):∀(es:List Edge) (s:Nat),
 (es.foldl (λs e=>if Region.binds .any e then s|||2^e.on|||(match iW e.on acc with|some x=>x|none=>0)else s) s).testBit j=true->
 s.testBit j=true\/∃e∈es,Region.binds .any e=true/\(e.on=j\/∃a,acc[e.on]?=some a/\a.testBit j=true)
 |[],s,h=> .inl h
 |e::es,s,h=>by
  simp only[BB]at h;rcases D9 acc j es _ h with h1|⟨e',tM,h2⟩
  .split at h1
   .rename_i hb;rw[Nat.testBit_or,Nat.testBit_or]at h1;simp only[tJ]at h1;rcases h1 with(h1|h1)|h1
    .exact .inl h1
    .right;refine⟨e,bL,hb,.inl ?_⟩;rw[Nat.testBit_two_pow]at h1;simpa using h1
    .right;refine⟨e,bL,hb,.inr ?_⟩;rw[vi]at h1;cases ha:acc[e.on]? with
     |none=>rw[ha]at h1;simp at h1
     |some a=>rw[ha]at h1;exact⟨a,rfl,h1⟩
   .exact .inl h1
  .exact .inr ⟨e',by simp[tM],h2⟩
theorem GX:∀(l:List Oper) (i:Nat) (acc:List Nat),acc.length=i->∀x∈kE l i acc,∀j,x.yD.testBit j=true->
 ∃e∈x.o.after.toList,Region.binds .any e=true/\(e.on=j\/(∃a,acc[e.on]?=some a/\a.testBit j=true)\/∃y∈kE l i acc,y.i=e.on/\y.yD.testBit j=true)
 |[],_,_,_,x,h,_,_=>by simp[kE]at h
 |o::l,i,acc,bP,x,h,j,hj=>by
  simp only[kE,bE]at h;rcases h with rfl|h
  .simp only at hj;rcases D9 acc j _ 0 hj with h1|⟨e,he,hb,h2⟩
   .simp at h1
   .exact⟨e,he,hb,h2.imp id .inl⟩
  .obtain⟨e,he,hb,h2⟩:=GX l (i+1) _ (by simp[bP]) x h j hj;refine⟨e,he,hb,?_⟩;rcases h2 with h2|⟨a,ha,h2⟩|⟨y,hy,h2⟩;.exact .inl h2
   .by_cases db:e.on<acc.length;.rw[cj db]at ha;exact .inr (.inl ⟨a,ha,h2⟩)
    .rw[dh ah]at ha;have h0:e.on-acc.length=0:=by
      cases hq:e.on-acc.length with
      |zero=>rfl
      |succ q=>rw[hq]at ha;simp at ha
     rw[h0]at ha;simp only[List.getElem?_cons_zero,bA]at ha;refine .inr (.inr ⟨⟨i,o,_,ct o.op⟩,by simp only[kE];exact gY,by show i=e.on;omega,?_⟩);rw[<-ha]at h2;exact h2
   .exact .inr (.inr ⟨y,by simp only[kE];exact bB _ hy,h2⟩)
theorem zr:∀(l:List Oper) (i:Nat) (acc:List Nat),(kE l i acc).Pairwise (λx y=>x.i<y.i)
 |[],_,_=>by simp only[kE];exact List.Pairwise.nil
 |o::l,i,acc=>by simp only[kE];refine dS.2 ⟨λy hy=>?_,zr l _ _⟩;have:=(nB l _ _ y hy).1;show i<y.i;omega
theorem HT{A:List dz}(h:te ops A=true){x:dz}(hx:x∈A){e:Edge}(he:e∈x.o.after.toList)(hb:Region.binds .any e=true):e.on<x.i:=by simp only[te,aV,eY]at h;have:=h.1.1 x hx e he;simpa[hb]using this
theorem wU{ops:Array Oper}{A:List dz}(hA:A=kE ops.toList 0 [])(rQ:te ops A=true):
 ∀(fuel t:Nat) (listed:Array Bool) (acc:List Nat),listed.size=ops.size->(∀j,listed.getD j false=true↔j∈acc)->acc.Nodup->(∀j∈acc,j<ops.size)->acc.length+fuel=ops.size->
 (∀x∈A,x.i∈acc->∀j,x.yD.testBit j=true->j∈acc)->acc.Pairwise (λj i=>∀x∈A,x.i=i->x.yD.testBit j=false)->
 let σ:=Region.linearise.go .any ops fuel t listed acc
 σ.Nodup/\(∀j,j∈σ↔j<ops.size)/\σ.Pairwise (λi j=>∀x∈A,x.i=i->x.yD.testBit j=false)
 |0,t,listed,acc,tz,hl,DE,db,bP,hclo,ye=>by
  simp only[Region.linearise.go];refine⟨List.pairwise_reverse.2 (DE.imp λh=>Ne.symm h),λj=>?_,by rw[List.pairwise_reverse];exact ye⟩;rw[List.mem_reverse];refine⟨db j,λhj=>?_⟩;refine cS λhn=>?_;have h1:(j::acc).Nodup:=jG.2 ⟨hn,DE⟩;have h2:=h1.length_le_of_subset (l₂:=List.range ops.size) λx hx=>by
   rcases bE.1 hx with rfl|hx;.exact eX.2 hj
   .exact eX.2 (db x hx)
  simp only[bD,List.length_range]at h2;omega
 |fuel+1,t,listed,acc,tz,hl,DE,db,bP,hclo,ye=>by
  have hun:∃j,j<ops.size/\¬j∈acc:=by refine cS λhn=>?_;have:=Md ops.size acc λj hj=>cS λh=>hn ⟨j,hj,h⟩;omega
  obtain⟨j,hj,L3,yO⟩:=least (λj=>¬j∈acc) _ hun;have iI:∀i,i<ops.size->∃x∈A,x.i=i/\ops[i]?=some x.o:=by intro i hi;obtain⟨x,hx,he⟩:=Cj ops.toList 0 [] i (by simpa using hi);have h3:=(nB _ _ _ _ hx).2.2.1;refine⟨x,by rw[hA];exact hx,ah,?_⟩;have:i=x.i-0:=ah;rw[this];simpa using h3
  have afF:∀i,i<ops.size->(listed.getD i true=false↔¬i∈acc):=by intro i hi;rw[<-hl i];simp[eR,tz,hi]
  have JU:j∈Region.ready .any ops listed:=by rw[mem_ready];obtain⟨x,hx,he,ho⟩:=iI j hj;refine⟨(afF j hj).2 L3,x.o,ho,λe Ve hb=>?_⟩;have vT:=HT rQ hx (by simpa using Ve) hb;rw[hl];exact cS λh=>yO e.on ah h
  have Re:∀(rs:List Nat),j∈rs->∃i,rs[t%rs.length]?=some i/\i∈rs:=by intro rs hj;have Xn:=mB hj;have hm:=Nat.mod_lt t Xn;exact⟨rs[t%rs.length],aF hm,bS hm⟩
  obtain⟨i,hi,jZ⟩:=Re _ JU;have Pw:Region.linearise.go .any ops (fuel+1) t listed acc=Region.linearise.go .any ops fuel (t / (Region.ready .any ops listed).length) (listed.setIfInBounds i true) (i::acc):=by
   simp only[Region.linearise.go]
   change(match(Region.ready .any ops listed)[t%(Region.ready .any ops listed).length]? with
    |some i=>Region.linearise.go .any ops fuel (t / (Region.ready .any ops listed).length) (listed.setIfInBounds i true) (i::acc)
    |none=>acc.reverse)=_
   rw[hi]
  rw[Pw];obtain⟨Eh,o,hio,hdeps⟩:=mem_ready.1 jZ;have vZ:i<ops.size:=(Array.getElem?_eq_some_iff.1 hio).1;have lB:¬i∈acc:=(afF i vZ).1 Eh;have agG:∀x∈A,x.i=i->∀q,x.yD.testBit q=true->q∈acc:=by
   intro x hx hxi q hq;have hxA:=hx;rw[hA]at hxA;obtain⟨e,he,hb,h2⟩:=GX ops.toList 0 [] rfl x hxA q hq;have Uz:ops[x.i]?=some x.o:=by have h3:=(nB _ _ _ _ hxA).2.2.1;simpa using h3
   rw[hxi,hio]at Uz;injection Uz with Uz
   have hon:e.on∈acc:=(hl e.on).1 (hdeps e (by rw[Uz];simpa using he) hb);rcases h2 with h2|⟨a,ha,_⟩|⟨y,hy,Fc,hyq⟩
   .rw[<-h2];exact hon
   .simp at ha
   .exact hclo y (by rw[hA];exact hy) (by rw[Fc];exact hon) q hyq
  refine wU hA rQ fuel _ _ (i::acc) (by simp[tz]) (λq=>?_) (jG.2 ⟨lB,DE⟩) (λq hq=>?_) (by simp only[bD];omega) (λx hx hxa q hq=>?_) (dS.2 ⟨λq hq x hx Vh=>?_,ye⟩)
  .by_cases hqi:q=i;.subst hqi;simp[eR,tz,vZ]
   .rw[getD_set_ne false (Ne.symm hqi),hl q];simp[hqi]
  .rcases bE.1 hq with rfl|hq;.exact vZ
   .exact db q hq
  .rcases bE.1 hxa with hxi|hxa;.exact bB _ (agG x hx hxi q hq)
   .exact bB _ (hclo x hx hxa q hq)
  .cases hb:x.yD.testBit i with
   |false=>rfl
   |true=>exact absurd (hclo x hx (by rw[Vh];exact hq) i hb) lB
theorem Eu(rQ:te ops (kE ops.toList 0 [])=true)(t:Nat):
 (Region.linearise .any ops t).Nodup/\(∀j,j∈Region.linearise .any ops t↔j<ops.size)/\(Region.linearise .any ops t).Pairwise (λi j=>∀x∈kE ops.toList 0 [],x.i=i->x.yD.testBit j=false):=by
 refine wU rfl rQ ops.size t (Array.replicate ops.size false) [] bL (λj=>?_) nY bL bL bL List.Pairwise.nil;simp only[List.not_mem_nil,iff_false];rw[eR];simp only[Array.getElem?_replicate];split<;>simp
variable{rem:Nat}
theorem Dw{n:Nat}:∀{l:List dz},zB n l=true->∀x∈l,∀d,x.o.dst=some d->d<n
 |[],_,x,hx,_,_=>by cases hx
 |y::l,h,x,hx,d,hd=>by
  simp only[zB,aV]at h;rcases bE.1 hx with rfl|hx
  .have:=h.1;rw[hd]at this;simpa using this
  .exact Dw h.2 x hx d hd
theorem yQ.acQ{t:Array Value}{hi:Nat}{g:lA}{k:List dc}{i:Item}{k':List Item}(h:yQ r s t lo hi (.jK g::k) (i::k')):FY r k k':=by
 generalize hq:(dc.jK g::k)=q at h;generalize hq':(i::k')=q' at h;cases h with
 |plain jZ _=>subst hq;subst hq';cases jZ with|cons hi _=>cases hi
 |jK hk _ _ _=>
  injection hq with _ hq;subst hq
  injection hq' with _ hq';subst hq'
  exact hk
theorem Kx(pk:∃xt,PK P xt){f:Frame}{cs:List Frame}(hF:FR r lo m.next m.fr f)(je:lo<=m.next)
 (hC:AR r base lo m.callers cs) (hH:HR r m.heap m.next w0 w) (fU:m.fr.ret=false) {id:Nat}  {k:List dc} (jx:m.fr.todo= .code (.region id ops true)::k)
 (hs:BX m ops k (kE ops.toList 0 [])=some m'):qs P w0 base f cs w m':=by
 obtain⟨xt,pk⟩:=pk;have fP:f.mode= .run:=by rw[hF.mode,fU];rfl
 have gy:=hF.top;rw[jx]at gy;generalize mU:f.todo=ft at gy;cases gy with
 |plain jZ mG=>
 cases jZ with|cons hi jZ=>
 cases hi;unfold BX at hs;split at hs
 .rename_i rQ;simp only[aV]at rQ;obtain⟨rQ,Kq⟩:=rQ;injection hs with hs;subst hs
  obtain⟨t,jf⟩:=adN (P:=P) (cs:=cs) (w:=w) pk.mixed fP mU;obtain⟨h1,h2,h3⟩:=Eu rQ t;obtain⟨yr,Kj,mh,kO⟩:=m;simp only at hF je hC hH mG jZ;refine⟨_,cs,_,.one jf,MR.mk' (r:=r) (lo:=lo) ⟨hF.fn,hF.size,hF.defers,hF.mode,hF.kind,hF.round,
   .jK (g:={phase:= .unsat,infos:=(kE ops.toList 0 []).filter (!·.xL),dX:=(kE ops.toList 0 []).filter (·.xL),last:=none,base:=kO,ops}) jZ (A:=kE ops.toList 0 []) ?_ je (an _)⟩
   (by show lo<=kO+ops.size;omega) hC (hH.drew.next (by show kO<=kO+ops.size;omega)) λg k' e wP=>?_⟩
  .have kD:∀x∈kE ops.toList 0 [],x.i∈Region.linearise .any ops t:=λx hx=>(h2 x.i).2 (by have:=(nB _ _ _ _ hx).2.1;simpa using this);constructor;.rfl
   .exact rQ
   .intro x hx d hd;rw[hF.size];exact Dw Kq x hx d hd
   .rfl
   .intro x hx he;exact⟨λ_=>gP.2 ⟨hx,he⟩,λ_=>kD x hx⟩
   .intro x hx;exact gP.1 hx
   .exact(zr _ _ _).filter _
   .exact h1
   .exact λi hi=>(h2 i).1 hi
   .exact h3
   .exact λx hx _ _ hn=>absurd (kD x hx) hn
   .intro x hx _ _;exact hH.fresh (by show kO<=kO+x.i;omega)
   .exact λn=> .inr (mG n)
   .exact λ_ x hx _ _=>kD x hx
   .intro _ x hx _ hp;simp[qy]at hp
   .intro h;cases h
  .have e:dc.jK _::k= .jK g::k':=e;injection e with e _
   injection e with e
   rw[<-e]at wP;cases wP
 .cases hs
theorem GM{A:List dz}(h:te ops A=true){x:dz}(hx:x∈A)(hq:x.xL=false){d:Tmp}(hd:x.o.dst=some d):
 ¬d∈x.o.looksAt ops/\∀y∈A,y.i≠x.i->(d∈y.o.looksAt ops\/y.o.dst=some d)->y.yD.testBit x.i=true:=by
 simp only[te,aV,eY]at h;have h1:=h.2 x hx;rw[hq,hd]at h1;simp only[pJ,aV,jB,eY]at h1;refine⟨λhc=>?_,λy hy cx hc=>?_⟩;.have:=h1.1;simp[hc]at this
 .have h2:=h1.2 y hy;simp only[tJ,kT,cx,false_or,jB]at h2;rcases h2 with h2|h2
  .exfalso;rcases hc with hc|hc
   .simp[hc]at h2
   .simp[hc]at h2
  .exact h2
theorem Ka{A:List dz}(h:te ops A=true){x y:dz}(hx:x∈A)(hy:y∈A)(vI:x.xL=true)(Fc:y.xL=true)(db:x.i<y.i):y.yD.testBit x.i=true:=by simp only[te,aV,eY]at h;have h1:=h.1.2 x hx;rw[vI]at h1;simp only[fj,pJ,eY]at h1;have h2:=h1 y hy;rw[Fc]at h2;simpa[db]using h2
theorem DT{t:Array Value}{g:lA}{A:List dz}{x:dz}(hg:rU r s t g A (x.i::rest))(hx:x∈A)(n:Tmp)(hn:n∈x.o.looksAt g.ops):VR r (ao s n) (t.getD n undef):=by
 rcases hg.cE n with⟨y,hy,Fc,Ix,hyd⟩|h
 .exfalso;obtain⟨h1,h2⟩:=GM hg.ok hy Fc hyd;by_cases FP:x.i=y.i;.have:=hg.inj hx hy FP;subst this;exact h1 hn
  .have h3:=h2 x hx FP (.inl hn);have h4:=(dS.1 hg.order).1 y.i (by
    rcases bE.1 Ix with h|h;.exact absurd h.symm FP
    .exact h) x hx rfl
   rw[h4]at h3;cases h3
 .exact h
theorem Ea{f:Frame}{g:lA}{A:List dz}{x:dz}(hg:rU r s f.tmps g A (x.i::rest))(hx:x∈A):∀y∈x.o.op.operands.toList,VR r (oZ s y) (f.eval y):=by
 intro y hy;cases y with
 |tmp n=>exact DT hg hx n (ix _ (List.mem_filterMap.2 ⟨.tmp n,hy,rfl⟩))
 |const v=>exact .g v
 |global g=>exact .g _
 |func g=>exact .fn .nil
theorem vU{t:Array Value}{g:lA}{A:List dz}{x:dz}(hg:rU r s t g A (x.i::rest))(hx:x∈A){b:Bool}(h:dO g.ops s x.o=some b):Region.wanted x.o (yielded g.ops t)=b:=
 xx h λj w o' d hgd ho hd=>DT hg hx d (List.mem_append_right _ (by simp[hgd,ho,hd]))
theorem rU.quiet{t:Array Value}{g:lA}{A:List dz}{x:dz}(hg:rU r s t g A (x.i::rest))(hx:x∈A)(vI:x.xL=false)(wP:g.phase= .sat)
 (hle:dG.le r r') (qD:∀b,b≠g.base+x.i->r' b=r b)  (hu:∀d,x.o.dst=some d->VR r' (ao s d) u/\d<t.size):rU r' s (BG x.o.dst t u) g A rest:=by
 have DE:=jG.1 hg.nodup;have ye:=dS.1 hg.order;constructor;.exact hg.yD
 .exact hg.ok
 .intro y hy d hd;rw[jX];exact hg.dlt y hy d hd
 .exact hg.infos
 .intro y hy Fc;rw[<-hg.dX y hy Fc];constructor;.exact λh=>bB _ h
  .intro h;rcases bE.1 h with h|h
   .have:=hg.inj hy hx h;subst this;rw[vI]at Fc;cases Fc
   .exact h
 .exact hg.tj
 .exact hg.sorted
 .exact DE.2
 .exact λi hi=>hg.lt i (bB _ hi)
 .exact ye.2
 .intro y hy z hz Ix hb;by_cases hyx:y.i=x.i;.intro hzt;have:=ye.1 z.i hzt y hy hyx;rw[this]at hb;cases hb
  .intro hzt;exact hg.closed y hy z hz (by simp[hyx,Ix]) hb (bB _ hzt)
 .intro y hy Fc Ix;rw[qD _ (λh=>DE.1 (by have:y.i=x.i:=ah;rw[<-this];exact Ix))];exact hg.uH y hy Fc (bB _ Ix)
 .intro n;rw[D6 _ _ _ (λm hm=>(hu m hm).2)];by_cases hn:x.o.dst=some n;.right;simp only[hn,cz];exact(hu n hn).1
  .simp only[hn,cC];rcases hg.cE n with⟨y,hy,Fc,Ix,hyd⟩|h
   .rcases bE.1 Ix with h|h;.have:=hg.inj hy hx h;subst this;exact absurd hyd hn
    .exact .inl ⟨y,hy,Fc,h,hyd⟩
   .exact .inr (h.mono hle)
 .intro h;rw[wP]at h;cases h
 .intro h y hy Fc hp Ix;exact hg.Ux h y hy Fc hp (bB _ Ix)
 .intro h;rw[wP]at h;cases h
theorem xG{P:Program}{g:lA}{rem:Nat}{s:BT AV}{h:aG}:∀{l:List dz},tT P g rem s h l=true->∀x∈l,kN rem x=true->qy g.last x=false->BU P g s h x=true
 |[],_,x,hx,_,_=>by cases hx
 |y::l,hc,x,hx,h1,h2=>by
  simp only[tT,aV,tJ,jB]at hc;rcases bE.1 hx with rfl|hx
  .rcases hc.1 with(hc|hc)|hc;.rw[h1]at hc;cases hc
   .rw[h2]at hc;cases hc
   .exact hc
  .exact xG hc.2 x hx h1 h2
theorem D0(a:Nat):∀(l:List dz),(∀x∈l,a.testBit x.i=false)->a&&&iR l=0
 |[],_=>by simp[iR]
 |x::l,h=>by
  simp only[iR];apply Nat.eq_of_testBit_eq;intro j;have ih:=D0 a l λy hy=>h y (by simp[hy]);have ih':(a&&&iR l).testBit j=false:=by rw[ih];simp
  rw[Nat.testBit_and]at ih'⊢;rw[Nat.testBit_or,Nat.testBit_two_pow];by_cases hj:x.i=j;.have:=h x bL;rw[hj]at this;simp[this]
  .simp[hj,ih']
theorem Ew{g:lA}{l:List dz}(hc:tT P g rem s h l=true):wj P g rem s h l:=by
 intro x hx h1 h2;have vt:=xG hc x hx h1 h2;unfold BU at vt;unfold Cq;split at vt
 .rename_i hw;rw[hw];split at vt
  .rename_i q hq;simp only[aV]at vt;refine⟨q,hq,λd hd=>?_,λo ho=>?_⟩;.have:=vt.1;rw[hd]at this;exact sK _ _ this
   .have Jk:=vt.2;rw[ho]at Jk;simp only at Jk;split at Jk;.rename_i o' Z5;have:=KC _ _ Jk;subst this;exact Z5
    .cases Jk
  .cases vt
 .rename_i hw;rw[hw];intro d hd;rw[hd]at vt;exact sK _ _ vt
 .cases vt
theorem AA{P:Program}{w0:World}{base:Bs}{lo nx:Nat}{g:lA}{A:List dz}{k:List dc}{k':List Item}{h:aG}{a:bI}{acs:List bI}{cs:List Frame}(IJ:a.todo= .jK g::k)(fU:a.ret=false)
 (wP:g.phase= .sat) (IF:wj P g (iR g.dX) a.cE h g.infos):
 ∀(todo:List Nat) (r:dG) (f:Frame) (w:World),f.todo= .inRegion g.ops todo::k'->FR r lo nx a f->rU r a.cE f.tmps g A todo->lo<=g.base->g.base+g.ops.size<=nx->AR r base lo acs cs->HR r h nx w0 w->
  ∃(zM:List Nat) (r':dG) (f':Frame) (w':World),Steps P (lone f cs w) (lone f' cs w')/\f'.todo= .inRegion g.ops zM::k'/\FR r' lo nx a f'/\rU r' a.cE f'.tmps g A zM/\AR r' base lo acs cs/\HR r' h nx w0 w'/\
   dG.le r r'/\((zM=[]/\g.dX=[])\/∃e rest Bo,g.dX=e::rest/\zM=e.i::Bo)
 |[],r,f,w,mU,hF,hg,h1,h2,hC,hH=>by
  refine⟨[],r,f,w,Steps.refl P _,mU,hF,hg,hC,hH,dG.le_refl r,.inl ⟨rfl,?_⟩⟩;cases he:g.dX with
  |nil=>rfl
  |cons e rest=>obtain⟨ha,Ve⟩:=hg.tj e (by rw[he];simp);have:=(hg.dX e ha Ve).2 (by rw[he];simp);cases this
 |i::rest,r,f,w,mU,hF,hg,h1,h2,hC,hH=>by
  obtain⟨x,hx,rfl⟩:=hg.has (hg.lt i bL);obtain⟨Uz,hxeff,hxlt⟩:=hg.oper hx;have DE:=jG.1 hg.nodup;have ye:=dS.1 hg.order;have fP:f.mode= .run:=by rw[hF.mode,fU];rfl
  cases vI:x.xL with
  |true=>
   have hxm:=(hg.dX x hx vI).1 bL;cases he:g.dX with
   |nil=>rw[he]at hxm;cases hxm
   |cons e wR=>
    refine⟨_,r,f,w,Steps.refl P _,mU,hF,hg,hC,hH,dG.le_refl r,.inr ⟨e,wR,rest,rfl,?_⟩⟩;rw[he]at hxm;rcases bE.1 hxm with rfl|hxm
    .rfl
    .exfalso;obtain⟨hea,Ve⟩:=hg.tj e (by rw[he];simp);have hs:=hg.sorted;rw[he]at hs;have db:=(dS.1 hs).1 x hxm;have hb:=Ka hg.ok hea hx Ve vI db;have het:=(hg.dX e hea Ve).2 (by rw[he];simp);rcases bE.1 het with h|h
     .omega
     .have:=ye.1 e.i h x hx rfl;rw[this]at hb;cases hb
  |false=>
   have JU:kN (iR g.dX) x=true:=by
    simp only[kN,kT];refine D0 _ _ λy hy=>?_;obtain⟨hya,Fc⟩:=hg.tj y hy;have Ix:=(hg.dX y hya Fc).2 hy;rcases bE.1 Ix with h|h
    .have:=hg.inj hya hx h;subst this;rw[vI]at Fc;cases Fc
    .exact ye.1 y.i h x hx rfl
   have Ej:qy g.last x=false:=by
    cases hp:qy g.last x with
    |false=>rfl
    |true=>exact absurd (gY) (hg.Ux (.inr wP) x hx vI hp)
   have vt:=IF x (by rw[hg.infos];exact gP.2 ⟨hx,by simp[vI]⟩) JU Ej;have amv:f.roundOf=none\/∀c,x.o.op≠ .defer c:= .inr λc hc=>by rw[vI,hc]at hxeff;simp[ct]at hxeff
   have adg:∀d,x.o.dst=some d->d<f.tmps.size:=hg.dlt x hx;unfold Cq at vt;split at vt
   .rename_i hw;have gJ:=vU hg hx hw;have Pw:=EC (P:=P) (cs:=cs) (w:=w) fP mU Uz gJ amv;obtain⟨q,hq,aaW,Jk⟩:=vt
    .have rQ:=xH P hH (Ea hg hx) hq;cases OY:q.obj with
     |none=>
      cases q with
      |xa _=>cases OY
      |pS _ _ _=>cases OY
      |yC _=>cases OY
      |val v=>
      obtain⟨u,ec,hv⟩:=rQ;have jf:=uU (.of_eq Pw) ec (.inl rfl);rw[iB f mU Uz]at jf;have Pu:=hg.quiet hx vI wP (dG.le_refl r) (λ_ _=>rfl) (u:=u) λd hd=>⟨by rw[aaW d hd];exact hv,adg d hd⟩;obtain⟨t1,r1,f1,w1,s1,rest1⟩:=AA IJ fU wP IF rest r {f with tmps:=BG x.o.dst f.tmps u,todo:= .inRegion g.ops rest::k'} w rfl
       ⟨hF.fn,by rw[jX];exact hF.size,hF.defers,hF.mode,hF.kind,hF.round,by rw[IJ];exact .jK (by have:=hF.top;rw[IJ,mU]at this;exact this.acQ) Pu h1 h2⟩ Pu h1 h2 hC hH
      exact⟨t1,r1,f1,w1,.head jf s1,rest1⟩
     |some ob=>
      obtain⟨xo,u,ec,PR,hv⟩:=rQ.obj OY;have jf:=uU (.of_eq Pw) ec (.inl rfl);rw[iB f mU Uz]at jf;have hun:=hg.uH x hx vI bL;have hle:=dG.uM (x:=(w.heap.size,0)) hun;have qD:∀b,b≠g.base+x.i->r.upd (g.base+x.i) (w.heap.size,0) b=r b:=λb hb=>dG.jI _ _ hb;have Z5:=Jk ob OY
      .skip
       have Nt:=hH.alloc hun (show g.base+x.i<nx from ah) (an _) Z5 (λ_ _ _=>rfl) PR;have Pu:=hg.quiet hx vI wP hle qD (u:=u) λd hd=>⟨by rw[aaW d hd];exact hv _ _ (dG.gD _ _ _),adg d hd⟩;have hC':=hC.mono hle λb hb=>qD b ah;have hk:FY (r.upd (g.base+x.i) (w.heap.size,0)) k k':=(by have:=hF.top;rw[IJ,mU]at this;exact this.acQ.mono hle);obtain⟨t1,r1,f1,w1,s1,s2,s3,s4,s5,s6,s7,s8⟩:=AA IJ fU wP IF rest _ {f with tmps:=BG x.o.dst f.tmps u,todo:= .inRegion g.ops rest::k'} _ rfl
        ⟨hF.fn,by rw[jX];exact hF.size,hF.defers.mono hle,hF.mode,hF.kind,hF.round.mono hle,by rw[IJ];exact .jK hk Pu h1 h2⟩ Pu h1 h2 hC' Nt
       exact⟨t1,r1,f1,w1,.head jf s1,s2,s3,s4,s5,s6,dG.le_trans hle s7,s8⟩
   .rename_i hw;have gJ:=vU hg hx hw;have jf:=J8 (P:=P) (cs:=cs) (w:=w) fP mU (by simp[Uz,gJ]);rw[iB f mU Uz]at jf;have Pu:=hg.quiet hx vI wP (dG.le_refl r) (λ_ _=>rfl) (u:=undef) λd hd=>⟨by rw[vt d hd];exact .g _,adg d hd⟩
    obtain⟨t1,r1,f1,w1,s1,rest1⟩:=AA IJ fU wP IF rest r {f with tmps:=BG x.o.dst f.tmps undef,todo:= .inRegion g.ops rest::k'} w rfl
     ⟨hF.fn,by rw[jX];exact hF.size,hF.defers,hF.mode,hF.kind,hF.round,by rw[IJ];exact .jK (by have:=hF.top;rw[IJ,mU]at this;exact this.acQ) Pu h1 h2⟩ Pu h1 h2 hC hH
    exact⟨t1,r1,f1,w1,.head jf s1,rest1⟩
   .exact vt.elim
theorem rN{P:Program}{g:lA}{rem:Nat}:∀(l:List dz) (a:bI) (h:aG) (a':bI) (h':aG),saturate P g rem l a h=some (a',h')->
 (∃s,a'=a.yP s/\∀n,(∃x∈l,rz g.last x=true/\x.o.dst=some n)\/ao s n=ao a.cE n)/\
 (∀b,(∃x∈l,rz g.last x=true/\b=g.base+x.i)\/au h' b=au h b)
 |[],a,h,a',h',hs=>by simp only[saturate,bA,Prod.mk.injEq]at hs;obtain⟨rfl,rfl⟩:=hs;exact⟨⟨a.cE,rfl,λ_=> .inr rfl⟩,λ_=> .inr rfl⟩
 |x::l,a,h,a',h',hs=>by
  have fin:∀{b:bI} {v:AV} {h1:aG},a.put x.o.dst v=some b->rz g.last x=true->saturate P g rem l b h1=some (a',h')->(∀c,c=g.base+x.i\/au h1 c=au h c)->
   (∃s,a'=a.yP s/\∀n,(∃y∈x::l,rz g.last y=true/\y.o.dst=some n)\/ao s n=ao a.cE n)/\
   (∀b,(∃y∈x::l,rz g.last y=true/\b=g.base+y.i)\/au h' b=au h b):=by
   intro b v h1 nX qO hs hh;obtain⟨rfl,_⟩:=lJ nX;obtain⟨⟨s,rfl,h2⟩,h3⟩:=rN l _ _ a' h' hs;refine⟨⟨s,rfl,λn=>?_⟩,λb=>?_⟩
   .rcases h2 n with⟨y,hy,h4⟩|h4;.exact .inl ⟨y,bB _ hy,h4⟩
    .by_cases hd:x.o.dst=some n;.exact .inl ⟨x,bL,qO,hd⟩
     .right;rw[h4];show ao (fT x.o.dst a.cE v) n=_;rw[Dn,ak hd]
   .rcases h3 b with⟨y,hy,h4⟩|h4;.exact .inl ⟨y,bB _ hy,h4⟩
    .rcases hh b with h5|h5;.exact .inl ⟨x,bL,qO,h5⟩
     .exact .inr (h4.trans h5)
  simp only[saturate]at hs;split at hs
  .rename_i hc;simp only[aV]at hc;split at hs
   .split at hs
    .rename_i q hq;split at hs
     .rename_i b nX;refine fin nX hc.2 hs λc=>?_
      split
      .rw[aj];by_cases NH:c=g.base+x.i;.exact .inl NH
       .right;rw[ak NH]
      .exact .inr rfl
     .cases hs
    .cases hs
   .split at hs;.rename_i b nX;exact fin nX hc.2 hs λc=> .inr rfl
    .cases hs
   .cases hs
  .obtain⟨⟨s,h1,h2⟩,h3⟩:=rN l a h a' h' hs;refine⟨⟨s,h1,λn=>?_⟩,λb=>?_⟩
   .rcases h2 n with⟨y,hy,h4⟩|h4;.exact .inl ⟨y,bB _ hy,h4⟩
    .exact .inr h4
   .rcases h3 b with⟨y,hy,h4⟩|h4;.exact .inl ⟨y,bB _ hy,h4⟩
    .exact .inr h4
theorem Dm{f:Frame}{cs:List Frame}(hF:FR r lo m.next m.fr f)(je:lo<=m.next)
 (hC:AR r base lo m.callers cs) (hH:HR r m.heap m.next w0 w) {g:lA} {k:List dc} (jx:m.fr.todo= .jK g::k) (wP:g.phase= .unsat)  
 (Cf:saturate P g (iR g.dX) g.infos m.fr m.heap=some (a',h')) (IF:wj P g (iR g.dX) a'.cE h' g.infos):
 MR P w0 base (m.FK (a'.jV (.jK (g.ot .sat)::k)) h') f cs w:=by
 obtain⟨⟨s,rfl,ad0⟩,ahK⟩:=rN _ _ _ _ _ Cf;have gy:=hF.top;rw[jx]at gy;generalize mU:f.todo=ft at gy;cases gy with
 |plain jZ _=>cases jZ with|cons hi _=>cases hi
 |jK hk hg h1 h2=>
 rename_i A todo k';have iI:∀x∈g.infos,x∈A/\x.xL=false:=by intro x hx;rw[hg.infos]at hx;have:=gP.1 hx;exact⟨this.1,by simpa using this.2⟩
 have qO:∀x∈g.infos,rz g.last x=true->x.i∈todo:=λx hx hn=>hg.unsat wP x (iI x hx).1 (iI x hx).2 hn;have Nt:HR r h' m.next w0 w:=hH.heap λb y e=>by
  rcases ahK b with⟨x,hx,hn,rfl⟩|h;.have:=hg.uH x (iI x hx).1 (iI x hx).2 (qO x hx hn);rw[this]at e;cases e
  .exact h
 have Pu:rU r s f.tmps (g.ot .sat) A todo:=by
  constructor;.exact hg.yD
  .exact hg.ok
  .exact hg.dlt
  .exact hg.infos
  .exact hg.dX
  .exact hg.tj
  .exact hg.sorted
  .exact hg.nodup
  .exact hg.lt
  .exact hg.order
  .exact hg.closed
  .exact hg.uH
  .intro n;rcases ad0 n with⟨x,hx,hn,hd⟩|h
   .exact .inl ⟨x,(iI x hx).1,(iI x hx).2,qO x hx hn,hd⟩
   .rw[h];exact hg.cE n
  .intro h;cases h
  .intro _ x hx vI hp;exact hg.Ux (.inl wP) x hx vI hp
  .intro h;cases h
 obtain⟨yr,Kj,mh,kO⟩:=m;refine MR.mk' (r:=r) (lo:=lo) ⟨hF.fn,hF.size,hF.defers,hF.mode,hF.kind,hF.round,?_⟩ je hC Nt λg' k'' e hp=>?_;.show yQ r s f.tmps lo kO (.jK (g.ot .sat)::k) f.todo;rw[mU];exact .jK (g:=g.ot .sat) hk Pu h1 h2
 .have e:dc.jK (g.ot .sat)::k= .jK g'::k'':=e;injection e with e _
  injection e with e;subst e
  intro _;exact IF
theorem CQ{f:Frame}{cs:List Frame}(hF:FR r lo m.next m.fr f)(je:lo<=m.next)
 (hC:AR r base lo m.callers cs) (hH:HR r m.heap m.next w0 w) {g:lA} {k:List dc} (jx:m.fr.todo= .jK g::k) (wP:g.phase= .unsat)
 (hs:FX P m g k (saturate P g (iR g.dX) g.infos m.fr m.heap)=some m'):qs P w0 base f cs w m':=by
 cases Cf:saturate P g (iR g.dX) g.infos m.fr m.heap with
 |none=>rw[Cf]at hs;cases hs
 |some p=>
 obtain⟨a',h'⟩:=p;rw[Cf]at hs;simp only[FX]at hs;split at hs
 .rename_i IF;injection hs with hs;subst hs
  exact⟨f,cs,w,Steps.refl P _,Dm hF je hC hH jx wP Cf (Ew IF)⟩
 .cases hs
theorem CJ{xt:FuncId->Option Ext}(pk:PK P xt){f:Frame}{cs:List Frame}(hF:FR r lo m.next m.fr f)(je:lo<=m.next)
 (hC:AR r base lo m.callers cs) (hH:HR r m.heap m.next w0 w) (fU:m.fr.ret=false) {g:lA} {k:List dc} (jx:m.fr.todo= .jK g::k)
 (IF:g.phase= .sat->wj P g (iR g.dX) m.fr.cE m.heap g.infos) (hs:Ff P xt m g k=some m'):qs P w0 base f cs w m':=by
 unfold Ff at hs;split at hs;.rename_i wP;exact CQ hF je hC hH jx wP hs
 .rename_i wP;have gy:=hF.top;rw[jx]at gy;generalize mU:f.todo=ft at gy;cases gy with
  |plain jZ _=>cases jZ with|cons hi _=>cases hi
  |jK hk hg h1 h2=>
  rename_i A todo k';obtain⟨zM,r',f',w',s1,s2,s3,s4,s5,s6,s7,s8⟩:=AA jx fU wP (IF wP) todo r f w mU hF hg h1 h2 hC hH;have fP:f'.mode= .run:=by rw[s3.mode,fU];rfl
  split at hs
  .rename_i sF;rcases s8 with⟨rfl,_⟩|⟨e,rest,Bo,he,_⟩
   .have mG:TR r' m.fr.cE f'.tmps:=by
     intro n;rcases s4.cE n with⟨x,_,_,hx,_⟩|h
     .cases hx
     .exact h
    obtain⟨f2,Jg,w2,h3,h4⟩:=kZ s3 je s5 s6 fU hs (hk.mono s7) mG (Ep fP s2 (.inr (.inr (.inr (.inr (.inr (.inr (.inr ⟨_,rfl,rfl⟩))))))));exact⟨f2,Jg,w2,s1.trans h3,h4⟩
   .rw[sF]at he;cases he
  .rename_i e rest sF;rcases s8 with⟨_,he⟩|⟨e',wR,Bo,he,rfl⟩
   .rw[sF]at he;cases he
   .rw[sF]at he;injection he with h3 h4;subst h3;subst h4
    obtain⟨heA,heE⟩:=s4.tj e (by rw[sF];simp);obtain⟨heo,_,_⟩:=s4.oper heA;unfold qz at hs;split at hs
    .rename_i b hw;have gJ:=vU s4 heA hw;have CA:FY r' k k':=hk.mono s7;cases b with
     |false=>
      simp only[dk,cC]at hs;unfold yo at hs;split at hs
      .rename_i fr nX;injection hs with hs;subst hs
       obtain⟨rfl,hd⟩:=lJ nX;have jf:=J8 (P:=P) (cs:=cs) (w:=w') fP s2 (by simp[heo,gJ]);rw[iB f' s2 heo]at jf;obtain⟨yr,Kj,mh,kO⟩:=m;refine⟨_,cs,w',s1.trans (.one jf),MR.mk' (r:=r') (lo:=lo) ⟨s3.fn,by rw[jX];exact s3.size,s3.defers,s3.mode,s3.kind,s3.round,.jK (g:=g.after rest e) CA (s4.next sF (.g _) λn hn=>by rw[s3.size];exact hd n hn) h1 h2⟩ je s5 s6 λg' k'' e' hp=>?_⟩;have e':dc.jK (g.after rest e)::k= .jK g'::k'':=e';injection e' with e' _;injection e' with e';subst e';cases hp
      .cases hs
     |true=>
      simp only[cz]at hs;unfold se at hs;split at hs
      .rename_i er Of;have hd:f'.roundOf=none\/∀c,e.o.op≠ .defer c:=by
        cases Aj:f'.roundOf with
        |none=>exact .inl rfl
        |some l'=>
         right;intro c hc;obtain⟨d,rfl⟩:=AT Of hc;have sL:=s3.round;rw[Aj]at sL;cases har:m.fr.roundOf with
         |none=>rw[har]at sL;exact sL
         |some l2=>have:(m.fr.jV (.jK (g.ot .wait)::k)).roundOf=some l2:=har;rw[sf this]at hs;cases hs
       have Pw:=EC (P:=P) (cs:=cs) (w:=w') fP s2 heo gJ hd;have rQ:=BO pk s6 (Ea s4 heA) Of;have hgw:rU r' m.fr.cE f'.tmps (g.ot .wait) A (e.i::Bo):=by
        constructor;.exact s4.yD
        .exact s4.ok
        .exact s4.dlt
        .exact s4.infos
        .exact s4.dX
        .exact s4.tj
        .exact s4.sorted
        .exact s4.nodup
        .exact s4.lt
        .exact s4.order
        .exact s4.closed
        .exact s4.uH
        .exact s4.cE
        .intro h;cases h
        .intro h;rcases h with h|h<;>cases h
        .intro _;exact⟨e,rest,Bo,sF,rfl⟩
       have hFw:FR r' lo m.next (m.fr.jV (.jK (g.ot .wait)::k)) f':=⟨s3.fn,s3.size,s3.defers,s3.mode,s3.kind,s3.round,by show yQ r' m.fr.cE f'.tmps lo m.next (.jK (g.ot .wait)::k) f'.todo;rw[s2];exact .jK (g:=g.ot .wait) CA hgw h1 h2⟩;obtain⟨f2,Jg,w2,h5,h6⟩:=sX hFw je (an _) s5 s6 (.of_eq Pw) rQ hs;exact⟨f2,Jg,w2,s1.trans (.one h5),h6⟩
      .cases hs
    .cases hs
 .cases hs
variable{al:mM}
theorem xF(hr:HR r h nx w0 w){l:Nat}(hl:r l=some (k,n))(ho:au h l=some (.loop al)):
 ∃lo,LR r al lo/\w.heap[k]?=some (.loop lo)/\(Instr.getLoop k).run P w= .ok lo w/\k<w.heap.size:=by
 obtain⟨lo,hk,Eo⟩:=hr.obj l _ k n ho hl;exact⟨lo,Eo,hk,by simp[Instr.getLoop,getObj,Sem.run,hk],(hr.xP l _ hl).2.2⟩
theorem vY{x:Obj}{o:Obj}(hk:w.heap[k]?=some o)(ho:∀c e f,o≠ .cells c e f):(setObj k x).run P w= .ok () {w with heap:=w.heap.setIfInBounds k x}:=by cases o<;>simp_all[setObj,Sem.run]
theorem Bt(hr:HR r h nx w0 w){l:Nat}(hl:r l=some (k,n))(ho:au h l=some (.loop al)){lo:Loop}(Eo:LR r al lo)(hk:k<w.heap.size)(st:LoopState)(p:Option Code):
 HR r (aK h l (.loop (al.fY st p))) nx w0 {w with heap:=w.heap.setIfInBounds k (.loop {lo with state:=st,pending:=p})}:=by
 refine hr.set hl ho trivial (o':= .loop (al.fY st p)) ⟨_,rfl,?_⟩ (kF hk);obtain⟨_,_,a3,a4,a5,a6,a7,a8,a9⟩:=Eo;exact⟨rfl,rfl,a3,a4,a5,a6,a7,a8,a9⟩
theorem HY{f:Frame}{cs:List Frame}(hF:FR r lo m.next m.fr f)(je:lo<=m.next)
 (hC:AR r base lo m.callers cs) (hH:HR r m.heap m.next w0 w) (fU:m.fr.ret=false) {k:List dc} (jx:m.fr.todo= .beginRound::k) (hs:yw m k=some m'):qs P w0 base f cs w m':=by
 have fP:f.mode= .run:=by rw[hF.mode,fU];rfl
 have gy:=hF.top;rw[jx]at gy;generalize mU:f.todo=ft at gy;cases gy with
 |plain jZ mG=>
 cases jZ with|cons hi jZ=>
 cases hi;unfold yw at hs;split at hs
 .rename_i l od;split at hs
  .rename_i al ho;split at hs
   .rename_i jf;injection hs with hs;subst hs
    have sL:=hF.round;rw[od]at sL;cases Aj:f.roundOf with
    |none=>rw[Aj]at sL;exact sL.elim
    |some kk=>
    rw[Aj]at sL;obtain⟨n,hl⟩:=sL;obtain⟨jn,Eo,hk,au,db⟩:=xF (P:=P) hH hl ho;have ec:(Instr.beginRound kk).run P w= .ok () {w with heap:=w.heap.setIfInBounds kk (.loop {jn with state:= .busy})}:=by have h1:jn.state= .ready:=Eo.1.trans jf;simp[Instr.beginRound,au,vY hk bL,h1]
    have aeI:=aaE (cs:=cs) fP mU Aj ec;have Lz:jn.pending=al.pending:=Eo.2.1;have aK:=Bt hH hl ho Eo db .busy al.pending;have SF:({jn with state:= .busy,pending:=al.pending}:Loop)={jn with state:= .busy}:=by rw[<-Lz]
    rw[SF]at aK;obtain⟨fn,tmps,td,defers,mode,kind,roundOf⟩:=f;simp only at mU;subst mU;obtain⟨yr,Kj,mh,kO⟩:=m;refine⟨_,cs,_,.one aeI,MR.mk' (r:=r) (lo:=lo) ⟨hF.fn,hF.size,hF.defers,hF.mode,hF.kind,hF.round,.plain jZ mG⟩ je hC aK λg k' e=>?_⟩;have e:k= .jK g::k':=e;rw[e]at jZ;cases jZ with|cons hi _=>cases hi
   .cases hs
  .cases hs
 .cases hs
theorem AG{f:Frame}{cs:List Frame}(hF:FR r lo m.next m.fr f)(je:lo<=m.next)
 (hC:AR r base lo m.callers cs) (hH:HR r m.heap m.next w0 w) (fU:m.fr.ret=false) {l:Nat} {k:List dc} (jx:m.fr.todo= .jW l::k) (hs:pN m l k (au m.heap l)=some m'):qs P w0 base f cs w m':=by
 have fP:f.mode= .run:=by rw[hF.mode,fU];rfl
 have gy:=hF.top;rw[jx]at gy;generalize mU:f.todo=ft at gy;cases gy with
 |plain jZ mG=>
 cases jZ with|cons hi jZ=>
 cases hi with|jW hl=>
 rename_i is kk n;cases ho:au m.heap l with
 |none=>rw[ho]at hs;cases hs
 |some o=>
 rw[ho]at hs;cases o with
 |loop al=>
  simp only[pN]at hs;obtain⟨jn,Eo,hk,au,db⟩:=xF (P:=P) hH hl ho;have acV:jn.state=al.state:=Eo.1;have Lz:jn.pending=al.pending:=Eo.2.1;have key:al.state≠ .busy->some (m.FK (m.fr.jV ((match al.pending with|some c=>[dc.code c]|none=>[])++k)) (aK m.heap l (.loop (al.fY .exhausted al.pending))))=some m'->qs P w0 base f cs w m':=by
   intro hb hs;injection hs with hs;subst hs
   have ec:(Instr.endLoop kk).run P w= .ok al.pending {w with heap:=w.heap.setIfInBounds kk (.loop {jn with state:= .exhausted})}:=by
    have h1:¬jn.state=LoopState.busy:=by rw[acV];exact hb
    simp[Instr.endLoop,au,vY hk bL,h1,Lz]
   have aeI:=JC (cs:=cs) fP mU ec;have aK:=Bt hH hl ho Eo db .exhausted al.pending;have SF:({jn with state:= .exhausted,pending:=al.pending}:Loop)={jn with state:= .exhausted}:=by rw[<-Lz]
   rw[SF]at aK;have Yn:FY r ((match al.pending with|some c=>[dc.code c]|none=>[])++k) ((al.pending.map Item.code).toList++is):=by
    cases al.pending with
    |none=>exact jZ
    |some c=>exact .cons (.code c) jZ
   obtain⟨yr,Kj,mh,kO⟩:=m;refine⟨_,cs,_,.one aeI,MR.mk' (r:=r) (lo:=lo) ⟨hF.fn,hF.size,hF.defers,hF.mode,hF.kind,hF.round,.plain Yn mG⟩ je hC aK λg k' e=>?_⟩;have e:(match al.pending with|some c=>[dc.code c]|none=>[])++k= .jK g::k':=e;rw[e]at Yn;generalize((al.pending.map Item.code).toList++is)=q at Yn;cases Yn with|cons hi _=>cases hi
  split at hs;.cases hs
  .rename_i hb;exact key hb hs
 |cells _ _=>cases hs
 |eP _ _ _=>cases hs
 |map _ _=>cases hs
 |defs _=>cases hs
 |dead=>cases hs
theorem uL{f:Frame}{cs:List Frame}(hF:FR r lo m.next m.fr f)(je:lo<=m.next)
 (hC:AR r base lo m.callers cs) (hH:HR r m.heap m.next w0 w) (fU:m.fr.ret=false) 
 (jx:(m.fr.todo=[]/\pD=none)\/(∃k,m.fr.todo= .code .ret::k/\pD=some .ret)\/(∃id k,m.fr.todo= .code (.exit id)::k/\nL id k=none/\pD=some (.exit id))) (hs:leave m pD=some m'):qs P w0 base f cs w m':=by
 have fP:f.mode= .run:=by rw[hF.mode,fU];rfl
 have acw:∃ft,f.todo=ft/\FY r m.fr.todo ft/\TR r m.fr.cE f.tmps:=by
  have gy:=hF.top;generalize mU:f.todo=ft at gy;generalize IJ:m.fr.todo=at' at gy jx;cases gy with
  |plain jZ mG=>exact⟨ft,rfl,jZ,mG⟩
  |jK _ _ _ _=>rcases jx with⟨h,_⟩|⟨k,h,_⟩|⟨id,k,h,_⟩<;>cases h
 obtain⟨ft,mU,jZ,mG⟩:=acw;have KK:(f.todo=[]/\pD=none)\/(∃k,f.todo= .code .ret::k/\pD=some .ret)\/(∃id k,f.todo= .code (.exit id)::k/\exitTo id k=none/\pD=some (.exit id)):=by
  rw[mU];rcases jx with⟨h,h2⟩|⟨k,h,h2⟩|⟨id,k,h,h2,h3⟩
  .rw[h]at jZ;cases jZ;exact .inl ⟨rfl,h2⟩
  .rw[h]at jZ;cases jZ with|cons hi jZ=>cases hi;exact .inr (.inl ⟨_,rfl,h2⟩)
  .rw[h]at jZ;cases jZ with|cons hi jZ=>cases hi;exact .inr (.inr ⟨id,_,rfl,(vS id jZ).2 h2,h3⟩)
 unfold leave at hs;split at hs
 .rename_i od;have Aj:f.roundOf=none:=by
   have sL:=hF.round;rw[od]at sL;cases Aj:f.roundOf with
   |none=>rfl
   |some _=>rw[Aj]at sL;exact sL.elim
  have fin:some (m.wFr m.fr.aim)=some m'->(f.todo=[]\/∃k,f.todo= .code .ret::k)->qs P w0 base f cs w m':=by
   intro hs ht;injection hs with hs;subst hs
   have jf:=agI (P:=P) (cs:=cs) (w:=w) fP Aj ht rfl;obtain⟨yr,Kj,mh,kO⟩:=m;refine⟨_,cs,w,.one jf,MR.mk' (r:=r) (lo:=lo) ⟨hF.fn,hF.size,hF.defers,rfl,hF.kind,hF.round,hF.top⟩ je hC hH λg k' e hp hr=>?_⟩;cases hr
  split at hs
  .refine fin hs ?_;rcases KK with⟨h,h2⟩|⟨k,h,h2⟩|⟨id,k,h,_,h2⟩
   .exact .inl h
   .cases h2
   .cases h2
  .refine fin hs ?_;rcases KK with⟨h,h2⟩|⟨k,h,h2⟩|⟨id,k,h,_,h2⟩
   .cases h2
   .exact .inr ⟨k,h⟩
   .cases h2
  .cases hs
 .rename_i l od;split at hs;.cases hs
  rename_i nR;unfold endRound at hs;split at hs
  .rename_i al c acs ho xV;split at hs
   .rename_i fr nJ;injection hs with hs;subst hs
    have sL:=hF.round;rw[od]at sL;cases Aj:f.roundOf with
    |none=>rw[Aj]at sL;exact sL.elim
    |some kk=>
    rw[Aj]at sL;obtain⟨n,hl⟩:=sL;obtain⟨jn,Eo,hk,au,db⟩:=xF (P:=P) hH hl ho;have ec:(Instr.endRound kk pD).run P w= .ok (.bool pD.isNone) {w with heap:=w.heap.setIfInBounds kk (.loop {jn with state:=if pD.isNone then .ready else .done,pending:=pD})}:=by simp[Instr.endRound,au,vY hk bL]
    have aK:=Bt hH hl ho Eo db (if pD.isNone then .ready else .done) pD;rw[xV]at hC;have Cs:f.kind= .normal:=by rw[hF.kind,ak nR]
    obtain⟨yr,Kj,mh,kO⟩:=m;simp only at je;cases hC with
    |cons hc Vj hC=>
    rename_i Gn c' rJ;have jf:=KH (P:=P) (c:=c') (cs:=rJ) fP Cs Aj KK ec;obtain⟨ht1,IQ⟩:=mJ nJ;refine⟨_,rJ,_,.one jf,MR.mk' (r:=r) (lo:=Gn) ((lL hc nJ (.g _)).mono (dG.le_refl r) je λ_ _=>rfl) (by show Gn<=kO;omega) hC aK λg k' e hp=>?_⟩;rw[IQ g k' e]at hp;cases hp
   .cases hs
  .cases hs
variable{body:Code}{vs:List AV}
theorem HH{xt:FuncId->Option Ext}(pk:PK P xt){f:Frame}{cs:List Frame}(hF:FR r lo m.next m.fr f)(je:lo<=m.next)
 (hC:AR r base lo m.callers cs) (hH:HR r m.heap m.next w0 w) (fU:m.fr.ret=false) {g:Operand}  {assign:Code} {k:List dc} (jx:m.fr.todo= .code (.rangeFunc g params assign body)::k)
 (hs:yq P xt m g params.toList assign body k=some m'):qs P w0 base f cs w m':=by
 have fP:f.mode= .run:=by rw[hF.mode,fU];rfl
 have gy:=hF.top;rw[jx]at gy;generalize mU:f.todo=ft at gy;cases gy with
 |plain jZ mG=>
 cases jZ with|cons hi jZ=>
 cases hi;rename_i ks;obtain⟨yr,Kj,mh,kO⟩:=m;simp only at hF je hC hH fU mG jZ;unfold yq at hs;simp only at hs;split at hs
 .rename_i od;have Aj:f.roundOf=none:=by
   have sL:=hF.round;rw[od]at sL;cases Aj:f.roundOf with
   |none=>rfl
   |some _=>rw[Aj]at sL;exact sL.elim
  unfold se at hs;split at hs
  .rename_i er Of;have R6:r kO=none:=hH.fresh (an _);have Gl:=sI hH (o:= .defs (some [])) (obj:= .deferred (some [])) ⟨[],rfl,.nil⟩;have VQ:=dG.uM (x:=(w.heap.size,0)) R6;have TY:(r.upd kO (w.heap.size,0)) (kO+1)=none:=Gl.fresh (an _);have ZT:=dG.uM (x:=(({w with heap:=w.heap.push (.deferred (some []))}:World).heap.size,0)) TY;have Nx:=sI Gl (o:= .loop (yJ yr params.toList assign body kO)) (obj:= .loop {state:= .ready,pending:=none,fn:=f.fn,tmps:=f.tmps,params,assign,body,defers:=w.heap.size})
    ⟨_,rfl,rfl,rfl,hF.fn,mG.mono VQ,hF.size,rfl,rfl,rfl,0,dG.gD _ _ _⟩
   have hle:=dG.le_trans VQ ZT;have qD:∀b,b<kO->((r.upd kO (w.heap.size,0)).upd (kO+1) (({w with heap:=w.heap.push (.deferred (some []))}:World).heap.size,0)) b=r b:=λb hb=>by rw[dG.jI _ _ ah,dG.jI _ _ ah]
   have ec:(Instr.enterLoop f.fn f.tmps params assign body f.roundOf).run P w= .ok (w.heap.size+1,[{target:= .collected w.heap.size,args:= #[]}])
    {w with heap:=(w.heap.push (.deferred (some []))).push (.loop {state:= .ready,pending:=none,fn:=f.fn,tmps:=f.tmps,params,assign,body,defers:=w.heap.size})}:=by
    rw[Aj];simp[Instr.enterLoop];rfl
   have hap:=LW (cs:=cs) fP mU ec;have Pn:({({w with heap:=w.heap.push (.deferred (some []))}:World)with heap:=({w with heap:=w.heap.push (.deferred (some []))}:World).heap.push (.loop {state:= .ready,pending:=none,fn:=f.fn,tmps:=f.tmps,params,assign,body,defers:=w.heap.size})}:World)=
    {w with heap:=(w.heap.push (.deferred (some []))).push (.loop {state:= .ready,pending:=none,fn:=f.fn,tmps:=f.tmps,params,assign,body,defers:=w.heap.size})}:=rfl
   rw[Pn]at Nx;have tz:({w with heap:=w.heap.push (.deferred (some []))}:World).heap.size=w.heap.size+1:=bL;rw[tz]at Nx hle qD;have ado:VR ((r.upd kO (w.heap.size,0)).upd (kO+1) (w.heap.size+1,0)) (.sO (kO+1)) (.func (.yield (w.heap.size+1)) #[] #[]):= .sO (dG.gD _ _ _);have hmk:((r.upd kO (w.heap.size,0)).upd (kO+1) (w.heap.size+1,0)) kO=some (w.heap.size,0):=by rw[dG.jI _ _ ah];exact dG.gD _ _ _
   have rQ:=uK pk Nx ((u0 mG g).mono hle) (.cons ado .nil) Of;have LG:FR ((r.upd kO (w.heap.size,0)).upd (kO+1) (w.heap.size+1,0)) lo (kO+2) ((yr.jV (.jQ (kO+1)::k)).uW (.vr kO::yr.defers))
    {f with todo:= .inRangeFunc (w.heap.size+1)::ks,defers:=[{target:= .collected w.heap.size,args:= #[]}]++f.defers}:=
    ⟨hF.fn,hF.size,.cons (.vr hmk) (hF.defers.mono hle),hF.mode,hF.kind,hF.round.mono hle,.plain (.cons (.jQ (dG.gD _ _ _)) (jZ.mono hle)) (mG.mono hle)⟩
   obtain⟨f2,Jg,w2,h5,h6⟩:=sX (m:=(AM.mk yr Kj mh kO).KT yr (aK (aK mh kO (.defs (some []))) (kO+1) (.loop (yJ yr params.toList assign body kO))) 2) LG ah (an _)
    (hC.mono hle λb hb=>qD b ah) Nx hap rQ hs
   exact⟨f2,Jg,w2,.one h5,h6⟩
  .cases hs
 .rename_i l od;split at hs
  .rename_i al ho;have sL:=hF.round;rw[od]at sL;cases Aj:f.roundOf with
   |none=>rw[Aj]at sL;exact sL.elim
   |some kk=>
   rw[Aj]at sL;obtain⟨n,hl⟩:=sL;obtain⟨jn,Eo,hk,au,db⟩:=xF (P:=P) hH hl ho;obtain⟨nd,xA⟩:=Eo.2.2.2.2.2.2.2.2;unfold se at hs;split at hs
   .rename_i er Of;have R6:r kO=none:=hH.fresh (an _);have hle:=dG.uM (x:=(w.heap.size,0)) R6;have qD:∀b,b<kO->r.upd kO (w.heap.size,0) b=r b:=λb hb=>dG.jI _ _ ah
    have Nx:=sI hH (o:= .loop (yJ yr params.toList assign body al.defers)) (obj:= .loop {state:= .ready,pending:=none,fn:=f.fn,tmps:=f.tmps,params,assign,body,defers:=jn.defers})
     ⟨_,rfl,rfl,rfl,hF.fn,mG,hF.size,rfl,rfl,rfl,nd,xA⟩
    have ec:(Instr.enterLoop f.fn f.tmps params assign body f.roundOf).run P w= .ok (w.heap.size,[])
     {w with heap:=w.heap.push (.loop {state:= .ready,pending:=none,fn:=f.fn,tmps:=f.tmps,params,assign,body,defers:=jn.defers})}:=by
     rw[Aj];simp[Instr.enterLoop,au]
    have hap:=LW (cs:=cs) fP mU ec;have ado:VR (r.upd kO (w.heap.size,0)) (.sO kO) (.func (.yield w.heap.size) #[] #[]):= .sO (dG.gD _ _ _);have rQ:=uK pk Nx ((u0 mG g).mono hle) (.cons ado .nil) Of;have LG:FR (r.upd kO (w.heap.size,0)) lo (kO+1) (yr.jV (.jQ kO::k)) {f with todo:= .inRangeFunc w.heap.size::ks,defers:=[]++f.defers}:=
     ⟨hF.fn,hF.size,hF.defers.mono hle,hF.mode,hF.kind,hF.round.mono hle,.plain (.cons (.jQ (dG.gD _ _ _)) (jZ.mono hle)) (mG.mono hle)⟩
    obtain⟨f2,Jg,w2,h5,h6⟩:=sX (m:=(AM.mk yr Kj mh kO).KT yr (aK mh kO (.loop (yJ yr params.toList assign body al.defers))) 1) LG ah (an _)
     (hC.mono hle λb hb=>qD b ah) Nx hap rQ hs
    exact⟨f2,Jg,w2,.one h5,h6⟩
   .cases hs
  .cases hs
def rv(t:Array Value):ResultVar->Sem Value
 | .tmp a=>pure (t.getD a undef)
 | .cell a ty=>do loadVar ty (<-asAddr (t.getD a undef))
theorem Jj(fn:Func)(t:Array Value):results fn t=(do let vs<-fn.results.mapM (rv t);pure (if h:vs.size=1 then vs[0]else .tuple vs)):=by
 unfold results
 congr 2
theorem qG{P:Program}{r:dG}{h:aG}{nx:Nat}{w0 w:World}(hr:HR r h nx w0 w){s:BT AV}{t:Array Value}(ht:TR r s t):∀(l:List ResultVar) (vs:List AV),eo P h s l=some vs->
 ∃us,eM r vs us/\(l.mapM (rv t)).run P w= .ok us w
 |[],vs,hv=>by simp only[eo,bA]at hv;subst hv;exact⟨[],.nil,bL⟩
 | .tmp a::l,vs,hv=>by
  simp only[eo]at hv;split at hv
  .rename_i q hq;injection hv with hv;subst hv
   obtain⟨us,h1,h2⟩:=qG hr ht l q hq;refine⟨_,.cons (ht a) h1,?_⟩;simp only[List.mapM_cons,rv,Sem.run_bind,Sem.run_pure,Result.andThen_ok,h2]
  .cases hv
 | .cell a ty::l,vs,hv=>by
  simp only[eo]at hv;split at hv
  .rename_i v hl;split at hv
   .rename_i q hq;injection hv with hv;subst hv
    obtain⟨us,h1,h2⟩:=qG hr ht l q hq;obtain⟨k,off,u,hx,ec,NR⟩:=zE P hr (ht a) hl;refine⟨_,.cons NR h1,?_⟩;simp only[List.mapM_cons,rv,hx,asAddr,ec,Sem.run_bind,Sem.run_pure,Result.andThen_ok,h2]
   .cases hv
  .cases hv
theorem zG(hr:HR r h nx w0 w){t:Array Value}(ht:TR r s t)(hv:eo P h s fn.results.toList=some vs):
 ∃u,VR r (one vs) u/\(results fn t).run P w= .ok u w:=by
 obtain⟨us,h1,h2⟩:=qG hr ht _ _ hv;refine⟨if h:us.toArray.size=1 then us.toArray[0]else .tuple us.toArray,?_,?_⟩
 .cases h1 with
  |nil=>exact .dN .nil
  |cons h3 h4=>
   cases h4 with
   |nil=>simpa[one]using h3
   |cons h5 h6=>simp only[one,wK,bD];rw[dif_neg ah];exact .dN (.cons h3 (.cons h5 h6))
 .rw[Jj,Array.mapM_eq_mapM_toList];simp only[Sem.run_bind,Sem.run_map,h2,Result.andThen_ok,Sem.run_pure]
theorem FU{f:Frame}{cs:List Frame}(pk:∃xt,PK P xt)(hF:FR r lo m.next m.fr f)(je:lo<=m.next)
 (hC:AR r base lo m.callers cs) (hH:HR r m.heap m.next w0 w) (fU:m.fr.ret=true) (hs:EI P m=some m'):qs P w0 base f cs w m':=by
 obtain⟨xt,pk⟩:=pk;have fP:f.mode= .returning:=by rw[hF.mode,fU];rfl
 have xA:=hF.defers;obtain⟨yr,Kj,mh,kO⟩:=m;simp only at hF je hC hH fU xA;unfold EI at hs;simp only at hs;split at hs
 .rename_i b ds lS;rw[lS]at xA;generalize O6:f.defers=fd at xA;cases xA with
  |cons hd r7=>
  cases hd with|vr hb=>
  rename_i fds k n;split at hs
  .rename_i calls ho;injection hs with hs;subst hs
   obtain⟨l,hk,hdr⟩:=hH.obj b _ k n ho hb;have db:=(hH.xP b _ hb).2.2;have ec:(Instr.takeDeferred k).run P w= .ok l {w with heap:=w.heap.setIfInBounds k (.deferred none)}:=by simp[Instr.takeDeferred,getObj,Sem.run,hk,setObj]
   have jf:=adm (cs:=cs) fP O6 ec;refine⟨_,cs,_,.one jf,MR.mk' (r:=r) (lo:=lo) ⟨hF.fn,hF.size,hdr.append r7,hF.mode,hF.kind,hF.round,hF.top⟩ je hC (hH.set hb ho trivial (o':= .defs none) rfl (kF db)) λg k' e hp hr=>?_⟩;have hr:yr.ret=false:=hr;rw[fU]at hr;cases hr
  .cases hs
 .rename_i g cap args ds lS;rw[lS]at xA;generalize O6:f.defers=fd at xA;cases xA with
  |cons hd r7=>
  cases hd with|fn hc ha=>
  rename_i fds c as;split at hs
  .rename_i fr LX;injection hs with hs;subst hs
   obtain⟨e1,e2,⟨cc,e3⟩,e4⟩:=uG (ha.append hc) LX kO;have UH:∃fn cd,P.funcs[g]?=some fn/\fn.body=some cd:=by
    unfold bI.enter at LX;split at LX
    .rename_i fn hf;split at LX;.rename_i cd hb;exact⟨fn,cd,hf,hb⟩
     .cases LX
    .cases LX
   obtain⟨fn,cd,hf,hb⟩:=UH;have hn:=pk.K4 g fn hf;have C0:¬fn.name= "runtime.NumGoroutine" :=by simpa using hn
   have ec:(callFunc g (as.toArray++c.toArray)).run P w= .ok (.enter g (as.toArray++c.toArray)) w:=by simp[callFunc,hf,C0,hb]
   have jf:=Kc (cs:=cs) fP O6 ec;have Wv:as.toArray++c.toArray=(as++c).toArray:=bL;rw[Wv]at jf;refine⟨_,_,w,.one jf,MR.mk' (r:=r) (lo:=kO) e1 (an _) (.cons ⟨hF.fn,hF.size,r7,hF.mode,hF.kind,hF.round,hF.top⟩ je hC) hH λg' k' e=>?_⟩;have e:fr.todo= .jK g'::k':=e;rw[e3]at e;cases e
  .cases hs
 .rename_i lS;rw[lS]at xA;generalize O6:f.defers=fd at xA;cases xA;split at hs;.cases hs
  .rename_i c acs xV;split at hs;.cases hs
   .rename_i aaA;have mG:TR r yr.cE f.tmps:=by
     have gy:=hF.top;generalize f.todo=q at gy;generalize yr.todo=q' at gy aaA;cases gy with
     |plain _ mG=>exact mG
     |jK _ _ _ _=>exact absurd rfl aaA
    split at hs
    .rename_i fn hf;split at hs
     .rename_i vs ti;obtain⟨u,hu,ec⟩:=zG hH mG ti;have mj:P.funcs[f.fn]?=some fn:=by rw[hF.fn];exact hf
      cases hC with
      |cons hc Vj hC=>
      rename_i Gn c' rJ;unfold xB at hs;split at hs
      .rename_i ZX;have qN:f.kind= .deferred:=by rw[hF.kind];exact aw ZX
       split at hs
       .rename_i hcr;injection hs with hs;subst hs
        have hcm:c'.mode= .returning:=by rw[hc.mode];exact aw hcr
        have jf:=NS (cs:=rJ) fP O6 qN mj ec hcm;refine⟨_,rJ,w,.one jf,MR.mk' (r:=r) (lo:=Gn) (hc.mono (dG.le_refl r) je λ_ _=>rfl) (by show Gn<=kO;omega) hC hH λg k' e hp hr=>?_⟩;exact Bool.noConfusion (hr.symm.trans hcr)
       .cases hs
      .rename_i ZX;have qN:f.kind= .normal:=by rw[hF.kind];exact ak ZX
       split at hs
       .rename_i fr nJ;injection hs with hs;subst hs
        have jf:=SV (c:=c') (cs:=rJ) fP O6 qN mj ec;obtain⟨ht1,IQ⟩:=mJ nJ;refine⟨_,rJ,w,.one jf,MR.mk' (r:=r) (lo:=Gn) ((lL hc nJ hu).mono (dG.le_refl r) je λ_ _=>rfl) (by show Gn<=kO;omega) hC hH λg k' e hp=>?_⟩;rw[IQ g k' e]at hp;cases hp
       .cases hs
     .cases hs
    .cases hs
end
end bC
end Go.Proofs.YtonnifoeokagjaaGreat
