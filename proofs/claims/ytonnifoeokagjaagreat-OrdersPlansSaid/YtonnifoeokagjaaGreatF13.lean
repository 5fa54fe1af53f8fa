/- The theorem plans_holds of OrdersPlans: part 13 of its proof; no conditions. -/
import Derived.Test.YtonnifoeokagjaaGreatF12
namespace Go.Proofs.YtonnifoeokagjaaGreat
set_option linter.all false
set_option maxRecDepth 8000
open Go Go.RowKit
open Tryz
open Nat(reduceAdd reduceMul)
namespace bC
noncomputable section
variable{nr:Mn}
def MTr(Pk:ba->Prop)(σ:kS)(aO:Hd)(d:Nat):Prop:=∃pre lo fC par rk,MI Pk σ aO pre lo fC par rk (λ_=>False)/\∀t g n,σ t=some (g,n)->fC t<=d
def Lt(σ:kS)(aO h0:Hd):Option (Hd×ba)->Prop
 |none=>aO=h0
 |some (a,m)=>∃na q,σ a.ao=some (a.bk,na)/\na.cQ=true/\q<na.aE.n/\(na.aE.e q).deep=true/\(na.aE.e q).link=h0/\(na.aE.e q).m=m
def WU(n nl nr:Mn)(sep:ba)(x:Hd):Prop:=
 (n.cQ=true/\∃L Rr,IW n.aE x L Rr/\nl={n with aE:=L}/\nr=⟨true,Rr,zR⟩/\sep=pP (n.aE.e 3).m)\/(n.cQ=false/\nl={n with aN:=n.aN.left x}/\nr=⟨false,vG,n.aN.right⟩/\sep=n.aN.sep)
structure LU(n:Mn):Prop where
 l:n.cQ=true->n.aE.R/\n.aE.n=7
 i:n.cQ=false->n.aN.R/\n.aN.aE=false/\n.aN.aJ.length=5
section
variable{Pk:ba->Prop}{σ σ1:kS}{aO gz:Hd}{pre lo:Nat->ba}{fC par rk:Nat->Nat}{iJ:Nat->Prop}{L:List Hd}{o:Option (Hd×ba)}{d c c1 j:Nat}
theorem MI.Me(I:MI Pk σ aO pre lo fC par rk iJ){s g:Nat}{n:Mn}(hs:σ s=some (g,n))(hf:n.full=true):LU n:=by
 unfold Mn.full at hf;refine⟨λhl=>?_,λhl=>?_⟩
 .rw[hl,aw rfl]at hf;obtain⟨a,b⟩:=I.lf _ _ _ hs hl;have:=dM hf;rcases b with b|b
  .omega
  .exact⟨a,b.2⟩
 .rw[hl,ak bL]at hf;obtain⟨a,b,e⟩:=I.nd _ _ _ hs hl;have:=dM hf;rcases e with e|e
  .omega
  .exact⟨a,b,e.2⟩
theorem MI.half(I:MI Pk σ aO pre lo fC par rk iJ){s g:Nat}{n nl:Mn}{sep:ba}{x:Hd}(hs:σ s=some (g,n))(hf:n.full=true)(h:WU n nl nr sep x):Hv (lo s) n nl nr sep x:=by
 have F:=I.Me hs hf;rcases h with⟨hl,A,B,S,rfl,rfl,rfl⟩|⟨hl,rfl,rfl,rfl⟩
 .exact Hv.aE I hs hl (F.l hl).2 S
 .exact Hv.aN I hs hl (F.i hl).2.2
structure tD(Pk:ba->Prop)(σ σ1:kS)(gz:Hd)(L:List Hd)(o:Option (Hd×ba))(d c c1 j:Nat):Prop where
 bi:∃pre lo fC par rk,MI Pk σ1 gz pre lo fC par rk (· =(at_ L (j-1)).ao)/\∀t g n,σ1 t=some (g,n)->fC t<=d
 old:∀q,q+1<j->∃n,σ (at_ L q).ao=some ((at_ L q).bk,n)/\σ1 (at_ L q).ao=some ((at_ L q).bk,n)/\n.cQ=false/\∃i,i<n.aN.bU.length/\n.aN.bU.getD i default=at_ L (q+1)
 cur:∃m,σ1 (at_ L (j-1)).ao=some ((at_ L (j-1)).bk,m)/\(m.full=true->∀q,j-1<=q->q<L.length->∃n,σ (at_ L q).ao=some ((at_ L q).bk,n)/\n.tight=true)
 ab:Lt σ1 gz (at_ L 0) o
 cnt:c1+(L.length-j)=c
 pos:0<j
 le:j<=L.length
theorem tD.exit(I:tD Pk σ σ1 gz L o d c c1 j){m:Mn}(hm:σ1 (at_ L (j-1)).ao=some ((at_ L (j-1)).bk,m))(h:m.full=false):MTr Pk σ1 gz (d+1):=by obtain⟨pre,lo,fC,par,rk,I1,h1⟩:=I.bi;refine⟨pre,lo,fC,par,rk,I1.Mr λs g n hs hn hf=>?_,λt g n ht=>by have:=h1 t g n ht;omega⟩;subst hs;rw[hm]at hn;injection hn with hn;injection hn with _ hn;subst hn;rw[h]at hf;cases hf
def RX(σ:kS)(L:List Hd)(c:Nat):Prop:=∃m,m<=c/\((m<L.length/\∃n,σ (at_ L (L.length-1-m)).ao=some ((at_ L (L.length-1-m)).bk,n)/\n.tight=false)\/m=L.length+1)
theorem tD.room(I:tD Pk σ σ1 gz L o d c c1 j)(hN:RX σ L c){m:Mn}(hm:σ1 (at_ L (j-1)).ao=some ((at_ L (j-1)).bk,m))(h:m.full=true):
 c1≠0/\(j=1->2<=c1):=by
 obtain⟨m',h1,h2⟩:=I.cur;rw[hm]at h1;injection h1 with h1;injection h1 with _ h1;subst h1;have h4:=h2 h;obtain⟨M,hM,hc⟩:=hN;have:=I.cnt;have:=I.pos;have:=I.le;rcases hc with⟨g1,n,g2,g3⟩|g
 .have:L.length-1-M<j-1:=by
   rcases bg (L.length-1-M) (j-1)with q|q;.exact q
   .obtain⟨n',e1,e2⟩:=h4 _ q ah;rw[g2]at e1;injection e1 with e1;injection e1 with _ e1;subst e1;rw[e2]at g3;cases g3
  constructor<;>omega
 .constructor<;>omega
theorem tD.aa'(I:tD Pk σ σ1 gz L o d c c1 j)(B:MI Pk σ1 gz pre lo fC par rk iJ):∀q' q,q<q'->q'<j->fC (at_ L q').ao<fC (at_ L q).ao/\pre (at_ L q').ao=pre (at_ L q).ao:=by
 intro q'
 induction q' with
 |zero=>omega
 |succ q' ih=>
  intro q h1 h2;obtain⟨n,a1,a2,a3,i,a4,a5⟩:=I.old q' h2;obtain⟨m,b1,b2,b3,_⟩:=B.lQ _ _ _ a2 a3 i a4;rw[a5]at b2 b3;rcases bg q q' with h|h
  .have:=ih q h ah;exact⟨ah,b3.trans this.2⟩
  .have:q=q':=ah;subst this;exact⟨ah,b3⟩
theorem tD.off(I:tD Pk σ σ1 gz L o d c c1 j)(B:MI Pk σ1 gz pre lo fC par rk iJ){a:Hd}{m:ba}(ho:o=some (a,m)){q:Nat}(hq:q<j):(at_ L q).ao≠a.ao:=by
 have xz:=I.ab;rw[ho]at xz;obtain⟨na,p,h1,h2,h3,h4,h5,h6⟩:=xz;have e:=((B.ao _ _ _ h1 h2 p h3).link h4).2.1;have l8:=B.Sx h1 h2 h3 h4;rw[h5]at e;have e2:pre (at_ L q).ao=pre (at_ L 0).ao:=by
  rcases qd q with h|h;.rw[h]
  .exact(I.aa' B q 0 h hq).2
 intro e3;rw[e3,e]at e2;have:=fN List.length e2;rw[aq]at this;omega
theorem tD.split(I:tD Pk σ σ1 gz L o d c c1 j)(hj:2<=j){n:Mn}(hn:σ1 (at_ L (j-1)).ao=some ((at_ L (j-1)).bk,n))(hf:n.full=true){u:Mn}(hu:σ1 (at_ L (j-2)).ao=some ((at_ L (j-2)).bk,u)):
 (at_ L (j-2)).ao≠(at_ L (j-1)).ao/\LU n/\u.cQ=false/\u.aN.R/\u.aN.aE=false/\
 ∀(x:Hd) (nl nr:Mn) (sep:ba) (c2:Nat),σ1 x.ao=none->c2+1=c1->WU n nl nr sep x->u.aN.dI sep=true/\u.aN.has sep=false/\
  tD Pk σ (up (up (up σ1 (at_ L (j-1)).ao ((at_ L (j-1)).bk,nl)) x.ao (x.bk,nr)) (at_ L (j-2)).ao ((at_ L (j-2)).bk,{u with aN:=u.aN.add sep x})) gz L o d c c2 (j-1):=by
 obtain⟨pre,lo,fC,par,rk,B,h1⟩:=I.bi;obtain⟨u',a1,a2,a3,i,a4,a5⟩:=I.old (j-2) ah;rw[hu]at a2;injection a2 with a2;injection a2 with _ a2;subst a2;rw[show j-2+1=j-1 from ah]at a5;have acL:=I.aa' B;have cx:∀q q',q<q'->q'<j->(at_ L q).ao≠(at_ L q').ao:=λq q' g1 g2 e=>by have:=(acL q' q g1 g2).1;rw[e]at this;omega
 obtain⟨yG,hul,_⟩:=B.nd _ _ _ hu a3;refine⟨cx _ _ ah ah,B.Me hn hf,a3,yG,hul,λx nl nr sep c2 hx hc hh=>?_⟩;have hr:gz.ao≠(at_ L (j-1)).ao:=λe=>by obtain⟨_,_,_,_,b4,_⟩:=B.lQ _ _ _ hu a3 i a4;rw[a5]at b4;have:=B.rt.2.2.2;rw[e,b4]at this;exact cx _ _ ah ah this
 obtain⟨k1,k2,lH,jn,mT,par',UA,k3,k4⟩:=B.split (x:=x) hn (B.half hn hf hh) hx hu a3 a4 a5 hr;have Vh:∀q,q<j->(at_ L q).ao≠x.ao:=by
  intro q hq e;have:∃g m,σ1 (at_ L q).ao=some (g,m):=by
   rcases bg (q+1) j with g|g;.obtain⟨m,_,g2,_⟩:=I.old q g;exact⟨_,_,g2⟩
   .have:q=j-1:=ah;subst this;exact⟨_,_,hn⟩
  obtain⟨g,m,g2⟩:=this;rw[e,hx]at g2;cases g2
 refine⟨k1,k2,⟨⟨lH,jn,mT,par',UA,k3,λt g m ht=>?_⟩,λq hq=>?_,⟨_,cO,λhl=>?_⟩,?_,by have:=I.cnt;have:=I.le;omega,ah,by have:=I.le;omega⟩⟩
 .have KP:fC (at_ L (j-1)).ao<=d:=h1 _ _ _ hn;by_cases e1:t=(at_ L (j-2)).ao;.rw[e1,(k4 _ (Vh _ ah)).2.2];exact h1 _ _ _ hu
  rw[cH e1]at ht;by_cases e2:t=x.ao
  .have q1:=k3.cQ x.ao _ _ (by rw[cH (Vh _ ah).symm,cO]);have q2:=k3.lQ _ _ _ (cO (σ:=up (up σ1 (at_ L (j-1)).ao ((at_ L (j-1)).bk,nl)) x.ao (x.bk,nr)) (s:=(at_ L (j-2)).ao)) a3 (place u.aN.aJ sep+1) (by show place u.aN.aJ sep+1<(ins u.aN.bU (place u.aN.aJ sep+1) x).length;have:=iE u.aN.aJ sep;have:=(yG.nd hul).2;rw[lC ah];omega);obtain⟨_,_,q3,_⟩:=q2;have e:(u.aN.add sep x).bU.getD (place u.aN.aJ sep+1) default=x:=by show(ins u.aN.bU (place u.aN.aJ sep+1) x).getD _ _=x;have:=iE u.aN.aJ sep;have:=(yG.nd hul).2;exact mF ah
   have q3:mT ((u.aN.add sep x).bU.getD (place u.aN.aJ sep+1) default).ao+1=mT (at_ L (j-2)).ao:=q3;rw[e,(k4 _ (Vh _ ah)).2.2]at q3;have:=h1 _ _ _ hu;rw[e2];omega
  rw[cH e2]at ht;rw[(k4 t e2).2.2];by_cases e3:t=(at_ L (j-1)).ao;.rw[e3];exact KP
  .rw[cH e3]at ht;exact h1 _ _ _ ht
 .obtain⟨m,e1,e2,e3⟩:=I.old q ah;refine⟨m,e1,?_,e3⟩;rw[cH (cx q (j-2) ah ah),cH (Vh q ah),cH (cx q (j-1) ah ah)];exact e2
 .obtain⟨m',e1,e2⟩:=I.cur;rw[hn]at e1;injection e1 with e1;injection e1 with _ e1;subst e1;have e4:=e2 hf;intro q g1 g2;rcases bg q (j-1)with g|g;.have:q=j-2:=ah;subst this;refine⟨u,a1,?_⟩;have anT:(u.aN.add sep x).aJ.length=u.aN.aJ.length+1:=lC (iE _ _);unfold Mn.full at hl;rw[show({u with aN:=u.aN.add sep x}:Mn).cQ=u.cQ from rfl,a3,ak bL]at hl;have hl:4<(u.aN.add sep x).aJ.length:=dM hl;unfold Mn.tight;rw[a3,ak bL];exact aM ah
  .exact e4 q g g2
 .have xz:=I.ab;cases ho:o with
  |none=>rw[ho]at xz;exact xz
  |some am=>
   obtain⟨a,m⟩:=am;rw[ho]at xz;obtain⟨na,p,b1,b2⟩:=xz;have o1:=I.off B ho (q:=j-1) ah;have o2:=I.off B ho (q:=j-2) ah;have o3:a.ao≠x.ao:=λe=>by rw[e,hx]at b1;cases b1
   exact⟨na,p,by rw[cH o2.symm,cH o3,cH o1.symm];exact b1,b2⟩
def tn(sep:ba)(h x:Hd):Mn:=⟨false,vG,⟨false,[sep],[],[h,x],[],false,⟨0,0⟩⟩⟩
theorem acv{sep:ba}{h x:Hd}:({ki h with aN:=(ki h).aN.add sep x}:Mn)=tn sep h x:=rfl
theorem tD.top(I:tD Pk σ σ1 gz L o d c c1 1){n:Mn}(hn:σ1 (at_ L 0).ao=some ((at_ L 0).bk,n))(hf:n.full=true):
 LU n/\∀(x y:Hd) (nl nr:Mn) (sep:ba),σ1 x.ao=none->σ1 y.ao=none->x.ao≠y.ao->WU n nl nr sep x->
  (o=none->MTr Pk (up (up (up σ1 (at_ L 0).ao ((at_ L 0).bk,nl)) x.ao (x.bk,nr)) y.ao (y.bk,tn sep (at_ L 0) x)) y (d+1))/\
  (∀a m,o=some (a,m)->∃na q,σ1 a.ao=some (a.bk,na)/\na.cQ=true/\q<na.aE.n/\na.aE.R/\(na.aE.e q).deep=true/\(na.aE.e q).m=m/\a.ao≠(at_ L 0).ao/\a.ao≠x.ao/\a.ao≠y.ao/\
   MTr Pk (up (up (up (up σ1 (at_ L 0).ao ((at_ L 0).bk,nl)) x.ao (x.bk,nr)) y.ao (y.bk,tn sep (at_ L 0) x)) a.ao (a.bk,{na with aE:=na.aE.upd q ⟨m,[],[],true,y⟩})) gz (d+1)):=by
 obtain⟨pre,lo,fC,par,rk,B,h1⟩:=I.bi;refine⟨B.Me hn hf,λx y nl nr sep hx hy FP hh=>?_⟩;have Ws:(at_ L 0).ao≠x.ao:=λe=>by rw[e,hx]at hn;cases hn
 have hsy:(at_ L 0).ao≠y.ao:=λe=>by rw[e,hy]at hn;cases hn
 have xz:=I.ab;have fin:∀{σ2:kS} {r:Hd} {lH jn:Nat->ba} {mT par':Nat->Nat},MI Pk σ2 r lH jn mT par' rk (· =(at_ L 0).ao)->σ2 y.ao=some (y.bk,ki (at_ L 0))->σ2 (at_ L 0).ao=some ((at_ L 0).bk,n)->σ2 x.ao=none->(∀t,t≠y.ao->mT t=fC t)->r.ao≠(at_ L 0).ao->
  (∀t g m,σ2 t=some (g,m)->t≠y.ao->∃g' m',σ1 t=some (g',m'))->
  MTr Pk (up (up (up σ2 (at_ L 0).ao ((at_ L 0).bk,nl)) x.ao (x.bk,nr)) y.ao (y.bk,tn sep (at_ L 0) x)) r (d+1):=by
  intro σ2 r lH jn mT par' J q1 q2 q3 q4 q5 q6;have Hh:=J.half q2 hf hh;obtain⟨_,_,CM,Gn,FF,CR,rk2,k3,k4⟩:=J.split (u:=y.ao) (gu:=y.bk) (nu:=ki (at_ L 0)) (i:=0) (x:=x) q2 Hh q3 q1 rfl (by show 0<1;omega) rfl q5;rw[acv]at k3;have hy1:mT y.ao=fC (at_ L 0).ao+1:=by obtain⟨_,_,e,_⟩:=J.lQ _ _ _ q1 rfl 0 (by show 0<1;omega);have e:mT (at_ L 0).ao+1=mT y.ao:=e;rw[<-e,q4 _ hsy]
  have hl0:=h1 _ _ _ hn;refine⟨CM,Gn,FF,CR,rk2,k3.Mr λs g m hs hm wv=>?_,λt g m ht=>?_⟩
  .subst hs;rw[cO]at hm;injection hm with hm;injection hm with _ hm;subst hm
   cases wv
  .by_cases e1:t=y.ao;.rw[e1,(k4 _ FP.symm).2.2,hy1];omega
   rw[cH e1]at ht;by_cases e2:t=x.ao;.obtain⟨_,_,e,_⟩:=k3.lQ _ _ _ cO rfl 1 (by show 1<2;omega);have e:FF x.ao+1=FF y.ao:=e;rw[(k4 _ FP.symm).2.2,hy1]at e;rw[e2];omega
   rw[cH e2]at ht;rw[(k4 t e2).2.2,q4 t e1];by_cases e3:t=(at_ L 0).ao;.rw[e3];omega
   .rw[cH e3]at ht;obtain⟨g',m',h'⟩:=q6 _ _ _ ht e1;have:=h1 _ _ _ h';omega
 refine⟨λho=>?_,λa m ho=>?_⟩
 .rw[ho]at xz;have xz:gz=at_ L 0:=xz;obtain⟨lH,jn,mT,par',J,k⟩:=B.TF hy;rw[xz]at J;have:=fin J cO (by rw[cH hsy];exact hn) (by rw[cH FP];exact hx) (λt ht=>(k t ht).2.2) hsy.symm (λt g m ht Db=>⟨g,m,by rw[cH Db]at ht;exact ht⟩);have e:up (up (up (up σ1 y.ao (y.bk,ki (at_ L 0))) (at_ L 0).ao ((at_ L 0).bk,nl)) x.ao (x.bk,nr)) y.ao (y.bk,tn sep (at_ L 0) x)=up (up (up σ1 (at_ L 0).ao ((at_ L 0).bk,nl)) x.ao (x.bk,nr)) y.ao (y.bk,tn sep (at_ L 0) x):=by
   funext t;unfold up
   by_cases h:t=y.ao;.rw[aw h,aw h]
   .simp only[ak h]
  rw[e]at this;exact this
 .have o1:=I.off B ho (q:=0) ah;rw[ho]at xz;obtain⟨na,q,b1,b2,b3,b4,b5,b6⟩:=xz;have hax:a.ao≠x.ao:=λe=>by rw[e,hx]at b1;cases b1
  have UW:a.ao≠y.ao:=λe=>by rw[e,hy]at b1;cases b1
  refine⟨na,q,b1,b2,b3,(B.lf _ _ _ b1 b2).1,b4,b6,o1.symm,hax,UW,?_⟩;obtain⟨lH,jn,mT,par',J,k⟩:=B.Qm (y:=y) hy b1 b2 b3 b4 b5;rw[b6]at J;have hr:gz.ao≠(at_ L 0).ao:=λe=>by have h4:=((B.ao _ _ _ b1 b2 q b3).link b4).2.2.2;rw[b5]at h4;have:=B.rt.2.2.2;rw[e,h4]at this;exact o1 this.symm
  have:=fin J (by rw[cH UW.symm,cO]) (by rw[cH o1,cH hsy];exact hn) (by rw[cH hax.symm,cH FP];exact hx) (λt ht=>(k t ht).2.2) hr (λt g m ht Db=>by
   by_cases e:t=a.ao;.exact⟨_,_,by rw[e];exact b1⟩
   .rw[cH e,cH Db]at ht;exact⟨g,m,ht⟩)
  have e:up (up (up (up (up σ1 y.ao (y.bk,ki (at_ L 0))) a.ao (a.bk,{na with aE:=na.aE.upd q ⟨m,[],[],true,y⟩})) (at_ L 0).ao ((at_ L 0).bk,nl)) x.ao (x.bk,nr)) y.ao (y.bk,tn sep (at_ L 0) x)=up (up (up (up σ1 (at_ L 0).ao ((at_ L 0).bk,nl)) x.ao (x.bk,nr)) y.ao (y.bk,tn sep (at_ L 0) x)) a.ao (a.bk,{na with aE:=na.aE.upd q ⟨m,[],[],true,y⟩}):=by
   funext t;unfold up
   by_cases h:t=a.ao
   .have n1:¬t=y.ao:=by rw[h];exact UW
    have n2:¬t=x.ao:=by rw[h];exact hax
    have n3:¬t=(at_ L 0).ao:=by rw[h];exact o1.symm
    simp only[ak n1,ak n2,ak n3,aw h]
   .by_cases h2:t=y.ao;.simp only[aw h2,ak h]
    .simp only[ak h2,ak h]
  rw[e]at this;exact this
end
variable{L:List Hd}{h:aG}{nx:Nat}
section
variable{Pk:ba->Prop}{σ:kS}{aO:Hd}{pre lo:Nat->ba}{fC par rk:Nat->Nat}{iJ:Nat->Prop}
theorem MI.chain(I:MI Pk σ aO pre lo fC par rk iJ):∀(d:Nat) (s g:Nat) (n:Mn),σ s=some (g,n)->fC s=d->∃l:List Nat,l.length=d+1/\l.Nodup/\∀x∈l,fC x<=d/\∃g n,σ x=some (g,n):=by
 intro d
 induction d with
 |zero=>exact λs g n hs hd=>⟨[s],rfl,bL,λx hx=>by rw[aR.1 hx];exact⟨ah,g,n,hs⟩⟩
 |succ d ih=>
  intro s g n hs hd;have hl:n.cQ=false:=by
   cases hl:n.cQ with
   |false=>rfl
   |true=>have:=(I.cQ _ _ _ hs).1 hl;omega
  obtain⟨R,lf,_⟩:=I.nd _ _ _ hs hl;obtain⟨m,a1,a2,_⟩:=I.lQ _ _ _ hs hl 0 (by have:=(R.nd lf).2;omega);obtain⟨l,b1,b2,b3⟩:=ih _ _ _ a1 ah;refine⟨s::l,by simp[b1],jG.2 ⟨λh=>by have:=(b3 s h).1;omega,b2⟩,λx hx=>?_⟩;rcases bE.1 hx with rfl|hx;.exact⟨ah,g,n,hs⟩
  .have:=b3 x hx;exact⟨ah,this.2⟩
theorem nS.node{k:ba}{h:Hd}{l:List Hd}{f:Hd}{m:Mn}(D:nS σ k h l f m):0<l.length/\at_ l 0=h/\at_ l (l.length-1)=f/\∀q,q+1<l.length->∃n,σ (at_ l q).ao=some ((at_ l q).bk,n)/\n.cQ=false/\at_ l (q+1)=n.aN.bU.getD (n.aN.iU k) default:=by
 induction D with
 |here hs hl=>exact⟨bL,rfl,rfl,λq hq=>by simp at hq⟩
 |@lQ h n l f m hs hl D ih=>
  obtain⟨a1,a2,a3,a4⟩:=ih;refine⟨bL,rfl,?_,λq hq=>?_⟩
  .rw[<-a3];obtain⟨x,l',rfl⟩:∃x l',l=x::l':=by cases l with|nil=>simp at a1|cons x l'=>exact⟨x,l',rfl⟩
   simp[at_]
  .cases q with
   |zero=>exact⟨n,hs,hl,a2⟩
   |succ q=>obtain⟨n',b1,b2,b3⟩:=a4 q (by simpa using hq);exact⟨n',b1,b2,b3⟩
theorem tD.start(I:MI Pk σ aO pre lo fC par rk (λ_=>False)){d:Nat}(hd:∀t g n,σ t=some (g,n)->fC t<=d){k:ba}{h f:Hd}{m:Mn}(D:nS σ k h L f m){o:Option (Hd×ba)}(ho:Lt σ aO h o)(EP:∀a mk,o=some (a,mk)->pre f.ao=pre h.ao)
 {l:Lf} (hI:MI Pk (up σ f.ao (f.bk,{m with aE:=l})) aO pre lo fC par rk (· =f.ao)) (hn:l.n<=m.aE.n+1) (c:Nat):
 tD Pk σ (up σ f.ao (f.bk,{m with aE:=l})) aO L o d c c L.length:=by
 obtain⟨a1,a2,a3,a4⟩:=D.node;obtain⟨b1,b2⟩:=D.aE;have zq:∀q' q,q<q'->q'<L.length->fC (at_ L q').ao<fC (at_ L q).ao:=by
  intro q'
  induction q' with
  |zero=>omega
  |succ q' ih=>
   intro q g1 g2;obtain⟨n,c1,c2,c3⟩:=a4 q' g2;obtain⟨R,lf,_⟩:=I.nd _ _ _ c1 c2;obtain⟨_,_,e,_⟩:=I.lQ _ _ _ c1 c2 _ (R.A3 lf k);rw[<-c3]at e;rcases bg q q' with h|h
   .have:=ih q h ah;omega
   .have:q=q':=ah;subst this;omega
 refine⟨⟨pre,lo,fC,par,rk,by rw[a3];exact hI,λt g n ht=>?_⟩,λq hq=>?_,⟨{m with aE:=l},by rw[a3];exact cO,λhf=>?_⟩,?_,ah,a1,an _⟩
 .by_cases e:t=f.ao;.rw[e];exact hd _ _ _ b1
  .rw[cH e]at ht;exact hd _ _ _ ht
 .obtain⟨n,c1,c2,c3⟩:=a4 q hq;obtain⟨R,lf,_⟩:=I.nd _ _ _ c1 c2;refine⟨n,c1,?_,c2,_,R.A3 lf k,c3.symm⟩;rw[cH]; · exact c1
  intro e;have:=zq (L.length-1) q ah ah;rw[a3,e]at this;omega
 .intro q g1 g2;have:q=L.length-1:=ah;subst this;rw[a3];refine⟨m,b1,?_⟩;unfold Mn.full at hf;rw[show({m with aE:=l}:Mn).cQ=m.cQ from rfl,b2,aw rfl]at hf;have hf:6<l.n:=dM hf;unfold Mn.tight;rw[b2,aw rfl];exact aM ah
 .rw[a2];cases o with
  |none=>exact ho
  |some am=>
   obtain⟨a,mk⟩:=am;obtain⟨na,p,e1,e2,e3,e4,e5,e6⟩:=ho;have cx:a.ao≠f.ao:=λe=>by have q1:=((I.ao _ _ _ e1 e2 p e3).link e4).2.1;have q2:=I.Sx e1 e2 e3 e4;rw[e5,<-EP a mk rfl,e]at q1;have:=fN List.length q1;rw[aq]at this;omega
   exact⟨na,p,by rw[cH cx];exact e1,e2,e3,e4,e5,e6⟩
end
theorem MW.vW{t:Mt}{p:bj}(o:MW t p h nx):t.a.es.length<=4096:=by
 have i1:=uv p.fr.length (t.a.es.map jE.ao) o.tk.ok.rK λx hx=>by obtain⟨e,he,rfl⟩:=bu.1 hx;exact(o.sp.taken e he).1
 have i2:=o.pk.small;rw[bc]at i1;omega
theorem MW.fC{t:Mt}{p:bj}{h:aG}{nx:Nat}(o:MW t p h nx){Pk:ba->Prop}{aO:Hd}{pre lo:Nat->ba}{fC par rk:Nat->Nat}{iJ:Nat->Prop}(I:MI Pk (cV t.a.es) aO pre lo fC par rk iJ):∀s g n,cV t.a.es s=some (g,n)->fC s<4096:=by
 intro s g n hs;obtain⟨l,h1,h2,h3⟩:=I.chain _ _ _ _ hs rfl;have:=yz l (t.a.es.map jE.ao) h2 λx hx=>by obtain⟨_,g',n',hx'⟩:=h3 x hx;obtain⟨e,he,e1,_⟩:=lG hx';exact bu.2 ⟨e,he,e1⟩
 have:=o.vW;rw[bc]at*;omega
variable{Pk:ba->Prop}{aO hd:Hd}{fm:Mn}{iJ:Nat->Prop}{par rk:Nat->Nat}
def aa4:Nat->cU:=λid=>if id=4 then[([0,1,2],[],some 3),([],[1],some 4),([5,6,7],[],some 8),([],[],none)]else[]
theorem MI.hi{Pk:ba->Prop}{σ:kS}{aO:Hd}{pre lo:Nat->ba}{fC par rk:Nat->Nat}{iJ:Nat->Prop}(I:MI Pk σ aO pre lo fC par rk iJ){s g:Nat}{n:Mn}(hs:σ s=some (g,n)):n.cQ=true->rW n.aE.cR:=λhl=>(I.lf _ _ _ hs hl).1.hi
theorem agP(t:Mt)(h:aG)(nx:Nat)(o:t.ok h nx){pre lo:Nat->ba}{fC:Nat->Nat}(I:MI Pk (cV t.a.es) aO pre lo fC par rk iJ)
 {m:ba} (hm:rW m)  {n:Mn} (hs:cV t.a.es hd.ao=some (hd.bk,n)) (je:¬pP m<lo hd.ao) (hc:n.mR=true->pP m<n.gA) {l:List Hd} {f:Hd}  (uu:nS (cV t.a.es) (pP m) hd l f fm):
 aA prog 315 [.ptr t.tb 0,hd.av,.agg (tF m),.g .nilFunc] h nx (dr (.dN [fm.aE.av,bQ true]) h nx):=by
 have db:=o.lt;have Hk:¬(nx=nx+1):=ah;have LY:¬(nx=nx+1+1):=ah;have UO:¬(nx+1=nx+1+1):=ah;refine aA.pc 4 aa4 func315 ?_;simp+decide-dsimp only[f315,go_sem,Hd.av,Hd.cells,kW];refine cL _ _ (λmm s h' nx'=>∃(y:Hd) (ny:Mn) (l':List Hd),cV t.a.es y.ao=some (y.bk,ny)/\mm=l'.length/\¬pP m<lo y.ao/\(ny.mR=true->pP m<ny.gA)/\nS (cV t.a.es) (pP m) y l' f fm/\
  ao s 0= .ptr t.tb 0/\ao s 3= .g .nilFunc/\ao s 5= .ptr nx 0/\ao s 6= .ptr (nx+1) 0/\ao s 8= .ptr (nx+1+1) 0/\(aH nx h h'/\au h' nx=some (.cells [int y.ao,u64 y.bk] 245)/\au h' (nx+1)=some (.cells (tF m) 264)/\au h' (nx+1+1)=some (.cells vG.cells 269))/\nx+3<=nx') (n:=l.length) ?_ ?_
 .simp+decide-dsimp only[go_sem,Hk,LY,UO];exact⟨hd,n,l,hs,rfl,je,hc,uu,jh,rfl⟩
 rintro mm s h' nx' ⟨y,ny,l',hy,rfl,ylo,yc,yd,s0,s3,s5,s6,s8,⟨S0,g0,g1,g2⟩,l1⟩;have o':=o.aX (h':=h') (nx':=nx') (λb hb=>S0 b (o.dm hb)) ah;simp+decide-dsimp only[go_sem,s0,s3,s5,g0];refine bm (ajt t h' nx' o' hy) ?_;obtain⟨e,he,_,_,e3,_⟩:=jP o'.ok hy;have hl:ny.aE.sl.length=15:=by rw[<-e3];exact o.sl e he
 have fs:=AY (A:=Bg.map AV.g) (n:=ny) rfl hl;have fa:=Bp hl;have fl:=oD hl;have n0:¬(nx=nx'):=ah;have n1:¬(nx+1=nx'):=ah;have n2:¬(nx+1+1=nx'):=ah;have F:wF ny.cells 0 ny:=wF.mk' (pre:=[]) hl;have f1:=F.cQ;have f2:=F.aE;have f3:=F.aN;simp+decide-dsimp only[go_sem,s6,g1,fs,fl,F8,n1];generalize hH:aK (aK h' nx' (.cells (Bg.map AV.g) 271)) nx' (.cells ny.cells 271)=H;have S1:aH nx h H:=by rw[<-hH];exact(S0.set ah).set ah
 have k0:au H nx=some (.cells [int y.ao,u64 y.bk] 245):=by rw[<-hH,aj,ak n0,aj,ak n0];exact g0
 have k1:au H (nx+1)=some (.cells (tF m) 264):=by rw[<-hH,aj,ak n1,aj,ak n1];exact g1
 have k2:au H (nx+1+1)=some (.cells vG.cells 269):=by rw[<-hH,aj,ak n2,aj,ak n2];exact g2
 have kn:au H nx'=some (.cells ny.cells 271):=by rw[<-hH,aj,aw rfl]
 clear hH;have nh:=(Mn.fZ (I.hi hy) hm).2 yc;have c:=amF (h:=H) (nx:=nx'+1) kn (aW _) F hl (I.hi hy) m hm;rw[nh]at c;refine bm c ?_;cases yd with
 |here qH wH=>
  have rP:=qH.symm.trans hy;injection rP with rP;injection rP with _ rP;subst rP
  rw[wH]at f1;have R:=(I.lf _ _ _ hy wH).1;have ft:=ji (a:=vG) (b:=fm.aE) rfl R.sl;have fll:=dW R.sl;have UM:=jU R.sl;simp+decide-dsimp only[go_sem,s8,k2,kn,f1,f2,ft,fll,UM,gN];refine .dT ?_ (.jS (.cQ (uC _)) .cA) rfl
  repeat' first|exact aH.refl|apply aH.fJ|(apply aH.set;rotate_left;omega)
  exact S1
 |@lQ _ n' l'' _ _ qH wH d'=>
  have rP:=qH.symm.trans hy;injection rP with rP;injection rP with _ rP;subst rP
  rw[wH]at f1;obtain⟨R,lf,_⟩:=I.nd _ _ _ hy wH;have hcv:n'.aN.dI (pP m)=true:=by unfold Mn.dI at nh;rw[wH]at nh;exact nh
  simp+decide-dsimp only[go_sem,aa4,s6,k1,kn,f1,f3];refine aZ (YD m hm.len) ?_;simp+decide-dsimp only[go_sem,kn,f3];have c:=YN n'.aN R lf (pP m) hcv;rw[Nd.av]at c;refine aZ c ?_;simp+decide-dsimp only[go_sem,s0,s3,s5,s6,s8,k0,k1,k2,Hd.av,Hd.cells,reduceAdd];obtain⟨m',q1,q2,q3,q4,q5⟩:=I.down hy wH ylo yc;refine⟨_,aW _,_,m',l'',q1,rfl,q4,q5,d',⟨by(repeat' first|exact aH.refl|apply aH.fJ|(apply aH.set;rotate_left;omega));exact S1,rfl⟩,ah⟩
def QY:Nat->cU:=λid=>if id=2 then[(z9,[],some 10),([11,12,13],[],some 14),([],[],some 15),([],[],none)]else if id=5 then[([0,1,2,3,4,10],[3,4],some 5),([],[3,10],some 6),([7,8,9],[10],some 11),([],[],some 12),([],[],none)]else[]
theorem ali(t:Mt)(h:aG)(nx:Nat)(o:t.ok h nx){pre lo:Nat->ba}{fC:Nat->Nat}(I:MI Pk (cV t.a.es) aO pre lo fC par rk iJ)
 {m:ba} (hm:rW m)  {n:Mn} (hs:cV t.a.es hd.ao=some (hd.bk,n)) (je:¬pP m<lo hd.ao) (hc:n.mR=true->pP m<n.gA) {l:List Hd} {f:Hd}  (uu:nS (cV t.a.es) (pP m) hd l f fm) (bP:l.length<=60000):
 aA prog 329 [.ptr t.tb 0,hd.av,.agg (tF m)] h nx (dr (r7 l) h nx):=by
 have db:=o.lt;have Hk:¬(nx=nx+1):=ah;have LY:¬(nx=nx+1+1):=ah;have UO:¬(nx+1=nx+1+1):=ah;refine aA.pc 3 QY func329 ?_;simp+decide-dsimp only[f329,go_sem,Hd.av,Hd.cells,Hk,reduceAdd];refine cL _ _ (λmm s h' nx'=>∃(M Lp:List Hd) (y:Hd) (ny:Mn) (l':List Hd) (v:AV),M=Lp++[y]/\mm=l'.length/\cV t.a.es y.ao=some (y.bk,ny)/\¬pP m<lo y.ao/\(ny.mR=true->pP m<ny.gA)/\nS (cV t.a.es) (pP m) y l' f fm/\l=Lp++l'/\
  ao s 0= .ptr t.tb 0/\ao s 5= .ptr (nx+1) 0/\ao s 7=v/\(aH nx h h'/\au h' (nx+1)=some (.cells (tF m) 264))/\nx+2<=nx'/\Own Hd.cells 245 2 h' v M/\In (nx+2) nx' v) (n:=l.length) ?_ ?_
 .simp+decide-dsimp only[go_sem,UO];refine⟨[hd],[],hd,n,l,.sl (nx+1+1) 0 1 1,rfl,rfl,hs,je,hc,uu,rfl,?_⟩;exact⟨rfl,jh,.inr ⟨nx+1+1,1,_,rfl,gl,an _,rfl,rfl⟩,.sl (an _) (aW _)⟩
 rintro mm s h' nx' ⟨M,Lp,y,ny,l',v,hM,rfl,hy,ylo,yc,yd,hl,s0,s5,s7,⟨S0,g1⟩,l1,q3,q4⟩;have hMl:M.length=Lp.length+1:=by rw[hM,aq];rfl
 have hl1:=yd.node.1;have Gv:l.length=Lp.length+l'.length:=by rw[hl,aq]
 have A5:M.getD (M.length-1) default=y:=by rw[hM,aq];exact vg
 have N0:M.length-1<M.length:=ah;obtain⟨b,A,e1,e2,e3,e4⟩:=q3.idx gr pH N0;rw[A5]at e4;have hb:=q4 b e1;have w1:1<=M.length:=ah;have w2:M.length<9223372036854775808:=ah;have o':=o.aX (h':=h') (nx':=nx') (λb hb=>S0 b (o.dm hb)) ah;obtain⟨e,he,_,_,c3,c4,c5,c6⟩:=jP o'.ok hy;have qQ:ny.aE.sl.length=15:=by rw[<-c3];exact o.sl e he
 have F:wF (u64 y.bk::ny.cells) 1 ny:=wF.mk' (pre:=[u64 y.bk]) qQ;have f1:=F.cQ;have F0:wF ny.cells 0 ny:=wF.mk' (pre:=[]) qQ;have f3:=F0.aN;have f4:=F0.cQ;simp+decide-dsimp only[go_sem,QY,s0,s7,o'.tr,q3.len,w1,w2,e2,e3,e4,Hd.cells];refine bm (c6 _ _ .refl ah) ?_;cases yd with
 |here qH wH=>
  have rP:=qH.symm.trans hy;injection rP with rP;injection rP with _ rP;subst rP
  rw[wH]at f1 f4;simp+decide-dsimp only[go_sem,s7,c4,f1];rw[hl,<-hM];exact .of S0 (q3.fz (q4.le ah (an _)) sN)
 |@lQ _ n' l'' _ _ qH wH d'=>
  have rP:=qH.symm.trans hy;injection rP with rP;injection rP with _ rP;subst rP
  rw[wH]at f1 f4;obtain⟨R,lf,_⟩:=I.nd _ _ _ hy wH;have nh:=(Mn.fZ (I.hi hy) hm).2 yc;have hcv:n'.aN.dI (pP m)=true:=by unfold Mn.dI at nh;rw[wH]at nh;exact nh
  have g4:∀q,¬(e.bJ=nx'+q+10):=λq=>ah;have g5:∀q,¬(nx+1=nx'+q+10):=λq=>ah;simp+decide-dsimp only[go_sem,QY,s5,c4,g1,g4,g5,f1,f3,reduceAdd];refine aZ (YD m hm.len) ?_;simp+decide-dsimp only[go_sem,c4,g4,f3];have c:=YN n'.aN R lf (pP m) hcv;rw[Nd.av]at c;refine aZ c ?_;obtain⟨m',k1,k2,k3,k4,k5⟩:=I.down hy wH ylo yc;simp+decide-dsimp only[go_sem,s7,Hd.av,Hd.cells,cr,cB,reduceAdd];refine km (c:=Hd.cells) (q3.aX λq e'=>?_) gr (λ_=>rfl) ah (n'.aN.bU.getD (n'.aN.iU (pP m)) default) ?_
  .have:=q4 q e'
   repeat rw[aj,ak ah]
  intro v' h2 dU l2 p1 p2 p3;simp+decide-dsimp only[go_sem,s0,s5,s7];refine⟨_,aW _,M++[n'.aN.bU.getD (n'.aN.iU (pP m)) default],M,_,m',l'',v',rfl,rfl,k1,k4,k5,d',by rw[hM,ay];exact hl,?_⟩;have hv:∀q,q<nx+2->au h2 q=au h' q:=λq hq=>by
   rw[p3 q ah (λe'=>by have:=q4 q e';omega)]
   repeat rw[aj,ak ah]
  refine⟨rfl,⟨λq hq=>by rw[hv q ah];exact S0 q hq,by rw[hv _ ah];exact g1⟩,ah,p1,λq e'=>?_⟩;rcases p2 q e' with e2|e2
  .have:=q4 q e2;omega
  .omega
variable{i j k k':Nat}
def CU(k:Nat)(s:ba):ba:=if s.length<=k then s else s.take k++[0]
theorem y8{x:UInt8}{s:ba}:CU (k+1) (x::s)=x::CU k s:=by
 unfold CU;by_cases h:s.length<=k;.rw[aw h,aw (by simpa using h)]
 .rw[ak h,ak (by simpa using h)];rfl
theorem K6:∀(k:Nat) (a b:ba),CU k a<CU k b->a<b
 |0,[],[],h=>absurd h (by simp[CU])
 |0,[],y::b,_=>bL
 |0,x::a,[],h=>absurd h (by simp[CU])
 |0,x::a,y::b,h=>absurd h (by simp[CU])
 |k+1,[],[],h=>absurd h (by simp[CU])
 |k+1,[],y::b,_=>bL
 |k+1,x::a,[],h=>by rw[y8]at h;exact absurd h (by simp[CU])
 |k+1,x::a,y::b,h=>by
  rw[y8,y8,du]at h;rw[du];rcases h with h|⟨h1,h2⟩
  .exact .inl h
  .exact .inr ⟨h1,K6 k a b h2⟩
theorem Q9{a b:ba}(h:cut a<cut b):a<b:=K6 8 a b h
theorem Cm:∀(x a b:ba),x++a<x++b↔a<b
 |[],_,_=>Iff.rfl
 |c::x,a,b=>by
  rw[jY,jY,du,Cm x a b];have:¬c<c:=by rw[cW];omega
  simp[this]
theorem Ii{m r:ba}(hm:rW m)(h:m.length=9↔r≠[]):cut (nameOf m++r)=m:=by
 have hl:=hm.len;by_cases h9:m.length=9
 .have hr:=h.1 h9;have qa:0<r.length:=List.length_pos_iff.2 hr;have ln:(nameOf m).length=8:=by unfold nameOf;rw[ax];omega
  have hR:rW (cut (nameOf m++r)):=DW _;refine hR.inj hm ?_ ?_;.rw[PW];refine wO λi hi=>?_;rw[az,cj ah];unfold nameOf;rw[eE,aw hi,az]
  .rw[kM,aq,ln,h9];omega
 .have hr:r=[]:=cS λq=>h9 (h.2 q);subst hr;have e:nameOf m=m:=aD ah;unfold cut;rw[cD,e,aw ah]
theorem GJ{s:ba}:nameOf (cut s)=s.take 8:=qC s
theorem Lf.Pl.uniq{l:Lf}{m:ba}(a:l.Pl m i)(b:l.Pl m j):i=j:=by
 rcases cI i j with h|h|h;.exact absurd (b.lt i h) (a.ge (by have:=b.le;omega))
 .exact h
 .exact absurd (a.lt j h) (b.ge (by have:=a.le;omega))
def Lf.go(l:Lf)(m:ba)(b:Bool)(i:Nat):Nat:=if(i<l.n/\(l.e i).m=m)/\b=true then i+1 else i
inductive CD(σ:kS)(m:ba)(b:Bool):Mn->Nat->Option Sl->Prop
 |jz {n:Mn} {i:Nat} (pl:n.aE.Pl m i) (h:n.aE.go m b i<n.aE.n):CD σ m b n 0 (some (n.aE.e (n.aE.go m b i)))
 |none {n:Mn} {i:Nat} (pl:n.aE.Pl m i) (h:¬n.aE.go m b i<n.aE.n) (hb:n.aE.bd=false):CD σ m b n 0 none
 |next {n n':Mn} {i k:Nat} {r:Option Sl} (pl:n.aE.Pl m i) (h:¬n.aE.go m b i<n.aE.n) (hb:n.aE.bd=true) (hs:σ n.aE.next.ao=some (n.aE.next.bk,n')) (d:CD σ m b n' k r):CD σ m b n (k+1) r
theorem CD.fun{σ:kS}{m:ba}{b:Bool}{n:Mn}{r r':Option Sl}(x:CD σ m b n k r)(y:CD σ m b n k' r'):r=r':=by
 induction x generalizing k' r' with
 |jz pl h=>
  cases y with
  |jz Am h'=>rw[pl.uniq Am]
  |none Am h' _=>rw[pl.uniq Am]at h;exact absurd h h'
  |next Am h' _ _ _=>rw[pl.uniq Am]at h;exact absurd h h'
 |none pl h hb=>
  cases y with
  |jz Am h'=>rw[pl.uniq Am]at h;exact absurd h' h
  |none _ _ _=>rfl
  |next _ _ gC _ _=>rw[hb]at gC;cases gC
 |next pl h hb hs d ih=>
  cases y with
  |jz Am h'=>rw[pl.uniq Am]at h;exact absurd h' h
  |none _ _ gC=>rw[hb]at gC;cases gC
  |next _ _ _ qH d'=>rw[hs]at qH;injection qH with e;injection e with _ e;subst e;exact ih d'
def zU(σ:kS)(h:Hd)(m:ba)(b:Bool)(r:Option Sl):Prop:=∃L f fm k,nS σ (pP m) h L f fm/\CD σ m b fm k r
theorem zU.fun{σ:kS}{h:Hd}{m:ba}{b:Bool}{r r':Option Sl}(x:zU σ h m b r)(y:zU σ h m b r'):r=r':=by obtain⟨L,f,fm,k,d,e⟩:=x;obtain⟨L',f',fm',k',d',e'⟩:=y;obtain⟨_,_,rfl⟩:=d.fun d';exact e.fun e'
section
variable{Pk:ba->Prop}{σ:kS}{aO:Hd}{pre lo:Nat->ba}{fC par rk:Nat->Nat}{iJ:Nat->Prop}
theorem MI.akp(I:MI Pk σ aO pre lo fC par rk iJ)(m:ba)(b:Bool):∀(d s g:Nat) (n:Mn),σ s=some (g,n)->n.cQ=true->rk s<d->
 ∃k r,CD σ m b n k r/\∀z,r=some z->¬z.m<m/\(b=true->m<z.m)/\∃t g' n' j,σ t=some (g',n')/\n'.cQ=true/\j<n'.aE.n/\z=n'.aE.e j/\pre t=pre s:=by
 intro d
 induction d with
 |zero=>omega
 |succ d ih=>
  intro s g n hs hl hd;have R:=(I.lf _ _ _ hs hl).1;obtain⟨i,pl⟩:=R.pl m;by_cases h:n.aE.go m b i<n.aE.n
  .refine⟨0,_,.jz pl h,λz hz=>?_⟩;cases hz;unfold Lf.go at h⊢;by_cases c:(i<n.aE.n/\(n.aE.e i).m=m)/\b=true
   .rw[aw c]at h⊢;have q:m<(n.aE.e (i+1)).m:=by have:=R.lt (aW i) h;rw[c.1.2]at this;exact this
    exact⟨cX q,λ_=>q,s,g,n,_,hs,hl,h,rfl,rfl⟩
   .rw[ak c]at h⊢;refine⟨pl.ge h,λhb=>?_,s,g,n,_,hs,hl,h,rfl,rfl⟩;rcases jD m (n.aE.e i).m with q|q|q
    .exact q
    .exact absurd ⟨⟨h,q.symm⟩,hb⟩ c
    .exact absurd q (pl.ge h)
  .cases hb:n.aE.bd with
   |false=>exact⟨0,none,.none pl h hb,λz hz=>by cases hz⟩
   |true=>obtain⟨n',a1,a2,a3,a4⟩:=I.next _ _ _ hs hl hb;obtain⟨k,r,e1,e2⟩:=ih _ _ _ a1 a2 ah;refine⟨k+1,r,.next pl h hb a1 e1,λz hz=>?_⟩;obtain⟨q1,q2,t,g',n',j,q3,q4,q5,q6,q7⟩:=e2 z hz;exact⟨q1,q2,t,g',n',j,q3,q4,q5,q6,q7.trans a3⟩
structure Head(σ:kS)(pre lo:Nat->ba)(h:Hd)(p:ba):Prop where
 ex:∃n,σ h.ao=some (h.bk,n)/\n.mR=false
 lo:lo h.ao=[]
 pre:pre h.ao=p
theorem MI.head(I:MI Pk σ aO pre lo fC par rk iJ):Head σ pre lo aO []:=⟨I.rt.1,I.rt.2.1,I.rt.2.2.1⟩
theorem MI.abg(I:MI Pk σ aO pre lo fC par rk iJ){s g:Nat}{n:Mn}(hs:σ s=some (g,n))(hl:n.cQ=true)(hi:i<n.aE.n)(hd:(n.aE.e i).deep=true):Head σ pre lo (n.aE.e i).link (pre s++nameOf (n.aE.e i).m):=by obtain⟨a1,a2,a3,_⟩:=(I.ao _ _ _ hs hl i hi).link hd;exact⟨a1,a3,a2⟩
theorem MI.go(I:MI Pk σ aO pre lo fC par rk iJ){h:Hd}{p:ba}(H:Head σ pre lo h p)(k:ba):∃l f m,nS σ k h l f m/\l.length=fC h.ao+1/\pre f.ao=p/\¬k<lo f.ao/\(m.mR=true->k<m.gA):=by obtain⟨n,h1,h2⟩:=H.ex;obtain⟨l,f,m,a1,a2,a3,a4,a5⟩:=I.total (k:=k) _ h n h1 rfl (by rw[H.lo];exact kj) (λhb=>by rw[h2]at hb;cases hb);exact⟨l,f,m,a1,a2,by rw[a3,H.pre],a4,a5⟩
theorem MI.adt(I:MI Pk σ aO pre lo fC par rk iJ){h:Hd}{p:ba}(H:Head σ pre lo h p)(m:ba)(b:Bool):
 ∃r,zU σ h m b r/\∀z,r=some z->¬z.m<m/\(b=true->m<z.m)/\∃t g n j,σ t=some (g,n)/\n.cQ=true/\j<n.aE.n/\z=n.aE.e j/\pre t=p:=by
 obtain⟨l,f,fm,a1,a2,a3,_⟩:=I.go H (pP m);obtain⟨b1,b2⟩:=a1.aE;obtain⟨k,r,c1,c2⟩:=I.akp m b _ _ _ _ b1 b2 (aW _);refine⟨r,⟨l,f,fm,k,a1,c1⟩,λz hz=>?_⟩;obtain⟨q1,q2,t,g,n,j,q3,q4,q5,q6,q7⟩:=c2 z hz;exact⟨q1,q2,t,g,n,j,q3,q4,q5,q6,q7.trans a3⟩
end
def SrC(key:ba)(after:Bool)(s:Sl):Prop:=s.m≠cut key\/key<nameOf s.m++s.rest\/(nameOf s.m++s.rest=key/\after=false)
def wx(key:ba)(s:Sl):ba:=if s.m=cut key then key.drop 8 else[]
def w9(key:ba)(after:Bool)(s:Sl):Bool:=if s.m=cut key then after else false
inductive BS(σ:kS):Nat->Hd->ba->Bool->ba->Bool->Option (ba×ba)->Prop
 |none {h:Hd} {key fm:ba} {after fb:Bool} (e:zU σ h fm fb none):BS σ 0 h key after fm fb none
 |jz {h:Hd} {key fm:ba} {after fb:Bool} {s:Sl} (e:zU σ h fm fb (some s)) (hd:s.deep=false) (c:SrC key after s):BS σ 0 h key after fm fb (some (nameOf s.m++s.rest,s.val))
 |Ha {h:Hd} {key fm:ba} {after fb:Bool} {s:Sl} {k:Nat} {r:Option (ba×ba)} (e:zU σ h fm fb (some s)) (hd:s.deep=false) (c:¬SrC key after s) (n:BS σ k h key after s.m true r):BS σ (k+1) h key after fm fb r
 |Ij {h:Hd} {key fm:ba} {after fb:Bool} {s:Sl} {k:Nat} {r:ba×ba} (e:zU σ h fm fb (some s)) (hd:s.deep=true) (d:BS σ k s.link (wx key s) (w9 key after s) (cut (wx key s)) false (some r)):BS σ 0 h key after fm fb (some (nameOf s.m++r.1,r.2))
 |zh {h:Hd} {key fm:ba} {after fb:Bool} {s:Sl} {k k':Nat} {r:Option (ba×ba)} (e:zU σ h fm fb (some s)) (hd:s.deep=true) (d:BS σ k' s.link (wx key s) (w9 key after s) (cut (wx key s)) false none) (n:BS σ k h key after s.m true r):BS σ (k+1) h key after fm fb r
theorem BS.fun{σ:kS}{k k':Nat}{h:Hd}{key fm:ba}{after fb:Bool}{r r':Option (ba×ba)}(x:BS σ k h key after fm fb r)(y:BS σ k' h key after fm fb r'):r=r':=by
 induction x generalizing k' r' with
 |none e=>
  cases y with
  |none _=>rfl
  |jz e' _ _=>have:=e.fun e';cases this
  |Ha e' _ _ _=>have:=e.fun e';cases this
  |Ij e' _ _=>have:=e.fun e';cases this
  |zh e' _ _ _=>have:=e.fun e';cases this
 |jz e hd c=>
  cases y with
  |none e'=>have:=e.fun e';cases this
  |jz e' _ _=>have:=e.fun e';cases this;rfl
  |Ha e' _ c' _=>have:=e.fun e';cases this;exact absurd c c'
  |Ij e' uu _=>have:=e.fun e';cases this;rw[hd]at uu;cases uu
  |zh e' uu _ _=>have:=e.fun e';cases this;rw[hd]at uu;cases uu
 |Ha e hd c n ih=>
  cases y with
  |none e'=>have:=e.fun e';cases this
  |jz e' _ c'=>have:=e.fun e';cases this;exact absurd c' c
  |Ha e' _ c' n'=>have:=e.fun e';cases this;exact ih n'
  |Ij e' uu _=>have:=e.fun e';cases this;rw[hd]at uu;cases uu
  |zh e' uu _ _=>have:=e.fun e';cases this;rw[hd]at uu;cases uu
 |Ij e hd d ih=>
  cases y with
  |none e'=>have:=e.fun e';cases this
  |jz e' uu _=>have:=e.fun e';cases this;rw[hd]at uu;cases uu
  |Ha e' uu _ _=>have:=e.fun e';cases this;rw[hd]at uu;cases uu
  |Ij e' _ d'=>have:=e.fun e';cases this;have:=ih d';injection this with this;rw[this]
  |zh e' _ d' _=>have:=e.fun e';cases this;have:=ih d';cases this
 |zh e hd d n ihd ihn=>
  cases y with
  |none e'=>have:=e.fun e';cases this
  |jz e' uu _=>have:=e.fun e';cases this;rw[hd]at uu;cases uu
  |Ha e' uu _ _=>have:=e.fun e';cases this;rw[hd]at uu;cases uu
  |Ij e' _ d'=>have:=e.fun e';cases this;have:=ihd d';cases this
  |zh e' _ _ n'=>have:=e.fun e';cases this;exact ihn n'
theorem yN{α:Type}{p q:α->Bool}:∀(l:List α),(∀x∈l,q x=true->p x=true)->(∃x∈l,p x=true/\q x=false)->l.countP q<l.countP p
 |[],_,⟨x,hx,_⟩=>by cases hx
 |a::l,h1,h2=>by
  rw[List.countP_cons,List.countP_cons];have le:l.countP q<=l.countP p:=List.countP_mono_left λx hx=>h1 x (bB _ hx);obtain⟨x,hx,a1,a2⟩:=h2;rcases bE.1 hx with rfl|hx
  .rw[a1,a2];simp;omega
  .have:=yN l (λx hx=>h1 x (bB _ hx)) ⟨x,hx,a1,a2⟩;have:=h1 a bL;cases hq:q a with
   |false=>simp;split<;>omega
   |true=>rw[this hq];simp;omega
section
variable{Pk:ba->Prop}{σ:kS}{aO:Hd}{pre lo:Nat->ba}{fC par rk:Nat->Nat}{iJ:Nat->Prop}
structure aeX(Pk:ba->Prop)(σ:kS)(pre:Nat->ba)(p key:ba)(after:Bool)(r:ba):Prop where
 up:key<r\/(r=key/\after=false)
 pk:Pk (p++r)
 len:(p++r).length<=24
 ne:p≠[]->r≠[]
 mem:∃t g n j,σ t=some (g,n)/\n.cQ=true/\j<n.aE.n/\p++r=pre t++nameOf (n.aE.e j).m++(n.aE.e j).rest
theorem MI.search(I:MI Pk σ aO pre lo fC par rk iJ)(Ms:List ba)(hM:∀t g n j,σ t=some (g,n)->n.cQ=true->j<n.aE.n->(n.aE.e j).m∈Ms):
 ∀(d:Nat) (h:Hd) (p:ba),Head σ pre lo h p->24<=p.length+8*d->∀(key:ba) (after:Bool) (N:Nat) (fm:ba) (fb:Bool),Ms.countP (λx=>if fb then decide (fm<x)else !decide (x<fm))<=N->¬fm<cut key->
  ∃k r,BS σ k h key after fm fb r/\∀z,r=some z->aeX Pk σ pre p key after z.1:=by
 intro d
 induction d with
 |zero=>intro h p H hd;obtain⟨n,h1,_⟩:=H.ex;obtain⟨i,q1,q2⟩:=I.pl _ _ _ h1;rw[H.pre]at q1;omega
 |succ d ihd=>
  intro h p H hd key after N
  induction N with
  |zero=>
   intro fm fb hN hf;obtain⟨r,e1,e2⟩:=I.adt H fm fb;cases r with
   |none=>exact⟨0,none,.none e1,λz hz=>by cases hz⟩
   |some s=>
    obtain⟨q1,q2,t,g,n,j,q3,q4,q5,q6,q7⟩:=e2 s rfl;have:=List.countP_pos_iff (p:=λx=>if fb then decide (fm<x)else !decide (x<fm)).2 ⟨s.m,by rw[q6];exact hM _ _ _ _ q3 q4 q5,by
     cases fb with
     |false=>simpa using q1
     |true=>simpa using q2 rfl⟩
    omega
  |succ N ihN=>
   intro fm fb hN hf;obtain⟨r,e1,e2⟩:=I.adt H fm fb;cases r with
   |none=>exact⟨0,none,.none e1,λz hz=>by cases hz⟩
   |some s=>
    obtain⟨q1,q2,t,g,n,j,q3,q4,q5,q6,q7⟩:=e2 s rfl;have R:=(I.lf _ _ _ q3 q4).1.r j q5;rw[<-q6]at R;have ok:=I.ao _ _ _ q3 q4 j q5;rw[<-q6]at ok;have hsf:¬s.m<cut key:=ja hf q1;have rest:∃k r,BS σ k h key after s.m true r/\∀z,r=some z->aeX Pk σ pre p key after z.1:=by
     refine ihN s.m true ?_ hsf;have:=yN (p:=λx=>if fb then decide (fm<x)else !decide (x<fm)) (q:=λx=>if true then decide (s.m<x)else !decide (x<s.m)) Ms (λx _ hx=>by
      have hx:s.m<x:=by simpa using hx
      cases fb with
      |false=>simpa using cX (kG q1 hx)
      |true=>simpa using dZ (q2 rfl) hx) ⟨s.m,by rw[q6];exact hM _ _ _ _ q3 q4 q5,by
       cases fb with
       |false=>simpa using q1
       |true=>simpa using q2 rfl,by simpa using cw⟩
     omega
    obtain⟨k2,r2,s1,s2⟩:=rest;cases th:s.deep with
    |false=>
     by_cases c:SrC key after s
     .refine⟨0,_,.jz e1 th c,λz hz=>?_⟩;cases hz;obtain⟨k1,k2,k3⟩:=ok.key th;rw[q7,ay]at k1 k2;have OL:=Ii R.m (R.n th).2;refine⟨?_,k1,k2,λhp hr=>?_,t,g,n,j,q3,q4,q5,by rw[<-q6,q7,ay]⟩
      .rcases c with c|c
       .left;refine Q9 ?_;rw[OL];rcases jD (cut key) s.m with w|w|w
        .exact w
        .exact absurd w.symm c
        .exact absurd w hsf
       .exact c
      .have hr:nameOf s.m++s.rest=[]:=hr;rw[hr]at OL;exact k3 (by rw[q7];exact hp) OL.symm
     .exact⟨_,_,.Ha e1 th c s1,s2⟩
    |true=>
     have h9:=(R.d th).1;have l8:(nameOf s.m).length=8:=by unfold nameOf;rw[ax];omega
     have Hl:=I.abg q3 q4 q5 (by rw[<-q6];exact th);rw[<-q6,q7]at Hl;have xy:¬cut (wx key s)<cut (wx key s):=cw;obtain⟨k3,r3,d1,d2⟩:=ihd s.link (p++nameOf s.m) Hl (by rw[aq,l8];omega) (wx key s) (w9 key after s) _ (cut (wx key s)) false (an _) xy;cases r3 with
     |none=>exact⟨_,_,.zh e1 th d1 s1,s2⟩
     |some z3=>
      refine⟨0,_,.Ij e1 th d1,λz hz=>?_⟩;cases hz;obtain⟨o1,o2,o3,o4,t',g',n',j',o5,o6,o7,o8⟩:=d2 z3 rfl;have cx:z3.1≠[]:=o4 (λe=>by have:=fN List.length e;rw[aq,l8]at this;simp at this);have OL:cut (nameOf s.m++z3.1)=s.m:=Ii R.m ⟨λ_=>cx,λ_=>h9⟩;refine⟨?_,by rw[<-ay];exact o2,by rw[<-ay];exact o3,λ_ e=>by have:=fN List.length e;rw[aq,l8]at this;simp at this,t',g',n',j',o5,o6,o7,by rw[<-ay];exact o8⟩;by_cases hm:s.m=cut key
      .have ek:nameOf s.m++key.drop 8=key:=by rw[hm,GJ,bY]
       unfold wx w9 at o1;rw[aw hm,aw hm]at o1;rcases o1 with o1|⟨o1,o1'⟩
       .left;have:=(Cm (nameOf s.m) _ _).2 o1;rw[ek]at this;exact this
       .right;exact⟨by show nameOf s.m++z3.1=key;rw[o1,ek],o1'⟩
      .left;refine Q9 ?_;show cut key<cut (nameOf s.m++z3.1);rw[OL];rcases jD (cut key) s.m with w|w|w
       .exact w
       .exact absurd w.symm hm
       .exact absurd w hsf
end
inductive Pp(σ:kS)(aO:Hd):ba->Bool->List Pr->Prop
 |nil {key:ba} {after:Bool} {k:Nat} (s:BS σ k aO key after (cut key) false none):Pp σ aO key after []
 |cons {key:ba} {after:Bool} {k:Nat} {x:Pr} {L:List Pr} (s:BS σ k aO key after (cut key) false (some x)) (n:Pp σ aO x.1 true L):Pp σ aO key after (x::L)
theorem Pp.fun{σ:kS}{aO:Hd}{key:ba}{after:Bool}{L L':List Pr}(x:Pp σ aO key after L)(y:Pp σ aO key after L'):L=L':=by
 induction x generalizing L' with
 |nil s=>
  cases y with
  |nil _=>rfl
  |cons s' _=>have:=s.fun s';cases this
 |cons s n ih=>
  cases y with
  |nil s'=>have:=s.fun s';cases this
  |cons s' n'=>have:=s.fun s';cases this;rw[ih n']
section
variable{Pk:ba->Prop}{σ:kS}{aO:Hd}{pre lo:Nat->ba}{fC par rk:Nat->Nat}{iJ:Nat->Prop}
theorem MI.all(I:MI Pk σ aO pre lo fC par rk iJ)(Ms Ks:List ba)(hM:∀t g n j,σ t=some (g,n)->n.cQ=true->j<n.aE.n->(n.aE.e j).m∈Ms)(hK:∀t g n j,σ t=some (g,n)->n.cQ=true->j<n.aE.n->pre t++nameOf (n.aE.e j).m++(n.aE.e j).rest∈Ks):
 ∀(N:Nat) (key:ba) (after:Bool),Ks.countP (λx=>if after then decide (key<x)else !decide (x<key))<=N->
  ∃L,Pp σ aO key after L/\L.length<=N/\(L.map Prod.fst).Pairwise (· < ·)/\∀x∈L.map Prod.fst,¬x<key/\(after=true->key<x)/\Pk x/\x.length<=24:=by
 intro N
 induction N with
 |zero=>
  intro key after hN;obtain⟨k,r,s1,s2⟩:=I.search Ms hM 3 aO [] I.head bN key after _ (cut key) false (an _) cw;cases r with
  |none=>exact⟨[],.nil s1,an _,.nil,λx hx=>by cases hx⟩
  |some z=>
   obtain⟨o1,o2,o3,_,t,g,n,j,o5,o6,o7,o8⟩:=s2 z rfl;rw[ch]at o8;have:=List.countP_pos_iff (p:=λx=>if after then decide (key<x)else !decide (x<key)).2 ⟨z.1,by rw[o8];exact hK _ _ _ _ o5 o6 o7,by
    rcases o1 with o1|⟨o1,o1'⟩
    .cases after with
     |false=>simpa using cX o1
     |true=>simpa using o1
    .rw[o1',o1];simpa using cw⟩
   omega
 |succ N ih=>
  intro key after hN;obtain⟨k,r,s1,s2⟩:=I.search Ms hM 3 aO [] I.head bN key after _ (cut key) false (an _) cw;cases r with
  |none=>exact⟨[],.nil s1,aY _,.nil,λx hx=>by cases hx⟩
  |some z=>
   obtain⟨o1,o2,o3,_,t,g,n,j,o5,o6,o7,o8⟩:=s2 z rfl;rw[ch]at o2 o3 o8;have hp:(if after then decide (key<z.1)else !decide (z.1<key))=true:=by
    rcases o1 with o1|⟨o1,o1'⟩
    .cases after with
     |false=>simpa using cX o1
     |true=>simpa using o1
    .rw[o1',o1];simpa using cw
   have ge:¬z.1<key:=by
    rcases o1 with o1|⟨o1,_⟩;.exact cX o1
    .rw[o1];exact cw
   have db:=yN (p:=λx=>if after then decide (key<x)else !decide (x<key)) (q:=λx=>if true then decide (z.1<x)else !decide (x<z.1)) Ks (λx _ hx=>by
    have hx:z.1<x:=by simpa using hx
    cases after with
    |false=>simpa using cX (kG ge hx)
    |true=>
     have:key<z.1:=by simpa using hp
     simpa using dZ this hx) ⟨z.1,by rw[o8];exact hK _ _ _ _ o5 o6 o7,hp,by simpa using cw⟩
   obtain⟨L,l1,l2,l3,l4⟩:=ih z.1 true ah;refine⟨z::L,.cons s1 l1,fE,?_,λx hx=>?_⟩;.rw[dQ];exact List.Pairwise.cons (λx hx=>(l4 x hx).2.1 rfl) l3
   .rcases bE.1 hx with rfl|hx
    .refine⟨ge,λha=>?_,o2,o3⟩;rcases o1 with o1|⟨_,o1⟩
     .exact o1
     .rw[ha]at o1;cases o1
    .obtain⟨b1,b2,b3,b4⟩:=l4 x hx;refine⟨cX (kG ge (b2 rfl)),λha=>?_,b3,b4⟩;rcases o1 with o1|⟨_,o1⟩;.exact dZ o1 (b2 rfl)
     .rw[ha]at o1;cases o1
end
open Classical in
def Mt.all(t:Mt):List Pr:=if h:∃L,Pp (cV t.a.es) t.aO [] false L then Classical.choose h else[]
theorem Mt.all_eq{t:Mt}{L:List Pr}(h:Pp (cV t.a.es) t.aO [] false L):t.all=L:=by have hex:∃L,Pp (cV t.a.es) t.aO [] false L:=⟨L,h⟩;unfold Mt.all;rw[dif_pos hex];exact(Classical.choose_spec hex).fun h
theorem MI.zP{Pk:ba->Prop}{t:Mt}(DE:(t.a.es.map jE.ao).Nodup){pre lo:Nat->ba}{fC par rk:Nat->Nat}(I:MI Pk (cV t.a.es) t.aO pre lo fC par rk (λ_=>False)):Pp (cV t.a.es) t.aO [] false t.all/\KB Pk [] t.all/\t.all.length<=t.a.es.length*6/\∀x∈t.all.map Prod.fst,x.length<=24:=by
 let Ms:List ba:=t.a.es.flatMap λe=>if e.x.cQ then(List.range e.x.aE.n).map λj=>(e.x.aE.e j).m else[]
 let Ks:List ba:=t.a.es.flatMap λe=>if e.x.cQ then(List.range e.x.aE.n).map λj=>pre e.ao++nameOf (e.x.aE.e j).m++(e.x.aE.e j).rest else[]
 have hM:∀s g n j,cV t.a.es s=some (g,n)->n.cQ=true->j<n.aE.n->(n.aE.e j).m∈Ms:=λs g n j hs hl hj=>by obtain⟨e,he,e1,e2,e3⟩:=lG hs;refine dp.2 ⟨e,he,?_⟩;rw[e3,hl,aw rfl];exact bu.2 ⟨j,eX.2 hj,rfl⟩
 have hK:∀s g n j,cV t.a.es s=some (g,n)->n.cQ=true->j<n.aE.n->pre s++nameOf (n.aE.e j).m++(n.aE.e j).rest∈Ks:=λs g n j hs hl hj=>by obtain⟨e,he,e1,e2,e3⟩:=lG hs;refine dp.2 ⟨e,he,?_⟩;rw[e3,hl,aw rfl,e1];exact bu.2 ⟨j,eX.2 hj,rfl⟩
 obtain⟨L,l1,l2,l3,l4⟩:=I.all Ms Ks hM hK _ [] false (an _);have e:=Mt.all_eq l1;have bP:Ks.length<=t.a.es.length*6:=by
  have:∀(es:List (jE Mn)),(∀e∈es,e.x.cQ=true->e.x.aE.n<=6)->(es.flatMap λe=>if e.x.cQ then(List.range e.x.aE.n).map λj=>pre e.ao++nameOf (e.x.aE.e j).m++(e.x.aE.e j).rest else[]).length<=es.length*6:=by
   intro es
   induction es with
   |nil=>intro _;exact an _
   |cons a es ih=>
    intro h;have h1:=ih λe he=>h e (bB _ he);have h2:=h a bL;rw[bG,aq,bD];have:(if a.x.cQ then(List.range a.x.aE.n).map λj=>pre a.ao++nameOf (a.x.aE.e j).m++(a.x.aE.e j).rest else[]).length<=6:=by
     split;.rename_i hl;rw[bc,List.length_range];exact h2 hl
     .exact aY _
    omega
  exact this t.a.es λe he hl=>by
   rcases(I.lf _ _ _ (qI DE he) hl).2 with q|q;.exact q
   .exact absurd q.1 id
 rw[e];refine⟨l1,⟨l3,λx hx=>(l4 x hx).1,λx hx=>(l4 x hx).2.2.1⟩,?_,λx hx=>(l4 x hx).2.2.2⟩;have:=List.countP_le_length (p:=λx=>if false then decide (([]:ba)<x)else !decide (x<[])) (l:=Ks);exact gi l2 (gi this bP)
def DK:Nat->cU:=λid=>if id=5 then[(z11,[],some 12),([13,14,15],[],some 16),([],[],some 17),([],[],none)]else if id=6 then[(z4,[],some 5),([6,7,8],[],some 9),([],[],some 10),([],[],none)]else if id=9 then[([0,1,2],[],some 3),([],[1],some 4),([],[],some 5),([],[],none)]else if id=10 then[(z12,[],some 13),([],[],none)]else[]
def Kw(i:Nat)(up:Hd)(mk:ba):Option (Hd×ba):=if i=0 then none else some (up,mk)
def mC(key:ba)(i:Nat):ba:=cut (key.drop (8*i))
theorem yp(key:ba)(i:Nat):rW (mC key i):=DW _
structure abx(σ:kS)(aO:Hd)(pre lo:Nat->ba)(key:ba)(i:Nat)(L:List Hd)(hd f up:Hd)(mk:ba)(fm:Mn)(r:Nat):Prop where
 i2:i<=2
 d:nS σ (pP (mC key i)) hd L f fm
 len:L.length<=4096
 ab:Lt σ aO hd (Kw i up mk)
 ph:pre hd.ao=key.take (8*i)
 pf:pre f.ao=key.take (8*i)
 lo:¬pP (mC key i)<lo f.ao
 wk:fm.mR=true->pP (mC key i)<fm.gA
 pl:fm.aE.Pl (mC key i) r
 kl:0<i->8*i<key.length
 mkr:0<i->rW mk/\mk.length=9
structure ant(σ:kS)(aO:Hd)(pre lo:Nat->ba)(key:ba)(i:Nat)(L:List Hd)(hd f up:Hd)(mk:ba)(fm:Mn)(r:Nat):Prop where
 w:abx σ aO pre lo key i L hd f up mk fm r
 nd:r<fm.aE.n->(fm.aE.e r).m=mC key i->(fm.aE.e r).deep=false
abbrev EF(i:Nat)(P:AV)(up:Hd)(mk:ba):List AV:=[int i,P,int up.ao,u64 up.bk,u64 (bv mk 8:Nat),u8 (mk.length:Nat)]
theorem TP(i:Nat)(L:List Hd)(up:Hd)(mk:ba):sB nx (.agg (EF i (r7 L) up mk)):=⟨trivial,GI L,trivial,trivial,trivial,trivial,trivial⟩
abbrev Ql:AV:= .g (.slice none 0 0)
set_option maxHeartbeats 400000 in
theorem ajA(t:Mt)(h:aG)(nx:Nat)(o:t.ok h nx){pre lo:Nat->ba}{fC:Nat->Nat}(I:MI Pk (cV t.a.es) t.aO pre lo fC par rk iJ)
 (zq:∀s g n,cV t.a.es s=some (g,n)->fC s<4096) (key:ba) (hk:key.length<60000):
 aA prog 310 [.ptr t.tb 0,bR key] h nx λv h' nx'=>(∃(i:Nat) (L:List Hd) (hd f up:Hd) (mk:ba) (fm:Mn) (r:Nat),v= .dN [.agg (EF i (r7 L) up mk),.agg (fm.aE.at r).cells,bQ (decide (r<fm.aE.n/\(fm.aE.e r).m=mC key i))]/\
  ant (cV t.a.es) t.aO pre lo key i L hd f up mk fm r)/\h'=h/\nx'=nx:=by
 have db:=o.lt;have d0:¬(t.tb=nx):=ah;have d1:¬(t.tb=nx+1):=ah;have d2:¬(t.tb=nx+1+1):=ah;have d3:¬(t.tb=nx+1+1+1):=ah;have Hk:¬(nx=nx+1):=ah;have LY:¬(nx=nx+1+1):=ah;have Zm:¬(nx=nx+1+1+1):=ah;have UO:¬(nx+1=nx+1+1):=ah;have e13:¬(nx+1=nx+1+1+1):=ah;have e23:¬(nx+1+1=nx+1+1+1):=ah;refine aA.pc 2 DK func310 ?_;simp+decide-dsimp only[f310,go_sem,o.tr,d0,d1,d2,reduceAdd];refine cL _ _ (λmm s h' nx'=>∃(i:Nat) (hd up:Hd) (mk:ba),mm=2-i/\i<=2/\Head (cV t.a.es) pre lo hd (key.take (8*i))/\Lt (cV t.a.es) t.aO hd (Kw i up mk)/\(0<i->8*i<key.length)/\(0<i->rW mk/\mk.length=9)/\
  ao s 0= .ptr t.tb 0/\ao s 1=bR key/\ao s 4= .ptr nx 0/\ao s 5= .ptr (nx+1) 0/\ao s 7= .ptr (nx+1+1) 0/\ao s 8= .ptr (nx+1+1+1) 0/\
  (aH nx h h'/\au h' nx=some (.cells (EF 0 Ql ⟨0,0⟩ []) 449)/\au h' (nx+1)=some (.cells zs.cells 266)/\au h' (nx+1+1)=some (.cells (EF i Ql up mk) 449)/\au h' (nx+1+1+1)=some (.cells [int hd.ao,u64 hd.bk] 245))/\nx+4<=nx') (n:=2) ?_ ?_
 .simp+decide-dsimp only[go_sem,Hk,LY,Zm,UO,e13,e23];exact⟨0,t.aO,⟨0,0⟩,[],rfl,aY _,I.head,rfl,(λh=>absurd h (eG 0)),(λh=>absurd h (eG 0)),jh,rfl,rfl,rfl,rfl⟩
 rintro mm s h' nx' ⟨i,hd,up,mk,rfl,Df,H,ab,kl,mkr,s0,s1,s4,s5,s7,s8,⟨S0,g0,g1,g2,g3⟩,l1⟩;obtain⟨L,f,fm,D,hLl,pf,flo,fcv⟩:=I.go H (pP (mC key i));obtain⟨n,hn,Tg⟩:=H.ex;have hlL:=zq _ _ _ hn;obtain⟨hf,wv⟩:=D.aE;have R:=(I.lf _ _ _ hf wv).1;obtain⟨r,pl⟩:=R.pl (mC key i);have hR:=yp key i;have n0:¬(nx=nx'):=ah;have n1:¬(nx+1=nx'):=ah;have n2:¬(nx+1+1=nx'):=ah;have n3:¬(nx+1+1+1=nx'):=ah;simp+decide-dsimp only[go_sem,s1,s7,g2];refine aZ (PZ key i hk ah) ?_;simp+decide-dsimp only[go_sem,s0,s8,g3,n3,reduceAdd];generalize hA:aK (aK h' nx' _) nx' _=A;have SA:aH nx h A:=by rw[<-hA];exact(S0.set ah).set ah
 have k0:au A nx=some (.cells (EF 0 Ql ⟨0,0⟩ []) 449):=by rw[<-hA,aj,ak n0,aj,ak n0];exact g0
 have k1:au A (nx+1)=some (.cells zs.cells 266):=by rw[<-hA,aj,ak n1,aj,ak n1];exact g1
 have k2:au A (nx+1+1)=some (.cells (EF i Ql up mk) 449):=by rw[<-hA,aj,ak n2,aj,ak n2];exact g2
 have k3:au A (nx+1+1+1)=some (.cells [int hd.ao,u64 hd.bk] 245):=by rw[<-hA,aj,ak n3,aj,ak n3];exact g3
 have k4:au A nx'=some (.cells (tF (mC key i)) 264):=by rw[<-hA,aj,aw rfl];rfl
 clear hA;have oA:=o.aX (h':=A) (nx':=nx'+1) (λb hb=>SA b (o.dm hb)) ah;have c:=ali t A (nx'+1) oA I hR hn (by rw[H.lo];exact kj) (λhb=>by rw[Tg]at hb;cases hb) D ah;rw[Hd.av,Hd.cells]at c;refine bm c ?_;have m0:¬(nx+1+1=nx):=ah;have m1:¬(nx+1+1=nx+1):=ah;have m4:¬(nx'=nx+1+1):=ah;have IQ:¬(t.tb=nx+1+1):=d2;have oT:=oA.tr;obtain⟨D1,D2,D3,_⟩:=D.node;have w1:1<=L.length:=D1;have w2:L.length<9223372036854775808:=ah;have w3:L.length-1<L.length:=ah;have lst:L.getD (L.length-1) default=f:=D3;obtain⟨e,he,_,_,c3,c4,c5,c6⟩:=jP o.ok hf;have qQ:fm.aE.sl.length=15:=R.sl;have F0:wF fm.cells 0 fm:=wF.mk' (pre:=[]) qQ;have f2:=F0.aE;simp+decide-dsimp only[go_sem,DK,s0,s7,k2,IQ,oT,w1,w2,w3,lst,Hd.cells,jA];generalize hq:nx'+1+Array.size _=nq;have rm:nx'+1<=nq:=ah;clear hq;generalize hB:aK A (nx+1+1) _=B;have SB:aH nx h B:=by rw[<-hB];exact SA.set ah
 have SB':aH nx A B:=by rw[<-hB];exact aH.refl.set ah
 have b0:au B nx=some (.cells (EF 0 Ql ⟨0,0⟩ []) 449):=by rw[<-hB,aj,ak LY];exact k0
 have b1:au B (nx+1)=some (.cells zs.cells 266):=by rw[<-hB,aj,ak UO];exact k1
 have b2:au B (nx+1+1)=some (.cells (EF i (r7 L) up mk) 449):=by rw[<-hB,aj,aw rfl]
 have b3:au B (nx+1+1+1)=some (.cells [int hd.ao,u64 hd.bk] 245):=by rw[<-hB,aj,ak ah];exact k3
 have b4:au B nx'=some (.cells (tF (mC key i)) 264):=by rw[<-hB,aj,ak m4];exact k4
 have b5:au B e.bJ=some (.cells (u64 f.bk::fm.cells) 334):=by rw[SB _ c5];exact c4
 clear hB;refine bm (c6 _ _ SB ah) ?_;have mm:=jU qQ;simp+decide-dsimp only[go_sem,DK,b4,b5,f2,reduceAdd];refine aZ (Qq fm.aE R _ hR r pl) ?_;simp+decide-dsimp only[go_sem,b5,f2,reduceAdd];refine aZ (Jp fm.aE R r) ?_;generalize hq:nq+Array.size _=np;have hnp:nq<=np:=ah;clear hq;have p0:¬(nx=np):=ah;have p1:¬(nx+1=np):=ah;have p2:¬(nx+1+1=np):=ah;have p3:¬(nx+1+1+1=np):=ah;have p4:¬(nx'=np):=ah;have m5:¬(nx+1=nx):=ah;have m6:¬(nx+1+1+1=nx):=ah;have m7:¬(np=nx+1+1):=ah;have m8:¬(np=nx+1):=ah;have m9:¬(np=nx):=ah;have S:abx (cV t.a.es) t.aO pre lo key i L hd f up mk fm r:=⟨Df,D,ah,ab,H.pre,pf,flo,fcv,pl,kl,mkr⟩;by_cases jz:r<fm.aE.n/\(fm.aE.e r).m=mC key i
 case neg=>
  simp+decide-dsimp only[go_sem,DK,s4,s5,s7,b0,b1,b2,jz,p0,p1,p2,Hk,m5,m9,reduceAdd];refine⟨?_,_,.lZ (.cQ (TP i L up mk)) (.cQ (sP _)) .cA,i,L,hd,f,up,mk,fm,r,by rw[aU jz],S,λh1 h2=>absurd ⟨h1,h2⟩ jz⟩
  repeat' first|exact aH.refl|apply aH.fJ|(apply aH.set;rotate_left;omega)
  exact SB
 have AE:fm.aE.at r=fm.aE.e r:=aw jz.1;cases th:(fm.aE.e r).deep with
 |false=>
  simp+decide-dsimp only[go_sem,DK,s4,s5,s7,b0,b1,b2,jz,AE,th,p0,p1,p2,Hk,m5,m9,reduceAdd];refine⟨?_,_,.lZ (.cQ (TP i L up mk)) (.cQ ⟨trivial,trivial,trivial,trivial,trivial,trivial,trivial,trivial⟩) .cA,i,L,hd,f,up,mk,fm,r,by rw[aM jz,AE,Sl.cells,th,jz.2],S,λ_ _=>th⟩
  repeat' first|exact aH.refl|apply aH.fJ|(apply aH.set;rotate_left;omega)
  exact SB
 |true=>
  simp+decide-dsimp only[go_sem,DK,s0,s1,s4,s5,s7,s8,b0,b1,b2,b3,b4,jz,AE,th,p0,p1,p2,p3,p4,LY,Zm,UO,e13,e23,m7,w1,w2,w3,lst,Hd.cells,jA,reduceAdd];have ok:=I.ao _ _ _ hf wv r jz.1;obtain⟨⟨ln,z1,z2⟩,z3,z4,z5⟩:=ok.link th;have hnm:nameOf (fm.aE.e r).m=(key.drop (8*i)).take 8:=by rw[jz.2];exact qC _
  have h9:=((R.r r jz.1).d th).1;have xT:8*(i+1)<key.length:=by
   have e:(mC key i).length=9:=by rw[<-jz.2];exact h9
   unfold mC at e;rw[kM,aC]at e;omega
  have sM:pre (fm.aE.e r).link.ao=key.take (8*(i+1)):=by rw[z3,pf,hnm,<-jT];congr 1
  have hi3:i+1<=2:=by obtain⟨j,j1,j2⟩:=I.pl _ _ _ z1;rw[sM,ax]at j1;omega
  have wi:i+1<9223372036854775808:=ah;simp+decide-dsimp only[go_sem,wi];refine⟨2-(i+1),ah,i+1,(fm.aE.e r).link,f,mC key i,rfl,hi3,⟨⟨ln,z1,z2⟩,z4,sM⟩,?_,λ_=>xT,λ_=>⟨hR,by rw[<-jz.2];exact h9⟩,?_⟩;.unfold Kw;rw[ak ah];exact⟨fm,r,hf,wv,jz.1,th,rfl,jz.2⟩
  exact⟨⟨by(repeat' first|exact aH.refl|apply aH.fJ|(apply aH.set;rotate_left;omega));exact SB,rfl,rfl⟩,ah⟩
variable{key:ba}
section
variable{Pk:ba->Prop}{σ:kS}{aO:Hd}{pre lo:Nat->ba}{fC par rk:Nat->Nat}{iJ big':Nat->Prop}
theorem MI.set(I:MI Pk σ aO pre lo fC par rk iJ){s g:Nat}{n:Mn}(hs:σ s=some (g,n))(hl:n.cQ=true)(hi:i<n.aE.n){x:Sl}(xR:x.R)(xm:x.m=(n.aE.e i).m)(ok:xw Pk σ pre lo par s x):
 MI Pk (up σ s (g,{n with aE:=n.aE.upd i x})) aO pre lo fC par rk iJ:=by
 obtain⟨R,hn⟩:=I.lf _ _ _ hs hl;have h15:=R.n;refine I.upd hs hl (λ_ h _=>h) (R.upd hi xR xm) rfl rfl rfl hn (λj hj=>?_) (λj hj=>?_)
 .have hj:j<n.aE.n:=hj;have e:((n.aE.upd i x).e j).m=(n.aE.e j).m:=by
   rw[Dx R ah x ah];split;.rename_i e;rw[e,xm]
   .rfl
  rw[e];refine(I.IA _ _ _ hs _ ?_).1;unfold Mn.lx;rw[hl,aw rfl];exact bu.2 ⟨j,eX.2 hj,rfl⟩
 .have hj:j<n.aE.n:=hj;rw[Dx R ah x ah];split;.exact ok
  .exact I.ao _ _ _ hs hl j hj
theorem MI.ins(I:MI Pk σ aO pre lo fC par rk iJ){s g:Nat}{n:Mn}(hs:σ s=some (g,n))(hl:n.cQ=true){i:Nat}{x:Sl}(pl:n.aE.Pl x.m i)(xR:x.R)(hc:n.aE.dI x.m=true)(cx:¬(i<n.aE.n/\(n.aE.e i).m=x.m))
 (hb:∀t,iJ t->t≠s->big' t) (hn:n.aE.n+1<=6\/(big' s/\n.aE.n+1=7)) (xlo:¬pP x.m<lo s) (ok:xw Pk σ pre lo par s x):
 MI Pk (up σ s (g,{n with aE:=n.aE.ins i x})) aO pre lo fC par rk big':=by
 obtain⟨R,_⟩:=I.lf _ _ _ hs hl;have h15:n.aE.n<15:=by rcases hn with h|h<;>omega
 have hi:=pl.le;refine I.upd hs hl hb (R.ins pl h15 xR hc cx) rfl rfl rfl hn (λj hj=>?_) (λj hj=>?_)
 all_goals
  have hj:j<n.aE.n+1:=hj;rw[Bm R hi h15 x ah]
 .have old:∀j,j<n.aE.n->¬pP (n.aE.e j).m<lo s:=λj hj=>by refine(I.IA _ _ _ hs _ ?_).1;unfold Mn.lx;rw[hl,aw rfl];exact bu.2 ⟨j,eX.2 hj,rfl⟩
  split;.exact old j ah
  .split;.exact xlo
   .rw[aw ah];exact old _ ah
 .split;.exact I.ao _ _ _ hs hl j ah
  .split;.exact ok
   .rw[aw ah];exact I.ao _ _ _ hs hl _ ah
theorem MI.del(I:MI Pk σ aO pre lo fC par rk iJ){s g:Nat}{n:Mn}(hs:σ s=some (g,n))(hl:n.cQ=true){i:Nat}(hi:i<n.aE.n)(h6:n.aE.n<=7):
 MI Pk (up σ s (g,{n with aE:=n.aE.del i})) aO pre lo fC par rk iJ:=by
 obtain⟨R,hn⟩:=I.lf _ _ _ hs hl;have h15:=R.n;have e:∀j,j<n.aE.n-1->∃q,q<n.aE.n/\(n.aE.del i).e j=n.aE.e q:=λj hj=>by
  rw[Hc R hi ah];split;.exact⟨j,ah,rfl⟩
  .exact⟨j+1,ah,rfl⟩
 refine I.upd hs hl (λ_ h _=>h) (R.del hi) rfl rfl rfl (.inl (by show n.aE.n-1<=6;omega)) (λj hj=>?_) (λj hj=>?_);.obtain⟨q,hq,e⟩:=e j hj;rw[e];refine(I.IA _ _ _ hs _ ?_).1;unfold Mn.lx;rw[hl,aw rfl];exact bu.2 ⟨q,eX.2 hq,rfl⟩
 .obtain⟨q,hq,e⟩:=e j hj;rw[e];exact I.ao _ _ _ hs hl q hq
end
theorem Bw(key v:ba)(i:Nat):(eC key i v).R:=by refine⟨DW _,(λh=>by cases h),λ_=>⟨rfl,?_⟩⟩;show(cut (key.drop (8*i))).length=9↔key.drop (8*(i+1))≠[];rw[kM,aC,Ne,List.drop_eq_nil_iff];omega
theorem Bc(key v:ba)(i:Nat):key.take (8*i)++nameOf (eC key i v).m++(eC key i v).rest=key:=by show key.take (8*i)++nameOf (cut (key.drop (8*i)))++key.drop (8*(i+1))=key;have e:nameOf (cut (key.drop (8*i)))=(key.drop (8*i)).take 8:=qC _;rw[e,ay,show 8*(i+1)=8*i+8 from ah,<-lU,bY,bY]
theorem DC{Pk:ba->Prop}{σ:kS}{pre lo:Nat->ba}{par:Nat->Nat}{s:Nat}(v:ba)(hp:pre s=key.take (8*i))(hk:Pk key)(hl:key.length<=24)(h0:0<i->8*i<key.length):xw Pk σ pre lo par s (eC key i v):=by
 refine⟨λ_=>?_,(λh=>by cases h)⟩;rw[hp,Bc];refine⟨hk,hl,λcx hm=>?_⟩;have h1:(cut (key.drop (8*i))).length=0:=by have:(eC key i v).m=cut (key.drop (8*i)):=rfl;rw[<-this,hm];rfl
 rw[kM,aC]at h1;rcases qd i with q|q
 .subst q;exact cx rfl
 .have:=h0 q;omega
variable{b nx':Nat}{h' h1 h2:aG}{p':bj}{t':Mt}
theorem jb{g:AV}{n:Mn}{l:Lf}(hl:n.aE.sl.length=15)(oh:l.sl.length=15):dJ 2 (g::n.cells) l.cells=some (g::({n with aE:=l}:Mn).cells):=by rw[cp _ _ _ (by rw[bD,oD hl,dW oh];omega),dW oh];show some ([g,bQ n.cQ]++l.cells++(n.aE.cells++n.aN.cells).drop 111)=_;rw[List.drop_left' (dW hl)];show _=some ([g,bQ n.cQ]++(l.cells++n.aN.cells));rw[ay]
theorem sE{g:AV}{n:Mn}{d:Nd}(hl:n.aE.sl.length=15):dJ 113 (g::n.cells) d.cells=some (g::({n with aN:=d}:Mn).cells):=by
 have ln:(g::n.cells).length=121:=by rw[bD,oD hl]
 have ld:d.cells.length=8:=rfl;rw[cp _ _ _ (by rw[ln,ld];omega),aT (by rw[ln,ld];omega),cD];have e:(g::n.cells)=([g,bQ n.cQ]++n.aE.cells)++n.aN.cells:=by show _=[g,bQ n.cQ]++n.aE.cells++n.aN.cells;rw[ay];rfl
 rw[e,tI (by rw[aq,dW hl];rfl)];show _=some ([g,bQ n.cQ]++(n.aE.cells++d.cells));rw[ay]
theorem Dh{off:Nat}{m:Nd}:yA h b off (some 8) (some m.cells)=kR (eQ h b off m.cells):=uE rfl rfl
theorem fc.heap{t:Mt}{p:bj}(s:fc nx t t' p p' h h1)(hk:∀b,b<nx->au h2 b=au h1 b):fc nx t t' p p' h h2:=
 ⟨s.tb,s.ab,s.mb,s.pb,s.gb,s.fb,s.fl,s.fr,s.bJ,s.old,s.slt,λb hb g1 g2 g3 g4 g5 g6=>(hk b hb).trans (s.aX b hb g1 g2 g3 g4 g5 g6)⟩
theorem fc.wide{t:Mt}{p:bj}(s:fc nx' t t' p p' h h1)(hn:nx<=nx'):fc nx t t' p p' h h1:=
 ⟨s.tb,s.ab,s.mb,s.pb,s.gb,s.fb,s.fl,s.fr,λe he=>(s.bJ e he).imp id (λq=>ah),s.old,s.slt,λb hb=>s.aX b ah⟩
theorem MW.heap{t:Mt}{p:bj}(o:MW t p h nx)(hk:∀b,t.own b\/b=p.pb\/b=p.gb\/b=p.fb->au h' b=au h b)(hn:nx<=nx'):MW t p h' nx':=
 ⟨o.tk.aX (λb hb=>hk b (.inl hb)) hn,o.pk.iy (hk _ (.inr (.inl rfl))) (hk _ (.inr (.inr (.inl rfl)))) (hk _ (.inr (.inr (.inr rfl)))) hn,o.sp,o.sd⟩
def U4(Pk:ba->Prop)(t:Mt):Prop:=∃pre lo fC par rk,MI Pk (cV t.a.es) t.aO pre lo fC par rk (λ_=>False)
def LF:Nat->cU:=λid=>if id=4 then[(z7,[],some 8),([9,10],[4],none)]else if id=6 then[(z11,[],some 12),([13,14,15],[],some 16),([],[],some 17),([],[],none)]else if id=7 then[(z6,[],some 7),([8,9,10,11,12,13],[],some 14),([],[],none)]else[]
set_option maxHeartbeats 4000000 in
theorem alZ(t:Mt)(p:bj)(h:aG)(nx:Nat)(B:MW t p h nx)(hT:U4 Pk t)(key:ba)(hk:key.length<60000):
 aA prog 300 [.ptr t.tb 0,bR key] h nx λv h' nx'=>(∃(old:ba) (lS:Bool),v= .dN [bR old,bQ lS])/\∃t':Mt,MW t' p h' nx'/\fc nx t t' p p h h'/\U4 Pk t':=by
 obtain⟨pre,lo,fC,par,rk,I⟩:=hT;have o:=B.tk;have db:=o.lt;refine aA.ac 2 LF func300 ?_;simp+decide-dsimp only[f300,go_sem];refine bm (SZ t _ _ o) ?_;simp+decide-dsimp only[go_sem,o.tr];refine cf (ajA t h nx o I (B.fC I) key hk) λ_ h1 cm l1 ⟨⟨i,L,hd,f,up,mk,fm,r,e1,S⟩,e2,e3⟩=>?_;subst e1;replace e2:=e2.symm;replace e3:=e3.symm;subst e2;subst e3;have W:=S.w;have i2:=W.i2;have d0:¬(nx=nx+1):=ah;simp+decide-dsimp only[go_sem,LF,d0,reduceAdd];generalize hA:aK (aK (aK (aK h nx _) (nx+1) _) nx _) (nx+1) _=A;have SA:aH nx h A:=by rw[<-hA];exact jh
 have a0:au A nx=some (.cells (EF i (r7 L) up mk) 449):=by rw[<-hA,aj,ak d0,aj,aw rfl]
 have a1:au A (nx+1)=some (.cells (fm.aE.at r).cells 266):=by rw[<-hA,aj,aw rfl]
 clear hA;have BA:MW t p A (nx+1+1):=B.aX SA ah;by_cases jz:r<fm.aE.n/\(fm.aE.e r).m=mC key i
 case neg=>have hd:=aU jz;simp+decide-dsimp only[go_sem,hd];exact⟨⟨_,_,rfl⟩,t,BA.aX aH.refl ah,fc.same SA,pre,lo,fC,par,rk,I⟩
 have hd:=aM jz;have AE:fm.aE.at r=fm.aE.e r:=aw jz.1;rw[AE]at a1;simp+decide-dsimp only[go_sem,a0,a1,hd,AE];refine aZ (adr key i hk ah) ?_;by_cases hr:(fm.aE.e r).rest=key.drop (8*(i+1))
 case neg=>simp+decide-dsimp only[go_sem,a1,hd,hr];exact⟨⟨_,_,rfl⟩,t,BA.aX aH.refl ah,fc.same SA,pre,lo,fC,par,rk,I⟩
 obtain⟨D1,D2,D3,_⟩:=W.d.node;obtain⟨hf,wv⟩:=W.d.aE;have Rf:=(I.lf _ _ _ hf wv).1;have bP:=W.len;have w1:1<=L.length:=D1;have w2:L.length<9223372036854775808:=ah;have w3:L.length-1<L.length:=ah;have lst:L.getD (L.length-1) default=f:=D3;obtain⟨e,he,g1,g2,c3,c4,c5,c6⟩:=jP BA.tk.ok hf;have F0:wF fm.cells 0 fm:=wF.mk' (pre:=[]) Rf.sl;have f2:=F0.aE;have b0:¬(t.tb=nx):=ah;have b1:¬(t.tb=nx+1):=ah;have oA:=BA.tk.tr;have he0:¬(nx=e.bJ):=λq=>by have:=(o.ok.fr e he).2.2;omega
 have he1:¬(nx+1=e.bJ):=λq=>by have:=(o.ok.fr e he).2.2;omega
 have b2:¬(nx+1=t.tb):=ah;have het:¬(t.tb=e.bJ):=λq=>o.d3 e he q.symm;simp+decide-dsimp only[go_sem,LF,a0,a1,hd,hr,oA,w1,w2,w3,lst,Hd.cells,jA];refine bm (c6 _ _ .refl ah) ?_;simp+decide-dsimp only[go_sem,LF,a1,hr,c4,f2,reduceAdd];have hm:=yp key i;have c:=ahk fm.aE Rf (mC key i) hm r W.pl;rw[aw jz,<-jz.2]at c;have Gv:(fm.aE.del r).sl.length=15:=(Rf.del jz.1).sl;have pl:=jb (g:=u64 f.bk) (n:=fm) (l:=fm.aE.del r) Rf.sl Gv;have fl:=dW Gv;refine aZ c ?_;simp+decide-dsimp only[go_sem,a1,hr,c4,pl,fl,gN,oA,b2,he1,het,reduceAdd];obtain⟨t1,B1,fI,y3,y4,y5,y6⟩:=BA.kI he g1 g2 {fm with aE:=fm.aE.del r} Gv;obtain⟨B2,tH⟩:=B1.tree t1.aO (cF .i64 (t.size-1)) t1.gm;rw[fI.tb,y4,y6,B1.sp.pb.trans B.sp.pb.symm,fI.ab]at B2 tH;have h6:fm.aE.n<=7:=by rcases(I.lf _ _ _ hf wv).2 with q|q<;>omega
 refine⟨⟨_,_,rfl⟩,_,B2.aX aH.refl ah,(fc.same SA).trans (fI.trans tH (an _)) ah,pre,lo,fC,par,rk,?_⟩;have J:=I.del hf wv jz.1 h6;rw[<-y3]at J;exact J
variable{a:AV}{r:dG}
def BH:Nat->cU:=λid=>if id=1 then[([0,1,2,3,4,5,6,7,8,13],[3,7],some 9),([10,11,12],[13],some 14),([],[],some 15),([],[],none)]else if id=2 then[(z4,[],some 5),([6,7,8],[],some 9),([],[],some 10),([],[],none)]else if id=5 then[(z6,[],some 7),([8,9,10,11,12,13],[],some 14),([15,16],[],some 17),([],[],some 18),([],[],none)]else if id=6 then[([0,2],[],some 1),([],[2],some 3),([],[2],some 4),([],[],none)]else if id=8 then[(z6,[],some 7),([8,9,10,11,12,13],[],some 14),([15,16],[],some 17),([],[],some 18),([],[],none)]else if id=9 then[([0,1],[],some 2),([],[],some 3),([],[],none)]else[]
theorem adh:t271=vG.cells++zin:=rfl
theorem RT{cQ:Bool}{vs:List Value}(h:eM r [a,.agg (bQ cQ::t271)] vs):eM r [a,(Mn.mk cQ vG zR).av] vs:=by rw[adh]at h;exact Mc h
set_option maxHeartbeats 1000000 in
theorem amg(t:Mt)(p:bj)(h:aG)(nx:Nat)(B:MW t p h nx){n:Mn}(hs:cV t.a.es hd.ao=some (hd.bk,n))(FR:LU n)(hc:p.fr.count true≠0){e:jE Mn}(he:e∈t.a.es)(e1:e.ao=hd.ao)(e2:e.bk=hd.bk)(e3:e.x=n):
 aA prog 348 [.ptr t.tb 0,.ptr e.bJ 1] h nx λv h' nx'=>∃(t':Mt) (p':bj) (x:Hd) (nl nr:Mn) (sep:ba),v= .dN [bR sep,x.av]/\cV t.a.es x.ao=none/\WU n nl nr sep x/\MW t' p' h' nx'/\fc nx t t' p p' h h'/\
  cV t'.a.es=up (up (cV t.a.es) hd.ao (hd.bk,nl)) x.ao (x.bk,nr)/\t'.aO=t.aO/\p'.fr.count true+1=p.fr.count true:=by
 have o:=B.tk;have db:=o.lt;have aiv:=(o.ok.fr e he).2.2;have qQ:n.aE.sl.length=15:=by rw[<-e3];exact o.sl e he
 have c4:au h e.bJ=some (.cells (u64 hd.bk::n.cells) 334):=by rw[o.ok.cl e he,e2,e3]
 have F0:wF n.cells 0 n:=wF.mk' (pre:=[]) qQ;have f1:=F0.cQ;have d0:¬(t.tb=nx):=ah;have d1:∀q,¬(t.tb=nx+1+q):=λq=>ah;have d2:¬(e.bJ=nx):=ah;have d3:∀q,¬(e.bJ=nx+1+q):=λq=>ah;have d4:∀q,¬(nx=nx+1+q):=λq=>ah;refine aA.ac 2 BH func348 ?_;simp+decide-dsimp only[f348,go_sem,BH,o.tr,c4,f1,d0,d1,d2,d3,aa3];generalize hq:nx+1+Array.size _=nq;have rm:nx+1+16<=nq:=by rw[<-hq];exact eI bN _
 clear hq;generalize hH:aK (aK h nx _) (nx+1+13) _=H;have S0:aH nx h H:=by rw[<-hH];exact jh
 have g0:au H nx=some (.cells [int 0,u64 0] 245):=by rw[<-hH,aj,ak (d4 _),aj,aw rfl]
 have g1:au H (nx+1+13)=some (.cells [int 0,u64 0] 245):=by rw[<-hH,aj,aw rfl]
 clear hH;have o1:=B.aX S0 (ah:nx<=nq);refine cf (aA.Ue (args:=[.ptr t.a.ab 0,.agg (bQ n.cQ::t271)]) (args':=[.ptr t.a.ab 0,(Mn.mk n.cQ vG zR).av]) (Eq.refl (2:Nat)) (λr vs hv=>RT hv) (o1.ur hc ⟨n.cQ,vG,zR⟩ rfl)) λ_ h2 dU l2 ⟨t1,p1,x,r1,r2,B1,fI,r3,r4,r5,r6⟩=>?_
 subst r2;have ui:∀c,nx<=c->c<nq->au h2 c=au H c:=λc h1 h2=>fI.aX c h2 ah (by have:=B.pk.rY;omega) (by have:=B.pk.ss;omega) (by have:=B.pk.sr;omega) (by have:=B.tk.ok.lm;omega) (λe he e'=>by have:=(B.tk.ok.fr e he).2.2;omega)
 have q0:au h2 nx=some (.cells [int 0,u64 0] 245):=by rw[ui _ (an _) ah];exact g0
 have q1:au h2 (nx+1+13)=some (.cells [int 0,u64 0] 245):=by rw[ui _ ah ah];exact g1
 have mS:∀c,t1.own c->c<nx\/nq<=c:=λc hc=>by
  rcases fI.p.bl c hc with q|q;.have:=B.tk.dm q;omega
  .omega
 have b1:=B.pk.rY;have b2:=B.pk.ss;have b3:=B.pk.sr;have qt:au h2 t.tb=some (.cells [.ptr t1.a.pb 0,.ptr t1.a.ab 0,int t1.aO.ao,u64 t1.aO.bk,.g (.int .i64 t1.size),.g (.int .i64 t1.gm),bQ false] 273):=by have:=B1.tk.tr;rw[fI.tb]at this;exact this
 simp+decide-dsimp only[go_sem,BH,q1,qt,d1,Hd.av,Hd.cells,reduceAdd];generalize hG:aK h2 (nx+1+13) _=G;have G1:∀c,c≠nx+1+13->au G c=au h2 c:=λc hc=>by rw[<-hG,aj,ak hc]
 have k1:au G (nx+1+13)=some (.cells [int x.ao,u64 x.bk] 245):=by rw[<-hG,aj,aw rfl]
 clear hG;have k0:au G nx=some (.cells [int 0,u64 0] 245):=by rw[G1 _ (d4 _)];exact q0
 have B2:MW t1 p1 G dU:=⟨B1.tk.aX (λc hc=>G1 c (by have:=mS c hc;omega)) (an _),B1.pk.iy (G1 _ (by rw[fI.pb];omega)) (G1 _ (by rw[fI.gb];omega)) (G1 _ (by rw[fI.fb];omega)) (an _),B1.sp,B1.sd⟩;have tH:fc nx t t1 p p1 h G:=by
  refine⟨fI.tb,fI.ab,fI.mb,fI.pb,fI.gb,fI.fb,fI.fl,fI.fr,λe he=>?_,fI.old,fI.slt,λb hb w1 w2 w3 w4 w5 w6=>?_⟩
  .rcases fI.bJ e he with q|q;.exact .inl q
   .exact .inr ah
  .rw[G1 b ah,fI.aX b ah w1 w2 w3 w4 w5 w6,S0 b hb]
 have ko:x.ao≠hd.ao:=λe'=>by rw[e',hs]at r1;cases r1
 have ya:cV t1.a.es hd.ao=some (hd.bk,n):=by rw[r3,cH ko.symm];exact hs
 have PB:cV t1.a.es x.ao=some (x.bk,⟨n.cQ,vG,zR⟩):=by rw[r3,cO]
 obtain⟨e',tM,a1,a2,a3,a4,a5,a6⟩:=jP B2.tk.ok ya;have Kn:e'.bJ=e.bJ:=fI.qM B1 he tM (a1.trans e1.symm);obtain⟨ex,hex,x1,x2,x3,x4,x5,x6⟩:=jP B2.tk.ok PB;have exo:=mS ex.bJ (.inr (.inr (.inr ⟨ex,hex,rfl⟩)));refine bm (x6 _ _ .refl ah) ?_;rw[Kn]at a4 a5;simp+decide-dsimp only[go_sem,a4,f1];generalize hq:dU+Array.size _=np;have hnp:dU<=np:=ah;clear hq;have p0:¬(nx=np):=ah;have p1':¬(nx+1+13=np):=ah;have p2:¬(e.bJ=np):=ah;have p3:¬(ex.bJ=np):=ah;have Xj:¬(ex.bJ=e.bJ):=λq=>ko (by have:=jw B2.tk.ok.IL hex tM (q.trans Kn.symm);rw[<-x1,<-a1,this]);have dex:¬(e.bJ=ex.bJ):=λq=>Xj q.symm;have m0:¬(nx=e.bJ):=ah;have m1:¬(nx=ex.bJ):=ah;have m2:¬(nx+1+13=e.bJ):=ah;have m3:¬(nx+1+13=ex.bJ):=ah;have m4:¬(np=e.bJ):=ah;have m5:¬(np=ex.bJ):=ah;have jf:∀(nl nr:Mn),nl.aE.sl.length=15->nr.aE.sl.length=15->∃t':Mt,MW t' p1 (aK (aK G e.bJ (.cells (u64 hd.bk::nl.cells) 334)) ex.bJ (.cells (u64 x.bk::nr.cells) 334)) dU/\fc nx t t' p p1 h (aK (aK G e.bJ (.cells (u64 hd.bk::nl.cells) 334)) ex.bJ (.cells (u64 x.bk::nr.cells) 334))/\
  cV t'.a.es=up (up (cV t.a.es) hd.ao (hd.bk,nl)) x.ao (x.bk,nr)/\t'.aO=t.aO/\∀c,t'.own c->(c<nx\/nq<=c)/\c<dU:=by
  intro nl nr hnl hnr;obtain⟨t3,B3,pz,y3,y4,y5,y6⟩:=B2.kI tM a1 a2 nl hnl;rw[Kn]at B3 pz;have hx3:cV t3.a.es x.ao=some (x.bk,⟨n.cQ,vG,zR⟩):=by rw[y3,cH ko];exact PB
  obtain⟨ez,hez,z1,z2,_⟩:=jP B3.tk.ok hx3;have ebz:ez.bJ=ex.bJ:=pz.qM B3 hex hez (z1.trans x1.symm);obtain⟨t4,B4,EH,u3,u4,u5,u6⟩:=B3.kI hez z1 z2 nr hnr;rw[ebz]at B4 EH;refine⟨t4,B4,(tH.trans pz ah).trans EH ah,?_,u4.trans (y4.trans r4),λc hc=>?_⟩
  rotate_left
  .have hl:=B4.tk.dm hc;rcases EH.p.bl c hc with q|q
   .rcases pz.p.bl c q with q|q;.exact⟨mS c q,hl⟩
    .omega
   .omega
  rw[u3,y3,r3]
  funext s;unfold up
  by_cases h1:s=x.ao;.rw[aw h1,aw h1]
  .rw[ak h1,ak h1];by_cases h2:s=hd.ao;.rw[aw h2,ak h1]
   .rw[ak h2,ak h1]
 cases wH:n.cQ with
 |true=>
  rw[wH]at f1 x4;obtain⟨R,h7⟩:=FR.l wH;have f2:=F0.aE;simp+decide-dsimp only[go_sem,BH,k1,a4,f2,p1',p2,reduceAdd];have c:=amO n.aE R ah x;rw[Hd.av,Hd.cells]at c;refine cf (c _ _) λ_ h3 nx3 l3 ⟨⟨A,C,v1,S⟩,v2,v3⟩=>?_;subst v1;replace v2:=v2.symm;replace v3:=v3.symm;subst v2;subst v3;have Gi:=jb (g:=u64 hd.bk) (n:=n) (l:=A) qQ S.lr.sl;have pl2:=jb (g:=u64 x.bk) (n:=⟨true,vG,zR⟩) (l:=C) rfl S.rr.sl;have Pd:=dW S.lr.sl;have fl2:=dW S.rr.sl;simp+decide-dsimp only[go_sem,BH,k1,a4,x4,Gi,pl2,Pd,fl2,gN,p1',p2,p3,Xj,m2,m3,m4,m5,reduceAdd];have h3:n.aE.n / 2=3:=by rw[h7]
  refine aZ (YD _ (R.r _ ah).m.len) ?_;simp+decide-dsimp only[go_sem,k0,k1,p0,p1',m0,m1,m2,m3,reduceAdd];obtain⟨t',T1,T2,T3,T4,T5⟩:=jf {n with aE:=A} ⟨true,C,zR⟩ S.lr.sl S.rr.sl;refine⟨t',p1,x,_,_,pP (n.aE.e 3).m,by rw[h3],r1,.inl ⟨wH,A,C,S,rfl,rfl,rfl⟩,T1.heap (λb hb=>?_) ah,T2.heap (λb hb=>?_),T3,T4,r6⟩
  .have gC:b≠nx/\b≠np:=by
    rcases hb with hb|hb|hb|hb;.have:=T5 b hb;omega
    .rw[fI.pb]at hb;omega
    .rw[fI.gb]at hb;omega
    .rw[fI.fb]at hb;omega
   simp only[aj,ak gC.1,ak gC.2]
  .have h1:b≠nx:=ah;have h2:b≠np:=ah;simp only[aj,ak h1,ak h2]
 |false=>
  rw[wH]at f1 x4;obtain⟨R,lf,h5⟩:=FR.i wH;have f3:=F0.aN;have c:=acZ n.aN R h5 x;rw[Nd.av,Nd.av,Nd.av,Hd.av,Hd.cells]at c;have Gi:=sE (g:=u64 hd.bk) (n:=n) (d:=n.aN.left x) qQ;have pl2:=sE (g:=u64 x.bk) (n:=⟨false,vG,zR⟩) (d:=n.aN.right) rfl;simp+decide-dsimp only[go_sem,BH,k1,a4,f3,reduceAdd];refine aZ c ?_;simp+decide-dsimp only[go_sem,BH,k0,k1,a4,x4,Gi,pl2,Dh,Xj,m0,m1,m2,m3,reduceAdd];obtain⟨t',T1,T2,T3,T4,T5⟩:=jf {n with aN:=n.aN.left x} ⟨false,vG,n.aN.right⟩ qQ rfl;refine⟨t',p1,x,_,_,n.aN.sep,rfl,r1,.inr ⟨wH,rfl,rfl,rfl⟩,T1.heap (λb hb=>?_) ah,T2.heap (λb hb=>?_),T3,T4,r6⟩
  .have gC:b≠nx:=by
    rcases hb with hb|hb|hb|hb;.have:=T5 b hb;omega
    .rw[fI.pb]at hb;omega
    .rw[fI.gb]at hb;omega
    .rw[fI.fb]at hb;omega
   simp only[aj,ak gC]
  .have h1:b≠nx:=ah;simp only[aj,ak h1]
variable{α:Type}{σ:kS}
def HE:Nat->cU:=λid=>if id=2 then[(z4,[],some 5),([6,7,8],[],some 9),([],[],some 10),([],[],none)]else if id=4 then[([0,1,2,3,4,5,7,8,9,10,11,12,13],[],some 6),([],[4],some 14),([15],[4],some 16),([17,18,19,20,21,22],[],some 23),([],[],none)]else if id=6 then[(z6,[],some 7),([],[4],some 8),([9,10,11,12,13,14],[],some 15),([],[],none)]else if id=7 then[(z6,[],some 7),([],[4],some 8),([9,10,11,12,13,14],[],some 15),([],[],none)]else[]
def Gr(σ σ':kS)(pre lH lo jn:Nat->ba)(par par':Nat->Nat):Prop:=∀s g n,σ s=some (g,n)->σ' s=some (g,n)/\lH s=pre s/\jn s=lo s/\par' s=par s
theorem NX{a b:ba}(h:0<alike a b):8<a.length/\8<b.length/\a.take 8=b.take 8:=cS λq=>by rw[sT q]at h;exact eG _ h
theorem NJ{a b:ba}(h:alike a b=0)(cx:a≠b):cut a≠cut b:=λe=>by
 have l1:=fN List.length e;rw[kM,kM]at l1;have t1:a.take 8=b.take 8:=by rw[<-qC a,<-qC b,e]
 by_cases ha:8<a.length;.have hb:8<b.length:=ah;rw[wg ⟨ha,hb,t1⟩]at h;omega
 .have hb:¬8<b.length:=ah;rw[aD ah,aD ah]at t1;exact cx t1
theorem A8{pre lo:Nat->ba}{s:Nat}{P a:ba}(v:ba)(hp:pre s=P)(hk:Pk (P++a))(hl:(P++a).length<=24)(h0:P≠[]->a≠[]):xw Pk σ pre lo par s (eC a 0 v):=by
 have e:nameOf (eC a 0 v).m++(eC a 0 v).rest=a:=by have:=Bc a v 0;rw[ay]at this;exact this
 refine⟨λ_=>?_,(λh=>by cases h)⟩;rw[hp,ay,e];refine⟨hk,hl,λcx hm=>?_⟩;have h1:(cut a).length=0:=by have:(eC a 0 v).m=cut a:=rfl;rw[<-this,hm];rfl
 rw[kM]at h1;have:=List.length_pos_iff.2 (h0 cx);omega
theorem afb{σ:Nat->Option (Nat×α)}{s:Nat}{a b:Nat×α}:up (up σ s a) s b=up σ s b:=by
 funext t;unfold up
 by_cases h:t=s;.rw[aw h,aw h]
 .rw[ak h,ak h,ak h]
set_option maxHeartbeats 2000000 in
theorem am6:∀(D:Nat) (a v b w:ba),a.length<D->a≠b->∀(P:ba) (i:Nat),P.length=8*i->i<=2->Pk (P++a)->Pk (P++b)->(P++a).length<=24->(P++b).length<=24->(P≠[]->a≠[]/\b≠[])->∀(A:Nat) (t:Mt) (p:bj) (h:aG) (nx:Nat),MW t p h nx->
 ∀(pre lo:Nat->ba) (fC par rk:Nat->Nat) (iJ:Nat->Prop),MI Pk (cV t.a.es) aO pre lo fC par rk iJ->alike a b+1<=p.fr.count true->
 aA prog 322 [.ptr t.tb 0,bR a,bR v,bR b,bR w] h nx λr h' nx'=>∃(t':Mt) (p':bj) (x:Hd) (lH jn:Nat->ba) (mT par':Nat->Nat),r=x.av/\MW t' p' h' nx'/\fc nx t t' p p' h h'/\t'.aO=t.aO/\t'.size=t.size/\MI Pk (cV t'.a.es) aO lH jn mT par' rk iJ/\
  (∃n,cV t'.a.es x.ao=some (x.bk,n)/\n.mR=false)/\lH x.ao=P/\jn x.ao=[]/\par' x.ao=A/\Gr (cV t.a.es) (cV t'.a.es) pre lH lo jn par par':=by
 intro D
 induction D with
 |zero=>intro a v b w h;exact absurd h (bW _)
 |succ D ih=>
 intro a v b w hD xz P i hPi Df pka pkb la lb cx A t p h nx B pre lo fC par rk iJ I hc;have db:=B.tk.lt;rw[aq]at la lb;have ha6:a.length<60000:=ah;have hb6:b.length<60000:=ah;have d0:¬(t.tb=nx):=ah;refine aA.ac 5 HE func322 ?_;simp+decide-dsimp only[f322,go_sem];have S0:aH nx h (aK h nx (.cells [int 0,u64 0] 245)):=aH.refl.set (an _);refine cf (ai9 t p _ (nx+1) (B.aX S0 ah) ah) λ_ h1 cm l1 ⟨t1,p1,x,r1,r2,B1,fI,r3,r4,r5,r6⟩=>?_;subst r2;have b1:=B.pk.rY;have b2:=B.pk.ss;have b3:=B.pk.sr;have CH:au h1 nx=some (.cells [int 0,u64 0] 245):=by rw[fI.aX nx ah ah ah ah ah (by have:=B.tk.ok.lm;omega) (λe he e'=>by have:=(B.tk.ok.fr e he).2.2;omega),aj,aw rfl]
 have KS:∀c,t1.own c->c<nx\/nx+1<=c:=λc hc=>by
  rcases fI.p.bl c hc with q|q;.have:=B.tk.dm q;omega
  .omega
 have qt:au h1 t.tb=some (.cells [.ptr t1.a.pb 0,.ptr t1.a.ab 0,int t1.aO.ao,u64 t1.aO.bk,.g (.int .i64 t1.size),.g (.int .i64 t1.gm),bQ false] 273):=by have:=B1.tk.tr;rw[fI.tb]at this;exact this
 have d1:¬(t.tb=cm):=ah;have d2:¬(nx=cm):=ah;simp+decide-dsimp only[go_sem,HE,qt,d1,Hd.av,Hd.cells,reduceAdd];generalize hq:cm+1+Array.size _=nq;have rm:cm+1<=nq:=ah;clear hq;generalize hG:aK (aK h1 cm _) cm _=G;have G1:∀c,c≠cm->au G c=au h1 c:=λc hc=>by rw[<-hG,aj,ak hc,aj,ak hc]
 have k1:au G cm=some (.cells [int x.ao,u64 x.bk] 245):=by rw[<-hG,aj,aw rfl]
 clear hG;have k0:au G nx=some (.cells [int 0,u64 0] 245):=by rw[G1 _ ah];exact CH
 have B2:MW t1 p1 G nq:=B1.heap (λc hc=>G1 c (by
  rcases hc with hc|hc|hc|hc;.have:=B1.tk.dm hc;omega
  .rw[fI.pb]at hc;omega
  .rw[fI.gb]at hc;omega
  .rw[fI.fb]at hc;omega)) ah
 have tH:fc nx t t1 p p1 h G:=((fc.same S0).trans (fI.wide (bz nx)) (an _)).heap λc hc=>G1 c ah;have PB:cV t1.a.es x.ao=some (x.bk,iM):=by rw[r3,cO]
 have I1:=I.fresh r1 P ⟨i,hPi,Df⟩ A;rw[<-r3]at I1;have gr1:Gr (cV t.a.es) (cV t1.a.es) pre (λs=>if s=x.ao then P else pre s) lo (λs=>if s=x.ao then[]else lo s) par (λs=>if s=x.ao then A else par s):=λs g n hs=>by
  have Ws:s≠x.ao:=λe=>by rw[e,r1]at hs;cases hs
  exact⟨by rw[r3,cH Ws];exact hs,ak Ws,ak Ws,ak Ws⟩
 obtain⟨ex,hex,x1,x2,x3,x4,x5,x6⟩:=jP B2.tk.ok PB;have exo:=KS ex.bJ (.inr (.inr (.inr ⟨ex,hex,rfl⟩)));have exl:ex.bJ<cm:=(B1.tk.ok.fr ex hex).2.2;refine bm (x6 _ _ .refl ah) ?_;have F0:wF iM.cells 0 iM:=wF.mk' (pre:=[]) rfl;have f2:(ed 1 iM.cells).bind (de 111)=some iN.cells:=F0.aE;simp+decide-dsimp only[go_sem];refine aZ (agY a b ha6 hb6) ?_;by_cases hz:0<alike a b
 case pos=>
  obtain⟨z1,z2,z3⟩:=NX hz;have hzi:(0:Int)<(alike a b:Int):=ah;have sa:eS prog 9 (bR a) (some (int 8)) none=some (bR (a.drop 8)):=rf (i:=8) ah;have sb:eS prog 9 (bR b) (some (int 8)) none=some (bR (b.drop 8)):=rf (i:=8) ah;have OH:=PZ a 0 ha6 ah;rw[Mm,j9]at OH;simp+decide-dsimp only[go_sem,HE,x4,f2,hzi,sa,sb,reduceAdd];generalize hq:nq+Array.size _=n3;have hn3:nq<=n3:=ah;clear hq;refine aZ OH ?_;simp+decide-dsimp only[go_sem,x4,f2];have hP8:(P++a.take 8).length=8*(i+1):=by rw[aq,ax,hPi];omega
  have ea:P++a.take 8++a.drop 8=P++a:=by rw[ay,bY]
  have eb:P++a.take 8++b.drop 8=P++b:=by rw[z3,ay,bY]
  have B3:MW t1 p1 G n3:=B2.heap (λ_ _=>rfl) hn3;have hal:=wg ⟨z1,z2,z3⟩;have c:=ih (a.drop 8) v (b.drop 8) w (by rw[aC];omega) (λe=>xz (by rw[<-bY 8 a,<-bY 8 b,z3,e])) (P++a.take 8) (i+1) hP8 ah (by rw[ea];exact pka) (by rw[eb];exact pkb) (by rw[ea,aq];exact la) (by rw[eb,aq];exact lb)
   (λ_=>⟨λe=>by have:=fN List.length e;rw[aC]at this;simp at this;omega,λe=>by have:=fN List.length e;rw[aC]at this;simp at this;omega⟩) x.ao t1 p1 G n3 B3 _ _ _ _ rk iJ I1 ah
  rw[fI.tb]at c;refine cf c λ_ h2 dU l2 ⟨t2,p2,y,CM,Gn,FF,CR,s1,B4,EH,s2,s3,I2,s4,s5,s6,s7,gr2⟩=>?_;subst s1;obtain⟨UF,q1,q2,q3⟩:=gr2 _ _ _ PB;obtain⟨e2,he2,y1,y2,y3,y4,y5,y6⟩:=jP B4.tk.ok UF;have Kn:e2.bJ=ex.bJ:=EH.qM B4 hex he2 (y1.trans x1.symm);rw[Kn]at y4 y5;have ui:∀c,nx<=c->c<n3->¬t1.own c->au h2 c=au G c:=λc IN Iy hc3=>EH.aX c Iy (λe=>hc3 (.inl e)) (by rw[fI.pb];omega) (by rw[fI.gb];omega) (by rw[fI.fb];omega) (λe=>hc3 (.inr (.inr (.inl e)))) (λe he e'=>hc3 (.inr (.inr (.inr ⟨e,he,e'⟩))));have m0:au h2 nx=some (.cells [int 0,u64 0] 245):=by rw[ui nx (an _) ah (λhc=>by have:=KS _ hc;omega)];exact k0
  have m1:au h2 cm=some (.cells [int x.ao,u64 x.bk] 245):=by rw[ui cm ah ah (λhc=>by have:=B1.tk.dm hc;omega)];exact k1
  let sl:Sl:=⟨cut a,[],[],true,y⟩
  have UK:sl.R:=⟨DW a,λ_=>⟨by show(cut a).length=9;rw[kM];omega,rfl,rfl⟩,(λh=>by cases h)⟩;have pl:iN.Pl sl.m 0:=⟨an _,λj hj=>absurd hj (bW _),λhj=>absurd hj (bW _)⟩;have Bx:=Jq iN oJ sl UK rfl 0 pl bN;rw[ak (λh=>absurd h.1 (bW _))]at Bx;have lR:(iN.ins 0 sl).R:=oJ.ins pl bN UK rfl (λh=>absurd h.1 (bW _));have Gi:=jb (g:=u64 x.bk) (n:=iM) (l:=iN.ins 0 sl) rfl lR.sl;have Pd:=dW lR.sl;simp+decide-dsimp only[go_sem,y4,f2,Hd.av,Hd.cells,reduceAdd];refine aZ Bx ?_;have nex:¬(nx=ex.bJ):=ah;have abG:¬(cm=ex.bJ):=ah;have amh:¬(cm=nx):=ah;simp+decide-dsimp only[go_sem,m0,m1,y4,Gi,Pd,gN,nex,abG,Hd.av,Hd.cells,reduceAdd];obtain⟨t3,B5,GA,u3,u4,u5,u6⟩:=B4.kI he2 y1 y2 {iM with aE:=iN.ins 0 sl} lR.sl;rw[Kn]at B5 GA;have q1':CM x.ao=P:=q1.trans (aw rfl);have q2':Gn x.ao=[]:=q2.trans (aw rfl);have q3':CR x.ao=A:=q3.trans (aw rfl);have KP:xw Pk (cV t2.a.es) CM Gn CR x.ao sl:=⟨(λh=>by cases h),λ_=>⟨s4,by rw[s5,q1'];show _=P++nameOf (cut a);rw[GJ],s6,s7⟩⟩;have I3:MI Pk (cV t3.a.es) aO CM Gn FF CR rk iJ:=by rw[u3];exact I2.ins (big':=iJ) UF rfl pl UK rfl (λh=>absurd h.1 (bW _)) (λ_ h _=>h) (.inl bN) (by rw[q2'];exact kj) KP
  have gr3:Gr (cV t.a.es) (cV t3.a.es) pre CM lo Gn par CR:=λs g n hs=>by
   have Ws:s≠x.ao:=λe=>by rw[e,r1]at hs;cases hs
   obtain⟨a1,a2,a3,a4⟩:=gr1 s g n hs;obtain⟨b1,b2,b3,b4⟩:=gr2 s g n a1;exact⟨by rw[u3,cH Ws];exact b1,b2.trans a2,b3.trans a3,b4.trans a4⟩
  have uw:∀c,t3.own c->c≠nx:=λc hc e=>by
   rcases GA.p.bl c hc with q|q
   .rcases EH.p.bl c q with q|q;.have:=KS c q;omega
    .omega
   .omega
  refine⟨t3,p2,x,CM,Gn,FF,CR,rfl,B5.heap (λc hc=>?_) ah,((tH.trans EH ah).trans GA ah).heap (λc hc=>yL),u4.trans (s2.trans r4),u5.trans (s3.trans r5),I3,⟨_,by rw[u3];exact cO,rfl⟩,q1',q2',q3',gr3⟩;rw[aj,ak];rcases hc with hc|hc|hc|hc
  .exact uw c hc
  .rw[EH.pb,fI.pb]at hc;omega
  .rw[EH.gb,fI.gb]at hc;omega
  .rw[EH.fb,fI.fb]at hc;omega
 have hz0:alike a b=0:=ah;have hzi:¬((0:Int)<(alike a b:Int)):=ah;have s1R:=Bw a v 0;have s2R:=Bw b w 0;have m1:(eC a 0 v).m=cut a:=rfl;have m2:(eC b 0 w).m=cut b:=rfl;have Gi:iN.Pl (eC a 0 v).m 0:=⟨an _,λj hj=>absurd hj (bW _),λhj=>absurd hj (bW _)⟩;have c1:=Jq iN oJ _ s1R rfl 0 Gi bN;rw[ak (λh=>absurd h.1 (bW _))]at c1;have R1:(iN.ins 0 (eC a 0 v)).R:=oJ.ins Gi bN s1R rfl (λh=>absurd h.1 (bW _));have e1:((iN.ins 0 (eC a 0 v)).e 0).m=cut a:=by rw[Bm oJ (i:=0) (aY _) bN _ (j:=0) bN,ak (eG 0),aw rfl];rfl
 generalize hl1:iN.ins 0 (eC a 0 v)=f1 at c1 R1 e1;have n1:f1.n=1:=by rw[<-hl1];rfl
 have f1b:f1.bd=false:=by rw[<-hl1];rfl
 obtain⟨j,pl2⟩:=R1.pl (eC b 0 w).m;have Qe:¬(j<f1.n/\(f1.e j).m=(eC b 0 w).m):=λh=>by have hj:j=0:=ah;rw[hj,e1,m2]at h;exact NJ hz0 xz h.2
 have wk:∀m,f1.dI m=true:=λm=>by unfold Lf.dI;rw[f1b];rfl
 have c2:=Jq f1 R1 _ s2R (wk _) j pl2 ah;rw[ak Qe]at c2;have R2:=R1.ins pl2 ah s2R (wk _) Qe;have p1l:=jb (g:=u64 x.bk) (n:=iM) (l:=f1) rfl R1.sl;have p2l:=jb (g:=u64 x.bk) (n:={iM with aE:=f1}) (l:=f1.ins j (eC b 0 w)) R1.sl R2.sl;have Pd:=dW R1.sl;have fl2:=dW R2.sl;have F1:wF ({iM with aE:=f1}:Mn).cells 0 {iM with aE:=f1}:=wF.mk' (pre:=[]) R1.sl;have f3:(ed 1 ({iM with aE:=f1}:Mn).cells).bind (de 111)=some f1.cells:=F1.aE;have nex:¬(nx=ex.bJ):=ah;have abG:¬(cm=ex.bJ):=ah;have amh:¬(cm=nx):=ah;simp+decide-dsimp only[go_sem,HE,x4,f2,hzi,reduceAdd];refine aZ (ady a v 0 ha6 ah) ?_;simp+decide-dsimp only[go_sem,x4,f2];refine aZ c1 ?_;simp+decide-dsimp only[go_sem,HE,x4,f3,p1l,Pd,gN,reduceAdd];refine aZ (ady b w 0 hb6 ah) ?_;simp+decide-dsimp only[go_sem,x4,f3];refine aZ c2 ?_;simp+decide-dsimp only[go_sem,k0,k1,x4,p2l,fl2,gN,nex,abG,reduceAdd];obtain⟨t3,B5,GA,u3,u4,u5,u6⟩:=B2.kI hex x1 x2 {iM with aE:=f1.ins j (eC b 0 w)} R2.sl;have I3:MI Pk (cV t3.a.es) aO (λs=>if s=x.ao then P else pre s) (λs=>if s=x.ao then[]else lo s) (λs=>if s=x.ao then 0 else fC s) (λs=>if s=x.ao then A else par s) rk iJ:=by have J1:=I1.ins (big':=iJ) (x:=eC a 0 v) PB rfl Gi s1R rfl (λh=>absurd h.1 (bW _)) (λ_ h _=>h) (.inl bN) (by rw[aw rfl];exact kj) (A8 v (aw rfl) pka (by rw[aq];exact la) (λh=>(cx h).1));have J2:=J1.ins (big':=iJ) (x:=eC b 0 w) (n:={iM with aE:=iN.ins 0 (eC a 0 v)}) cO rfl (by rw[hl1];exact pl2) s2R (by rw[hl1];exact wk _) (by rw[hl1];exact Qe) (λ_ h _=>h) (.inl (show 1+1<=6 from bN)) (by rw[aw rfl];exact kj) (A8 w (aw rfl) pkb (by rw[aq];exact lb) (λh=>(cx h).2));rw[afb]at J2;rw[u3,<-hl1];exact J2
 have gr3:Gr (cV t.a.es) (cV t3.a.es) pre (λs=>if s=x.ao then P else pre s) lo (λs=>if s=x.ao then[]else lo s) par (λs=>if s=x.ao then A else par s):=λs g n hs=>by
  have Ws:s≠x.ao:=λe=>by rw[e,r1]at hs;cases hs
  obtain⟨a1,a2⟩:=gr1 s g n hs;exact⟨by rw[u3,cH Ws];exact a1,a2⟩
 have uw:∀c,t3.own c->c≠nx:=λc hc e=>by
  rcases GA.p.bl c hc with q|q;.have:=KS c q;omega
  .omega
 refine⟨t3,p1,x,_,_,_,_,rfl,B5.heap (λc hc=>?_) ah,(tH.trans GA ah).heap (λc hc=>?_),u4.trans r4,u5.trans r5,I3,⟨_,by rw[u3];exact cO,by unfold Mn.mR;exact(aw rfl).trans f1b⟩,aw rfl,aw rfl,aw rfl,gr3⟩
 .have OL:c≠nx:=by
   rcases hc with hc|hc|hc|hc;.exact uw c hc
   .rw[fI.pb]at hc;omega
   .rw[fI.gb]at hc;omega
   .rw[fI.fb]at hc;omega
  rw[aj,ak OL,aj,aj,aj];split<;>rfl
 .have OL:c≠nx:=ah;rw[aj,ak OL,aj,aj,aj];split<;>rfl
def abb:Nat->cU:=λid=>if id=4 then[(z11,[],some 12),([13,14,15],[],some 16),([],[],some 17),([],[],none)]else[]
theorem am2(t:Mt)(h:aG)(nx:Nat)(o:t.ok h nx)(L:List Hd)(hL:L.length<=60000)(hn:∀i,i<L.length->∃n,cV t.a.es (at_ L i).ao=some ((at_ L i).bk,n)/\(n.cQ=true->n.aE.R)):
 aA prog 323 [.ptr t.tb 0,r7 L] h nx λv h' nx'=>(∃m,v=int (m:Nat)/\∀c,m<=c->RX (cV t.a.es) L c)/\h'=h/\nx'=nx:=by
 refine aA.pc 2 abb func323 ?_;simp+decide-dsimp only[f323,go_sem];refine cL _ _ (λm s h' nx'=>∃i,i<=L.length/\m=L.length-i/\
  ao s 0= .ptr t.tb 0/\ao s 1=r7 L/\ao s 9=int L.length/\ao s 10=int i/\h'=h/\nx<=nx') (n:=L.length) ?_ ?_
 .simp+decide-dsimp only[go_sem];exact⟨0,aY _,rfl,bL⟩
 rintro m s h' nx' ⟨i,hi,rfl,s0,s1,s9,vE,rfl,l1⟩;by_cases db:i<L.length
 .obtain⟨n,hs,hR⟩:=hn (L.length-1-i) ah;have w1:1<=L.length:=ah;have w2:L.length<9223372036854775808:=ah;have w3:i<=L.length-1:=ah;have w4:L.length-1<9223372036854775808:=ah;have w5:L.length-1-i<L.length:=ah;have w6:i+1<9223372036854775808:=ah;obtain⟨e,he,_,_,c3,c4,c5,c6⟩:=jP o.ok hs;have qQ:n.aE.sl.length=15:=by rw[<-c3];exact o.sl e he
  have F:wF (u64 (at_ L (L.length-1-i)).bk::n.cells) 1 n:=wF.mk' (pre:=[u64 (at_ L (L.length-1-i)).bk]) qQ;simp+decide-dsimp only[go_sem,abb,s0,s1,s9,vE,db,o.tr,w1,w2,w3,w4,w5,Hd.cells,jA];refine bm (c6 _ _ .refl ah) ?_;simp+decide-dsimp only[go_sem];refine bm (am5 c4 ah F hR qQ) ?_;cases hk:n.tight with
  |false=>simp+decide-dsimp only[go_sem];exact⟨aH.refl,_,.cA,i,rfl,λc hc=>⟨i,hc,.inl ⟨db,n,hs,hk⟩⟩⟩
  |true=>simp+decide-dsimp only[go_sem,s0,s1,s9,vE,w6];exact⟨_,(ah:L.length-(i+1)<_),i+1,db,rfl,rfl,ah⟩
 .have:i=L.length:=ah;subst this;have w6:L.length+1<9223372036854775808:=ah;simp+decide-dsimp only[go_sem,s1,s9,vE,w6,eG];exact⟨aH.refl,_,.cA,L.length+1,rfl,λc hc=>⟨_,hc,.inr rfl⟩⟩
variable{B6 B9:Nat}{H:aG}{Q:AV->aG->Nat->Prop}{f:FuncId}
def BY:Nat->cU:=λid=>if id=5 then[(z4,[],some 5),([6,7,8],[],some 9),([],[],some 10),([],[],none)]else if id=9 then[(z9,[],some 10),([11,12,13],[],some 14),([],[],some 15),([],[],none)]else if id=10 then[(z6,[],some 7),([8,9],[],some 10),([],[],none)]else if id=11 then[([0,1,2,3,4,5,6,7,8,9,10,15],[3,5,6,7,8],some 11),([12,13,14],[15],some 16),([],[],some 17),([],[],none)]else if id=14 then[(z5,[],some 6),([7,8,9],[],some 10),([],[],some 11),([],[],none)]else if id=15 then[(z8,[],some 9),([10,11,12,13,14,15],[],some 16),([],[],none)]else[]
theorem ajJ(h:i<9223372036854775808):cF .i64 (((i+1:Nat):Int)-1)=(i:Int):=pC
theorem ajv{l:List AV}(h:l.length=8):dJ 112 (Bg.map AV.g) l=some (bQ false::(vG.cells++l)):=by have e:(Bg.map AV.g).length=120:=rfl;rw[cp _ _ _ (by rw[e,h];omega),h,aT (by rw[e];omega),cD];rfl
theorem ab7:cF .i64 (((0:Nat):Int)-1)= -1:=by rw[wrap_i64 ah ah];rfl
theorem Nq{k:ba}{y x:Hd}(h6:au H B6=some (.cells [bR k] 9))(h9:au H B9=some (.cells [int y.ao,u64 y.bk,int x.ao,u64 x.bk] 245))(cx:B9≠B6)
 (hc:aA prog f [a,(tn k y x).av] (aK (aK H B6 .dead) B9 .dead) nx Q):aA prog f [a,.agg (bQ false::(vG.cells++[bQ false,.sl B6 0 1 1,.g (.slice none 0 0),.sl B9 0 2 2,bR [],bQ false,int 0,u64 0]))] H nx Q:=by
 refine aA.fz1 (b:=B6) h6 rfl (args':=[a,.agg (bQ false::(vG.cells++[bQ false,.fz 1 [bR k],.g (.slice none 0 0),.sl B9 0 2 2,bR [],bQ false,int 0,u64 0]))]) (Eq.refl (2:Nat)) ?_ ?_
 .intro r wI vs hle UB h;cases h with|cons h1 h=>cases h with|cons h2 h=>cases h with|nil=>
  refine .cons (h1.mono hle) (.cons ?_ .nil);cases h2 with|agg h=>
  cases h with|cons a0 h=>
  obtain⟨v1,v2,rfl,q1,q2⟩:=eM.parts h;clear h;cases q2 with|cons a1 h=>cases h with|cons a2 h=>cases h with|cons a3 h=>cases h with|cons a4 h=>cases h with|cons a5 h=>cases h with|cons a6 h=>cases h with|cons a7 h=>cases h with|cons a8 h=>cases h with|nil=>
  exact VR.agg (c:=_::(v1++[_,_,_,_,_,_,_,_])) (.cons (a0.mono hle) (eM.join (q1.mono hle) (.cons (a1.mono hle) (.cons (UB 0 1 1 1 _ (an _) a2) (.cons (a3.mono hle) (.cons (a4.mono hle) (.cons (a5.mono hle) (.cons (a6.mono hle) (.cons (a7.mono hle) (.cons (a8.mono hle) .nil))))))))))
 refine aA.fz1 (b:=B9) (cs:=[int y.ao,u64 y.bk,int x.ao,u64 x.bk]) (by rw[aj,ak cx];exact h9) rfl (args':=[a,(tn k y x).av]) (Eq.refl (2:Nat)) ?_ hc;intro r wI vs hle UB h;cases h with|cons h1 h=>cases h with|cons h2 h=>cases h with|nil=>
 refine .cons (h1.mono hle) (.cons ?_ .nil);cases h2 with|agg h=>
 cases h with|cons a0 h=>
 obtain⟨v1,v2,rfl,q1,q2⟩:=eM.parts h;clear h;cases q2 with|cons a1 h=>cases h with|cons a2 h=>cases h with|cons a3 h=>cases h with|cons a4 h=>cases h with|cons a5 h=>cases h with|cons a6 h=>cases h with|cons a7 h=>cases h with|cons a8 h=>cases h with|nil=>
 exact VR.agg (c:=_::(v1++[_,_,_,_,_,_,_,_])) (.cons (a0.mono hle) (eM.join (q1.mono hle) (.cons (a1.mono hle) (.cons (a2.mono hle) (.cons (qB (a3.mono hle)) (.cons (UB 0 2 2 4 _ (an _) a4) (.cons (a5.mono hle) (.cons (a6.mono hle) (.cons (a7.mono hle) (.cons (a8.mono hle) .nil))))))))))
set_option maxHeartbeats 4000000 in
theorem akU(t:Mt)(p:bj)(h:aG)(nx:Nat)(B:MW t p h nx){up:Hd}{mk:ba}{d c:Nat}(hL:L.length<=4096)(Df:i<=2)(J:tD Pk σ (cV t.a.es) t.aO L (Kw i up mk) d c (p.fr.count true) L.length)(hN:RX σ L c)(hmk:0<i->rW mk/\mk.length=9):
 aA prog 324 [.ptr t.tb 0,.agg (EF i (r7 L) up mk)] h nx λ_ h' nx'=>∃(t':Mt) (p':bj),MW t' p' h' nx'/\fc nx t t' p p' h h'/\∃d',MTr Pk (cV t'.a.es) t'.aO d':=by
 have db:=B.tk.lt;have b1:=B.pk.rY;have b2:=B.pk.ss;have b3:=B.pk.sr;have w1:1<=L.length:=J.pos;have w2:L.length<9223372036854775808:=ah;refine aA.ac 2 BY func324 ?_;simp+decide-dsimp only[f324,go_sem,w1,w2];generalize hA:aK h nx _=A;have S0:aH nx h A:=by rw[<-hA];exact jh
 have kA:au A nx=some (.cells (EF i (r7 L) up mk) 449):=by rw[<-hA,aj,aw rfl]
 clear hA;have BA:MW t p A (nx+1):=B.aX S0 ah;refine cL _ _ (λmm s h' nx'=>∃(t1:Mt) (p1:bj),ao s 0= .ptr t.tb 0/\ao s 3= .ptr nx 0/\MW t1 p1 h' nx'/\fc (nx+1) t t1 p p1 A h'/\nx+1<=nx'/\
  ((mm=0/\ao s 4= .g (.int .i64 (-1))/\∃d',MTr Pk (cV t1.a.es) t1.aO d')\/(∃q,mm=q+1/\ao s 4=int q/\tD Pk σ (cV t1.a.es) t1.aO L (Kw i up mk) d c (p1.fr.count true) (q+1)))) (n:=L.length) ?_ ?_
 .simp+decide-dsimp only[go_sem];exact⟨t,p,BA,fc.same aH.refl,.inr ⟨L.length-1,ah,rfl,by rw[p8 w1];exact J⟩⟩
 rintro mm s h' nx' ⟨t1,p1,s0,s3,B1,fI,l1,⟨rfl,s4,J1⟩|⟨q,rfl,s4,J1⟩⟩;.simp+decide-dsimp only[go_sem,s4];exact⟨t1,p1,B1.aX aH.refl ah,(fc.same S0).trans (fI.wide (bz nx)) (an _),J1⟩
 have kx:au h' nx=some (.cells (EF i (r7 L) up mk) 449):=by rw[fI.aX nx ah ah ah ah ah (by have:=B.tk.ok.lm;omega) (λe he e'=>by have:=(B.tk.ok.fr e he).2.2;omega)];exact kA
 have kt:au h' t.tb=some (.cells [.ptr t1.a.pb 0,.ptr t1.a.ab 0,int t1.aO.ao,u64 t1.aO.bk,.g (.int .i64 t1.size),.g (.int .i64 t1.gm),bQ false] 273):=by have:=B1.tk.tr;rw[fI.tb]at this;exact this
 have KS:∀c,t1.own c->c<nx\/nx+1<=c:=λc hc=>by
  rcases fI.p.bl c hc with q|q;.have:=B.tk.dm q;omega
  .omega
 have hql:q<L.length:=J1.le;have Cb:(0:Int)<=(q:Int):=gZ q;obtain⟨m,hm,hmc⟩:=J1.cur;replace hm:cV t1.a.es (at_ L q).ao=some ((at_ L q).bk,m):=hm;obtain⟨e,he,g1,g2,g3,g4,g5,g6⟩:=jP B1.tk.ok hm;have n0:¬(nx=nx'):=ah;have n1:¬(t.tb=nx'):=ah;simp+decide-dsimp only[go_sem,BY,s0,s3,s4,kx,kt,Cb,hql,n1,Hd.cells,jA,reduceAdd];generalize hq:nx'+1+Array.size _=nq;have rm:nx'+1<=nq:=ah;clear hq;generalize hG:aK (aK h' nx' _) nx' _=G;have G1:∀c,c≠nx'->au G c=au h' c:=λc hc=>by rw[<-hG,aj,ak hc,aj,ak hc]
 have k1:au G nx'=some (.cells [int (at_ L q).ao,u64 (at_ L q).bk] 245):=by rw[<-hG,aj,aw rfl]
 clear hG;have kx2:au G nx=some (.cells (EF i (r7 L) up mk) 449):=by rw[G1 _ n0];exact kx
 have kt2:au G t.tb=some (.cells [.ptr t1.a.pb 0,.ptr t1.a.ab 0,int t1.aO.ao,u64 t1.aO.bk,.g (.int .i64 t1.size),.g (.int .i64 t1.gm),bQ false] 273):=by rw[G1 _ n1];exact kt
 have c4:au G e.bJ=some (.cells (u64 (at_ L q).bk::m.cells) 334):=by rw[G1 _ ah];exact g4
 have CH:∀c,t1.own c\/c=p1.pb\/c=p1.gb\/c=p1.fb->c<nx':=λc hc=>by
  rcases hc with hc|hc|hc|hc;.exact B1.tk.dm hc
  .rw[fI.pb]at hc;omega
  .rw[fI.gb]at hc;omega
  .rw[fI.fb]at hc;omega
 have B2:MW t1 p1 G nq:=B1.heap (λc hc=>G1 c (by have:=CH c hc;omega)) ah;have tH:fc (nx+1) t t1 p p1 A G:=fI.heap λc hc=>G1 c ah;refine bm (g6 _ _ (λc hc=>G1 c ah) ah) ?_;obtain⟨pre,lo,fC,par,rk,I1,hI1⟩:=J1.bi;have qQ:m.aE.sl.length=15:=by rw[<-g3];exact B1.tk.sl e he
 have F:wF (u64 (at_ L q).bk::m.cells) 1 m:=wF.mk' (pre:=[u64 (at_ L q).bk]) qQ;simp+decide-dsimp only[go_sem];refine bm (akq c4 ah F (λhl=>(I1.lf _ _ _ hm hl).1) qQ) ?_;cases hf:m.full with
 |false=>simp+decide-dsimp only[go_sem];exact⟨t1,p1,B2.aX aH.refl ah,(fc.same S0).trans (tH.wide (bz nx)) (an _),_,J1.exit hm hf⟩
 |true=>
  have pM:=J1.room hN hm hf;have FR:=I1.Me hm hf;simp+decide-dsimp only[go_sem,s0];have aiT:=amg t1 p1 G nq B2 hm FR pM.1 he g1 g2 g3;rw[fI.tb]at aiT;refine cf aiT λ_ h3 nx3 l3 ⟨t2,p2,x,nl,nr,sep,v1,hx,hh,B3,pz,r3,r4,r5⟩=>?_;subst v1;have ui:∀c,¬t1.own c->c<nq->c≠p1.pb->c≠p1.gb->c≠p1.fb->au h3 c=au G c:=λc IN Iy g1 g2 g3=>pz.aX c Iy (λe=>IN (.inl e)) g1 g2 g3 (λe=>IN (.inr (.inr (.inl e)))) (λe he e'=>IN (.inr (.inr (.inr ⟨e,he,e'⟩))));have q0:au h3 nx=some (.cells (EF i (r7 L) up mk) 449):=by rw[ui nx (λhc=>by have:=KS _ hc;omega) ah (by rw[fI.pb];omega) (by rw[fI.gb];omega) (by rw[fI.fb];omega)];exact kx2
  have q1:au h3 nx'=some (.cells [int (at_ L q).ao,u64 (at_ L q).bk] 245):=by rw[ui nx' (λhc=>by have:=CH _ (.inl hc);omega) ah (λe=>by have:=CH nx' (.inr (.inl e));omega) (λe=>by have:=CH nx' (.inr (.inr (.inl e)));omega) (λe=>by have:=CH nx' (.inr (.inr (.inr e)));omega)];exact k1
  have qt:au h3 t.tb=some (.cells [.ptr t2.a.pb 0,.ptr t2.a.ab 0,int t2.aO.ao,u64 t2.aO.bk,.g (.int .i64 t2.size),.g (.int .i64 t2.gm),bQ false] 273):=by have:=B3.tk.tr;rw[pz.tb,fI.tb]at this;exact this
  have m0:¬(nx=nx3):=ah;have m1:¬(nx'=nx3):=ah;have m2:¬(t.tb=nx3):=ah;have uw:∀c,t2.own c\/c=p2.pb\/c=p2.gb\/c=p2.fb->(c<nx\/nx+1<=c)/\c≠nx'/\c<nx3:=λc hc=>by
   rcases hc with hc|hc|hc|hc
   .refine⟨?_,?_,B3.tk.dm hc⟩
    .rcases pz.p.bl c hc with q|q;.exact KS c q
     .omega
    .rcases pz.p.bl c hc with q|q;.have:=CH c (.inl q);omega
     .omega
   .rw[pz.pb,fI.pb]at hc;omega
   .rw[pz.gb,fI.gb]at hc;omega
   .rw[pz.fb,fI.fb]at hc;omega
  have EH:fc (nx+1) t t2 p p2 A h3:=tH.trans pz ah;have UF:cV t2.a.es x.ao=some (x.bk,nr):=by rw[r3,cO]
  cases q with
  |succ q=>
   obtain⟨u,hu0,hu,hul,_⟩:=J1.old q ah;obtain⟨z1,z2,z3,z4,z5,z6⟩:=J1.split ah hm hf hu;obtain⟨z7,z8,J2⟩:=z6 x nl nr sep (p2.fr.count true) hx ah hh;replace z1:(at_ L q).ao≠(at_ L (q+1)).ao:=z1;replace hu:cV t1.a.es (at_ L q).ao=some ((at_ L q).bk,u):=hu;have EU:(at_ L q).ao≠x.ao:=λe=>by rw[e,hx]at hu;cases hu
   have hu2:cV t2.a.es (at_ L q).ao=some ((at_ L q).bk,u):=by rw[r3,cH EU,cH z1];exact hu
   have hgt:(0:Int)<((q+1:Nat):Int):=ah;have hq1:q<L.length:=ah;have w6:q+1<9223372036854775808:=ah;obtain⟨eu,heu,e1,e2,e3,e4,e5,e6⟩:=jP B3.tk.ok hu2;have ajH:=ajJ (i:=q) ah;simp+decide-dsimp only[go_sem,BY,s0,s3,s4,q0,qt,m0,m2,hgt,hq1,ajH,Hd.av,Hd.cells,jA,reduceAdd];generalize hq:nx3+1+Array.size _=nr0;have hnr:nx3+1<=nr0:=ah;clear hq;generalize hK:aK (aK h3 nx3 _) nx3 _=K;have K1:∀c,c≠nx3->au K c=au h3 c:=λc hc=>by rw[<-hK,aj,ak hc,aj,ak hc]
   have k3:au K nx3=some (.cells [int x.ao,u64 x.bk] 245):=by rw[<-hK,aj,aw rfl]
   clear hK;have B4:MW t2 p2 K nr0:=B3.heap (λc hc=>K1 c (by have:=uw c hc;omega)) ah;have ku:au K eu.bJ=some (.cells (u64 (at_ L q).bk::u.cells) 334):=by rw[K1 _ ah];exact e4
   refine bm (e6 _ _ (λc hc=>K1 c ah) ah) ?_;have adK:u.aE.sl.length=15:=by rw[<-e3];exact B3.tk.sl eu heu
   have U0:wF u.cells 0 u:=wF.mk' (pre:=[]) adK;have f3:=U0.aN;have Qt:=agf u.aN z4 z5 sep x z7 z8;rw[Nd.av,Nd.av,Hd.av,Hd.cells]at Qt;simp+decide-dsimp only[go_sem,BY,k3,ku,f3,reduceAdd];refine aZ Qt ?_;have pl:=sE (g:=u64 (at_ L q).bk) (n:=u) (d:=u.aN.add sep x) adK;simp+decide-dsimp only[go_sem,s0,s3,s4,ku,pl,Dh,ajH,reduceAdd];obtain⟨t3,B5,GA,u3,u4,u5,u6⟩:=B4.kI heu e1 e2 {u with aN:=u.aN.add sep x} adK;refine⟨q+1,aW _,t3,p2,B5.aX aH.refl ah,(EH.heap (λc hc=>K1 c ah)).trans GA ah,ah,.inr ⟨q,rfl,rfl,?_⟩⟩;rw[u3,u4,r3,r4];exact J2
  |zero=>
   obtain⟨_,T⟩:=J1.top hm hf;have hgt:¬((0:Int)<((0:Nat):Int)):=ah;have Iy:p2.fr.count true≠0:=by have:=pM.2 rfl;omega
   have n1':∀q,¬(nx'=nx3+1+q):=λq=>ah;have RJ:∀q,¬(nx3=nx3+1+q):=λq=>ah;have n3':∀q,¬(nx=nx3+1+q):=λq=>ah;have n4':∀q,¬(t.tb=nx3+1+q):=λq=>ah;have n5':¬(nx3+1+5=nx3+1+8):=ah;have lb:=λ(l:List AV) (h:l.length=8)=>ajv (l:=l) h;simp+decide-dsimp only[go_sem,BY,s0,s4,q1,qt,m1,m2,n1',RJ,n4',n5',lb,Hd.av,Hd.cells,reduceAdd];generalize hq:nx3+1+Array.size _=nr0;have hnr:nx3+1+17<=nr0:=by rw[<-hq];exact eI bN _
   clear hq;generalize hK:aK (aK (aK (aK (aK h3 nx3 _) nx3 _) (nx3+1+5) _) (nx3+1+8) _) (nx3+1+15) _=K;have K1:∀c,c<nx3->au K c=au h3 c:=λc hc=>by
    rw[<-hK]
    repeat rw[aj,ak ah]
   have k3:au K nx3=some (.cells [int x.ao,u64 x.bk] 245):=by
    rw[<-hK]
    repeat rw[aj,ak ah]
    rw[aj,aw rfl]
   have k5:au K (nx3+1+5)=some (.cells [bR sep] 9):=by
    rw[<-hK]
    repeat rw[aj,ak ah]
    rw[aj,aw rfl]
   have k8:au K (nx3+1+8)=some (.cells [int (at_ L 0).ao,u64 (at_ L 0).bk,int x.ao,u64 x.bk] 245):=by rw[<-hK,aj,ak ah,aj,aw rfl]
   have k15:au K (nx3+1+15)=some (.cells [int 0,u64 0] 245):=by rw[<-hK,aj,aw rfl]
   clear hK;generalize hK2:aK (aK K (nx3+1+5) .dead) (nx3+1+8) .dead=K2;have K3:∀c,c≠nx3+1+5->c≠nx3+1+8->au K2 c=au K c:=λc h1 h2=>by rw[<-hK2,aj,ak h2,aj,ak h1]
   have B4:MW t2 p2 K2 nr0:=B3.heap (λc hc=>by have:=uw c hc;rw[K3 c ah ah,K1 c ah]) ah;have GA:fc (nx+1) t t2 p p2 A K2:=EH.heap λc hc=>by rw[K3 c ah ah,K1 c ah]
   have c:=B4.ur Iy (tn sep (at_ L 0) x) rfl;rw[<-hK2]at c;refine cf (Nq (k:=sep) (y:=at_ L 0) (x:=x) (B6:=nx3+1+5) (B9:=nx3+1+8) k5 k8 ah c) λ_ h4 Ie l4 ⟨t4,p4,y,f1,f2,B5,Mj,f3,f4,f5,f6⟩=>?_;rw[hK2]at Mj;subst f2;have Te:∀c,¬t2.own c->c<nr0->c≠p2.pb->c≠p2.gb->c≠p2.fb->au h4 c=au K2 c:=λc IN Iy g1 g2 g3=>Mj.aX c Iy (λe=>IN (.inl e)) g1 g2 g3 (λe=>IN (.inr (.inr (.inl e)))) (λe he e'=>IN (.inr (.inr (.inr ⟨e,he,e'⟩))));have no4:∀c,((¬(c<nx\/nx+1<=c))\/c=nx'\/nx3<=c)->c<nr0->au h4 c=au K2 c:=λc IN Iy=>by
    refine Te c (λe=>?_) Iy (λe=>?_) (λe=>?_) (λe=>?_);.have:=uw c (.inl e);omega
    .have:=uw c (.inr (.inl e));omega
    .have:=uw c (.inr (.inr (.inl e)));omega
    .have:=uw c (.inr (.inr (.inr e)));omega
   have j0:au h4 nx=some (.cells (EF i (r7 L) up mk) 449):=by rw[no4 nx (.inl ah) ah,K3 _ ah ah,K1 _ ah];exact q0
   have j1:au h4 (nx3+1+15)=some (.cells [int 0,u64 0] 245):=by rw[no4 _ (.inr (.inr ah)) ah,K3 _ ah ah];exact k15
   have jt:au h4 t.tb=some (.cells [.ptr t4.a.pb 0,.ptr t4.a.ab 0,int t4.aO.ao,u64 t4.aO.bk,.g (.int .i64 t4.size),.g (.int .i64 t4.gm),bQ false] 273):=by have:=B5.tk.tr;rw[Mj.tb,pz.tb,fI.tb]at this;exact this
   have ama:∀c,t4.own c\/c=p4.pb\/c=p4.gb\/c=p4.fb->(c<nx\/nx+1<=c)/\(c<nx3\/nr0<=c):=λc hc=>by
    rcases hc with hc|hc|hc|hc
    .rcases Mj.p.bl c hc with q|q;.have:=uw c (.inl q);omega
     .omega
    .rw[Mj.pb]at hc;have:=uw c (.inr (.inl hc));omega
    .rw[Mj.gb]at hc;have:=uw c (.inr (.inr (.inl hc)));omega
    .rw[Mj.fb]at hc;have:=uw c (.inr (.inr (.inr hc)));omega
   have Rh:fc (nx+1) t t4 p p4 A h4:=GA.trans Mj ah;have r1:¬(nx=nx3+1+15):=ah;have r2:¬(t.tb=nx3+1+15):=ah;have r2':¬(nx3+1+15=t.tb):=ah;have FP:x.ao≠y.ao:=λe=>by rw[<-e,UF]at f1;cases f1
   have hy1:cV t1.a.es y.ao=none:=by
    rw[r3,cH FP.symm]at f1;by_cases e:y.ao=(at_ L 0).ao;.rw[e]at f1;have f1:bC.up (cV t1.a.es) (at_ L 0).ao ((at_ L 0).bk,nl) (at_ L 0).ao=none:=f1;rw[cO]at f1;cases f1
    .have f1:bC.up (cV t1.a.es) (at_ L 0).ao ((at_ L 0).bk,nl) y.ao=none:=f1;rw[cH e]at f1;exact f1
   obtain⟨T1,T2⟩:=T x y nl nr sep hx hy1 FP hh;have s4':cV t4.a.es=bC.up (bC.up (bC.up (cV t1.a.es) (at_ L 0).ao ((at_ L 0).bk,nl)) x.ao (x.bk,nr)) y.ao (y.bk,tn sep (at_ L 0) x):=by rw[f3,r3]
   simp+decide-dsimp only[go_sem,s3,j0,j1,r1,reduceAdd];generalize hM:aK h4 (nx3+1+15) _=M;have M1:∀c,c≠nx3+1+15->au M c=au h4 c:=λc hc=>by rw[<-hM,aj,ak hc]
   have y1:au M (nx3+1+15)=some (.cells [int y.ao,u64 y.bk] 245):=by rw[<-hM,aj,aw rfl]
   clear hM;have y0:au M nx=some (.cells (EF i (r7 L) up mk) 449):=by rw[M1 _ r1];exact j0
   have yt:au M t.tb=some (.cells [.ptr t4.a.pb 0,.ptr t4.a.ab 0,int t4.aO.ao,u64 t4.aO.bk,.g (.int .i64 t4.size),.g (.int .i64 t4.gm),bQ false] 273):=by rw[M1 _ r2];exact jt
   have B6:MW t4 p4 M Ie:=B5.heap (λc hc=>M1 c (by have:=ama c hc;omega)) (an _);have St8:fc (nx+1) t t4 p p4 A M:=Rh.heap λc hc=>M1 c ah;have tb4:t4.tb=t.tb:=by rw[Mj.tb,pz.tb,fI.tb]
   by_cases hi0:i=0
   case pos=>have adk:((i:Nat):Int)=0:=ah;simp+decide-dsimp only[go_sem,s0,y1,yt,adk,reduceAdd];obtain⟨B7,UT⟩:=B6.tree y t4.size t4.gm;rw[tb4]at B7 UT;refine⟨_,p4,B7.aX aH.refl ah,(fc.same S0).trans ((St8.trans UT ah).wide (bz nx)) (an _),d+1,?_⟩;have e0:Kw i up mk=none:=aw hi0;have:=T1 e0;rw[<-s4']at this;exact this
   case neg=>
   have adk:¬(((i:Nat):Int)=0):=ah;have e0:Kw i up mk=some (up,mk):=ak hi0;obtain⟨na,r,z1,z2,z3,z4,z5,z6,z7,z8,z9,T3⟩:=T2 up mk e0;have hz4:cV t4.a.es up.ao=some (up.bk,na):=by rw[s4',cH z9,cH z8,cH z7];exact z1
   obtain⟨eu,heu,e1,e2,e3,e4,e5,e6⟩:=jP B6.tk.ok hz4;have n15:na.aE.n<15:=by rcases(I1.lf _ _ _ z1 z2).2 with q|q<;>omega
   obtain⟨mkR,mk9⟩:=hmk ah
   let sl:Sl:=⟨mk,[],[],true,y⟩
   have UK:sl.R:=⟨mkR,λ_=>⟨mk9,rfl,rfl⟩,(λh=>by cases h)⟩;have pl:na.aE.Pl sl.m r:=⟨dP z3,λj hj=>by show _<mk;rw[<-z6];exact z4.lt hj z3,λ_=>by rw[z6];exact cw⟩;have nh:na.aE.dI sl.m=true:=by
    unfold Lf.dI;cases hb:na.aE.bd with
    |false=>rfl
    |true=>show decide (mk<na.aE.cR)=true;rw[<-z6];exact aM (z4.wk r z3 hb)
   have Bx:=Jq na.aE z4 sl UK nh r pl n15;rw[aw ⟨z3,z6⟩]at Bx;have lR:(na.aE.upd r sl).R:=z4.upd z3 UK z6.symm;have Gi:=jb (g:=u64 up.bk) (n:=na) (l:=na.aE.upd r sl) z4.sl lR.sl;have Pd:=dW lR.sl;have U0:wF na.cells 0 na:=wF.mk' (pre:=[]) z4.sl;have f2:=U0.aE;simp+decide-dsimp only[go_sem,BY,s0,s3,y0,yt,adk];refine bm (e6 _ _ .refl ah) ?_;simp+decide-dsimp only[go_sem,BY,s3,y0,y1,e4,f2,reduceAdd];refine aZ Bx ?_;simp+decide-dsimp only[go_sem,s0,s3,s4,e4,Gi,Pd,gN,ab7,reduceAdd];obtain⟨t5,B7,UT,u3,u4,u5,u6⟩:=B6.kI heu e1 e2 {na with aE:=na.aE.upd r sl} lR.sl;refine⟨0,Nat.zero_lt_one,t5,p4,B7.aX aH.refl ah,St8.trans UT ah,ah,.inl ⟨rfl,d+1,?_⟩⟩;rw[u3,u4,s4',f4,r4];exact T3
def Cp:Nat->cU:=λid=>if id=6 then[(z11,[],some 12),([13,14,15],[],some 16),([],[],some 17),([],[],none)]else if id=13 then[(z5,[],some 6),([7,8,9,10,11,12],[],some 13),([],[],some 14),([],[],none)]else if id=16 then[(z7,[],some 8),([9],[3],some 10),([11],[],none)]else if id=18 then[(z14,[],some 15),([16],[4,6],some 17),([18,19,20,21,22,23],[],some 24),([],[],none)]else if id=8 then[(z6,[],some 7),([],[3],some 8),([9],[],none)]else if id=10 then[(z5,[],some 6),([7,8,9,10,11,12],[],some 13),([],[],none)]else[]
set_option maxHeartbeats 4000000 in
theorem akE(t:Mt)(p:bj)(h:aG)(nx:Nat)(B:MW t p h nx)(hT:U4 Pk t)(key v:ba)(hk:key.length<=24)(hp:Pk key):
 aA prog 305 [.ptr t.tb 0,bR key,bR v] h nx λw h' nx'=>(∃(old:ba) (lS:Bool) (e:Int),w= .dN [bR old,bQ lS,.g (.int .i64 e)])/\∃(t':Mt) (p':bj),MW t' p' h' nx'/\fc nx t t' p p' h h'/\U4 Pk t':=by
 obtain⟨pre,lo,fC,par,rk,I⟩:=hT;have o:=B.tk;have db:=o.lt;have hk6:key.length<60000:=ah;refine aA.ac 3 Cp func305 ?_;simp+decide-dsimp only[f305,go_sem];refine bm (SZ t _ _ o) ?_;simp+decide-dsimp only[go_sem,o.tr];refine cf (ajA t h nx o I (B.fC I) key hk6) λ_ h1 cm l1 ⟨⟨i,L,hd,f,up,mk,fm,r,e1,S⟩,e2,e3⟩=>?_;subst e1;replace e2:=e2.symm;replace e3:=e3.symm;subst e2;subst e3;have W:=S.w;have i2:=W.i2;have d0:¬(nx=nx+1):=ah;have d1:¬(t.tb=nx):=ah;have d2:¬(t.tb=nx+1):=ah;obtain⟨D1,D2,D3,_⟩:=W.d.node;obtain⟨hf,wv⟩:=W.d.aE;have Rf:=(I.lf _ _ _ hf wv).1;have bP:=W.len;have w1:1<=L.length:=D1;have w2:L.length<9223372036854775808:=ah;have w3:L.length-1<L.length:=ah;have lst:L.getD (L.length-1) default=f:=D3;have otr:=o.tr;simp+decide-dsimp only[go_sem,Cp,otr,d0,d1,d2,w1,w2,w3,lst,Hd.cells,jA,reduceAdd];generalize hA:aK (aK (aK (aK h nx _) (nx+1) _) nx _) (nx+1) _=A;have SA:aH nx h A:=by rw[<-hA];exact jh
 have a0:au A nx=some (.cells (EF i (r7 L) up mk) 449):=by rw[<-hA,aj,ak d0,aj,aw rfl]
 have a1:au A (nx+1)=some (.cells (fm.aE.at r).cells 266):=by rw[<-hA,aj,aw rfl]
 clear hA;have BA:MW t p A (nx+1+1):=B.aX SA ah;obtain⟨e,he,g1,g2,c3,c4,c5,c6⟩:=jP BA.tk.ok hf;refine bm (c6 _ _ .refl ah) ?_;simp+decide-dsimp only[go_sem,a0];generalize hq:nx+1+1+Array.size _=nq;have rm:nx+1+1<=nq:=ah;clear hq;refine aZ (ady key v i hk6 ah) ?_;simp+decide-dsimp only[go_sem,reduceAdd];generalize hC:aK (aK A nq _) nq _=C;have C1:∀c,c≠nq->au C c=au A c:=λc hc=>by rw[<-hC,aj,ak hc,aj,ak hc]
 have k2:au C nq=some (.cells (eC key i v).cells 266):=by rw[<-hC,aj,aw rfl]
 clear hC;have k0:au C nx=some (.cells (EF i (r7 L) up mk) 449):=by rw[C1 _ ah];exact a0
 have k1:au C (nx+1)=some (.cells (fm.aE.at r).cells 266):=by rw[C1 _ ah];exact a1
 have k4:au C e.bJ=some (.cells (u64 f.bk::fm.cells) 334):=by rw[C1 _ ah];exact c4
 have SC:aH nx h C:=λc hc=>by rw[C1 c ah];exact SA c hc
 have BC:MW t p C (nq+1):=B.aX SC ah;have kt:=BC.tk.tr;have an1:e.bJ<nx:=(o.ok.fr e he).2.2;have F0:wF fm.cells 0 fm:=wF.mk' (pre:=[]) Rf.sl;have f2:=F0.aE;have sR:=Bw key v i;have sm:(eC key i v).m=mC key i:=rfl;have nh:fm.aE.dI (mC key i)=true:=by have:=(Mn.fZ (I.hi hf) (yp key i)).2 W.wk;unfold Mn.dI at this;rw[wv]at this;exact this
 have h6:fm.aE.n<=6:=by
  rcases(I.lf _ _ _ hf wv).2 with q|q;.exact q
  .exact absurd q.1 id
 have Bx:=Jq fm.aE Rf (eC key i v) sR nh r W.pl ah;rw[sm]at Bx;have n0:¬(nx=e.bJ):=ah;have n1:¬(nx+1=e.bJ):=ah;have n2:¬(nq=e.bJ):=ah;have n3:¬(t.tb=e.bJ):=λq=>o.d3 e he q.symm;by_cases jz:r<fm.aE.n/\(fm.aE.e r).m=mC key i
 case pos=>
  have hd:=aM jz;have AE:fm.aE.at r=fm.aE.e r:=aw jz.1;rw[AE]at k1;rw[aw jz]at Bx;by_cases hr:(fm.aE.e r).rest=(eC key i v).rest
  case pos=>
   have lR:=Rf.upd jz.1 sR jz.2.symm;have Gi:=jb (g:=u64 f.bk) (n:=fm) (l:=fm.aE.upd r (eC key i v)) Rf.sl lR.sl;have Pd:=dW lR.sl;simp+decide-dsimp only[go_sem,Cp,k1,k2,k4,hd,hr,f2,reduceAdd];refine aZ Bx ?_;simp+decide-dsimp only[go_sem,k1,k4,hr,Gi,Pd,gN,n1,reduceAdd];obtain⟨t1,B1,fI,y3,y4,y5,y6⟩:=BC.kI he g1 g2 {fm with aE:=fm.aE.upd r (eC key i v)} lR.sl;refine⟨⟨_,_,_,rfl⟩,t1,p,B1.heap (λc hc=>?_) ah,((fc.same SC).trans fI ah).heap (λc hc=>yL),pre,lo,fC,par,rk,?_⟩
   .have OL:c≠nx+1:=by
     rcases hc with hc|hc|hc|hc
     .rcases fI.p.bl c hc with q|q;.have:=o.dm q;omega
      .omega
     .have:=B.pk.rY;omega
     .have:=B.pk.ss;omega
     .have:=B.pk.sr;omega
    rw[aj,ak OL]
   .rw[y3,y4];exact I.set hf wv jz.1 sR jz.2.symm (DC v W.pf hp hk W.kl)
  have ok:=I.ao _ _ _ hf wv r jz.1;have th:=S.nd jz.1 jz.2;obtain⟨pk1,QZ,_⟩:=ok.key th;have rR:=(Rf.r r jz.1).n th;have Gu:(mC key i).length=9:=by
   rcases bg (mC key i).length 9 with q|q
   .exfalso;apply hr;have a1:(fm.aE.e r).rest=[]:=cS λz=>by have:=rR.2.2 z;rw[jz.2]at this;omega
    have a2:(eC key i v).rest=[]:=cS λz=>by have:=(sR.n rfl).2.2 z;rw[sm]at this;omega
    rw[a1,a2]
   .have:=(yp key i).len;omega
  have hk9:8*(i+1)<key.length:=by unfold mC at Gu;rw[kM,aC]at Gu;omega
  have alu:(fm.aE.e r).rest≠[]:=rR.2.1 (by rw[jz.2];exact Gu);have Qe:(eC key i v).rest≠[]:=(sR.n rfl).2.1 (by rw[sm];exact Gu);have hnm:nameOf (fm.aE.e r).m=(key.drop (8*i)).take 8:=by rw[jz.2];exact qC _
  have hP:pre f.ao++nameOf (fm.aE.e r).m=key.take (8*(i+1)):=by rw[W.pf,hnm,<-jT];rfl
  rw[hP]at pk1 QZ;have CL:key.take (8*(i+1))++(eC key i v).rest=key:=bY _ _;have l1:(fm.aE.e r).rest.length<60000:=by rw[aq]at QZ;omega
  have l2:(eC key i v).rest.length<60000:=by have:=fN List.length CL;rw[aq]at this;omega
  have hal:alike (fm.aE.e r).rest (eC key i v).rest<60000:=mu (DO _ _ _) l1;have anz:cF .i64 (1+((alike (fm.aE.e r).rest (eC key i v).rest:Nat):Int))=((1+alike (fm.aE.e r).rest (eC key i v).rest:Nat):Int):=pC;have ale:i+1<=2:=ah;have amt:(key.take (8*(i+1))).length=8*(i+1):=by rw[ax];exact bM (dP hk9)
  have ktp:=BC.sp.pb;simp+decide-dsimp only[go_sem,Cp,k1,k2,kt,hd,hr];refine aZ (agY _ _ l1 l2) ?_;simp+decide-dsimp only[go_sem,kt,anz,ktp];generalize hq:nq+1+Array.size _=n5;have hn5:nq+1<=n5:=ah;clear hq;have B5:MW t p C n5:=BC.heap (λ_ _=>rfl) hn5;refine bm (Qo p C n5 B5.pk (1+alike (fm.aE.e r).rest (eC key i v).rest)) ?_;by_cases pM:1+alike (fm.aE.e r).rest (eC key i v).rest<=p.fr.count true
  case neg=>simp+decide-dsimp only[go_sem,pM];exact⟨⟨_,_,_,rfl⟩,t,p,B5.aX aH.refl ah,fc.same SC,pre,lo,fC,par,rk,I⟩
  simp+decide-dsimp only[go_sem,Cp,k1,k2,k4,f2,pM,reduceAdd];generalize hq:n5+Array.size _=n6;have hn6:n5<=n6:=ah;clear hq;have B6:MW t p C n6:=BC.heap (λ_ _=>rfl) ah;have c:=am6 (Pk:=Pk) (aO:=t.aO) _ (fm.aE.e r).rest (fm.aE.e r).val (eC key i v).rest v (aW _) hr (key.take (8*(i+1))) (i+1) amt ale pk1 (by rw[CL];exact hp) QZ (by rw[CL];exact hk) (λ_=>⟨alu,Qe⟩) f.ao t p C n6 B6 pre lo fC par rk (λ_=>False) I (by rw[mq];exact pM);refine cf c λ_ h2 dU l2' ⟨t2,p2,y,CM,Gn,FF,CR,s1,B7,Rh,s2,s3,I2,s4,s5,s6,s7,gr2⟩=>?_;subst s1;obtain⟨hf2,q1,q2,q3⟩:=gr2 _ _ _ hf;obtain⟨e2,he2,y1,y2,y3,y4,y5,y6⟩:=jP B7.tk.ok hf2;have Kn:e2.bJ=e.bJ:=Rh.qM B7 he he2 (y1.trans g1.symm);rw[Kn]at y4 y5;have b1:=B.pk.rY;have b2:=B.pk.ss;have b3:=B.pk.sr;have ui:∀c,nx<=c->c<n6->au h2 c=au C c:=λc IN Iy=>Rh.aX c Iy ah ah ah ah (by have:=o.ok.lm;omega) (λe he e'=>by have:=(o.ok.fr e he).2.2;omega);have m0:au h2 nx=some (.cells (EF i (r7 L) up mk) 449):=by rw[ui nx (an _) ah];exact k0
  have m1:au h2 (nx+1)=some (.cells (fm.aE.e r).cells 266):=by rw[ui _ ah ah];exact k1
  have m2:au h2 nq=some (.cells (eC key i v).cells 266):=by rw[ui _ ah ah];exact k2
  let sl:Sl:=⟨mC key i,[],[],true,y⟩
  have UK:sl.R:=⟨yp key i,λ_=>⟨Gu,rfl,rfl⟩,(λh=>by cases h)⟩;have d320:=Jq fm.aE Rf sl UK nh r W.pl ah;rw[aw (show r<fm.aE.n/\(fm.aE.e r).m=sl.m from jz)]at d320;have lR:=Rf.upd jz.1 UK jz.2.symm;have Gi:=jb (g:=u64 f.bk) (n:=fm) (l:=fm.aE.upd r sl) Rf.sl lR.sl;have Pd:=dW lR.sl;have mt:au h2 t.tb=some (.cells [.ptr t2.a.pb 0,.ptr t2.a.ab 0,int t2.aO.ao,u64 t2.aO.bk,.g (.int .i64 t2.size),.g (.int .i64 t2.gm),bQ false] 273):=by have:=B7.tk.tr;rw[Rh.tb]at this;exact this
  have anV:¬(e.bJ=t.tb):=λq=>n3 q.symm;simp+decide-dsimp only[go_sem,m2,y4,f2,Hd.av,Hd.cells,reduceAdd];refine aZ d320 ?_;simp+decide-dsimp only[go_sem,mt,y4,Gi,Pd,gN,n3,reduceAdd];obtain⟨t3,B8,St8,u3,u4,u5,u6⟩:=B7.kI he2 y1 y2 {fm with aE:=fm.aE.upd r sl} lR.sl;rw[Kn]at B8 St8;obtain⟨B9,UT⟩:=B8.tree t3.aO (cF .i64 (t2.size+1)) t3.gm;have I3:MI Pk (cV t3.a.es) t.aO CM Gn FF CR rk (λ_=>False):=by rw[u3];refine I2.set hf2 wv jz.1 UK jz.2.symm ⟨(λh=>by cases h),λ_=>⟨s4,?_,s6,s7⟩⟩;rw[s5,q1,<-hP];show _=pre f.ao++nameOf (mC key i);rw[jz.2]
  rw[St8.tb,Rh.tb,u4,u6,St8.ab,B8.sp.pb.trans B7.sp.pb.symm]at B9 UT;refine⟨⟨_,_,_,rfl⟩,_,p2,B9.aX aH.refl ah,((((fc.same SC).trans (fc.same aH.refl) (an nx)).trans (Rh.wide (ah:nx<=n6)) (an _)).trans St8 ah).trans UT ah,CM,Gn,FF,CR,rk,?_⟩;show MI Pk (cV t3.a.es) t2.aO _ _ _ _ _ _;rw[s2];exact I3
 have hd:=aU jz;rw[ak jz]at Bx;have TC:∀q,q<L.length->∃n,cV t.a.es (at_ L q).ao=some ((at_ L q).bk,n)/\(n.cQ=true->n.aE.R):=λq hq=>by
  obtain⟨_,_,D3,D4⟩:=W.d.node;rcases bg (q+1) L.length with db|Cb;.obtain⟨n,z1,z2,_⟩:=D4 q db;exact⟨n,z1,λh=>by rw[z2]at h;cases h⟩
  .have:q=L.length-1:=ah;subst this;rw[D3];exact⟨fm,hf,λ_=>Rf⟩
 have ktp:=BC.sp.pb;simp+decide-dsimp only[go_sem,Cp,k0,kt,ktp,hd];generalize hq:nq+1+Array.size _=n5;have hn5:nq+1<=n5:=ah;clear hq;have B5:MW t p C n5:=BC.heap (λ_ _=>rfl) hn5;refine cf (am2 t C n5 B5.tk L ah TC) λ_ h2 dU l2 ⟨⟨m,e1,hm⟩,e2,e3⟩=>?_;subst e1;replace e2:=e2.symm;replace e3:=e3.symm;subst e2;subst e3;simp+decide-dsimp only[go_sem,kt,ktp];refine bm (Qo p _ n5 B5.pk m) ?_;by_cases pM:m<=p.fr.count true
 case neg=>simp+decide-dsimp only[go_sem,pM];exact⟨⟨_,_,_,rfl⟩,t,p,B5.aX aH.refl ah,fc.same SC,pre,lo,fC,par,rk,I⟩
 have lR:=Rf.ins W.pl ah sR nh jz;have Gi:=jb (g:=u64 f.bk) (n:=fm) (l:=fm.aE.ins r (eC key i v)) Rf.sl lR.sl;have Pd:=dW lR.sl;simp+decide-dsimp only[go_sem,Cp,k2,k4,f2,pM,reduceAdd];refine aZ Bx ?_;simp+decide-dsimp only[go_sem,k0,k4,Gi,Pd,gN,n0,reduceAdd];obtain⟨t1,B6,Mj,y3,y4,y5,y6⟩:=B5.kI he g1 g2 {fm with aE:=fm.aE.ins r (eC key i v)} lR.sl;generalize hq:n5+Array.size _=n6;have hn6:n5<=n6:=ah;clear hq;have J0:=tD.start I (d:=4096) (λt g n ht=>dP (B.fC I t g n ht)) W.d W.ab (λ_ _ _=>W.pf.trans W.ph.symm) (l:=fm.aE.ins r (eC key i v))
  (I.ins hf wv W.pl sR nh jz (λ_ h _=>h.elim) (by
   rcases bg fm.aE.n 6 with q|q;.exact .inl ah
   .exact .inr ⟨rfl,ah⟩) W.lo (DC v W.pf hp hk W.kl)) (an _) (p.fr.count true)
 rw[<-y3,<-y4]at J0;have c:=akU t1 p _ n6 (B6.aX aH.refl hn6) W.len i2 J0 (hm _ pM) W.mkr;rw[Mj.tb]at c;refine cf c λ_ h3 nx3 l3 ⟨t4,p4,B7,Rh,d',lH,jn,mT,par',UA,I4,_⟩=>?_;have mt:au h3 t.tb=some (.cells [.ptr t4.a.pb 0,.ptr t4.a.ab 0,int t4.aO.ao,u64 t4.aO.bk,.g (.int .i64 t4.size),.g (.int .i64 t4.gm),bQ false] 273):=by have:=B7.tk.tr;rw[Rh.tb,Mj.tb]at this;exact this
 simp+decide-dsimp only[go_sem,mt];obtain⟨B9,UT⟩:=B7.tree t4.aO (cF .i64 (t4.size+1)) t4.gm;rw[Rh.tb,Mj.tb]at B9 UT;exact⟨⟨_,_,_,rfl⟩,_,p4,B9.aX aH.refl ah,(((fc.same SC).trans Mj ah).trans Rh ah).trans UT ah,lH,jn,mT,par',UA,I4⟩
end
end bC
end Go.Proofs.YtonnifoeokagjaaGreat
